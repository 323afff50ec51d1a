/-
  codes: a number's bits.
-/
import Derived.Test.YtmgngmnkmmhckaaCShort
set_option linter.unusedVariables false
namespace Go.Proofs.Ytmgngmnkmmhckaa
open Go.RowKit Plain

theorem results_tmp_cell {fn : Func} {P : Program} {q p : Tmp} {ty : TypeId} (h : fn.results = #[.tmp q, .cell p ty]) (tmps : Array Value) (w : World) (g : Nat) (t : TypeId) (cs : Array Value) (fr : Nat × Nat) (d : TypeDesc)
    (hp : tmps.getD p undef = .pointer (some ⟨g, 0, none⟩)) (hg : w.heap[g]? = some (.cells cs t fr))
    (hu : P.underlying ty = some d) (hd : (match d with | .struct _ | .array _ _ => true | _ => false) = true) (hi : (P.info? ty).map (·.size) = some cs.size) :
    (results fn tmps).run P w = .ok (.tuple #[tmps.getD q undef, .agg cs]) w := by
  have hp' : tmps[p]?.getD undef = .pointer (some ⟨g, 0, none⟩) := by simpa using hp
  simp [results, h, hp', asAddr, run_loadVar_row w g t ty cs fr d hg hu hd hi]

theorem blk2 (w : World) (o1 o3 : Obj) (t : TypeId) (cs : Array Value) : Blk (((w.alloc o1).alloc (.cells cs t)).alloc o3) (w.heap.size + 1) t cs := by
  have := (Blk.new (w.alloc o1) t cs).alloc o3
  rw [World.size_alloc] at this
  exact this
theorem below_drew {a b : World} (h : Below a.heap.size a b) : Below a.heap.size a b.drew := below_drewN h 1
/-- the number of bits behind the first of 'v + 1' -/
def lo (v : Nat) : Nat := Lib.bitLen (v + 1) - 1
def rs (v : Nat) : Nat := v + 1 - 2 ^ lo v
theorem lo_spec {v : Nat} (h : v < 281474976710655) : lo v ≤ 47 ∧ 2 ^ lo v ≤ v + 1 ∧ v + 1 < 2 * 2 ^ lo v ∧ Lib.bitLen (v + 1) = lo v + 1 := by
  obtain ⟨a, b⟩ := bitLen_spec (v + 1) (by omega)
  obtain ⟨b1, b2⟩ := b (by omega)
  have e : (2 : Nat) ^ 48 = 281474976710656 := by decide
  have c := bitLen_le 48 (v + 1) (by omega) (by omega)
  unfold lo
  refine ⟨by omega, b2, ?_, by omega⟩
  have : 2 ^ Lib.bitLen (v + 1) = 2 * 2 ^ (Lib.bitLen (v + 1) - 1) := by
    rw [show Lib.bitLen (v + 1) = (Lib.bitLen (v + 1) - 1) + 1 by omega, Nat.pow_succ]; simp; omega
  omega
theorem shl64 {b P : Nat} (hP : P = 2 ^ b) (hb : b ≤ 63) : IntKind.u64.wrap (2 ^ b) = (P : Int) := by
  have h2 : 2 ^ b ≤ 2 ^ 63 := Nat.pow_le_pow_right (by decide) hb
  have e : (2 : Nat) ^ 63 = 9223372036854775808 := by decide
  have : ((2 : Int) ^ b) = (P : Int) := by rw [hP, Int.natCast_pow]; rfl
  rw [this]; exact wrap_nat64 _ (by omega)

set_option maxRecDepth 100000 in
set_option maxHeartbeats 4000000 in
theorem split_gamma (K v : Nat) (w : World) (hv : v < 281474976710655) : Calls Try.prog 61 #[.agg #[.int .u8 1, .int .u64 K], .int .u64 v] w fun e w' =>
    e = .returned (.tuple #[.int .i64 (lo v : Nat), .agg #[.int .u64 (rs v : Nat), .int .i64 (lo v : Nat), .int .u64 0, .int .i64 0]]) ∧ Below w.heap.size w w' := by
  obtain ⟨b1, b2, b3, b4⟩ := lo_spec hv
  obtain ⟨b, hb⟩ : ∃ b, b = lo v := ⟨_, rfl⟩
  obtain ⟨r, hr⟩ : ∃ r, r = rs v := ⟨_, rfl⟩
  rw [← hb, ← hr]
  have hr2 := hr
  unfold rs at hr2
  rw [← hb] at b1 b2 b3 b4 hr2
  obtain ⟨P, hP⟩ : ∃ P, P = 2 ^ b := ⟨_, rfl⟩
  rw [← hP] at b2 b3 hr2
  have hn : IntKind.u64.wrap ((v : Int) + 1) = ((v + 1 : Nat) : Int) := by
    rw [show ((v : Int) + 1) = ((v + 1 : Nat) : Int) by omega]; exact wrap_nat64 _ (by omega)
  have hwr := shl64 hP (by omega)
  have hsub : IntKind.u64.wrap ((v : Int) + 1 - (P : Int)) = (r : Int) := by
    rw [show ((v : Int) + 1 - (P : Int)) = (r : Int) by omega]; exact wrap_nat64 _ (by omega)
  have HL : Hid (∀ w, Calls Try.prog 71 #[.int .u64 ((v : Int) + 1)] w fun e w' => e = .returned (.int .i64 ((b : Int) + 1)) ∧ w = w') := by
    intro w
    have := len64_any (v + 1) w (by omega)
    rw [b4] at this
    exact this
  have H0 : Hid (∀ o1 o2 o3 : Obj, Below w.heap.size w (((w.alloc o1).alloc o2).alloc o3)) := fun o1 o2 o3 => (((Below.refl _ w).alloc (Nat.le_refl _) o1).alloc (by rw [World.size_alloc]; omega) o2).alloc (by rw [World.size_alloc, World.size_alloc]; omega) o3
  clear b2 b3 b4 hP hr hr2 hb hv
  go_enter Try.func61, Try.ntmps61
  go_wp2_with fail
  refine (HL.out _).mono ?_
  rintro e w' ⟨rfl, rfl⟩
  clear HL
  go_wp2_with fail
  go_region
  all_goals go_wp2_with fail
  all_goals refine bodyPost_ret (results_tmp_cell rfl _ _ (w.heap.size + 1) 107 #[.int .u64 r, .int .i64 b, .int .u64 0, .int .i64 0] (0, 0) _ rfl ((blk2 w _ _ 107 _).drew) Try.underlying107 rfl (by kernel_rfl)) rfl ?_
  all_goals exact ⟨rfl, below_drew (H0.out _ _ _)⟩
end Go.Proofs.Ytmgngmnkmmhckaa
