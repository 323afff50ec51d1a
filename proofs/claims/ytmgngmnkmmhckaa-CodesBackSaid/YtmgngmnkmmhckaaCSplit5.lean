/-
  codes: a number's bits, in Zeta.
-/
import Derived.Test.YtmgngmnkmmhckaaCSplit4
set_option linter.unusedVariables false
namespace Go.Proofs.Ytmgngmnkmmhckaa
open Go.RowKit Plain

def zF (K v : Nat) : Nat := 2 ^ (lo v / K * K)
set_option maxRecDepth 100000 in
set_option maxHeartbeats 4000000 in
theorem split_zeta (K v : Nat) (w : World) (hK1 : 1 ≤ K) (hK2 : K ≤ 16) (hv : v < 281474976710655) : Calls Try.prog 61 #[.agg #[.int .u8 3, .int .u64 K], .int .u64 v] w fun e w' =>
    e = .returned (.tuple #[.int .i64 (lo v / K : Nat), .agg #[.int .u64 (shV (v + 1 - zF K v) (zF K v * 2 ^ K - zF K v) : Nat), .int .i64 (shN (v + 1 - zF K v) (zF K v * 2 ^ K - zF K v)), .int .u64 0, .int .i64 0]]) ∧ Below w.heap.size w w' := by
  obtain ⟨b1, b2, b3, b4⟩ := lo_spec hv
  obtain ⟨b, hb⟩ : ∃ b, b = lo v := ⟨_, rfl⟩
  obtain ⟨r, hr⟩ : ∃ r, r = rs v := ⟨_, rfl⟩
  have hr2 := hr
  unfold rs at hr2
  rw [← hb] at b1 b2 b3 b4 hr2
  obtain ⟨P, hP⟩ : ∃ P, P = 2 ^ b := ⟨_, rfl⟩
  rw [← hP] at b2 b3 hr2
  have hn : IntKind.u64.wrap ((v : Int) + 1) = ((v + 1 : Nat) : Int) := by
    rw [show ((v : Int) + 1) = ((v + 1 : Nat) : Int) by omega]; exact wrap_nat64 _ (by omega)
  have hwr := shl64 hP (by omega)
  have hsub : IntKind.u64.wrap ((v : Int) + 1 - (P : Int)) = (r : Int) := by
    rw [show ((v : Int) + 1 - (P : Int)) = (r : Int) by omega]; exact wrap_nat64 _ (by omega)
  have HL : Hid (∀ w, Calls Try.prog 71 #[.int .u64 ((v : Int) + 1)] w fun e w' => e = .returned (.int .i64 ((b : Int) + 1)) ∧ w = w') := by
    intro w
    have := len64_any (v + 1) w (by omega)
    rw [b4] at this
    exact this
  have H0 : Hid (∀ o1 o2 o3 : Obj, Below w.heap.size w (((w.alloc o1).alloc o2).alloc o3)) := fun o1 o2 o3 => (((Below.refl _ w).alloc (Nat.le_refl _) o1).alloc (by rw [World.size_alloc]; omega) o2).alloc (by rw [World.size_alloc, World.size_alloc]; omega) o3
  obtain ⟨F, hF⟩ : ∃ F, F = zF K v := ⟨_, rfl⟩
  obtain ⟨h, hh⟩ : ∃ h, h = b / K := ⟨_, rfl⟩
  obtain ⟨hk, hhk⟩ : ∃ hk, hk = h * K := ⟨_, rfl⟩
  have hkb : hk ≤ b := by rw [hhk, hh]; exact Nat.div_mul_le_self _ _
  have hbk : b < hk + K := by
    have := Nat.lt_div_mul_add (a := b) (b := K) (by omega)
    rw [hhk, hh]; omega
  have hF2 : F = 2 ^ hk := by rw [hF, hhk, hh, hb]; rfl
  obtain ⟨T, hT⟩ : ∃ T, T = F * 2 ^ K := ⟨_, rfl⟩
  have hT2 : T = 2 ^ (hk + K) := by rw [hT, hF2, Nat.pow_add]
  have hvT : v + 1 < T := by
    have : 2 * P ≤ T := by rw [hP, hT2, Nat.mul_comm, ← Nat.pow_succ]; exact Nat.pow_le_pow_right (by decide) (by omega)
    omega
  have hT63 : T ≤ 2 ^ 63 := by rw [hT2]; exact Nat.pow_le_pow_right (by decide) (by omega)
  have e63 : (2 : Nat) ^ 63 = 9223372036854775808 := by decide
  have hFv : F ≤ v + 1 := by
    have : F ≤ P := by rw [hF2, hP]; exact Nat.pow_le_pow_right (by decide) hkb
    omega
  have q1 : (b : Int) / (K : Int) = (h : Int) := by rw [hh]; rfl
  have q2 : (h : Int) * (K : Int) = (hk : Int) := by rw [hhk]; rfl
  have q3 := shl64 hF2 (by omega)
  have q4 : IntKind.u64.wrap ((v : Int) + 1 - (F : Int)) = ((v + 1 - F : Nat) : Int) := by
    rw [show ((v : Int) + 1 - (F : Int)) = ((v + 1 - F : Nat) : Int) by omega]; exact wrap_nat64 _ (by omega)
  have q5 : IntKind.u64.wrap ((F : Int) * 2 ^ K) = (T : Int) := by
    have : ((F : Int) * 2 ^ K) = (T : Int) := by rw [hT, Int.natCast_mul, Int.natCast_pow]; rfl
    rw [this]; exact wrap_nat64 _ (by omega)
  have q6 : IntKind.u64.wrap ((T : Int) - (F : Int)) = ((T - F : Nat) : Int) := by
    rw [show ((T : Int) - (F : Int)) = ((T - F : Nat) : Int) by omega]; exact wrap_nat64 _ (by omega)
  have HS : Hid (∀ w, Calls Try.prog 72 #[.int .u64 (v + 1 - F : Nat), .int .u64 (T - F : Nat)] w fun e w' => e = .returned (.agg #[.int .u64 (shV (v + 1 - F) (T - F) : Nat), .int .i64 (shN (v + 1 - F) (T - F))]) ∧ Below w.heap.size w w') := fun w => short_any (v + 1 - F) (T - F) w (by omega) (by omega) (by omega)
  have hh47 : h ≤ 47 := by rw [hh]; exact Nat.le_trans (Nat.div_le_self _ _) b1
  have hk47 : hk ≤ 47 := by omega
  have hK16 : K ≤ 16 := hK2
  have hhl : lo v / K = h := by rw [hh, hb]
  rw [← hF, ← hT, hhl]
  clear b2 b3 b4 hP hr hr2 hb hv hhl hF hh hhk hF2 hT hT2 hvT hT63 e63 hFv
  go_enter Try.func61, Try.ntmps61
  go_wp2_with fail
  refine (HL.out _).mono ?_
  rintro e w' ⟨rfl, rfl⟩
  clear HL
  go_wp2_with fail
  have hB2 := blk2 w (.cells #[.int .u8 3, .int .u64 K] 71) (.cells #[.int .u64 r, .int .i64 b] 106) 107 #[.int .u64 0, .int .i64 0, .int .u64 0, .int .i64 0]
  have hb3 := H0.out (.cells #[.int .u8 3, .int .u64 K] 71) (.cells #[.int .u64 0, .int .i64 0, .int .u64 0, .int .i64 0] 107) (.cells #[.int .u64 r, .int .i64 b] 106)
  obtain ⟨w3, hw3⟩ : ∃ w3, w3 = (((w.alloc (.cells #[.int .u8 3, .int .u64 K] 71)).alloc (.cells #[.int .u64 0, .int .i64 0, .int .u64 0, .int .i64 0] 107)).alloc (.cells #[.int .u64 r, .int .i64 b] 106)) := ⟨_, rfl⟩
  rw [← hw3] at hB2 hb3
  rw [← hw3]
  obtain ⟨gg, hgg⟩ : ∃ gg, gg = w.heap.size := ⟨_, rfl⟩
  rw [← hgg] at hB2
  rw [← hgg]
  have Hg := Lib.hid (And.intro hgg hb3)
  clear hw3 hgg hb3 H0
  refine (HS.out _).mono ?_
  rintro e w4 ⟨rfl, hb⟩
  have hB4 := hB2.only (Only.of_below (F := fun _ => False) hb) (fun e => e)
  have d0 := hB4.cell 0
  have d1 := hB4.cell 1
  have d2 := hB4.cell 2
  have d3 := hB4.cell 3
  have f0 := hB4.frozen 0
  have f1 := hB4.frozen 1
  have f2 := hB4.frozen 2
  have f3 := hB4.frozen 3
  simp at d0 d1 d2 d3
  have H4 := Lib.hid (And.intro hB4 (below_step Hg.out.2 hb))
  clear hb hB4 hB2 HS
  obtain ⟨V, hV⟩ : ∃ V, V = shV (v + 1 - F) (T - F) := ⟨_, rfl⟩
  obtain ⟨N, hN⟩ : ∃ N, N = shN (v + 1 - F) (T - F) := ⟨_, rfl⟩
  rw [← hV, ← hN]
  have HE := Lib.hid (And.intro hV hN)
  clear hV hN
  go_wp2_with fail
  have hbk : Blk ((((w4.setCell ⟨gg + 1, 0, none⟩ (.int .u64 V)).setCell ⟨gg + 1, 1, none⟩ (.int .i64 N)).setCell ⟨gg + 1, 2, none⟩ (.int .u64 0)).setCell ⟨gg + 1, 3, none⟩ (.int .i64 0)) (gg + 1) 107 #[.int .u64 V, .int .i64 N, .int .u64 0, .int .i64 0] := by
    have := (((H4.out.1.set_ 0 (.int .u64 V)).set_ 1 (.int .i64 N)).set_ 2 (.int .u64 0)).set_ 3 (.int .i64 0)
    simpa using this
  have hge : w.heap.size ≤ gg + 1 := by have := Hg.out.1; omega
  have hon : Only (fun _ => False) w ((((w4.setCell ⟨gg + 1, 0, none⟩ (.int .u64 V)).setCell ⟨gg + 1, 1, none⟩ (.int .i64 N)).setCell ⟨gg + 1, 2, none⟩ (.int .u64 0)).setCell ⟨gg + 1, 3, none⟩ (.int .i64 0)) :=
    ((((Only.of_below H4.out.2).setCell (p := ⟨gg + 1, 0, none⟩) (.inr hge) _).setCell (p := ⟨gg + 1, 1, none⟩) (.inr hge) _).setCell (p := ⟨gg + 1, 2, none⟩) (.inr hge) _).setCell (p := ⟨gg + 1, 3, none⟩) (.inr hge) _
  refine bodyPost_ret (results_tmp_cell rfl _ _ (gg + 1) 107 #[.int .u64 V, .int .i64 N, .int .u64 0, .int .i64 0] (0, 0) _ rfl hbk Try.underlying107 rfl (by kernel_rfl)) rfl ?_
  rw [← HE.out.1, ← HE.out.2]
  exact ⟨rfl, hon.below (fun _ _ e => e) (Nat.le_refl _)⟩
end Go.Proofs.Ytmgngmnkmmhckaa
