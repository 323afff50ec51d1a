/-
  The program's writer beside the reference's: what the law's 'put' does to both.
-/
import Derived.Test.YtmgngmnkmmhckaaAwake
import Derived.Deep.RegionWith
import Derived.Deep.RegionHeld3
set_option linter.unusedVariables false
namespace Go.Proofs.Ytmgngmnkmmhckaa
open Go.RowKit Plain

theorem own_own_ne {w : World} {b1 b2 : Nat} {e1 e2 : TypeId} {s1 s2 n1 n2 : Nat} {v1 v2 : Value} {x1 x2 : List Value} (h1 : w.ownsRow b1 e1 s1 v1 n1 x1) (h2 : w.ownsRow b2 e2 s2 v2 n2 x2) (hne : e1 ≠ e2) :
    ∀ k, v1.ownBlock = some k → v2.ownBlock ≠ some k := by
  intro k hk1 hk2
  rcases h1.2 with ⟨rfl, _⟩ | ⟨g1, c1, u1, rfl, _, hh1, _⟩
  · simp [Value.ownBlock] at hk1
  · rcases h2.2 with ⟨rfl, _⟩ | ⟨g2, c2, u2, rfl, _, hh2, _⟩
    · simp [Value.ownBlock] at hk2
    · simp [Value.ownBlock] at hk1 hk2
      subst hk1; subst hk2
      rw [hh1] at hh2
      injection hh2 with hh2
      injection hh2 with _ ht
      exact hne ht

theorem WrAt.foot_ne {w : World} {h1 h2 : Nat} {o1 o2 : Option Nat} {l m : List Bool} (a : WrAt w h1 o1 l) (b : RwAt w h2 o2 m) : ∀ k, WrFoot h1 o1 k → ¬ WrFoot h2 o2 k := by
  obtain ⟨v1, b1, r1, rfl⟩ := a
  obtain ⟨v2, b2, r2, rfl⟩ := b
  rintro k (rfl | hk) (rfl | hk')
  · exact b1.ne_ b2 (by decide) rfl
  · exact own_blk_ne r2 b1 (by decide) k hk' rfl
  · exact own_blk_ne r1 b2 (by decide) k hk rfl
  · exact own_own_ne r1 r2 (by decide) k hk hk'
theorem WrAt.kept_rw {w w1 : World} {h1 h2 : Nat} {o1 o2 : Option Nat} {l m : List Bool} (a : WrAt w h1 o1 l) (b : RwAt w h2 o2 m) (ho : Only (WrFoot h2 o2) w w1) : WrAt w1 h1 o1 l :=
  a.only ho (WrAt.foot_ne a b)
theorem RwAt.kept_wr {w w1 : World} {h1 h2 : Nat} {o1 o2 : Option Nat} {l m : List Bool} (a : WrAt w h1 o1 l) (b : RwAt w h2 o2 m) (ho : Only (WrFoot h1 o1) w w1) : RwAt w1 h2 o2 m :=
  b.only ho (fun k hk hk' => WrAt.foot_ne a b k hk' hk)

def PairFoot (h1 h2 : Nat) (o1 o2 : Option Nat) (k : Nat) : Prop := WrFoot h1 o1 k ∨ WrFoot h2 o2 k
def PairAt (w : World) (h1 h2 : Nat) (o1 o2 : Option Nat) (l : List Bool) : Prop := WrAt w h1 o1 l ∧ RwAt w h2 o2 l ∧ l.length ≤ 134217728
def PairTo (w : World) (h1 h2 : Nat) (o1 o2 : Option Nat) (w' : World) : Prop :=
  ∃ l o1' o2', PairAt w' h1 h2 o1' o2' l ∧ Only (PairFoot h1 h2 o1 o2) w w' ∧ Fresh w o1 o1' ∧ Fresh w o2 o2'

section
variable {w w1 w2 : World} {h1 h2 : Nat} {o1 o2 : Option Nat} {l l' : List Bool}
theorem pair_step (p : PairAt w h1 h2 o1 o2 l) (hl : l'.length ≤ 134217728) (a : WrTo w h1 o1 l' w1) (b : RwTo w1 h2 o2 l' w2) : PairTo w h1 h2 o1 o2 w2 := by
  obtain ⟨pa, pb, _⟩ := p
  obtain ⟨o1', a1, a2, a3⟩ := a
  have pb1 := RwAt.kept_wr pa pb a2
  obtain ⟨o2', b1, b2, b3⟩ := b
  have a1' := WrAt.kept_rw a1 pb1 b2
  have ha : ∀ k, o2 = some k → k < w.heap.size := pb.lto
  refine ⟨l', o1', o2', ⟨a1', b1, hl⟩, ?_, a3, (Fresh.refl w o2).trans a2.size b3⟩
  exact (a2.mono (fun i _ h => .inl h)).trans b2 (fun i _ h => .inr h)
theorem pair_step' (p : PairAt w h1 h2 o1 o2 l) (hl : l'.length ≤ 134217728) (b : RwTo w h2 o2 l' w1) (a : WrTo w1 h1 o1 l' w2) : PairTo w h1 h2 o1 o2 w2 := by
  obtain ⟨pa, pb, _⟩ := p
  obtain ⟨o2', b1, b2, b3⟩ := b
  have pa1 := WrAt.kept_rw pa pb b2
  obtain ⟨o1', a1, a2, a3⟩ := a
  have b1' := RwAt.kept_wr pa1 b1 a2
  refine ⟨l', o1', o2', ⟨a1, b1', hl⟩, ?_, (Fresh.refl w o1).trans b2.size a3, b3⟩
  exact (b2.mono (fun i _ h => .inr h)).trans a2 (fun i _ h => .inl h)
end

theorem putBits_le (l : List Bool) (v : Nat) (n : Int) (hl : l.length ≤ 134217728) : (putBits l v n).length ≤ 134217728 := by
  unfold putBits
  split
  · rename_i h
    unfold putCode at h
    rw [List.length_append, length_bitsOf]
    split at h
    · cases h
    · split at h
      · cases h
      · omega
  · exact hl
theorem addBits_le (l : List Bool) (s : ByteArray) (n : Int) (hl : l.length ≤ 134217728) : (addBits l s n).length ≤ 134217728 := by
  unfold addBits
  split
  · rename_i h
    unfold addCode at h
    rw [List.length_append, List.length_take]
    split at h
    · cases h
    · split at h
      · cases h
      · omega
  · exact hl

theorem PairAt.new {w w' : World} (hb : Only (fun _ => False) w w') {h1 h2 : Nat} {o1 o2 : Option Nat} {l : List Bool} (p : PairAt w h1 h2 o1 o2 l) : PairAt w' h1 h2 o1 o2 l :=
  ⟨p.1.only hb (fun _ _ h => h), p.2.1.only hb (fun _ _ h => h), p.2.2⟩
theorem PairTo.pre {w w1 w2 : World} (hb : Only (fun _ => False) w w1) {h1 h2 : Nat} {o1 o2 : Option Nat} (p : PairTo w1 h1 h2 o1 o2 w2) : PairTo w h1 h2 o1 o2 w2 := by
  obtain ⟨l, o1', o2', pa, po, pf, pg⟩ := p
  exact ⟨l, o1', o2', pa, (hb.mono (fun _ _ h => h.elim)).trans po (fun _ _ h => h), (Fresh.refl w o1).trans hb.size pf, (Fresh.refl w o2).trans hb.size pg⟩

theorem and1_self (V : Nat) (hV : V < 18446744073709551616) : (bits BinOp.and IntKind.u64 (V : Int) 1 == 1) = V.testBit 0 := by
  have := bit_u64 V 0 hV
  simpa using this

/-- the parameter's box -/
def Box (w : World) (g : Nat) (K N : Int) (V : Nat) (T : ByteArray) : Prop := Blk w g 47 #[.int .i64 K, .int .u64 V, .int .i64 N, .string T]
theorem Box.cells {w : World} {g : Nat} {K N : Int} {V : Nat} {T : ByteArray} (hb : Box w g K N V T) :
    w.cell? ⟨g, 1, none⟩ = some (.int .u64 V) ∧ w.cell? ⟨g, 2, none⟩ = some (.int .i64 N) ∧ w.cell? ⟨g, 3, none⟩ = some (.string T) := by
  have a := Blk.cell hb 1
  have b := Blk.cell hb 2
  have c := Blk.cell hb 3
  simp at a b c
  exact ⟨a, b, c⟩
theorem WrTo.only {w w' : World} {h : Nat} {o : Option Nat} {l : List Bool} (a : WrTo w h o l w') : Only (WrFoot h o) w w' := by obtain ⟨_, _, h, _⟩ := a; exact h
theorem RwTo.only {w w' : World} {h : Nat} {o : Option Nat} {l : List Bool} (a : RwTo w h o l w') : Only (WrFoot h o) w w' := by obtain ⟨_, _, h, _⟩ := a; exact h

/-- the two calls of one comparison, in whichever order they come -/
structure Orders (W0 : World) (h1 h2 g : Nat) (o1 o2 : Option Nat) (l l' : List Bool) (K N : Int) (V : Nat) (T : ByteArray) (c : Int) (f1 f2 : FuncId) (a1 a2 : Array Value) : Prop where
  p1 : Calls Try.prog f1 a1 W0.drew fun e w' => e = .returned (.int .i64 c) ∧ Hid (WrTo W0 h1 o1 l' w') ∧ w'.cell? ⟨g, 1, none⟩ = some (.int .u64 V) ∧ w'.cell? ⟨g, 2, none⟩ = some (.int .i64 N) ∧ w'.cell? ⟨g, 3, none⟩ = some (.string T)
  p2 : ∀ w5, Hid (RwTo W0 h2 o2 l' w5) → Calls Try.prog f1 a1 w5 fun e w' => e = .returned (.int .i64 c) ∧ Hid (WrTo w5 h1 o1 l' w') ∧ w'.cell? ⟨g, 1, none⟩ = some (.int .u64 V) ∧ w'.cell? ⟨g, 2, none⟩ = some (.int .i64 N) ∧ w'.cell? ⟨g, 3, none⟩ = some (.string T)
  q1 : Calls Try.prog f2 a2 W0.drew fun e w' => e = .returned (.int .i64 c) ∧ Hid (RwTo W0 h2 o2 l' w') ∧ w'.cell? ⟨g, 1, none⟩ = some (.int .u64 V) ∧ w'.cell? ⟨g, 2, none⟩ = some (.int .i64 N) ∧ w'.cell? ⟨g, 3, none⟩ = some (.string T)
  q2 : ∀ w4, Hid (WrTo W0 h1 o1 l' w4) → Calls Try.prog f2 a2 w4 fun e w' => e = .returned (.int .i64 c) ∧ Hid (RwTo w4 h2 o2 l' w') ∧ w'.cell? ⟨g, 1, none⟩ = some (.int .u64 V) ∧ w'.cell? ⟨g, 2, none⟩ = some (.int .i64 N) ∧ w'.cell? ⟨g, 3, none⟩ = some (.string T)

theorem orders {W0 : World} {h1 h2 g : Nat} {o1 o2 : Option Nat} {l l' : List Bool} {K N : Int} {V : Nat} {T : ByteArray} {c : Int} {f1 f2 : FuncId} {a1 a2 : Array Value}
    (hp : PairAt W0 h1 h2 o1 o2 l) (hx : Box W0 g K N V T) (n1 : ¬ WrFoot h1 o1 g) (n2 : ¬ WrFoot h2 o2 g)
    (H1 : ∀ w, WrAt w h1 o1 l → Calls Try.prog f1 a1 w fun e w' => e = .returned (.int .i64 c) ∧ WrTo w h1 o1 l' w')
    (H2 : ∀ w, RwAt w h2 o2 l → Calls Try.prog f2 a2 w fun e w' => e = .returned (.int .i64 c) ∧ RwTo w h2 o2 l' w') :
    Orders W0 h1 h2 g o1 o2 l l' K N V T c f1 f2 a1 a2 := by
  obtain ⟨pa, pb, _⟩ := hp
  have d : Only (fun _ => False) W0 W0.drew := (Only.refl _ _).drew
  refine ⟨?_, ?_, ?_, ?_⟩
  · refine (H1 _ (pa.only d (fun _ _ h => h))).mono fun e w' ⟨he, o', h3, h4, h5⟩ => ⟨he, ⟨o', h3, (d.mono (fun _ _ h => h.elim)).trans h4 (fun _ _ h => h), h5⟩, Box.cells (Blk.only (Blk.drew hx) h4 n1)⟩
  · intro w5 h
    have hr : RwTo W0 h2 o2 l' w5 := h
    refine (H1 _ (WrAt.kept_rw pa pb hr.only)).mono fun e w' ⟨he, ha⟩ => ⟨he, ha, Box.cells (Blk.only (Blk.only hx hr.only n2) ha.only n1)⟩
  · refine (H2 _ (pb.only d (fun _ _ h => h))).mono fun e w' ⟨he, o', h3, h4, h5⟩ => ⟨he, ⟨o', h3, (d.mono (fun _ _ h => h.elim)).trans h4 (fun _ _ h => h), h5⟩, Box.cells (Blk.only (Blk.drew hx) h4 n2)⟩
  · intro w4 h
    have hr : WrTo W0 h1 o1 l' w4 := h
    refine (H2 _ (RwAt.kept_wr pa pb hr.only)).mono fun e w' ⟨he, ha⟩ => ⟨he, ha, Box.cells (Blk.only (Blk.only hx hr.only n1) ha.only n2)⟩

set_option maxRecDepth 100000 in
set_option maxHeartbeats 4000000 in
theorem lput_any (h1 h2 : Nat) (o1 o2 : Option Nat) (l : List Bool) (K N : Int) (V : Nat) (T : ByteArray) (w : World) (hp : PairAt w h1 h2 o1 o2 l) (hV : V < 18446744073709551616) (hT : T.size ≤ 1048576) :
    Calls Try.prog 29 #[.pointer (some ⟨h1, 0, none⟩), .pointer (some ⟨h2, 0, none⟩), .agg #[.int .i64 K, .int .u64 V, .int .i64 N, .string T]] w fun e w' => e = .returned (.bool true) ∧ PairTo w h1 h2 o1 o2 w' := by
  have hb : Only (fun _ => False) w (w.alloc (.cells #[.int .i64 K, .int .u64 V, .int .i64 N, .string T] 47)) := (Only.refl _ _).alloc _
  have hp1 := PairAt.new hb hp
  have hx : Box (w.alloc (.cells #[.int .i64 K, .int .u64 V, .int .i64 N, .string T] 47)) w.heap.size K N V T := Blk.new w 47 #[.int .i64 K, .int .u64 V, .int .i64 N, .string T]
  have nf1 : ¬ WrFoot h1 o1 w.heap.size := by
    rintro (e | e)
    · have := hp.1.lt; omega
    · have := hp.1.lto _ e; omega
  have nf2 : ¬ WrFoot h2 o2 w.heap.size := by
    rintro (e | e)
    · have := hp.2.1.lt; omega
    · have := hp.2.1.lto _ e; omega
  obtain ⟨g, hg⟩ : ∃ g, g = w.heap.size := ⟨_, rfl⟩
  obtain ⟨W0, hW0⟩ : ∃ W0, W0 = w.alloc (.cells #[.int .i64 K, .int .u64 V, .int .i64 N, .string T] 47) := ⟨_, rfl⟩
  have HW := Lib.hid (And.intro hW0 hg)
  rw [← hW0] at hb hp1 hx
  rw [← hg] at hx nf1 nf2
  clear hW0 hg
  obtain ⟨f1, f2, f3⟩ := hx.cells
  have Hb := Lib.hid hb
  by_cases k0 : K = 0
  · have b0 : (K == 0) = true := by rw [k0]; rfl
    clear k0
    have hbit := and1_self V hV
    obtain ⟨bb, hbb⟩ : ∃ bb, bb = V.testBit 0 := ⟨_, rfl⟩
    rw [← hbb] at hbit
    clear hbb
    have HO := Lib.hid (orders (c := putCode l.length bb.toNat 1) (l' := putBits l bb.toNat 1) hp1 hx nf1 nf2 (fun w h => wbit_any h1 o1 l bb w h hp1.2.2) (fun w h => rbit_any h2 o2 l bb w h hp1.2.2))
    have hle := putBits_le l bb.toNat 1 hp1.2.2
    have HL := Lib.hid (And.intro hp1 hle)
    clear hb hp1 hp hx nf1 nf2 hle
    go_enter Try.func29, Try.ntmps29
    go_upto_region 3 with fail
    rw [← HW.out.1, ← HW.out.2]
    go_cut [6] (fun s6 wx => s6 = .bool true ∧ PairTo W0 h1 h2 o1 o2 wx)
    case first =>
      go_region_held3 (fun w' => w'.cell? ⟨g, 1, none⟩ = some (.int .u64 V)) (first | exact e4 | exact e1 | exact f1) (first
        | (go_at_call 27; (first | refine (HO.out.p2 _ hr).mono ?_ | refine HO.out.p1.mono ?_); rintro e w4 ⟨rfl, ha, e1, e2, e3⟩)
        | (go_at_call 52; (first | refine (HO.out.q2 _ ha).mono ?_ | refine HO.out.q1.mono ?_); rintro e w5 ⟨rfl, hr, e4, e5, e6⟩))
      all_goals
        go_wp2_with fail
        go_meet
        first | exact ⟨rfl, pair_step HL.out.1 HL.out.2 ha.out hr.out⟩ | exact ⟨rfl, pair_step' HL.out.1 HL.out.2 hr.out ha.out⟩
    case rest =>
      obtain ⟨rfl, hrest⟩ := hcut
      have HR := Lib.hid hrest
      clear hrest
      go_wp2_with fail
      go_ret
      exact ⟨rfl, PairTo.pre Hb.out HR.out⟩
  · have b0 : (K == 0) = false := by rw [beq_eq_false_iff_ne]; exact k0
    clear k0
    by_cases k1 : K = 1
    · have b1 : (K == 1) = true := by rw [k1]; rfl
      clear k1
      have HO := Lib.hid (orders (c := putCode l.length V N) (l' := putBits l V N) hp1 hx nf1 nf2 (fun w h => wput_any h1 o1 l V N w hV h hp1.2.2) (fun w h => rput_any h2 o2 l V N w hV h hp1.2.2))
      have hle := putBits_le l V N hp1.2.2
      have HL := Lib.hid (And.intro hp1 hle)
      clear hb hp1 hp hx nf1 nf2 hle
      go_enter Try.func29, Try.ntmps29
      go_upto_region 5 with fail
      rw [← HW.out.1, ← HW.out.2]
      go_cut [6] (fun s6 wx => s6 = .bool true ∧ PairTo W0 h1 h2 o1 o2 wx)
      case first =>
        go_region_held3 (fun w' => w'.cell? ⟨g, 1, none⟩ = some (.int .u64 V) ∧ w'.cell? ⟨g, 2, none⟩ = some (.int .i64 N)) (first | exact ⟨e4, e5⟩ | exact ⟨e1, e2⟩ | exact ⟨f1, f2⟩) (first
          | (go_at_call 26; (first | refine (HO.out.p2 _ hr).mono ?_ | refine HO.out.p1.mono ?_); rintro e w4 ⟨rfl, ha, e1, e2, e3⟩)
          | (go_at_call 53; (first | refine (HO.out.q2 _ ha).mono ?_ | refine HO.out.q1.mono ?_); rintro e w5 ⟨rfl, hr, e4, e5, e6⟩))
        all_goals
          go_wp2_with fail
          go_meet
          first | exact ⟨rfl, pair_step HL.out.1 HL.out.2 ha.out hr.out⟩ | exact ⟨rfl, pair_step' HL.out.1 HL.out.2 hr.out ha.out⟩
      case rest =>
        obtain ⟨rfl, hrest⟩ := hcut
        have HR := Lib.hid hrest
        clear hrest
        go_wp2_with fail
        go_ret
        exact ⟨rfl, PairTo.pre Hb.out HR.out⟩
    · have b1 : (K == 1) = false := by rw [beq_eq_false_iff_ne]; exact k1
      clear k1
      by_cases k2 : K = 2
      · have b2 : (K == 2) = true := by rw [k2]; rfl
        clear k2
        have HO := Lib.hid (orders (c := addCode l.length T.size N) (l' := addBits l T N) hp1 hx nf1 nf2 (fun w h => wadd_any h1 o1 l T N w (by omega) h hp1.2.2) (fun w h => radd_any h2 o2 l T N w (by omega) h hp1.2.2))
        have hle := addBits_le l T N hp1.2.2
        have HL := Lib.hid (And.intro hp1 hle)
        clear hb hp1 hp hx nf1 nf2 hle
        go_enter Try.func29, Try.ntmps29
        go_upto_region 7 with fail
        rw [← HW.out.1, ← HW.out.2]
        go_cut [6] (fun s6 wx => s6 = .bool true ∧ PairTo W0 h1 h2 o1 o2 wx)
        case first =>
          go_region_held3 (fun w' => w'.cell? ⟨g, 3, none⟩ = some (.string T) ∧ w'.cell? ⟨g, 2, none⟩ = some (.int .i64 N)) (first | exact ⟨e6, e5⟩ | exact ⟨e3, e2⟩ | exact ⟨f3, f2⟩) (first
            | (go_at_call 36; (first | refine (HO.out.p2 _ hr).mono ?_ | refine HO.out.p1.mono ?_); rintro e w4 ⟨rfl, ha, e1, e2, e3⟩)
            | (go_at_call 54; (first | refine (HO.out.q2 _ ha).mono ?_ | refine HO.out.q1.mono ?_); rintro e w5 ⟨rfl, hr, e4, e5, e6⟩))
          all_goals
            go_wp2_with fail
            go_meet
            first | exact ⟨rfl, pair_step HL.out.1 HL.out.2 ha.out hr.out⟩ | exact ⟨rfl, pair_step' HL.out.1 HL.out.2 hr.out ha.out⟩
        case rest =>
          obtain ⟨rfl, hrest⟩ := hcut
          have HR := Lib.hid hrest
          clear hrest
          go_wp2_with fail
          go_ret
          exact ⟨rfl, PairTo.pre Hb.out HR.out⟩
      · have b2 : (K == 2) = false := by rw [beq_eq_false_iff_ne]; exact k2
        clear k2
        have HL := Lib.hid (And.intro hp1 hx)
        clear hp1 hx hb nf1 nf2
        go_enter Try.func29, Try.ntmps29
        go_wp2_with fail
        go_ret
        rw [← HW.out.1]
        exact ⟨rfl, PairTo.pre Hb.out ⟨l, o1, o2, HL.out.1, Only.refl _ _, .inl rfl, .inl rfl⟩⟩
end Go.Proofs.Ytmgngmnkmmhckaa
