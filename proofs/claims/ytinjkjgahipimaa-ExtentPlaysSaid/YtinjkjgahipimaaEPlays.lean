/-
  Two maps and two of the reference's, in two arrays.
-/
import Derived.Test.YtinjkjgahipimaaEDoes3
import Derived.Test.YtinjkjgahipimaaERTwin
import Derived.Test.YtinjkjgahipimaaETold
set_option linter.unusedVariables false
namespace Go.Proofs.Ytinjkjgahipimaa
open Go.RowKit

/-- a map and the reference's: where they lie, which blocks they take, what they hold -/
structure Sc where
  h : Nat
  hr : Nat
  S : Nat → Prop
  R : Nat → Prop
  s : St
def pmOf (c : Option Sc) : Value := match c with | none => .pointer none | some c => .pointer (some ⟨c.h, 0, none⟩)
def prOf (c : Option Sc) : Value := match c with | none => .pointer none | some c => .pointer (some ⟨c.hr, 0, none⟩)
def SlotOk (w : World) (c : Option Sc) : Prop := match c with | none => True | some c => Mp w c.h c.S c.s ∧ Rm w c.hr c.R c.s ∧ c.s.Ok ∧ ∀ k, c.S k → ¬ c.R k
def Bl (c : Option Sc) : Nat → Prop := match c with | none => fun _ => False | some c => fun k => c.S k ∨ c.R k
theorem SlotOk.keep {w w' : World} {c : Option Sc} (m : SlotOk w c) {F : Nat → Prop} (ho : Only F w w') (hn : ∀ k, Bl c k → ¬ F k) : SlotOk w' c := by
  cases c with
  | none => trivial
  | some c => exact ⟨m.1.keep ho (fun k hk => hn k (.inl hk)), m.2.1.keep ho (fun k hk => hn k (.inr hk)), m.2.2.1, m.2.2.2⟩
theorem SlotOk.lt {w : World} {c : Option Sc} (m : SlotOk w c) : ∀ k, Bl c k → k < w.heap.size := by
  cases c with
  | none => intro k hk; exact absurd hk id
  | some c =>
    rintro k (hk | hk)
    · exact m.1.lt k hk
    · exact m.2.1.lt k hk
/-- the arrays and what they hold -/
structure PlB (W0 : World) (gm gw : Nat) (pm pw : Nat → Value) (cs : Nat → Option Sc) (w : World) : Prop where
  bm : Blk w gm 53 #[pm 0, pm 1]
  bw : Blk w gw 54 #[pw 0, pw 1]
  ok : ∀ i, i < 2 → SlotOk w (cs i)
  dis : ∀ k, Bl (cs 0) k → ¬ Bl (cs 1) k
  lo : ∀ i, i < 2 → ∀ k, Bl (cs i) k → W0.heap.size ≤ k ∧ k ≠ gm ∧ k ≠ gw
  gg : W0.heap.size ≤ gm ∧ W0.heap.size ≤ gw ∧ gm ≠ gw
  be : Below W0.heap.size W0 w
/-- the arrays point to what they hold -/
def PlI (W0 : World) (gm gw : Nat) (cs : Nat → Option Sc) (w : World) : Prop := PlB W0 gm gw (fun i => pmOf (cs i)) (fun i => prOf (cs i)) cs w
def upd {α : Type} (f : Nat → α) (j : Nat) (v : α) : Nat → α := fun i => if i = j then v else f i
theorem upd_same {α : Type} (f : Nat → α) (j : Nat) (v : α) : upd f j v j = v := if_pos rfl
theorem upd_other {α : Type} (f : Nat → α) (j : Nat) (v : α) {i : Nat} (h : i ≠ j) : upd f j v i = f i := if_neg h
section
variable {W0 w w' : World} {gm gw : Nat} {pm pw : Nat → Value} {cs : Nat → Option Sc}
theorem arr_cell {w : World} {g : Nat} {t : TypeId} {p : Nat → Value} (b : Blk w g t #[p 0, p 1]) {i : Nat} (hi : i < 2) : w.cell? ⟨g, i, none⟩ = some (p i) := by
  rw [b.cell i]
  match i, hi with
  | 0, _ => rfl
  | 1, _ => rfl
theorem arr_set {w : World} {g : Nat} {t : TypeId} {p : Nat → Value} (b : Blk w g t #[p 0, p 1]) {j : Nat} (hj : j < 2) (v : Value) : Blk (w.setCell ⟨g, j, none⟩ v) g t #[upd p j v 0, upd p j v 1] := by
  have := b.set_ j v
  match j, hj with
  | 0, _ => exact this
  | 1, _ => exact this
theorem PlB.below (B : PlB W0 gm gw pm pw cs w) (hb : Below w.heap.size w w') : PlB W0 gm gw pm pw cs w' :=
  ⟨B.bm.below hb B.bm.lt, B.bw.below hb B.bw.lt, fun i hi => (B.ok i hi).keep (F := fun _ => False) (Only.of_below hb) (fun _ _ => id), B.dis, B.lo, B.gg, below_step B.be hb⟩
theorem PlB.setm (B : PlB W0 gm gw pm pw cs w) {j : Nat} (hj : j < 2) (v : Value) : PlB W0 gm gw (upd pm j v) pw cs (w.setCell ⟨gm, j, none⟩ v) := by
  have ho : Only (fun k => k = gm) w (w.setCell ⟨gm, j, none⟩ v) := (Only.refl (fun k => k = gm) w).setCell (p := ⟨gm, j, none⟩) (.inl rfl) v
  exact ⟨arr_set B.bm hj v, B.bw.only ho (fun e => B.gg.2.2 e.symm), fun i hi => (B.ok i hi).keep ho (fun k hk e => (B.lo i hi k hk).2.1 e), B.dis, B.lo, B.gg, below_of_only B.be ho (fun i e => by have e2 : i = gm := e; rw [e2]; exact B.gg.1)⟩
theorem PlB.setw (B : PlB W0 gm gw pm pw cs w) {j : Nat} (hj : j < 2) (v : Value) : PlB W0 gm gw pm (upd pw j v) cs (w.setCell ⟨gw, j, none⟩ v) := by
  have ho : Only (fun k => k = gw) w (w.setCell ⟨gw, j, none⟩ v) := (Only.refl (fun k => k = gw) w).setCell (p := ⟨gw, j, none⟩) (.inl rfl) v
  exact ⟨B.bm.only ho (fun e => B.gg.2.2 e), arr_set B.bw hj v, fun i hi => (B.ok i hi).keep ho (fun k hk e => (B.lo i hi k hk).2.2 e), B.dis, B.lo, B.gg, below_of_only B.be ho (fun i e => by have e2 : i = gw := e; rw [e2]; exact B.gg.2.1)⟩
theorem PlB.slot (B : PlB W0 gm gw pm pw cs w) {j : Nat} (hj : j < 2) (c : Option Sc) (hok : SlotOk w c) (hlo : ∀ k, Bl c k → W0.heap.size ≤ k ∧ k ≠ gm ∧ k ≠ gw) (hd : ∀ k, Bl c k → ¬ Bl (cs (1 - j)) k) : PlB W0 gm gw pm pw (upd cs j c) w := by
  refine ⟨B.bm, B.bw, fun i hi => ?_, fun k => ?_, fun i hi => ?_, B.gg, B.be⟩
  · by_cases e : i = j
    · subst e; rw [upd_same]; exact hok
    · rw [upd_other _ _ _ e]; exact B.ok i hi
  · match j, hj, hd with
    | 0, _, hd => rw [upd_same, upd_other _ _ _ (by decide)]; exact hd k
    | 1, _, hd => rw [upd_same, upd_other _ _ _ (by decide)]; exact fun h1 h2 => hd k h2 h1
  · by_cases e : i = j
    · subst e; rw [upd_same]; exact hlo
    · rw [upd_other _ _ _ e]; exact B.lo i hi
theorem PlB.dis2 (B : PlB W0 gm gw pm pw cs w) {j : Nat} (hj : j < 2) : ∀ k, Bl (cs j) k → ¬ Bl (cs (1 - j)) k := by
  match j, hj with
  | 0, _ => exact B.dis
  | 1, _ => exact fun k h1 h2 => B.dis k h2 h1
/-- coherence behind a slot's change -/
theorem PlB.fin {c : Option Sc} {j : Nat} (B : PlB W0 gm gw (upd (fun i => pmOf (cs i)) j (pmOf c)) (upd (fun i => prOf (cs i)) j (prOf c)) (upd cs j c) w) : PlI W0 gm gw (upd cs j c) w := by
  have e1 : (upd (fun i => pmOf (cs i)) j (pmOf c)) = fun i => pmOf (upd cs j c i) := by
    funext i; unfold upd; split <;> rfl
  have e2 : (upd (fun i => prOf (cs i)) j (prOf c)) = fun i => prOf (upd cs j c i) := by
    funext i; unfold upd; split <;> rfl
  unfold PlI
  rw [← e1, ← e2]
  exact B
/-- a call on both maps -/
theorem PlI.does (B : PlI W0 gm gw cs w) {j : Nat} (hj : j < 2) {c : Sc} (hc : cs j = some c) {s' : St} (ok' : s'.Ok) {Z : Nat → Prop} (M : Mid w c.h c.hr c.S c.R Z s' s' w') : ∃ c' : Sc, c'.h = c.h ∧ c'.hr = c.hr ∧ PlI W0 gm gw (upd cs j (some c')) w' := by
  obtain ⟨S1, R1, h1, h2, h3, h4, h5, h6, h7⟩ := M
  have hB := B.lo j hj
  have hD := B.dis2 hj
  rw [hc] at hB hD
  refine ⟨⟨c.h, c.hr, S1, R1, s'⟩, rfl, rfl, ?_⟩
  have hlt := (B.ok (1 - j) (by omega)).lt
  have hms : w.heap.size ≤ w'.heap.size := h6.size
  have hlo : ∀ k, (S1 k ∨ R1 k) → (c.S k ∨ c.R k) ∨ w.heap.size ≤ k := by
    rintro k (e | e)
    · rcases h3 k e with e2 | e2
      · exact .inl (.inl e2)
      · exact .inr e2
    · rcases h4 k e with e2 | e2
      · exact .inl (.inr e2)
      · exact .inr e2
  have gm1 := B.bm.lt
  have gw1 := B.bw.lt
  have ez := B.be.size
  have hB' : PlB W0 gm gw (fun i => pmOf (upd cs j (some ⟨c.h, c.hr, S1, R1, s'⟩) i)) (fun i => prOf (upd cs j (some ⟨c.h, c.hr, S1, R1, s'⟩) i)) (upd cs j (some ⟨c.h, c.hr, S1, R1, s'⟩)) w' := by
    have e1 : (fun i => pmOf (upd cs j (some ⟨c.h, c.hr, S1, R1, s'⟩) i)) = fun i => pmOf (cs i) := by
      funext i; unfold upd; split
      · next e => rw [e, hc]; rfl
      · rfl
    have e2 : (fun i => prOf (upd cs j (some ⟨c.h, c.hr, S1, R1, s'⟩) i)) = fun i => prOf (cs i) := by
      funext i; unfold upd; split
      · next e => rw [e, hc]; rfl
      · rfl
    rw [e1, e2]
    have bm' := B.bm.only h6 (fun e => (hB gm e).2.1 rfl)
    have bw' := B.bw.only h6 (fun e => (hB gw e).2.2 rfl)
    refine ⟨bm', bw', fun i hi => ?_, fun k => ?_, fun i hi => ?_, B.gg, below_of_only B.be h6 (fun i e => (hB i e).1)⟩
    · by_cases e : i = j
      · subst e; rw [upd_same]; exact ⟨h1, h2, ok', h5⟩
      · rw [upd_other _ _ _ e]
        have e3 : i = 1 - j := by omega
        rw [e3]
        exact (B.ok (1 - j) (by omega)).keep h6 (fun k hk e => hD k e hk)
    · have hx : ∀ k, (S1 k ∨ R1 k) → ¬ Bl (cs (1 - j)) k := fun k e h => by
        rcases hlo k e with e2 | e2
        · exact hD k e2 h
        · have := hlt k h; omega
      match j, hj, hx with
      | 0, _, hx => rw [upd_same, upd_other _ _ _ (by decide)]; exact hx k
      | 1, _, hx => rw [upd_same, upd_other _ _ _ (by decide)]; exact fun h1 h2 => hx k h2 h1
    · by_cases e : i = j
      · subst e; rw [upd_same]
        intro k hk
        rcases hlo k hk with e2 | e2
        · exact hB k e2
        · exact ⟨by omega, by omega, by omega⟩
      · rw [upd_other _ _ _ e]; exact B.lo i hi
  exact hB'
/-- a new pair laid into a slot: the blocks are new -/
theorem PlB.lay (B : PlB W0 gm gw pm pw cs w) {j : Nat} (hj : j < 2) {c : Option Sc} (hok : SlotOk w c) {n : Nat} (hn : ∀ k, Bl c k → n ≤ k) (h0 : W0.heap.size ≤ n) (h1 : gm < n) (h2 : gw < n) (h3 : ∀ k, Bl (cs (1 - j)) k → k < n) : PlB W0 gm gw pm pw (upd cs j c) w :=
  B.slot hj c hok (fun k hk => ⟨by have := hn k hk; omega, by have := hn k hk; omega, by have := hn k hk; omega⟩) (fun k hk e => by have := hn k hk; have := h3 k e; omega)
end
end Go.Proofs.Ytinjkjgahipimaa
