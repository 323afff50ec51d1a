/-
  A node that is made by appends, in memory.
-/
import Derived.Test.YtpggicaphejjfaaPOwn3
import Derived.Test.YtpggicaphejjfaaPSame2
import Derived.Test.YtpggicaphejjfaaPNum
set_option linter.unusedVariables false
namespace Go.Proofs.Ytpggicaphejjfaa
open Go.RowKit

theorem ob_ne_blk {W : World} {B : Nat} {e : TypeId} {n : Nat} {v : Value} {xs : List Value} {g : Nat} {t : TypeId} {cs : Array Value} (h : W.ownsRow B e 1 v n xs) (hg : Blk W g t cs) (hne : e ≠ t) : some g ≠ v.ownBlock := fun e1 => own_blk_ne h hg hne g e1.symm rfl
theorem src_one (y : World) (t : TypeId) (v : Value) : Src (y.alloc (.cells #[v] t)) (some ⟨y.heap.size, 0, none⟩) [v] := by
  intro j u hu
  have hj : j = 0 := by
    have := (List.getElem?_eq_some_iff.1 hu).1
    simpa using this
  subst hj
  refine ⟨_, rfl, ?_⟩
  rw [Addr.add_lit, Nat.add_zero, (Blk.new y t #[v]).cell]
  simpa using hu
structure RmN (w : World) (pn : Nat) (leaf : Bool) (p : Nd) (K V U : Option Addr) (c1 c2 c3 : Nat) (u : World) : Prop where
  bl : Below w.heap.size w u
  bs : w.heap.size ≤ u.heap.size
  lo : w.heap.size ≤ pn
  kn : Blk u pn 26 #[.bool leaf, .slice K p.keys.length c1, .slice V p.vals.length c2, .slice U p.kids.length c3]
  oK : u.ownsRow w.heap.size 9 1 (.slice K p.keys.length c1) p.keys.length (strs p.keys)
  oV : u.ownsRow w.heap.size 9 1 (.slice V p.vals.length c2) p.vals.length (strs p.vals)
  oU : u.ownsRow w.heap.size 42 1 (.slice U p.kids.length c3) p.kids.length (kidsV p.kids)
  nK : ∀ k, Value.ownBlock (.slice K p.keys.length c1) = some k → Value.ownBlock (.slice V p.vals.length c2) ≠ some k
section
variable {w u u' : World} {pn : Nat} {leaf : Bool} {p : Nd} {K V U : Option Addr} {c1 c2 c3 : Nat}
theorem RmN.drewN (h : RmN w pn leaf p K V U c1 c2 c3 u) (n : Nat) : RmN w pn leaf p K V U c1 c2 c3 (u.drewN n) :=
  ⟨below_drewN h.bl n, h.bs, h.lo, h.kn.drewN n, h.oK, h.oV, h.oU, h.nK⟩
theorem RmN.cl0 (h : RmN w pn leaf p K V U c1 c2 c3 u) : u.cell? ⟨pn, 0, none⟩ = some (.bool leaf) := h.kn.cell 0
theorem RmN.cl1 (h : RmN w pn leaf p K V U c1 c2 c3 u) (o : Obj) : u.cell? ⟨pn, 1, none⟩ = some (.slice K p.keys.length c1) ∧ (u.alloc o).cell? ⟨pn, 1, none⟩ = some (.slice K p.keys.length c1) := ⟨h.kn.cell 1, (h.kn.alloc o).cell 1⟩
theorem RmN.cl2 (h : RmN w pn leaf p K V U c1 c2 c3 u) (o : Obj) : u.cell? ⟨pn, 2, none⟩ = some (.slice V p.vals.length c2) ∧ (u.alloc o).cell? ⟨pn, 2, none⟩ = some (.slice V p.vals.length c2) := ⟨h.kn.cell 2, (h.kn.alloc o).cell 2⟩
theorem RmN.cl3 (h : RmN w pn leaf p K V U c1 c2 c3 u) (o : Obj) : u.cell? ⟨pn, 3, none⟩ = some (.slice U p.kids.length c3) ∧ (u.alloc o).cell? ⟨pn, 3, none⟩ = some (.slice U p.kids.length c3) := ⟨h.kn.cell 3, (h.kn.alloc o).cell 3⟩
theorem RmN.knK (h : RmN w pn leaf p K V U c1 c2 c3 u) (o : Obj) {W' : World} (hg : (u.alloc o).grownBy W' (Value.ownBlock (.slice K p.keys.length c1))) : ∀ i, W'.cell? ⟨pn, i, none⟩ = (#[.bool leaf, .slice K p.keys.length c1, .slice V p.vals.length c2, .slice U p.kids.length c3] : Array Value)[i]? ∧ W'.frozen? ⟨pn, i, none⟩ = false := fun i =>
  have hk := (h.kn.alloc o).grown hg (ob_ne_blk (ownAlloc h.oK o) (h.kn.alloc o) (by decide))
  ⟨hk.cell i, hk.frozen i⟩
theorem RmN.knV (h : RmN w pn leaf p K V U c1 c2 c3 u) (o : Obj) {W' : World} (hg : (u.alloc o).grownBy W' (Value.ownBlock (.slice V p.vals.length c2))) : ∀ i, W'.cell? ⟨pn, i, none⟩ = (#[.bool leaf, .slice K p.keys.length c1, .slice V p.vals.length c2, .slice U p.kids.length c3] : Array Value)[i]? ∧ W'.frozen? ⟨pn, i, none⟩ = false := fun i =>
  have hk := (h.kn.alloc o).grown hg (ob_ne_blk (ownAlloc h.oV o) (h.kn.alloc o) (by decide))
  ⟨hk.cell i, hk.frozen i⟩
theorem RmN.knU (h : RmN w pn leaf p K V U c1 c2 c3 u) (o : Obj) {W' : World} (hg : (u.alloc o).grownBy W' (Value.ownBlock (.slice U p.kids.length c3))) : ∀ i, W'.cell? ⟨pn, i, none⟩ = (#[.bool leaf, .slice K p.keys.length c1, .slice V p.vals.length c2, .slice U p.kids.length c3] : Array Value)[i]? ∧ W'.frozen? ⟨pn, i, none⟩ = false := fun i =>
  have hk := (h.kn.alloc o).grown hg (ob_ne_blk (ownAlloc h.oU o) (h.kn.alloc o) (by decide))
  ⟨hk.cell i, hk.frozen i⟩
/-- a key more -/
theorem RmN.key (h : RmN w pn leaf p K V U c1 c2 c3 u) (t : ByteArray) {W' : World} {K' : Option Addr} {d : Nat}
    (ho : W'.ownsRow w.heap.size 9 1 (.slice K' (p.keys.length + 1) d) (p.keys.length + 1) (strs p.keys ++ [.string t])) (hg : (u.alloc (.cells #[.string t] 9)).grownBy W' (Value.ownBlock (.slice K p.keys.length c1)))
    (hat : Value.ownBlock (.slice K' (p.keys.length + 1) d) = Value.ownBlock (.slice K p.keys.length c1) ∨ Value.ownBlock (.slice K' (p.keys.length + 1) d) = some (u.alloc (.cells #[.string t] 9)).heap.size) :
    RmN w pn leaf { p with keys := p.keys ++ [t] } K' V U d c2 c3 (W'.setCell ⟨pn, 1, none⟩ (.slice K' (p.keys.length + 1) d)) := by
  have hsz : (u.alloc (.cells #[.string t] 9)).heap.size = u.heap.size + 1 := by simp
  have aK := ownAlloc h.oK (.cells #[.string t] 9)
  have aV := ownAlloc h.oV (.cells #[.string t] 9)
  have aU := ownAlloc h.oU (.cells #[.string t] 9)
  have rn := (h.kn.alloc (.cells #[.string t] 9)).grown hg (ob_ne_blk aK (h.kn.alloc _) (by decide))
  have rV := aV.kept hg (by
    rcases hv : Value.ownBlock (.slice V p.vals.length c2) with _ | k
    · exact .inl rfl
    · exact .inr (fun e => (h.nK k e.symm) hv))
  have rU := aU.kept hg (by
    rcases hv : Value.ownBlock (.slice U p.kids.length c3) with _ | k
    · exact .inl rfl
    · refine .inr (fun e => ?_)
      rcases h.oU.2 with ⟨e1, _⟩ | ⟨g, cap, cur, e1, _, hgU, _⟩
      · rw [e1] at hv; simp [Value.ownBlock] at hv
      · rw [e1] at hv
        simp [Value.ownBlock] at hv
        subst hv
        exact own_blk_ne h.oK (g := g) hgU (by decide) g e.symm rfl)
  have hlen : (p.keys ++ [t]).length = p.keys.length + 1 := by simp
  have hst : strs (p.keys ++ [t]) = strs p.keys ++ [.string t] := by simp [strs]
  have hob : ∀ k, Value.ownBlock (.slice K' (p.keys.length + 1) d) = some k → Value.ownBlock (.slice V p.vals.length c2) ≠ some k := fun k hk => by
    rcases hat with e | e
    · rw [e] at hk; exact h.nK k hk
    · rw [e, hsz] at hk
      injection hk with hk
      intro e2
      have := (h.oV.lt k e2).2
      omega
  have hx : ∀ {e : TypeId} {n : Nat} {v : Value} {xs : List Value}, e ≠ 26 → W'.ownsRow w.heap.size e 1 v n xs → (W'.setCell ⟨pn, 1, none⟩ (.slice K' (p.keys.length + 1) d)).ownsRow w.heap.size e 1 v n xs := fun he hv =>
    own_only hv ((Only.refl (fun k => k = pn) W').setCell (p := ⟨pn, 1, none⟩) (.inl rfl) _) (fun g hg' e => own_blk_ne hv rn he g hg' e)
  have hbl : Below w.heap.size w W' := (h.bl.alloc h.bs _).grown hg (by rw [hsz]; have := h.bs; omega) (fun k hk => (aK.lt k hk).1)
  refine ⟨hbl.setCell (p := ⟨pn, 1, none⟩) h.lo _, by have := hg.size; have := h.bs; simp [World.setCell]; omega, h.lo, ?_, ?_, hx (by decide) rV, hx (by decide) rU, ?_⟩
  · simp only [hlen]
    exact rn.set_ 1 _
  · simp only [hlen, hst]
    exact hx (by decide) ho
  · simp only [hlen]
    exact hob
/-- a value more -/
theorem RmN.value (h : RmN w pn leaf p K V U c1 c2 c3 u) (t : ByteArray) {W' : World} {V' : Option Addr} {d : Nat}
    (ho : W'.ownsRow w.heap.size 9 1 (.slice V' (p.vals.length + 1) d) (p.vals.length + 1) (strs p.vals ++ [.string t])) (hg : (u.alloc (.cells #[.string t] 9)).grownBy W' (Value.ownBlock (.slice V p.vals.length c2)))
    (hat : Value.ownBlock (.slice V' (p.vals.length + 1) d) = Value.ownBlock (.slice V p.vals.length c2) ∨ Value.ownBlock (.slice V' (p.vals.length + 1) d) = some (u.alloc (.cells #[.string t] 9)).heap.size) :
    RmN w pn leaf { p with vals := p.vals ++ [t] } K V' U c1 d c3 (W'.setCell ⟨pn, 2, none⟩ (.slice V' (p.vals.length + 1) d)) := by
  have hsz : (u.alloc (.cells #[.string t] 9)).heap.size = u.heap.size + 1 := by simp
  have aK := ownAlloc h.oK (.cells #[.string t] 9)
  have aV := ownAlloc h.oV (.cells #[.string t] 9)
  have aU := ownAlloc h.oU (.cells #[.string t] 9)
  have rn := (h.kn.alloc (.cells #[.string t] 9)).grown hg (ob_ne_blk aV (h.kn.alloc _) (by decide))
  have rK := aK.kept hg (by
    rcases hv : Value.ownBlock (.slice K p.keys.length c1) with _ | k
    · exact .inl rfl
    · exact .inr (fun e => (h.nK k hv) e.symm))
  have rU := aU.kept hg (by
    rcases hv : Value.ownBlock (.slice U p.kids.length c3) with _ | k
    · exact .inl rfl
    · refine .inr (fun e => ?_)
      rcases h.oU.2 with ⟨e1, _⟩ | ⟨g, cap, cur, e1, _, hgU, _⟩
      · rw [e1] at hv; simp [Value.ownBlock] at hv
      · rw [e1] at hv
        simp [Value.ownBlock] at hv
        subst hv
        exact own_blk_ne h.oV (g := g) hgU (by decide) g e.symm rfl)
  have hlen : (p.vals ++ [t]).length = p.vals.length + 1 := by simp
  have hst : strs (p.vals ++ [t]) = strs p.vals ++ [.string t] := by simp [strs]
  have hob2 : ∀ k, Value.ownBlock (.slice K p.keys.length c1) = some k → Value.ownBlock (.slice V' (p.vals.length + 1) d) ≠ some k := fun k hk => by
    intro e2
    rcases hat with e | e
    · rw [e] at e2; exact (h.nK k hk) e2
    · rw [e, hsz] at e2
      injection e2 with e2
      have := (h.oK.lt k hk).2
      omega
  have hx : ∀ {e : TypeId} {n : Nat} {v : Value} {xs : List Value}, e ≠ 26 → W'.ownsRow w.heap.size e 1 v n xs → (W'.setCell ⟨pn, 2, none⟩ (.slice V' (p.vals.length + 1) d)).ownsRow w.heap.size e 1 v n xs := fun he hv =>
    own_only hv ((Only.refl (fun k => k = pn) W').setCell (p := ⟨pn, 2, none⟩) (.inl rfl) _) (fun g hg' e => own_blk_ne hv rn he g hg' e)
  have hbl : Below w.heap.size w W' := (h.bl.alloc h.bs _).grown hg (by rw [hsz]; have := h.bs; omega) (fun k hk => (aV.lt k hk).1)
  refine ⟨hbl.setCell (p := ⟨pn, 2, none⟩) h.lo _, by have := hg.size; have := h.bs; simp [World.setCell]; omega, h.lo, ?_, hx (by decide) rK, ?_, hx (by decide) rU, ?_⟩
  · simp only [hlen]
    exact rn.set_ 2 _
  · simp only [hlen, hst]
    exact hx (by decide) ho
  · simp only [hlen]
    exact hob2
/-- a kid more -/
theorem RmN.kid (h : RmN w pn leaf p K V U c1 c2 c3 u) (t : Nat) {W' : World} {U' : Option Addr} {d : Nat}
    (ho : W'.ownsRow w.heap.size 42 1 (.slice U' (p.kids.length + 1) d) (p.kids.length + 1) (kidsV p.kids ++ [.int .u32 (t : Nat)])) (hg : (u.alloc (.cells #[.int .u32 (t : Nat)] 42)).grownBy W' (Value.ownBlock (.slice U p.kids.length c3)))
    (hat : Value.ownBlock (.slice U' (p.kids.length + 1) d) = Value.ownBlock (.slice U p.kids.length c3) ∨ Value.ownBlock (.slice U' (p.kids.length + 1) d) = some (u.alloc (.cells #[.int .u32 (t : Nat)] 42)).heap.size) :
    RmN w pn leaf { p with kids := p.kids ++ [t] } K V U' c1 c2 d (W'.setCell ⟨pn, 3, none⟩ (.slice U' (p.kids.length + 1) d)) := by
  have hsz : (u.alloc (.cells #[.int .u32 (t : Nat)] 42)).heap.size = u.heap.size + 1 := by simp
  have aK := ownAlloc h.oK (.cells #[.int .u32 (t : Nat)] 42)
  have aV := ownAlloc h.oV (.cells #[.int .u32 (t : Nat)] 42)
  have aU := ownAlloc h.oU (.cells #[.int .u32 (t : Nat)] 42)
  have rn := (h.kn.alloc (.cells #[.int .u32 (t : Nat)] 42)).grown hg (ob_ne_blk aU (h.kn.alloc _) (by decide))
  have other : ∀ {v : Value} {n : Nat} {xs : List Value}, u.ownsRow w.heap.size 9 1 v n xs → v.ownBlock = none ∨ v.ownBlock ≠ Value.ownBlock (.slice U p.kids.length c3) := by
    intro v n xs hv
    rcases hv.2 with ⟨e1, _⟩ | ⟨g, cap, cur, e1, _, hgU, _⟩
    · left; rw [e1]; rfl
    · right
      rw [e1]
      intro e
      exact own_blk_ne h.oU (g := g) hgU (by decide) g (by simpa [Value.ownBlock] using e.symm) rfl
  have rK := aK.kept hg (other h.oK)
  have rV := aV.kept hg (other h.oV)
  have hlen : (p.kids ++ [t]).length = p.kids.length + 1 := by simp
  have hst : kidsV (p.kids ++ [t]) = kidsV p.kids ++ [.int .u32 (t : Nat)] := by simp [kidsV]
  have hx : ∀ {e : TypeId} {n : Nat} {v : Value} {xs : List Value}, e ≠ 26 → W'.ownsRow w.heap.size e 1 v n xs → (W'.setCell ⟨pn, 3, none⟩ (.slice U' (p.kids.length + 1) d)).ownsRow w.heap.size e 1 v n xs := fun he hv =>
    own_only hv ((Only.refl (fun k => k = pn) W').setCell (p := ⟨pn, 3, none⟩) (.inl rfl) _) (fun g hg' e => own_blk_ne hv rn he g hg' e)
  have hbl : Below w.heap.size w W' := (h.bl.alloc h.bs _).grown hg (by rw [hsz]; have := h.bs; omega) (fun k hk => (aU.lt k hk).1)
  refine ⟨hbl.setCell (p := ⟨pn, 3, none⟩) h.lo _, by have := hg.size; have := h.bs; simp [World.setCell]; omega, h.lo, ?_, hx (by decide) rK, hx (by decide) rV, ?_, h.nK⟩
  · simp only [hlen]
    exact rn.set_ 3 _
  · simp only [hlen, hst]
    exact hx (by decide) ho
end
end Go.Proofs.Ytpggicaphejjfaa
