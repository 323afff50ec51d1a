/-
  What the reference's Decode keeps in memory while it reads; its turns.
-/
import Derived.Test.YtpggicaphejjfaaPDecR
import Derived.Test.YtpggicaphejjfaaPDecode
import Derived.Test.YtpggicaphejjfaaPRText
set_option linter.unusedVariables false
namespace Go.Proofs.Ytpggicaphejjfaa
open Go.RowKit

structure DecT (w : World) (b2 pn : Nat) (leaf : Bool) (p : PS) (K V U : Option Addr) (c1 c2 c3 : Nat) (u : World) : Prop where
  bl : Below w.heap.size w u
  bs : w.heap.size ≤ u.heap.size
  lo : w.heap.size ≤ b2 ∧ w.heap.size ≤ pn
  ne : b2 ≠ pn
  k2 : Blk u b2 25 zN
  kn : Blk u pn 25 #[.bool leaf, .slice K p.keys.length c1, .slice V p.vals.length c2, .slice U p.kids.length c3]
  oK : u.ownsRow w.heap.size 9 1 (.slice K p.keys.length c1) p.keys.length (strs p.keys)
  oV : u.ownsRow w.heap.size 9 1 (.slice V p.vals.length c2) p.vals.length (strs p.vals)
  oU : u.ownsRow w.heap.size 42 1 (.slice U p.kids.length c3) p.kids.length (kidsV p.kids)
  nK : ∀ k, Value.ownBlock (.slice K p.keys.length c1) = some k → Value.ownBlock (.slice V p.vals.length c2) ≠ some k
section
variable {w u u' : World} {b2 pn : Nat} {leaf : Bool} {p : PS} {K V U : Option Addr} {c1 c2 c3 : Nat}
theorem DecT.drewN (h : DecT w b2 pn leaf p K V U c1 c2 c3 u) (n : Nat) : DecT w b2 pn leaf p K V U c1 c2 c3 (u.drewN n) :=
  ⟨below_drewN h.bl n, h.bs, h.lo, h.ne, h.k2.drewN n, h.kn.drewN n, h.oK, h.oV, h.oU, h.nK⟩
/-- what is read of the text does not lie in memory -/
theorem DecT.of (h : DecT w b2 pn leaf p K V U c1 c2 c3 u) (q : PS) (h1 : q.keys = p.keys) (h2 : q.vals = p.vals) (h3 : q.kids = p.kids) : DecT w b2 pn leaf q K V U c1 c2 c3 u := by
  obtain ⟨a1, a2, a3, b, r⟩ := q
  dsimp only at h1 h2 h3
  subst h1 h2 h3
  exact ⟨h.bl, h.bs, h.lo, h.ne, h.k2, h.kn, h.oK, h.oV, h.oU, h.nK⟩
theorem DecT.take (h : DecT w b2 pn leaf p K V U c1 c2 c3 u) (r : List UInt8) (hr : r.length ≤ 4096) (n : Nat) (hn : n ≤ 4294967296) (t1 t2 : ByteArray) (ok : Bool) (e1 : t1 = mkB (tT n false r)) (e2 : t2 = if tB n false r = true then ⟨#[]⟩ else mkB (tR n false r)) (e3 : ok = !tB n false r) :
    Calls Try.prog 42 #[.string (mkB r), .int .i64 n] u fun e u' => e = .returned (.tuple #[.string t1, .string t2, .bool ok]) ∧ DecT w b2 pn leaf p K V U c1 c2 c3 u' := by
  subst e1 e2 e3
  exact (take_any n r u hr hn).mono fun e u' ⟨h1, nd, h2⟩ => ⟨h1, by rw [h2]; exact h.drewN nd⟩
theorem DecT.cl0 (h : DecT w b2 pn leaf p K V U c1 c2 c3 u) : u.cell? ⟨pn, 0, none⟩ = some (.bool leaf) := h.kn.cell 0
theorem DecT.cl1 (h : DecT w b2 pn leaf p K V U c1 c2 c3 u) (o : Obj) : u.cell? ⟨pn, 1, none⟩ = some (.slice K p.keys.length c1) ∧ (u.alloc o).cell? ⟨pn, 1, none⟩ = some (.slice K p.keys.length c1) := ⟨h.kn.cell 1, (h.kn.alloc o).cell 1⟩
theorem DecT.cl2 (h : DecT w b2 pn leaf p K V U c1 c2 c3 u) (o : Obj) : u.cell? ⟨pn, 2, none⟩ = some (.slice V p.vals.length c2) ∧ (u.alloc o).cell? ⟨pn, 2, none⟩ = some (.slice V p.vals.length c2) := ⟨h.kn.cell 2, (h.kn.alloc o).cell 2⟩
theorem DecT.cl3 (h : DecT w b2 pn leaf p K V U c1 c2 c3 u) (o : Obj) : u.cell? ⟨pn, 3, none⟩ = some (.slice U p.kids.length c3) ∧ (u.alloc o).cell? ⟨pn, 3, none⟩ = some (.slice U p.kids.length c3) := ⟨h.kn.cell 3, (h.kn.alloc o).cell 3⟩
theorem DecT.knK (h : DecT w b2 pn leaf p K V U c1 c2 c3 u) (o : Obj) {W' : World} (hg : (u.alloc o).grownBy W' (Value.ownBlock (.slice K p.keys.length c1))) : ∀ i, W'.cell? ⟨pn, i, none⟩ = (#[.bool leaf, .slice K p.keys.length c1, .slice V p.vals.length c2, .slice U p.kids.length c3] : Array Value)[i]? ∧ W'.frozen? ⟨pn, i, none⟩ = false := fun i =>
  have hk := (h.kn.alloc o).grown hg (ob_ne_blk (ownAlloc h.oK o) (h.kn.alloc o) (by decide))
  ⟨hk.cell i, hk.frozen i⟩
theorem DecT.knV (h : DecT w b2 pn leaf p K V U c1 c2 c3 u) (o : Obj) {W' : World} (hg : (u.alloc o).grownBy W' (Value.ownBlock (.slice V p.vals.length c2))) : ∀ i, W'.cell? ⟨pn, i, none⟩ = (#[.bool leaf, .slice K p.keys.length c1, .slice V p.vals.length c2, .slice U p.kids.length c3] : Array Value)[i]? ∧ W'.frozen? ⟨pn, i, none⟩ = false := fun i =>
  have hk := (h.kn.alloc o).grown hg (ob_ne_blk (ownAlloc h.oV o) (h.kn.alloc o) (by decide))
  ⟨hk.cell i, hk.frozen i⟩
theorem DecT.knU (h : DecT w b2 pn leaf p K V U c1 c2 c3 u) (o : Obj) {W' : World} (hg : (u.alloc o).grownBy W' (Value.ownBlock (.slice U p.kids.length c3))) : ∀ i, W'.cell? ⟨pn, i, none⟩ = (#[.bool leaf, .slice K p.keys.length c1, .slice V p.vals.length c2, .slice U p.kids.length c3] : Array Value)[i]? ∧ W'.frozen? ⟨pn, i, none⟩ = false := fun i =>
  have hk := (h.kn.alloc o).grown hg (ob_ne_blk (ownAlloc h.oU o) (h.kn.alloc o) (by decide))
  ⟨hk.cell i, hk.frozen i⟩
/-- a key more -/
theorem DecT.key (h : DecT w b2 pn leaf p K V U c1 c2 c3 u) (t : ByteArray) {W' : World} {K' : Option Addr} {d : Nat}
    (ho : W'.ownsRow w.heap.size 9 1 (.slice K' (p.keys.length + 1) d) (p.keys.length + 1) (strs p.keys ++ [.string t])) (hg : (u.alloc (.cells #[.string t] 9)).grownBy W' (Value.ownBlock (.slice K p.keys.length c1)))
    (hat : Value.ownBlock (.slice K' (p.keys.length + 1) d) = Value.ownBlock (.slice K p.keys.length c1) ∨ Value.ownBlock (.slice K' (p.keys.length + 1) d) = some (u.alloc (.cells #[.string t] 9)).heap.size) :
    DecT w b2 pn leaf { p with keys := p.keys ++ [t] } K' V U d c2 c3 (W'.setCell ⟨pn, 1, none⟩ (.slice K' (p.keys.length + 1) d)) := by
  have hsz : (u.alloc (.cells #[.string t] 9)).heap.size = u.heap.size + 1 := by simp
  have aK := ownAlloc h.oK (.cells #[.string t] 9)
  have aV := ownAlloc h.oV (.cells #[.string t] 9)
  have aU := ownAlloc h.oU (.cells #[.string t] 9)
  have r2 := (h.k2.alloc (.cells #[.string t] 9)).grown hg (ob_ne_blk aK (h.k2.alloc _) (by decide))
  have rn := (h.kn.alloc (.cells #[.string t] 9)).grown hg (ob_ne_blk aK (h.kn.alloc _) (by decide))
  have rV := aV.kept hg (by
    rcases hv : Value.ownBlock (.slice V p.vals.length c2) with _ | k
    · exact .inl rfl
    · exact .inr (fun e => (h.nK k e.symm) hv))
  have rU := aU.kept hg (by
    rcases hv : Value.ownBlock (.slice U p.kids.length c3) with _ | k
    · exact .inl rfl
    · refine .inr (fun e => ?_)
      rcases h.oU.2 with ⟨e1, _⟩ | ⟨g, cap, cur, e1, _, hgU, _⟩
      · rw [e1] at hv; simp [Value.ownBlock] at hv
      · rw [e1] at hv
        simp [Value.ownBlock] at hv
        subst hv
        exact own_blk_ne h.oK (g := g) hgU (by decide) g e.symm rfl)
  have hlen : (p.keys ++ [t]).length = p.keys.length + 1 := by simp
  have hst : strs (p.keys ++ [t]) = strs p.keys ++ [.string t] := by simp [strs]
  have hob : ∀ k, Value.ownBlock (.slice K' (p.keys.length + 1) d) = some k → Value.ownBlock (.slice V p.vals.length c2) ≠ some k := fun k hk => by
    rcases hat with e | e
    · rw [e] at hk; exact h.nK k hk
    · rw [e, hsz] at hk
      injection hk with hk
      intro e2
      have := (h.oV.lt k e2).2
      omega
  have hx : ∀ {e : TypeId} {n : Nat} {v : Value} {xs : List Value}, e ≠ 25 → W'.ownsRow w.heap.size e 1 v n xs → (W'.setCell ⟨pn, 1, none⟩ (.slice K' (p.keys.length + 1) d)).ownsRow w.heap.size e 1 v n xs := fun he hv =>
    own_only hv ((Only.refl (fun k => k = pn) W').setCell (p := ⟨pn, 1, none⟩) (.inl rfl) _) (fun g hg' e => own_blk_ne hv rn he g hg' e)
  have hbl : Below w.heap.size w W' := (h.bl.alloc h.bs _).grown hg (by rw [hsz]; have := h.bs; omega) (fun k hk => (aK.lt k hk).1)
  refine ⟨hbl.setCell (p := ⟨pn, 1, none⟩) h.lo.2 _, by have := hg.size; have := h.bs; simp [World.setCell]; omega, h.lo, h.ne, r2.far (fun e => h.ne e) _, ?_, ?_, hx (by decide) rV, hx (by decide) rU, ?_⟩
  · simp only [hlen]
    exact rn.set_ 1 _
  · simp only [hlen, hst]
    exact hx (by decide) ho
  · simp only [hlen]
    exact hob
/-- a value more -/
theorem DecT.value (h : DecT w b2 pn leaf p K V U c1 c2 c3 u) (t : ByteArray) {W' : World} {V' : Option Addr} {d : Nat}
    (ho : W'.ownsRow w.heap.size 9 1 (.slice V' (p.vals.length + 1) d) (p.vals.length + 1) (strs p.vals ++ [.string t])) (hg : (u.alloc (.cells #[.string t] 9)).grownBy W' (Value.ownBlock (.slice V p.vals.length c2)))
    (hat : Value.ownBlock (.slice V' (p.vals.length + 1) d) = Value.ownBlock (.slice V p.vals.length c2) ∨ Value.ownBlock (.slice V' (p.vals.length + 1) d) = some (u.alloc (.cells #[.string t] 9)).heap.size) :
    DecT w b2 pn leaf { p with vals := p.vals ++ [t] } K V' U c1 d c3 (W'.setCell ⟨pn, 2, none⟩ (.slice V' (p.vals.length + 1) d)) := by
  have hsz : (u.alloc (.cells #[.string t] 9)).heap.size = u.heap.size + 1 := by simp
  have aK := ownAlloc h.oK (.cells #[.string t] 9)
  have aV := ownAlloc h.oV (.cells #[.string t] 9)
  have aU := ownAlloc h.oU (.cells #[.string t] 9)
  have r2 := (h.k2.alloc (.cells #[.string t] 9)).grown hg (ob_ne_blk aV (h.k2.alloc _) (by decide))
  have rn := (h.kn.alloc (.cells #[.string t] 9)).grown hg (ob_ne_blk aV (h.kn.alloc _) (by decide))
  have rK := aK.kept hg (by
    rcases hv : Value.ownBlock (.slice K p.keys.length c1) with _ | k
    · exact .inl rfl
    · exact .inr (fun e => (h.nK k hv) e.symm))
  have rU := aU.kept hg (by
    rcases hv : Value.ownBlock (.slice U p.kids.length c3) with _ | k
    · exact .inl rfl
    · refine .inr (fun e => ?_)
      rcases h.oU.2 with ⟨e1, _⟩ | ⟨g, cap, cur, e1, _, hgU, _⟩
      · rw [e1] at hv; simp [Value.ownBlock] at hv
      · rw [e1] at hv
        simp [Value.ownBlock] at hv
        subst hv
        exact own_blk_ne h.oV (g := g) hgU (by decide) g e.symm rfl)
  have hlen : (p.vals ++ [t]).length = p.vals.length + 1 := by simp
  have hst : strs (p.vals ++ [t]) = strs p.vals ++ [.string t] := by simp [strs]
  have hob2 : ∀ k, Value.ownBlock (.slice K p.keys.length c1) = some k → Value.ownBlock (.slice V' (p.vals.length + 1) d) ≠ some k := fun k hk => by
    intro e2
    rcases hat with e | e
    · rw [e] at e2; exact (h.nK k hk) e2
    · rw [e, hsz] at e2
      injection e2 with e2
      have := (h.oK.lt k hk).2
      omega
  have hx : ∀ {e : TypeId} {n : Nat} {v : Value} {xs : List Value}, e ≠ 25 → W'.ownsRow w.heap.size e 1 v n xs → (W'.setCell ⟨pn, 2, none⟩ (.slice V' (p.vals.length + 1) d)).ownsRow w.heap.size e 1 v n xs := fun he hv =>
    own_only hv ((Only.refl (fun k => k = pn) W').setCell (p := ⟨pn, 2, none⟩) (.inl rfl) _) (fun g hg' e => own_blk_ne hv rn he g hg' e)
  have hbl : Below w.heap.size w W' := (h.bl.alloc h.bs _).grown hg (by rw [hsz]; have := h.bs; omega) (fun k hk => (aV.lt k hk).1)
  refine ⟨hbl.setCell (p := ⟨pn, 2, none⟩) h.lo.2 _, by have := hg.size; have := h.bs; simp [World.setCell]; omega, h.lo, h.ne, r2.far (fun e => h.ne e) _, ?_, hx (by decide) rK, ?_, hx (by decide) rU, ?_⟩
  · simp only [hlen]
    exact rn.set_ 2 _
  · simp only [hlen, hst]
    exact hx (by decide) ho
  · simp only [hlen]
    exact hob2
/-- a kid more -/
theorem DecT.kid (h : DecT w b2 pn leaf p K V U c1 c2 c3 u) (t : Nat) {W' : World} {U' : Option Addr} {d : Nat}
    (ho : W'.ownsRow w.heap.size 42 1 (.slice U' (p.kids.length + 1) d) (p.kids.length + 1) (kidsV p.kids ++ [.int .u32 (t : Nat)])) (hg : (u.alloc (.cells #[.int .u32 (t : Nat)] 42)).grownBy W' (Value.ownBlock (.slice U p.kids.length c3)))
    (hat : Value.ownBlock (.slice U' (p.kids.length + 1) d) = Value.ownBlock (.slice U p.kids.length c3) ∨ Value.ownBlock (.slice U' (p.kids.length + 1) d) = some (u.alloc (.cells #[.int .u32 (t : Nat)] 42)).heap.size) :
    DecT w b2 pn leaf { p with kids := p.kids ++ [t] } K V U' c1 c2 d (W'.setCell ⟨pn, 3, none⟩ (.slice U' (p.kids.length + 1) d)) := by
  have hsz : (u.alloc (.cells #[.int .u32 (t : Nat)] 42)).heap.size = u.heap.size + 1 := by simp
  have aK := ownAlloc h.oK (.cells #[.int .u32 (t : Nat)] 42)
  have aV := ownAlloc h.oV (.cells #[.int .u32 (t : Nat)] 42)
  have aU := ownAlloc h.oU (.cells #[.int .u32 (t : Nat)] 42)
  have r2 := (h.k2.alloc (.cells #[.int .u32 (t : Nat)] 42)).grown hg (ob_ne_blk aU (h.k2.alloc _) (by decide))
  have rn := (h.kn.alloc (.cells #[.int .u32 (t : Nat)] 42)).grown hg (ob_ne_blk aU (h.kn.alloc _) (by decide))
  have other : ∀ {v : Value} {n : Nat} {xs : List Value}, u.ownsRow w.heap.size 9 1 v n xs → v.ownBlock = none ∨ v.ownBlock ≠ Value.ownBlock (.slice U p.kids.length c3) := by
    intro v n xs hv
    rcases hv.2 with ⟨e1, _⟩ | ⟨g, cap, cur, e1, _, hgU, _⟩
    · left; rw [e1]; rfl
    · right
      rw [e1]
      intro e
      exact own_blk_ne h.oU (g := g) hgU (by decide) g (by simpa [Value.ownBlock] using e.symm) rfl
  have rK := aK.kept hg (other h.oK)
  have rV := aV.kept hg (other h.oV)
  have hlen : (p.kids ++ [t]).length = p.kids.length + 1 := by simp
  have hst : kidsV (p.kids ++ [t]) = kidsV p.kids ++ [.int .u32 (t : Nat)] := by simp [kidsV]
  have hx : ∀ {e : TypeId} {n : Nat} {v : Value} {xs : List Value}, e ≠ 25 → W'.ownsRow w.heap.size e 1 v n xs → (W'.setCell ⟨pn, 3, none⟩ (.slice U' (p.kids.length + 1) d)).ownsRow w.heap.size e 1 v n xs := fun he hv =>
    own_only hv ((Only.refl (fun k => k = pn) W').setCell (p := ⟨pn, 3, none⟩) (.inl rfl) _) (fun g hg' e => own_blk_ne hv rn he g hg' e)
  have hbl : Below w.heap.size w W' := (h.bl.alloc h.bs _).grown hg (by rw [hsz]; have := h.bs; omega) (fun k hk => (aU.lt k hk).1)
  refine ⟨hbl.setCell (p := ⟨pn, 3, none⟩) h.lo.2 _, by have := hg.size; have := h.bs; simp [World.setCell]; omega, h.lo, h.ne, r2.far (fun e => h.ne e) _, ?_, hx (by decide) rK, hx (by decide) rV, ?_, h.nK⟩
  · simp only [hlen]
    exact rn.set_ 3 _
  · simp only [hlen, hst]
    exact hx (by decide) ho
end
end Go.Proofs.Ytpggicaphejjfaa
