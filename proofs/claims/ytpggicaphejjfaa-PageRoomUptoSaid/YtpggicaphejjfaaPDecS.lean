/-
  What the program's Decode keeps in memory while it reads; its turns.
-/
import Derived.Test.YtpggicaphejjfaaPText
import Derived.Test.YtpggicaphejjfaaPOwn3
set_option linter.unusedVariables false
namespace Go.Proofs.Ytpggicaphejjfaa
open Go.RowKit

/-- plain bounds of what has been read -/
structure PSok (p : PS) (k : Nat) : Prop where
  r : p.r.length ≤ 4096
  kl : p.keys.length = k
  vl : p.vals.length ≤ k
  ul : p.kids.length ≤ k + 1
  ks : ∀ i, (p.keys.getD i ⟨#[]⟩).size ≤ 4096
  vs : ∀ i, (p.vals.getD i ⟨#[]⟩).size ≤ 4096
  us : ∀ i, p.kids.getD i 0 < 4294967296
theorem getD_snoc_le {l : List ByteArray} {x : ByteArray} (h : ∀ i, (l.getD i ⟨#[]⟩).size ≤ 4096) (hx : x.size ≤ 4096) : ∀ i, ((l ++ [x]).getD i ⟨#[]⟩).size ≤ 4096 := by
  intro i
  rcases Nat.lt_trichotomy i l.length with q | q | q
  · simpa [List.getD, List.getElem?_append_left q] using h i
  · subst q; simpa [List.getD] using hx
  · simp [List.getD, List.getElem?_append_right (Nat.le_of_lt q), List.getElem?_eq_none (show [x].length ≤ i - l.length by simp; omega), ByteArray.size]
theorem getD_snoc_lt {l : List Nat} {x : Nat} (h : ∀ i, l.getD i 0 < 4294967296) (hx : x < 4294967296) : ∀ i, (l ++ [x]).getD i 0 < 4294967296 := by
  intro i
  rcases Nat.lt_trichotomy i l.length with q | q | q
  · simpa [List.getD, List.getElem?_append_left q] using h i
  · subst q; simpa [List.getD] using hx
  · simp [List.getD, List.getElem?_append_right (Nat.le_of_lt q), List.getElem?_eq_none (show [x].length ≤ i - l.length by simp; omega)]
theorem val4 (b : Bool) (r : List UInt8) : val (tT 4 b r) < 4294967296 := by
  have h1 := val_lt (tT 4 b r)
  have h2 := (length_tT 4 b r).1
  exact Nat.lt_of_lt_of_le h1 (Nat.le_trans (Nat.pow_le_pow_right (by decide) h2) (by decide))
theorem PSok.text {p : PS} {k : Nat} (h : PSok p k) (n : Nat) (b : Bool) : (tR n b p.r).length ≤ 4096 ∧ (mkB (tT n b p.r)).size ≤ 4096 := by
  have := h.r
  have h1 := length_tR n b p.r
  have h2 := (length_tT n b p.r).2
  rw [mkB_size]
  omega
theorem PSok.read {p : PS} {k : Nat} (h : PSok p k) (n : Nat) (b b' : Bool) : PSok { p with b := b', r := tR n b p.r } k := ⟨(h.text n b).1, h.kl, h.vl, h.ul, h.ks, h.vs, h.us⟩
theorem ok_stepL {p : PS} {k : Nat} (h : PSok p k) : PSok (stepL p) (k + 1) := by
  have q1 := h.read 1 p.b (tB 1 p.b p.r)
  have q2 := q1.read 2 (tB 1 p.b p.r) (tB 2 (tB 1 p.b p.r) (tR 1 p.b p.r))
  have q3 := q2.read (val (tT 1 p.b p.r)) (tB 2 (tB 1 p.b p.r) (tR 1 p.b p.r)) (tB (val (tT 1 p.b p.r)) (tB 2 (tB 1 p.b p.r) (tR 1 p.b p.r)) (tR 2 (tB 1 p.b p.r) (tR 1 p.b p.r)))
  exact ⟨(q3.text _ _).1, by simp [stepL, h.kl], by have := h.vl; simp [stepL]; omega, by have := h.ul; simp only [stepL]; omega, getD_snoc_le h.ks (q2.text _ _).2, getD_snoc_le h.vs (q3.text _ _).2, h.us⟩
theorem ok_stepB {p : PS} {k : Nat} (h : PSok p k) : PSok (stepB p) (k + 1) := by
  have q1 := h.read 1 p.b (tB 1 p.b p.r)
  have q3 := q1.read (val (tT 1 p.b p.r)) (tB 1 p.b p.r) (tB (val (tT 1 p.b p.r)) (tB 1 p.b p.r) (tR 1 p.b p.r))
  exact ⟨(q3.text _ _).1, by simp [stepB, h.kl], by have := h.vl; simp only [stepB]; omega, by have := h.ul; simp [stepB]; omega, getD_snoc_le h.ks (q1.text _ _).2, h.vs, getD_snoc_lt h.us (val4 _ _)⟩

def zN : Array Value := #[.bool false, .slice none 0 0, .slice none 0 0, .slice none 0 0]
/-- the memory -/
structure DecS (w : World) (b2 g4 g5 g6 pn : Nat) (leaf : Bool) (p : PS) (K V U : Option Addr) (c1 c2 c3 : Nat) (u : World) : Prop where
  bl : Below w.heap.size w u
  bs : w.heap.size ≤ u.heap.size
  lo : w.heap.size ≤ b2 ∧ w.heap.size ≤ g4 ∧ w.heap.size ≤ g5 ∧ w.heap.size ≤ g6 ∧ w.heap.size ≤ pn
  ne : b2 ≠ pn
  k2 : Blk u b2 26 zN
  k6 : Blk u g6 73 #[.func (Fn.func 39) #[] #[.pointer (some ⟨g5, 0, none⟩), .pointer (some ⟨g4, 0, none⟩)]]
  kn : Blk u pn 26 #[.bool leaf, .slice K p.keys.length c1, .slice V p.vals.length c2, .slice U p.kids.length c3]
  k5 : Blk u g5 4 #[.bool p.b]
  k4 : Blk u g4 9 #[.string (mkB p.r)]
  oK : u.ownsRow w.heap.size 9 1 (.slice K p.keys.length c1) p.keys.length (strs p.keys)
  oV : u.ownsRow w.heap.size 9 1 (.slice V p.vals.length c2) p.vals.length (strs p.vals)
  oU : u.ownsRow w.heap.size 42 1 (.slice U p.kids.length c3) p.kids.length (kidsV p.kids)
  nK : ∀ k, Value.ownBlock (.slice K p.keys.length c1) = some k → k ≠ g4 ∧ Value.ownBlock (.slice V p.vals.length c2) ≠ some k
  nV : ∀ k, Value.ownBlock (.slice V p.vals.length c2) = some k → k ≠ g4
section
variable {w u u' : World} {b2 g4 g5 g6 pn : Nat} {leaf : Bool} {p : PS} {K V U : Option Addr} {c1 c2 c3 : Nat}
theorem DecS.drew (h : DecS w b2 g4 g5 g6 pn leaf p K V U c1 c2 c3 u) : DecS w b2 g4 g5 g6 pn leaf p K V U c1 c2 c3 u.drew :=
  ⟨h.bl.drew, h.bs, h.lo, h.ne, h.k2.drew, h.k6.drew, h.kn.drew, h.k5.drew, h.k4.drew, h.oK, h.oV, h.oU, h.nK, h.nV⟩
/-- a closure has read -/
theorem DecS.read (h : DecS w b2 g4 g5 g6 pn leaf p K V U c1 c2 c3 u) {b' : Bool} {r' : List UInt8} (k5 : Blk u' g5 4 #[.bool b']) (k4 : Blk u' g4 9 #[.string (mkB r')]) (ho : Only (fun k => k = g5 ∨ k = g4) u u') :
    DecS w b2 g4 g5 g6 pn leaf { p with b := b', r := r' } K V U c1 c2 c3 u' := by
  have nn : ∀ {g : Nat} {t : TypeId} {cs : Array Value}, Blk u g t cs → t ≠ 4 → t ≠ 9 → ¬ (g = g5 ∨ g = g4) := by
    intro g t cs hg h1 h2 hh
    rcases hh with e | e
    · subst e; exact Blk.ne_ hg h.k5 h1 rfl
    · subst e; exact Blk.ne_ hg h.k4 h2 rfl
  refine ⟨h.bl.trans (ho.below (fun k hk hf => by have := h.lo; omega) h.bs), Nat.le_trans h.bs ho.size, h.lo, h.ne, h.k2.only ho (nn h.k2 (by decide) (by decide)), h.k6.only ho (nn h.k6 (by decide) (by decide)), h.kn.only ho (nn h.kn (by decide) (by decide)), k5, k4,
    own_only h.oK ho (fun g hg hf => ?_), own_only h.oV ho (fun g hg hf => ?_), own_only h.oU ho (fun g hg hf => ?_), h.nK, h.nV⟩
  · rcases hf with e | e
    · exact own_blk_ne h.oK h.k5 (by decide) g hg e
    · exact (h.nK g hg).1 e
  · rcases hf with e | e
    · exact own_blk_ne h.oV h.k5 (by decide) g hg e
    · exact h.nV g hg e
  · rcases hf with e | e
    · exact own_blk_ne h.oU h.k5 (by decide) g hg e
    · exact own_blk_ne h.oU h.k4 (by decide) g hg e
theorem DecS.number (h : DecS w b2 g4 g5 g6 pn leaf p K V U c1 c2 c3 u) (hr : p.r.length ≤ 4096) (n : Nat) (hn : n ≤ 4) :
    Calls Try.prog 40 #[.int .i64 n, .pointer (some ⟨g6, 0, none⟩)] u fun e u' => e = .returned (.int .i64 (val (tT n p.b p.r) : Nat)) ∧ DecS w b2 g4 g5 g6 pn leaf { p with b := tB n p.b p.r, r := tR n p.b p.r } K V U c1 c2 c3 u' := by
  have hne : g5 ≠ g4 := Blk.ne_ h.k5 h.k4 (by decide)
  exact (number_any n p.b p.r g6 g5 g4 u h.k6 h.k5 h.k4 hne hr hn).mono fun e u' ⟨h1, h2, h3, h4⟩ => ⟨h1, h.read h2 h3 h4⟩
theorem DecS.text (h : DecS w b2 g4 g5 g6 pn leaf p K V U c1 c2 c3 u) (hr : p.r.length ≤ 4096) (n : Nat) (hn : n ≤ 4294967296) :
    Calls Try.prog 39 #[.int .i64 n, .pointer (some ⟨g5, 0, none⟩), .pointer (some ⟨g4, 0, none⟩)] u fun e u' => e = .returned (.string (mkB (tT n p.b p.r))) ∧ DecS w b2 g4 g5 g6 pn leaf { p with b := tB n p.b p.r, r := tR n p.b p.r } K V U c1 c2 c3 u' := by
  have hne : g5 ≠ g4 := Blk.ne_ h.k5 h.k4 (by decide)
  exact (text_any n p.b p.r g5 g4 u h.k5 h.k4 hne hr hn).mono fun e u' ⟨h1, h2, h3, h4⟩ => ⟨h1, h.read h2 h3 h4⟩
theorem ob_ne_blk {W : World} {B : Nat} {e : TypeId} {n : Nat} {v : Value} {xs : List Value} {g : Nat} {t : TypeId} {cs : Array Value} (h : W.ownsRow B e 1 v n xs) (hg : Blk W g t cs) (hne : e ≠ t) : some g ≠ v.ownBlock := fun e1 => own_blk_ne h hg hne g e1.symm rfl
/-- a key more -/
theorem DecS.key (h : DecS w b2 g4 g5 g6 pn leaf p K V U c1 c2 c3 u) (t : ByteArray) {W' : World} {K' : Option Addr} {d : Nat}
    (ho : W'.ownsRow w.heap.size 9 1 (.slice K' (p.keys.length + 1) d) (p.keys.length + 1) (strs p.keys ++ [.string t])) (hg : (u.alloc (.cells #[.string t] 9)).grownBy W' (Value.ownBlock (.slice K p.keys.length c1)))
    (hat : Value.ownBlock (.slice K' (p.keys.length + 1) d) = Value.ownBlock (.slice K p.keys.length c1) ∨ Value.ownBlock (.slice K' (p.keys.length + 1) d) = some (u.alloc (.cells #[.string t] 9)).heap.size) :
    DecS w b2 g4 g5 g6 pn leaf { p with keys := p.keys ++ [t] } K' V U d c2 c3 (W'.setCell ⟨pn, 1, none⟩ (.slice K' (p.keys.length + 1) d)) := by
  have hsz : (u.alloc (.cells #[.string t] 9)).heap.size = u.heap.size + 1 := by simp
  have aK := ownAlloc h.oK (.cells #[.string t] 9)
  have aV := ownAlloc h.oV (.cells #[.string t] 9)
  have aU := ownAlloc h.oU (.cells #[.string t] 9)
  have a4 := h.k4.alloc (.cells #[.string t] 9)
  have r4 := a4.grown hg (fun e => (h.nK g4 e.symm).1 rfl)
  have r5 := (h.k5.alloc (.cells #[.string t] 9)).grown hg (ob_ne_blk aK (h.k5.alloc _) (by decide))
  have r2 := (h.k2.alloc (.cells #[.string t] 9)).grown hg (ob_ne_blk aK (h.k2.alloc _) (by decide))
  have r6 := (h.k6.alloc (.cells #[.string t] 9)).grown hg (ob_ne_blk aK (h.k6.alloc _) (by decide))
  have rn := (h.kn.alloc (.cells #[.string t] 9)).grown hg (ob_ne_blk aK (h.kn.alloc _) (by decide))
  have rV := aV.kept hg (by
    rcases hv : Value.ownBlock (.slice V p.vals.length c2) with _ | k
    · exact .inl rfl
    · exact .inr (fun e => (h.nK k e.symm).2 hv))
  have rU := aU.kept hg (by
    rcases hv : Value.ownBlock (.slice U p.kids.length c3) with _ | k
    · exact .inl rfl
    · refine .inr (fun e => ?_)
      rcases h.oU.2 with ⟨e1, _⟩ | ⟨g, cap, cur, e1, _, hgU, _⟩
      · rw [e1] at hv; simp [Value.ownBlock] at hv
      · rw [e1] at hv
        simp [Value.ownBlock] at hv
        subst hv
        exact own_blk_ne h.oK (g := g) hgU (by decide) g e.symm rfl)
  have hlen : (p.keys ++ [t]).length = p.keys.length + 1 := by simp
  have hst : strs (p.keys ++ [t]) = strs p.keys ++ [.string t] := by simp [strs]
  have hob : ∀ k, Value.ownBlock (.slice K' (p.keys.length + 1) d) = some k → k ≠ g4 ∧ Value.ownBlock (.slice V p.vals.length c2) ≠ some k := fun k hk => by
    rcases hat with e | e
    · rw [e] at hk; exact h.nK k hk
    · rw [e, hsz] at hk
      injection hk with hk
      have := h.k4.lt
      refine ⟨by omega, fun e2 => ?_⟩
      have := (h.oV.lt k e2).2
      omega
  have hx : ∀ {e : TypeId} {n : Nat} {v : Value} {xs : List Value}, e ≠ 26 → W'.ownsRow w.heap.size e 1 v n xs → (W'.setCell ⟨pn, 1, none⟩ (.slice K' (p.keys.length + 1) d)).ownsRow w.heap.size e 1 v n xs := fun he hv =>
    own_only hv ((Only.refl (fun k => k = pn) W').setCell (p := ⟨pn, 1, none⟩) (.inl rfl) _) (fun g hg' e => own_blk_ne hv rn he g hg' e)
  have hbl : Below w.heap.size w W' := (h.bl.alloc h.bs _).grown hg (by rw [hsz]; have := h.bs; omega) (fun k hk => (aK.lt k hk).1)
  refine ⟨hbl.setCell (p := ⟨pn, 1, none⟩) h.lo.2.2.2.2 _, by have := hg.size; have := h.bs; simp [World.setCell]; omega, h.lo, h.ne, r2.far (fun e => h.ne e) _, r6.far (Blk.ne_ r6 rn (by decide)) _, ?_, r5.far (Blk.ne_ r5 rn (by decide)) _, r4.far (Blk.ne_ r4 rn (by decide)) _, ?_, hx (by decide) rV, hx (by decide) rU, ?_, h.nV⟩
  · simp only [hlen]
    exact rn.set_ 1 _
  · simp only [hlen, hst]
    exact hx (by decide) ho
  · simp only [hlen]
    exact hob
/-- a value more -/
theorem DecS.value (h : DecS w b2 g4 g5 g6 pn leaf p K V U c1 c2 c3 u) (t : ByteArray) {W' : World} {V' : Option Addr} {d : Nat}
    (ho : W'.ownsRow w.heap.size 9 1 (.slice V' (p.vals.length + 1) d) (p.vals.length + 1) (strs p.vals ++ [.string t])) (hg : (u.alloc (.cells #[.string t] 9)).grownBy W' (Value.ownBlock (.slice V p.vals.length c2)))
    (hat : Value.ownBlock (.slice V' (p.vals.length + 1) d) = Value.ownBlock (.slice V p.vals.length c2) ∨ Value.ownBlock (.slice V' (p.vals.length + 1) d) = some (u.alloc (.cells #[.string t] 9)).heap.size) :
    DecS w b2 g4 g5 g6 pn leaf { p with vals := p.vals ++ [t] } K V' U c1 d c3 (W'.setCell ⟨pn, 2, none⟩ (.slice V' (p.vals.length + 1) d)) := by
  have hsz : (u.alloc (.cells #[.string t] 9)).heap.size = u.heap.size + 1 := by simp
  have aK := ownAlloc h.oK (.cells #[.string t] 9)
  have aV := ownAlloc h.oV (.cells #[.string t] 9)
  have aU := ownAlloc h.oU (.cells #[.string t] 9)
  have a4 := h.k4.alloc (.cells #[.string t] 9)
  have r4 := a4.grown hg (fun e => h.nV g4 e.symm rfl)
  have r5 := (h.k5.alloc (.cells #[.string t] 9)).grown hg (ob_ne_blk aV (h.k5.alloc _) (by decide))
  have r2 := (h.k2.alloc (.cells #[.string t] 9)).grown hg (ob_ne_blk aV (h.k2.alloc _) (by decide))
  have r6 := (h.k6.alloc (.cells #[.string t] 9)).grown hg (ob_ne_blk aV (h.k6.alloc _) (by decide))
  have rn := (h.kn.alloc (.cells #[.string t] 9)).grown hg (ob_ne_blk aV (h.kn.alloc _) (by decide))
  have rK := aK.kept hg (by
    rcases hv : Value.ownBlock (.slice K p.keys.length c1) with _ | k
    · exact .inl rfl
    · exact .inr (fun e => (h.nK k hv).2 e.symm))
  have rU := aU.kept hg (by
    rcases hv : Value.ownBlock (.slice U p.kids.length c3) with _ | k
    · exact .inl rfl
    · refine .inr (fun e => ?_)
      rcases h.oU.2 with ⟨e1, _⟩ | ⟨g, cap, cur, e1, _, hgU, _⟩
      · rw [e1] at hv; simp [Value.ownBlock] at hv
      · rw [e1] at hv
        simp [Value.ownBlock] at hv
        subst hv
        exact own_blk_ne h.oV (g := g) hgU (by decide) g e.symm rfl)
  have hlen : (p.vals ++ [t]).length = p.vals.length + 1 := by simp
  have hst : strs (p.vals ++ [t]) = strs p.vals ++ [.string t] := by simp [strs]
  have hob : ∀ k, Value.ownBlock (.slice V' (p.vals.length + 1) d) = some k → k ≠ g4 := fun k hk => by
    rcases hat with e | e
    · rw [e] at hk; exact h.nV k hk
    · rw [e, hsz] at hk
      injection hk with hk
      have := h.k4.lt
      omega
  have hob2 : ∀ k, Value.ownBlock (.slice K p.keys.length c1) = some k → k ≠ g4 ∧ Value.ownBlock (.slice V' (p.vals.length + 1) d) ≠ some k := fun k hk => by
    refine ⟨(h.nK k hk).1, fun e2 => ?_⟩
    rcases hat with e | e
    · rw [e] at e2; exact (h.nK k hk).2 e2
    · rw [e, hsz] at e2
      injection e2 with e2
      have := (h.oK.lt k hk).2
      omega
  have hx : ∀ {e : TypeId} {n : Nat} {v : Value} {xs : List Value}, e ≠ 26 → W'.ownsRow w.heap.size e 1 v n xs → (W'.setCell ⟨pn, 2, none⟩ (.slice V' (p.vals.length + 1) d)).ownsRow w.heap.size e 1 v n xs := fun he hv =>
    own_only hv ((Only.refl (fun k => k = pn) W').setCell (p := ⟨pn, 2, none⟩) (.inl rfl) _) (fun g hg' e => own_blk_ne hv rn he g hg' e)
  have hbl : Below w.heap.size w W' := (h.bl.alloc h.bs _).grown hg (by rw [hsz]; have := h.bs; omega) (fun k hk => (aV.lt k hk).1)
  refine ⟨hbl.setCell (p := ⟨pn, 2, none⟩) h.lo.2.2.2.2 _, by have := hg.size; have := h.bs; simp [World.setCell]; omega, h.lo, h.ne, r2.far (fun e => h.ne e) _, r6.far (Blk.ne_ r6 rn (by decide)) _, ?_, r5.far (Blk.ne_ r5 rn (by decide)) _, r4.far (Blk.ne_ r4 rn (by decide)) _, hx (by decide) rK, ?_, hx (by decide) rU, ?_, ?_⟩
  · simp only [hlen]
    exact rn.set_ 2 _
  · simp only [hlen, hst]
    exact hx (by decide) ho
  · simp only [hlen]
    exact hob2
  · simp only [hlen]
    exact hob
/-- a kid more -/
theorem DecS.kid (h : DecS w b2 g4 g5 g6 pn leaf p K V U c1 c2 c3 u) (t : Nat) {W' : World} {U' : Option Addr} {d : Nat}
    (ho : W'.ownsRow w.heap.size 42 1 (.slice U' (p.kids.length + 1) d) (p.kids.length + 1) (kidsV p.kids ++ [.int .u32 (t : Nat)])) (hg : (u.alloc (.cells #[.int .u32 (t : Nat)] 42)).grownBy W' (Value.ownBlock (.slice U p.kids.length c3)))
    (hat : Value.ownBlock (.slice U' (p.kids.length + 1) d) = Value.ownBlock (.slice U p.kids.length c3) ∨ Value.ownBlock (.slice U' (p.kids.length + 1) d) = some (u.alloc (.cells #[.int .u32 (t : Nat)] 42)).heap.size) :
    DecS w b2 g4 g5 g6 pn leaf { p with kids := p.kids ++ [t] } K V U' c1 c2 d (W'.setCell ⟨pn, 3, none⟩ (.slice U' (p.kids.length + 1) d)) := by
  have hsz : (u.alloc (.cells #[.int .u32 (t : Nat)] 42)).heap.size = u.heap.size + 1 := by simp
  have aK := ownAlloc h.oK (.cells #[.int .u32 (t : Nat)] 42)
  have aV := ownAlloc h.oV (.cells #[.int .u32 (t : Nat)] 42)
  have aU := ownAlloc h.oU (.cells #[.int .u32 (t : Nat)] 42)
  have r4 := (h.k4.alloc (.cells #[.int .u32 (t : Nat)] 42)).grown hg (ob_ne_blk aU (h.k4.alloc _) (by decide))
  have r5 := (h.k5.alloc (.cells #[.int .u32 (t : Nat)] 42)).grown hg (ob_ne_blk aU (h.k5.alloc _) (by decide))
  have r2 := (h.k2.alloc (.cells #[.int .u32 (t : Nat)] 42)).grown hg (ob_ne_blk aU (h.k2.alloc _) (by decide))
  have r6 := (h.k6.alloc (.cells #[.int .u32 (t : Nat)] 42)).grown hg (ob_ne_blk aU (h.k6.alloc _) (by decide))
  have rn := (h.kn.alloc (.cells #[.int .u32 (t : Nat)] 42)).grown hg (ob_ne_blk aU (h.kn.alloc _) (by decide))
  have other : ∀ {v : Value} {n : Nat} {xs : List Value}, u.ownsRow w.heap.size 9 1 v n xs → v.ownBlock = none ∨ v.ownBlock ≠ Value.ownBlock (.slice U p.kids.length c3) := by
    intro v n xs hv
    rcases hv.2 with ⟨e1, _⟩ | ⟨g, cap, cur, e1, _, hgU, _⟩
    · left; rw [e1]; rfl
    · right
      rw [e1]
      intro e
      exact own_blk_ne h.oU (g := g) hgU (by decide) g (by simpa [Value.ownBlock] using e.symm) rfl
  have rK := aK.kept hg (other h.oK)
  have rV := aV.kept hg (other h.oV)
  have hlen : (p.kids ++ [t]).length = p.kids.length + 1 := by simp
  have hst : kidsV (p.kids ++ [t]) = kidsV p.kids ++ [.int .u32 (t : Nat)] := by simp [kidsV]
  have hx : ∀ {e : TypeId} {n : Nat} {v : Value} {xs : List Value}, e ≠ 26 → W'.ownsRow w.heap.size e 1 v n xs → (W'.setCell ⟨pn, 3, none⟩ (.slice U' (p.kids.length + 1) d)).ownsRow w.heap.size e 1 v n xs := fun he hv =>
    own_only hv ((Only.refl (fun k => k = pn) W').setCell (p := ⟨pn, 3, none⟩) (.inl rfl) _) (fun g hg' e => own_blk_ne hv rn he g hg' e)
  have hbl : Below w.heap.size w W' := (h.bl.alloc h.bs _).grown hg (by rw [hsz]; have := h.bs; omega) (fun k hk => (aU.lt k hk).1)
  refine ⟨hbl.setCell (p := ⟨pn, 3, none⟩) h.lo.2.2.2.2 _, by have := hg.size; have := h.bs; simp [World.setCell]; omega, h.lo, h.ne, r2.far (fun e => h.ne e) _, r6.far (Blk.ne_ r6 rn (by decide)) _, ?_, r5.far (Blk.ne_ r5 rn (by decide)) _, r4.far (Blk.ne_ r4 rn (by decide)) _, hx (by decide) rK, hx (by decide) rV, ?_, h.nK, h.nV⟩
  · simp only [hlen]
    exact rn.set_ 3 _
  · simp only [hlen, hst]
    exact hx (by decide) ho
end
end Go.Proofs.Ytpggicaphejjfaa
