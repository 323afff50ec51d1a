/-
  Plain facts for BitioBack: numbers of given widths, one behind the other, and read again.
-/
import Derived.Test.YtmgngmnkmmhckaaLWrites
set_option linter.unusedVariables false
namespace Go.Proofs.Ytmgngmnkmmhckaa
open Go.RowKit Plain

def wN (N : Int) : Nat := ((Int.tmod N 65 + 65) % 65).toNat
def wV (V n : Nat) : Nat := if n < 64 then V % 2 ^ n else V
theorem wN_lt (N : Int) : wN N < 65 := by unfold wN; omega
theorem tmod65 (N : Int) : -65 < Int.tmod N 65 ∧ Int.tmod N 65 < 65 := by
  rcases Int.le_total 0 N with h | h
  · rw [Int.tmod_eq_emod_of_nonneg h]; omega
  · have h2 : N = -(-N) := by omega
    rw [h2, Int.neg_tmod, Int.tmod_eq_emod_of_nonneg (by omega : 0 ≤ -N)]; omega
theorem wV_lt (V n : Nat) (hV : V < 18446744073709551616) (hn : n ≤ 64) : wV V n < 2 ^ n := by
  unfold wV
  split
  · exact Nat.mod_lt _ (Nat.pow_pos (by decide))
  · have : n = 64 := by omega
    subst this
    simpa using hV
theorem wV_lt64 (V n : Nat) (hV : V < 18446744073709551616) : wV V n < 18446744073709551616 := by
  unfold wV
  split
  · exact Nat.lt_of_le_of_lt (Nat.mod_le _ _) hV
  · exact hV

def BB (N : Nat → Int) (V : Nat → Nat) (k : Nat) : List Bool := (List.range k).flatMap fun i => bitsOf (wV (V i) (wN (N i))) (wN (N i))
theorem BB_zero (N : Nat → Int) (V : Nat → Nat) : BB N V 0 = [] := rfl
theorem BB_succ (N : Nat → Int) (V : Nat → Nat) (k : Nat) : BB N V (k + 1) = BB N V k ++ bitsOf (wV (V k) (wN (N k))) (wN (N k)) := by
  unfold BB
  rw [List.range_succ, List.flatMap_append]
  simp
theorem BB_len (N : Nat → Int) (V : Nat → Nat) (k : Nat) : (BB N V k).length ≤ 64 * k := by
  induction k with
  | zero => simp [BB]
  | succ k ih =>
    rw [BB_succ, List.length_append, length_bitsOf]
    have := wN_lt (N k)
    omega
theorem BB_pre (N : Nat → Int) (V : Nat → Nat) (i m : Nat) (h : i ≤ m) : ∃ r, BB N V m = BB N V i ++ r := by
  induction m with
  | zero => exact ⟨[], by have : i = 0 := by omega
                          subst this; simp⟩
  | succ m ih =>
    by_cases hi : i ≤ m
    · obtain ⟨r, hr⟩ := ih hi
      exact ⟨r ++ bitsOf (wV (V m) (wN (N m))) (wN (N m)), by rw [BB_succ, hr, List.append_assoc]⟩
    · have : i = m + 1 := by omega
      subst this
      exact ⟨[], by simp⟩

theorem sN_strOf (b : List Nat) (hb : ∀ k, b.getD k 0 < 256) : sN (strOf b) = b := by
  unfold sN strOf
  simp only [List.map_map]
  refine List.ext_getElem (by simp) fun k h1 h2 => ?_
  simp only [List.getElem_map, Function.comp]
  have hk := hb k
  rw [List.getD, List.getElem?_eq_getElem h2] at hk
  simp only [Option.getD_some] at hk
  rw [UInt8.toNat_ofNat']
  exact Nat.mod_eq_of_lt (by simpa using hk)
theorem size_strOf (b : List Nat) : (strOf b).size = b.length := by simp [strOf, ByteArray.size]
theorem bitsS_strOf (B : List Bool) : bitsS (strOf (pk B)) = B ++ List.replicate (8 * ((B.length + 7) / 8) - B.length) false := by
  unfold bitsS
  rw [sN_strOf _ (pk_lt B), bytesBits_pk]
theorem size_text (B : List Bool) : (strOf (pk B)).size = (B.length + 7) / 8 := by rw [size_strOf, length_pk]

theorem take_mid (A X R : List Bool) (n a : Nat) (ha : a = A.length) (hn : n = X.length) : ((A ++ (X ++ R)).drop a).take n = X := by
  subst ha; subst hn
  rw [List.drop_left' rfl, List.take_left' rfl]

theorem back_take (N : Nat → Int) (V : Nat → Nat) (hV : ∀ i, V i < 18446744073709551616) (i m : Nat) (h : i < m) :
    num (((bitsS (strOf (pk (BB N V m)))).drop (BB N V i).length).take (wN (N i))) = wV (V i) (wN (N i)) := by
  obtain ⟨r, hr⟩ := BB_pre N V (i + 1) m h
  rw [bitsS_strOf, hr, BB_succ, List.append_assoc, List.append_assoc, take_mid _ _ _ _ _ rfl (length_bitsOf _ _).symm, num_bitsOf]
  exact Nat.mod_eq_of_lt (wV_lt _ _ (hV i) (by have := wN_lt (N i); omega))
theorem num_zeros (n : Nat) : num (List.replicate n false) = 0 := by
  induction n with
  | zero => rfl
  | succ n ih => rw [List.replicate_succ', num_snoc, ih]; rfl
theorem back_rest (B : List Bool) (n : Nat) : num (((bitsS (strOf (pk B))).drop B.length).take n) = 0 := by
  rw [bitsS_strOf, List.drop_left' rfl, List.take_replicate]
  exact num_zeros _
theorem back_fits (N : Nat → Int) (V : Nat → Nat) (i m : Nat) (h : i < m) : (BB N V i).length + wN (N i) ≤ (BB N V m).length := by
  obtain ⟨r, hr⟩ := BB_pre N V (i + 1) m h
  rw [hr, BB_succ, List.length_append, List.length_append, length_bitsOf]
  omega

/-! both writers and the list of places -/
def ints (l : List Nat) : List Value := l.map fun (x : Nat) => .int .i64 x
theorem length_ints (l : List Nat) : (ints l).length = l.length := by simp [ints]
def ats (N : Nat → Int) (V : Nat → Nat) (k : Nat) : List Nat := (List.range k).map fun i => (BB N V i).length
theorem ats_succ (N : Nat → Int) (V : Nat → Nat) (k : Nat) : ats N V (k + 1) = ats N V k ++ [(BB N V k).length] := by unfold ats; rw [List.range_succ, List.map_append]; rfl
theorem length_ats (N : Nat → Int) (V : Nat → Nat) (k : Nat) : (ats N V k).length = k := by simp [ats]

structure Back (w0 w : World) (h1 h4 : Nat) (o1 o4 : Option Nat) (l1 l4 : List Bool) (v : Value) (xs : List Nat) : Prop where
  a1 : WrAt w h1 o1 l1
  a4 : WrAt w h4 o4 l4
  row : w.ownsRow 0 3 1 v xs.length (ints xs)
  gv : Ge w0.heap.size v.ownBlock
  ne : h1 ≠ h4
  apart : Apart o1 o4
  below : Below w0.heap.size w0 w
  g1 : w0.heap.size ≤ h1
  g4 : w0.heap.size ≤ h4
  e1 : Ge w0.heap.size o1
  e4 : Ge w0.heap.size o4

theorem WrAt.row_ne {w : World} {h : Nat} {o : Option Nat} {l : List Bool} {v : Value} {xs : List Value} {n : Nat} (a : WrAt w h o l) (r : w.ownsRow 0 3 1 v n xs) : ∀ g, v.ownBlock = some g → ¬ WrFoot h o g := by
  obtain ⟨sv, b, ro, rfl⟩ := a
  rintro g hg (rfl | hk)
  · exact own_blk_ne r b (by decide) _ hg rfl
  · exact own_own_ne r ro (by decide) g hg hk

theorem Back.first {w0 w w1 : World} {h1 h4 : Nat} {o1 o4 : Option Nat} {l1 l4 l' : List Bool} {v : Value} {xs : List Nat} (t : Back w0 w h1 h4 o1 o4 l1 l4 v xs) (p : WrTo w h1 o1 l' w1) :
    ∃ o1', Back w0 w1 h1 h4 o1' o4 l' l4 v xs := by
  obtain ⟨o1', b1, b2, b3⟩ := p
  have d := WrAt.two_ne t.a1 t.a4 t.ne t.apart
  refine ⟨o1', b1, t.a4.only b2 (fun k hk hf => d k hf hk), own_only t.row b2 (WrAt.row_ne t.a1 t.row), t.gv, t.ne, b3.apart t.apart t.a4.lto, ?_, t.g1, t.g4, b3.geq t.e1 t.below.size, t.e4⟩
  refine below_only t.below b2 t.below.size ?_
  rintro i (rfl | h)
  · exact t.g1
  · exact t.e1 i h
theorem Back.second {w0 w w1 : World} {h1 h4 : Nat} {o1 o4 : Option Nat} {l1 l4 l' : List Bool} {v : Value} {xs : List Nat} (t : Back w0 w h1 h4 o1 o4 l1 l4 v xs) (p : WrTo w h4 o4 l' w1) :
    ∃ o4', Back w0 w1 h1 h4 o1 o4' l1 l' v xs := by
  obtain ⟨o4', b1, b2, b3⟩ := p
  have d := WrAt.two_ne t.a1 t.a4 t.ne t.apart
  refine ⟨o4', t.a1.only b2 d, b1, own_only t.row b2 (WrAt.row_ne t.a4 t.row), t.gv, t.ne, (b3.apart t.apart.symm t.a1.lto).symm, ?_, t.g1, t.g4, t.e1, b3.geq t.e4 t.below.size⟩
  refine below_only t.below b2 t.below.size ?_
  rintro i (rfl | h)
  · exact t.g4
  · exact t.e4 i h
theorem Back.place {w0 w w1 : World} {h1 h4 : Nat} {o1 o4 : Option Nat} {l1 l4 : List Bool} {v v' : Value} {xs : List Nat} {x : Nat} {o : Obj} (t : Back w0 w h1 h4 o1 o4 l1 l4 v xs)
    (hown : w1.ownsRow 0 3 1 v' (xs.length + 1) (ints xs ++ [.int .i64 x])) (hg : (w.alloc o).grownBy w1 v.ownBlock) (hat : v'.ownBlock = v.ownBlock ∨ v'.ownBlock = some (w.heap.size + 1)) :
    Back w0 w1 h1 h4 o1 o4 l1 l4 v' (xs ++ [x]) := by
  have hx : ints (xs ++ [x]) = ints xs ++ [.int .i64 x] := by simp [ints]
  have ho : Only (fun k => v.ownBlock = some k) w w1 := ((Only.refl _ _).alloc o).grown hg (fun g hg => .inl hg)
  refine ⟨t.a1.only ho (fun k hk hf => WrAt.row_ne t.a1 t.row k hf hk), t.a4.only ho (fun k hk hf => WrAt.row_ne t.a4 t.row k hf hk), by rw [List.length_append, hx]; exact hown, ?_, t.ne, t.apart, ?_, t.g1, t.g4, t.e1, t.e4⟩
  · intro k hk
    rcases hat with h | h
    · exact t.gv k (h ▸ hk)
    · rw [h] at hk; injection hk with hk; have := t.below.size; omega
  · exact below_only t.below ho t.below.size (fun i hi => t.gv i hi)
end Go.Proofs.Ytmgngmnkmmhckaa
