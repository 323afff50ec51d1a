/-
  A writer of the program in memory, and its calls.
-/
import Derived.Test.YtmgngmnkmmhckaaMem
import Derived.Test.YtmgngmnkmmhckaaBits
import Derived.Deep.QuietTactic
import Derived.BigQuiet
import Derived.BigRegion
import Derived.StillTailTactics
import Derived.Deep.DeepCutAuto
import Derived.Deep.LoopGhost
import Derived.Laws.BitsAllLaws
set_option linter.unusedVariables false
namespace Go.Proofs.Ytmgngmnkmmhckaa
open Go.RowKit Plain

def u8s (xs : List Nat) : List Value := xs.map fun (x : Nat) => .int .u8 x
theorem length_u8s (xs : List Nat) : (u8s xs).length = xs.length := by simp [u8s]
theorem u8s_append (xs ys : List Nat) : u8s (xs ++ ys) = u8s xs ++ u8s ys := by simp [u8s]
theorem u8s_get {xs : List Nat} {k : Nat} (hk : k < xs.length) : (u8s xs)[k]? = some (.int .u8 (xs.getD k 0 : Nat)) := by
  simp [u8s, List.getD, List.getElem?_eq_getElem hk]
theorem u8s_set (xs : List Nat) (k y : Nat) : (u8s xs).set k (.int .u8 y) = u8s (xs.set k y) := by
  simp [u8s, List.map_set]

def WrAt (w : World) (h : Nat) (o : Option Nat) (l : List Bool) : Prop :=
  ∃ v, Blk w h 93 #[v, .int .i64 l.length] ∧ w.ownsRow 0 5 1 v (pk l).length (u8s (pk l)) ∧ v.ownBlock = o
def WrFoot (h : Nat) (o : Option Nat) (k : Nat) : Prop := k = h ∨ o = some k
def Fresh (w : World) (o o' : Option Nat) : Prop := o' = o ∨ ∃ g, o' = some g ∧ w.heap.size ≤ g
def WrTo (w : World) (h : Nat) (o : Option Nat) (l' : List Bool) (w' : World) : Prop :=
  ∃ o', WrAt w' h o' l' ∧ Only (WrFoot h o) w w' ∧ Fresh w o o'

section
variable {F : Nat → Prop} {w w' w1 w2 : World} {h : Nat} {o o1 : Option Nat} {l l' : List Bool}
theorem WrAt.lt (hw : WrAt w h o l) : h < w.heap.size := by obtain ⟨v, hb, _⟩ := hw; exact hb.lt
theorem WrAt.lto (hw : WrAt w h o l) : ∀ k, o = some k → k < w.heap.size := by
  obtain ⟨v, hb, ho, rfl⟩ := hw; exact own_lt ho
theorem WrAt.only (hw : WrAt w h o l) (ho : Only F w w') (hn : ∀ k, WrFoot h o k → ¬ F k) : WrAt w' h o l := by
  obtain ⟨v, hb, hr, rfl⟩ := hw
  exact ⟨v, hb.only ho (hn h (.inl rfl)), own_only hr ho (fun g hg => hn g (.inr hg)), rfl⟩
theorem Fresh.refl (w : World) (o : Option Nat) : Fresh w o o := .inl rfl
theorem Fresh.trans {o2 : Option Nat} (h1 : Fresh w o o1) (hs : w.heap.size ≤ w1.heap.size) (h2 : Fresh w1 o1 o2) : Fresh w o o2 := by
  rcases h2 with rfl | ⟨g, rfl, hg⟩
  · exact h1
  · exact .inr ⟨g, rfl, by omega⟩
theorem WrTo.refl (hw : WrAt w h o l) : WrTo w h o l w := ⟨o, hw, Only.refl _ _, .inl rfl⟩
theorem WrTo.trans (hl : ∀ k, o = some k → k < w.heap.size) (h1 : Only (WrFoot h o) w w1) (f1 : Fresh w o o1) (h2 : WrTo w1 h o1 l' w2) : WrTo w h o l' w2 := by
  obtain ⟨o2, hw2, ho2, f2⟩ := h2
  refine ⟨o2, hw2, h1.trans ho2 ?_, f1.trans h1.size f2⟩
  rintro i hi (rfl | rfl)
  · exact .inl rfl
  · rcases f1 with f1 | ⟨g, hg, hg2⟩
    · exact .inr f1.symm
    · injection hg with hg; omega
end

def Mid (wr : World) (h : Nat) (o1 : Option Nat) (l : List Bool) (wx : World) : Prop :=
  ∃ g m cap : Nat, Blk wx h 93 #[.slice (some ⟨g, 0, none⟩) (m+1) cap, .int .i64 (l.length : Nat)] ∧ wx.ownsRow 0 5 1 (.slice (some ⟨g, 0, none⟩) (m+1) cap) (m+1) (u8s (pk (l ++ [false]))) ∧
    m = l.length / 8 ∧ Only (WrFoot h o1) wr wx ∧ Fresh wr o1 (some g)

theorem mask_u64 (T : Nat) (hT : T ≤ 8) : IntKind.u64.wrap (IntKind.u64.wrap (2 ^ T) - 1) = ((2 ^ T - 1 : Nat) : Int) := by
  have : T = 0 ∨ T = 1 ∨ T = 2 ∨ T = 3 ∨ T = 4 ∨ T = 5 ∨ T = 6 ∨ T = 7 ∨ T = 8 := by omega
  rcases this with rfl | rfl | rfl | rfl | rfl | rfl | rfl | rfl | rfl <;> decide
theorem and7 (n : Nat) (hn : n < 9223372036854775808) : bits BinOp.and IntKind.i64 (n : Int) 7 = ((n % 8 : Nat) : Int) := by
  have h := nat_mask3 n
  show IntKind.i64.wrap ((BitVec.ofInt 64 (n : Int) &&& BitVec.ofInt 64 (7 : Int)).toNat : Int) = _
  have h7 : (BitVec.ofInt 64 (7 : Int)).toNat = 7 := by decide
  have hnn : (BitVec.ofInt 64 (n : Int)).toNat = n := by
    rw [BitVec.ofInt_natCast, BitVec.toNat_ofNat]; exact Nat.mod_eq_of_lt (by omega)
  rw [BitVec.toNat_and, h7, hnn, h, IntKind.wrap_i64]
  omega
theorem put_byte (x v s T r : Nat) (hx : x < 256) (hv : v < 18446744073709551616) (hT : T ≤ 8 - r) :
    bits BinOp.or IntKind.u8 (x : Int) (bits BinOp.and IntKind.u64 ((v : Int) / 2 ^ s) (IntKind.u64.wrap (IntKind.u64.wrap (2 ^ T) - 1)) % 256 * 2 ^ (8 - r - T) % 256) = ((x ||| (v / 2 ^ s % 2 ^ T) * 2 ^ (8 - r - T) : Nat) : Int) := by
  have h1 : ((v : Int) / 2 ^ s) = ((v / 2 ^ s : Nat) : Int) := by simp
  have hvs : v / 2 ^ s < 18446744073709551616 := Nat.lt_of_le_of_lt (Nat.div_le_self _ _) hv
  have hm : (2 ^ T - 1 : Nat) < 18446744073709551616 := by
    have : 2 ^ T ≤ 2 ^ 8 := Nat.pow_le_pow_right (by decide) (by omega)
    have e : (2 : Nat) ^ 8 = 256 := by decide
    omega
  rw [mask_u64 T (by omega), h1, u64_and_nat _ _ hvs hm, Nat.and_two_pow_sub_one_eq_mod]
  have hq : v / 2 ^ s % 2 ^ T < 2 ^ T := Nat.mod_lt _ (Nat.pow_pos (by decide))
  have hT8 : 2 ^ T ≤ 2 ^ 8 := Nat.pow_le_pow_right (by decide) (by omega)
  have e8 : (2 : Nat) ^ 8 = 256 := by decide
  have h2 : (((v / 2 ^ s % 2 ^ T : Nat) : Int) % 256) = ((v / 2 ^ s % 2 ^ T : Nat) : Int) := by omega
  rw [h2]
  have h3 : (v / 2 ^ s % 2 ^ T) * 2 ^ (8 - r - T) < 256 := by
    have h4 : (v / 2 ^ s % 2 ^ T) * 2 ^ (8 - r - T) < 2 ^ T * 2 ^ (8 - r - T) := Nat.mul_lt_mul_of_pos_right hq (Nat.pow_pos (by decide))
    rw [← Nat.pow_add] at h4
    have h5 : 2 ^ (T + (8 - r - T)) ≤ 2 ^ 8 := Nat.pow_le_pow_right (by decide) (by omega)
    omega
  have h6 : (((v / 2 ^ s % 2 ^ T : Nat) : Int) * 2 ^ (8 - r - T)) = (((v / 2 ^ s % 2 ^ T) * 2 ^ (8 - r - T) : Nat) : Int) := by rw [Int.natCast_mul, Int.natCast_pow]; rfl
  rw [h6]
  have h7 : ((((v / 2 ^ s % 2 ^ T) * 2 ^ (8 - r - T) : Nat) : Int) % 256) = (((v / 2 ^ s % 2 ^ T) * 2 ^ (8 - r - T) : Nat) : Int) := by omega
  rw [h7, u8_or_nat _ _ hx h3]

/-- what a round of 'put' leaves -/
theorem put_close {wr wx : World} {h g m cap : Nat} {o1 : Option Nat} {l : List Bool} {r T q n : Nat} (hr : r = l.length % 8) (hT0 : 0 < T) (hT : T ≤ 8 - r) (hq : q < 2 ^ T) (hm : m = l.length / 8)
    (hb : Blk wx h 93 #[.slice (some ⟨g, 0, none⟩) (m+1) cap, .int .i64 (l.length : Nat)]) (hown : wx.ownsRow 0 5 1 (.slice (some ⟨g, 0, none⟩) (m+1) cap) (m+1) (u8s (pk (l ++ [false]))))
    (ho : Only (WrFoot h o1) wr wx) (hf : Fresh wr o1 (some g)) :
    WrTo wr h o1 (l ++ bitsOf q T) (((wx.drewN n).setCell ⟨g, m, none⟩ (.int .u8 (((pk (l ++ [false])).getD m 0 ||| q * 2 ^ (8 - r - T) : Nat)))).setCell ⟨h, 1, none⟩ (.int .i64 (l.length + T : Nat))) := by
  have hne := own_blk_ne hown hb (by decide)
  have hgh : g ≠ h := hne g rfl
  have hst := pk_step l r T q hr.symm hT0 hT hq
  rw [← hm] at hst
  have hlen : (pk (l ++ bitsOf q T)).length = m + 1 := by rw [length_pk, List.length_append, length_bitsOf]; omega
  have h1 := (hown.stored m (.int .u8 (((pk (l ++ [false])).getD m 0 ||| q * 2 ^ (8 - r - T) : Nat)))).1
  rw [u8s_set, hst] at h1
  refine ⟨some g, ⟨.slice (some ⟨g, 0, none⟩) (m+1) cap, ?_, ?_, rfl⟩, ?_, hf⟩
  · have h2 := ((hb.drewN n).far (p := ⟨g, m, none⟩) (by exact Ne.symm hgh) (.int .u8 (((pk (l ++ [false])).getD m 0 ||| q * 2 ^ (8 - r - T) : Nat)))).set_ 1 (.int .i64 (l.length + T : Nat))
    rw [List.length_append, length_bitsOf]
    simpa using h2
  · rw [hlen]
    exact own_only h1 (((Only.refl (fun k => k = h) _).drewN n).setCell (p := ⟨h, 1, none⟩) (.inl rfl) _) (fun k hk => by
      have : g = k := by simpa [Value.ownBlock] using hk
      omega)
  · refine ((ho.drewN n).setCell ?_ _).setCell (.inl (.inl rfl)) _
    rcases hf with hf | ⟨g', hg', hl⟩
    · exact .inl (.inr hf.symm)
    · injection hg' with hg'
      exact .inr (by simpa [hg'] using hl)

theorem pk_false (l : List Bool) : pk (l ++ [false]) = if l.length % 8 = 0 then pk l ++ [0] else pk l := by
  split
  · rename_i h; exact (pk_room0 l h).symm
  · rename_i h; exact (pk_room l h).symm
end Go.Proofs.Ytmgngmnkmmhckaa
