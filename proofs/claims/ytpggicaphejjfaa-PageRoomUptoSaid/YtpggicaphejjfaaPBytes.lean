/-
  How many bytes a node needs: both sides.
-/
import Derived.Test.YtpggicaphejjfaaPKeys
set_option linter.unusedVariables false
namespace Go.Proofs.Ytpggicaphejjfaa
open Go.RowKit

/-- the sizes of the first k texts, with something beside each -/
def szs (l : List ByteArray) (b : Nat) : Nat → Nat
  | 0 => 0
  | k + 1 => szs l b k + ((l.getD k ⟨#[]⟩).size + b)
theorem szs_le (l : List ByteArray) (b : Nat) : ∀ {k n : Nat}, k ≤ n → szs l b k ≤ szs l b n
  | k, 0, h => by have : k = 0 := by omega
                  subst this; exact Nat.le_refl _
  | k, n + 1, h => by
    rcases Nat.eq_or_lt_of_le h with e | e
    · subst e; exact Nat.le_refl _
    · have := szs_le l b (k := k) (n := n) (by omega)
      show szs l b k ≤ szs l b n + _
      omega

theorem wrap_step {m : Int} {X d : Nat} (h : m = wrap64 (X : Int)) : wrap64 (m + (d : Int)) = wrap64 ((X + d : Nat) : Int) := by
  subst h
  unfold wrap64
  omega
theorem wrap_ofNat {X : Nat} (h : X ≤ 9223372036854775807) : wrap64 (X : Int) = (X : Int) := IntWalk.wrap64_in _ (by omega)
/-- a text that came in is no longer than the form's reach -/
def Szd (l : List ByteArray) : Prop := ∀ i, (l.getD i ⟨#[]⟩).size ≤ 140737488355328

set_option maxRecDepth 100000 in
set_option maxHeartbeats 2000000 in
theorem add_any (A : Option Addr) (c b gx : Nat) (t : Nat) (l : List ByteArray) (w : World) (hl : l.length ≤ 9223372036854775807) (hb : b ≤ 3) (hs : StrR w A l) (hx : Blk w gx 3 #[.int .i64 (wrap64 t)]) (hA : 0 < l.length → ∀ p, A = some p → p.block ≠ gx)
    (hT : Szd l) :
    Calls Try.prog 38 #[.slice A l.length c, .int .i64 b, .pointer (some ⟨gx, 0, none⟩)] w fun e w' => e = .returned (.tuple #[]) ∧ Blk w' gx 3 #[.int .i64 (wrap64 ((t + szs l b l.length : Nat) : Int))] ∧ Only (fun k => k = gx) w w' := by
  obtain ⟨N, hN⟩ : ∃ N, N = l.length := ⟨_, rfl⟩
  rw [← hN] at hl ⊢
  have HS := Lib.hid (And.intro hs (And.intro hN (And.intro hT (And.intro hx hA))))
  clear hs hN hT hx hA
  go_enter Try.func38, Try.ntmps38
  go_wp2_with fail
  go_loopg [9] N (fun g i wr => ∃ k : Nat, k + g = N ∧ i = .int .i64 k ∧ Blk wr gx 3 #[.int .i64 (wrap64 ((t + szs l b k : Nat) : Int))] ∧ Only (fun k => k = gx) w wr)
  case atStart => exact ⟨0, by omega, rfl, HS.out.2.2.2.1, Only.refl _ _⟩
  case round =>
    obtain ⟨k, hk, rfl, hbk, ho⟩ := hrel
    by_cases hlt : k < N
    · obtain ⟨bl, off, rfl, hbl, hcl⟩ := HS.out.1 (by rw [← HS.out.2.1]; omega)
      have hcell := (ho.cell (p := ⟨bl, off + k, none⟩) hbl (fun e => HS.out.2.2.2.2 (by rw [← HS.out.2.1]; omega) _ rfl e)).trans (hcl k (by rw [← HS.out.2.1]; exact hlt))
      have hz1 := HS.out.2.2.1 k
      obtain ⟨x, hx⟩ : ∃ x, x = l.getD k ⟨#[]⟩ := ⟨_, rfl⟩
      rw [← hx] at hcell hz1
      obtain ⟨z, hz⟩ : ∃ z, z = x.size := ⟨_, rfl⟩
      rw [← hz] at hz1
      obtain ⟨m, hm⟩ : ∃ m, m = wrap64 ((t + szs l b k : Nat) : Int) := ⟨_, rfl⟩
      have hnext : t + szs l b (k + 1) = (t + szs l b k) + (z + b) := by show t + (szs l b k + ((l.getD k ⟨#[]⟩).size + b)) = _; rw [← hx, hz]; omega
      have hstep := wrap_step (d := z + b) hm
      rw [← hnext] at hstep
      rw [← hm] at hbk
      have x0 := hbk.cell 0
      have f0 := hbk.frozen 0
      simp at x0
      have hz' : x.size = z := hz.symm
      obtain ⟨zb, hzbe⟩ : ∃ zb, zb = z + b := ⟨_, rfl⟩
      rw [← hzbe] at hstep
      obtain ⟨y, hy⟩ : ∃ y, y = wrap64 (m + (zb : Int)) := ⟨_, rfl⟩
      rw [← hy] at hstep
      have hst : Blk (wr.setCell ⟨gx, 0, none⟩ (.int .i64 y)) gx 3 #[.int .i64 (wrap64 ((t + szs l b (k + 1) : Nat) : Int))] := by
        rw [← hstep]; exact hbk.set_ 0 _
      have hoo : Only (fun k => k = gx) w (wr.setCell ⟨gx, 0, none⟩ (.int .i64 y)) := ho.setCell (p := ⟨gx, 0, none⟩) (.inl rfl) _
      have hzb1 : (z : Int) + (b : Int) = (zb : Int) := by omega
      have hy1 : wrap64 (m + (zb : Int)) = y := hy.symm
      have hzb2 : zb ≤ 140737488360000 := by omega
      have hzb : z ≤ 140737488360000 := by omega
      have HX := Lib.hid (And.intro hst hoo)
      clear hzbe hy hst hoo hx hm hnext hcl hbk ho hz hstep hz1
      go_wp2_with fail
      go_roundg (gk - 1)
      case measure => omega
      case rel => exact ⟨k + 1, by omega, by go_num, HX.out.1, HX.out.2⟩
    · have hk2 : k = N := by omega
      subst hk2
      have HX := Lib.hid (And.intro hbk ho)
      clear hbk ho
      go_wp2_with fail
      go_end0
      exact ⟨rfl, HX.out.1, HX.out.2⟩
end Go.Proofs.Ytpggicaphejjfaa
