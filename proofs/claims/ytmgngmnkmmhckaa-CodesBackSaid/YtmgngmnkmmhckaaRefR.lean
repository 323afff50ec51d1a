/-
  The reference's reader: its calls.
-/
import Derived.Test.YtmgngmnkmmhckaaRdTake
set_option linter.unusedVariables false
namespace Go.Proofs.Ytmgngmnkmmhckaa
open Go.RowKit Plain

/-- the reference's reader: its bits lie in a row that no call writes -/
def RrAt (w : World) (h : Nat) (l : List Bool) (a : Nat) : Prop :=
  ∃ A c, Blk w h 29 #[.slice A l.length c, .int .i64 (a : Nat)] ∧ a ≤ l.length ∧ w.ownsRow 0 4 1 (.slice A l.length c) l.length (bs l)
def RrTo (w : World) (h : Nat) (l : List Bool) (a : Nat) (w' : World) : Prop := RrAt w' h l a ∧ Only (fun k => k = h) w w'

theorem SlB.own {w : World} {A : Option Addr} {c n : Nat} {l : List Bool} (h : w.ownsRow 0 4 1 (.slice A n c) n (bs l)) : SlB w A l := by
  intro i hi
  obtain ⟨a, ha, hc⟩ := Src.own h i (.bool (l.getD i false)) (by simp [bs, List.getD, List.getElem?_eq_getElem hi])
  exact ⟨a, ha, hc⟩
theorem SlB.cut {w : World} {A : Option Addr} {l : List Bool} (h : SlB w A l) (k m : Nat) (hm : k + m ≤ l.length) (cap : Nat) (hc : l.length ≤ cap) : SlB w (if cap = k then A else A.map (·.add k)) ((l.drop k).take m) := by
  intro i hi
  have hlm : ((l.drop k).take m).length = m := by rw [List.length_take, List.length_drop]; omega
  rw [hlm] at hi
  obtain ⟨a, rfl, hcell⟩ := h (k + i) (by omega)
  rw [if_neg (by omega)]
  refine ⟨a.add k, rfl, ?_⟩
  rw [addr_add_add, hcell]
  simp only [List.getD, List.getElem?_take, List.getElem?_drop]
  rw [if_pos hi]

theorem blk_set1 {w : World} {h : Nat} {t : TypeId} {x y z : Value} (hb : Blk w h t #[x, y]) : Blk (w.setCell ⟨h, 1, none⟩ z) h t #[x, z] := by
  have := hb.set_ 1 z
  simpa using this
theorem own_drewN {w : World} {base : Nat} {e : TypeId} {size n : Nat} {v : Value} {xs : List Value} (h : w.ownsRow base e size v n xs) (k : Nat) : (w.drewN k).ownsRow base e size v n xs := h
theorem number_len {A : Option Addr} {c n : Nat} {l : List Bool} {w : World} (hn : n = l.length) (hl : l.length ≤ 64) (hA : SlB w A l) :
    Calls Try.prog 49 #[.slice A n c] w fun e w' => e = .returned (.int .u64 (num l : Nat)) ∧ w = w' := by
  subst hn; exact number_any A c l w hl hA
theorem quiet_left2 {P : Program} {f : FuncId} {args : Array Value} {w : World} {a n : Nat} {v : Value}
    (h : Calls P f args (w.drewN (a + n)) fun e w' => e = .returned v ∧ w.drewN (a + n) = w') :
    Calls P f args (w.drewN (a + n)) fun e w'' => e = .returned v ∧ ∃ m, w'' = w.drewN (a + m) :=
  h.mono fun _ _ ⟨he, hm⟩ => ⟨he, n, hm.symm⟩
theorem quiet_left1 {P : Program} {f : FuncId} {args : Array Value} {w : World} {n : Nat} {v : Value}
    (h : Calls P f args (w.drewN n) fun e w' => e = .returned v ∧ w.drewN n = w') : Calls P f args (w.drewN n) fun e w'' => e = .returned v ∧ ∃ m, w'' = w.drewN m :=
  h.mono fun _ _ ⟨he, hm⟩ => ⟨he, n, hm.symm⟩

set_option maxRecDepth 100000 in
set_option maxHeartbeats 2000000 in
theorem rtake_any (h : Nat) (l : List Bool) (a : Nat) (n : Int) (w : World) (hw : RrAt w h l a) (hl : l.length ≤ 134217728) :
    Calls Try.prog 18 #[.pointer (some ⟨h, 0, none⟩), .int .i64 n] w fun e w' => e = .returned (.tuple #[.int .u64 (takeVal l a n), .int .i64 (takeCode l.length a n)]) ∧ RrTo w h l (takeAt l.length a n) w' := by
  have hw0 := hw
  obtain ⟨A, c, hb, ha, hown⟩ := hw
  have hcap : l.length ≤ c := by
    rcases hown.2 with ⟨e, h0⟩ | ⟨g, cap, cur, e, _, _, hc, _⟩
    · injection e with _ e1 e2; omega
    · injection e with _ e1 e2; omega
  have c0 := hb.cell 0
  have c1 := hb.cell 1
  have f1 := hb.frozen 1
  simp at c0 c1
  have HB := Lib.hid (And.intro hb (And.intro hown hw0))
  clear hb hown hw0
  by_cases h1 : n < 0 ∨ 64 < n
  · have e1 : takeCode l.length a n = 1 := by unfold takeCode; rw [if_pos h1]
    have hfin : takeVal l a n = 0 ∧ takeCode l.length a n = 1 ∧ takeAt l.length a n = a :=
      ⟨by unfold takeVal; rw [e1, if_neg (by decide)], e1, by unfold takeAt; rw [e1, if_neg (by decide)]⟩
    have Hf := Lib.hid hfin
    clear e1 hfin
    rcases h1 with h1 | h1
    · go_enter Try.func18, Try.ntmps18
      go_wp2_with fail
      go_ret2
      obtain ⟨q1, q2, q3⟩ := Hf.out
      rw [q1, q2, q3]
      exact ⟨rfl, HB.out.2.2, Only.refl _ _⟩
    · have h2 : ¬ n < 0 := by omega
      go_enter Try.func18, Try.ntmps18
      go_wp2_with fail
      go_ret2
      obtain ⟨q1, q2, q3⟩ := Hf.out
      rw [q1, q2, q3]
      exact ⟨rfl, HB.out.2.2, Only.refl _ _⟩
  · obtain ⟨m, rfl⟩ := Int.eq_ofNat_of_zero_le (show 0 ≤ n by omega)
    have hm : m ≤ 64 := by omega
    have hm2 : ¬ ((m : Int) < 0) := by omega
    have hm3 : ¬ ((64 : Int) < m) := by omega
    by_cases hful : l.length < a + m
    · have e1 : takeCode l.length a m = 4 := by unfold takeCode; rw [if_neg h1, if_pos (by omega)]
      have hfin : takeVal l a m = 0 ∧ takeCode l.length a m = 4 ∧ takeAt l.length a m = a :=
        ⟨by unfold takeVal; rw [e1, if_neg (by decide)], e1, by unfold takeAt; rw [e1, if_neg (by decide)]⟩
      have Hf := Lib.hid hfin
      have hd : decide ((l.length : Int) - (a : Int) < (m : Int)) = true := decide_eq_true (by omega)
      clear e1 hfin h1 hful
      go_enter Try.func18, Try.ntmps18
      go_wp2_with fail
      go_quiet (fail)
      go_wp2_with fail
      go_ret2
      obtain ⟨q1, q2, q3⟩ := Hf.out
      rw [q1, q2, q3]
      obtain ⟨A', c', g1, g2, g3⟩ := HB.out.2.2
      exact ⟨rfl, ⟨A', c', g1.drewN _, g2, g3⟩, (Only.refl _ _).drewN _⟩
    · have e1 : takeCode l.length a m = 0 := by unfold takeCode; rw [if_neg h1, if_neg (by omega)]
      have hfin : takeVal l a m = num ((l.drop a).take m) ∧ takeCode l.length a m = 0 ∧ takeAt l.length a m = a + m :=
        ⟨by unfold takeVal; rw [e1, if_pos rfl]; rfl, e1, by unfold takeAt; rw [e1, if_pos rfl]; rfl⟩
      have Hf := Lib.hid hfin
      have hful2 : a + m ≤ l.length := by omega
      have hd : decide ((l.length : Int) - (a : Int) < (m : Int)) = false := decide_eq_false (by omega)
      have hamc : a + m ≤ c := by omega
      have hac : a ≤ a + m := by omega
      clear e1 hfin h1 hful
      go_enter Try.func18, Try.ntmps18
      go_wp2_with fail
      go_quiet (fail)
      go_wp2_with fail
      have hlm : m = ((l.drop a).take m).length := by rw [List.length_take, List.length_drop]; omega
      have Hlm := Lib.hid hlm
      clear hlm
      go_quiet ((go_at_call 49; exact quiet_left2 (number_len Hlm.out (by rw [← Hlm.out]; exact hm) (SlB.cut (SlB.own (own_drewN HB.out.2.1 _)) a m hful2 c hcap))))
      obtain ⟨hp, rfl⟩ : ∃ hp, hp = h := ⟨_, rfl⟩
      go_wp2_with fail
      all_goals go_ret2
      all_goals obtain ⟨q1, q2, q3⟩ := Hf.out
      all_goals rw [q1, q2, q3]
      all_goals obtain ⟨hb, hown, _⟩ := HB.out
      all_goals refine ⟨rfl, ⟨A, c, ?_, hful2, own_only hown ((((Only.refl (fun k => k = hp) w).drewN _).setCell (p := ⟨hp, 1, none⟩) (.inl rfl) _)) (fun k hk => own_blk_ne hown hb (by decide) k hk)⟩, ((Only.refl (fun k => k = hp) w).drewN _).setCell (p := ⟨hp, 1, none⟩) (.inl rfl) _⟩
      all_goals rw [show ((a : Int) + (m : Int)) = ((a + m : Nat) : Int) by omega]
      all_goals exact blk_set1 (hb.drewN _)

set_option maxHeartbeats 400000 in
theorem rrbit_any (h : Nat) (l : List Bool) (a : Nat) (w : World) (hw : RrAt w h l a) (hl : l.length ≤ 134217728) :
    Calls Try.prog 16 #[.pointer (some ⟨h, 0, none⟩)] w fun e w' => e = .returned (.tuple #[.bool ((takeVal l a 1 : Int) == 1), .int .i64 (takeCode l.length a 1)]) ∧ RrTo w h l (takeAt l.length a 1) w' := by
  go_enter Try.func16, Try.ntmps16
  go_wp2_with (go_at_call 18; refine (rtake_any h l a 1 _ hw hl).mono ?_; rintro e w2 ⟨rfl, hfin⟩; have HF := Lib.hid hfin; clear hfin)
  go_ret2
  exact ⟨rfl, HF.out⟩

def rseekCode (len : Nat) (n : Int) : Int := if n < 0 ∨ (len : Int) < n then 1 else 0
def rseekAt (len a : Nat) (n : Int) : Nat := if rseekCode len n = 0 then n.toNat else a
theorem seekCode_eq (s : ByteArray) (n : Int) : rseekCode (bitsS s).length n = seekCode s.size n := by
  unfold rseekCode seekCode
  rw [length_bitsS]
  have : (((8 * s.size : Nat) : Int) < n) = (8 * (s.size : Int) < n) := by apply propext; omega
  simp only [this]

set_option maxRecDepth 100000 in
set_option maxHeartbeats 1000000 in
theorem rseek_any (h : Nat) (l : List Bool) (a : Nat) (n : Int) (w : World) (hw : RrAt w h l a) (hl : l.length ≤ 134217728) :
    Calls Try.prog 20 #[.pointer (some ⟨h, 0, none⟩), .int .i64 n] w fun e w' => e = .returned (.int .i64 (rseekCode l.length n)) ∧ RrTo w h l (rseekAt l.length a n) w' := by
  have hw0 := hw
  obtain ⟨A, c, hb, ha, hown⟩ := hw
  have c0 := hb.cell 0
  have c1 := hb.cell 1
  have f1 := hb.frozen 1
  simp at c0 c1
  have HB := Lib.hid (And.intro hb (And.intro hown hw0))
  clear hb hown hw0
  by_cases h1 : n < 0
  · have e1 : rseekCode l.length n = 1 := by unfold rseekCode; rw [if_pos (.inl h1)]
    have Hf := Lib.hid e1
    clear e1
    go_enter Try.func20, Try.ntmps20
    go_wp2_with fail
    go_ret
    exact ⟨by rw [Hf.out]; rfl, by unfold rseekAt; rw [Hf.out, if_neg (by decide)]; exact HB.out.2.2, Only.refl _ _⟩
  · by_cases h2 : (l.length : Int) < n
    · have e1 : rseekCode l.length n = 1 := by unfold rseekCode; rw [if_pos (.inr h2)]
      have Hf := Lib.hid e1
      clear e1
      go_enter Try.func20, Try.ntmps20
      go_wp2_with fail
      go_ret
      exact ⟨by rw [Hf.out]; rfl, by unfold rseekAt; rw [Hf.out, if_neg (by decide)]; exact HB.out.2.2, Only.refl _ _⟩
    · have e1 : rseekCode l.length n = 0 := by unfold rseekCode; rw [if_neg (by omega)]
      have Hf := Lib.hid e1
      clear e1
      obtain ⟨m, rfl⟩ := Int.eq_ofNat_of_zero_le (show 0 ≤ n by omega)
      go_enter Try.func20, Try.ntmps20
      go_wp2_with fail
      go_ret
      refine ⟨by rw [Hf.out]; rfl, ?_, (Only.refl (fun k => k = h) w).setCell (p := ⟨h, 1, none⟩) (.inl rfl) _⟩
      unfold rseekAt
      rw [Hf.out, if_pos rfl]
      obtain ⟨hb, hown, _⟩ := HB.out
      exact ⟨A, c, blk_set1 hb, by simp; omega, own_only hown ((Only.refl (fun k => k = h) w).setCell (p := ⟨h, 1, none⟩) (.inl rfl) _) (fun k hk => own_blk_ne hown hb (by decide) k hk)⟩
end Go.Proofs.Ytmgngmnkmmhckaa
