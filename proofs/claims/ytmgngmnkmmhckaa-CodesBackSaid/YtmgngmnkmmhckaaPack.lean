/-
  Pack, the program's and the reference's.
-/
import Derived.Test.YtmgngmnkmmhckaaLBack
set_option linter.unusedVariables false
namespace Go.Proofs.Ytmgngmnkmmhckaa
open Go.RowKit Plain

def packBits (l : List Nat) (n : Nat) : List Bool := l.flatMap fun v => bitsOf v n
theorem length_packBits (l : List Nat) (n : Nat) : (packBits l n).length = l.length * n := by
  induction l with
  | nil => simp [packBits]
  | cons v l ih =>
    have : packBits (v :: l) n = bitsOf v n ++ packBits l n := by simp [packBits]
    rw [this, List.length_append, length_bitsOf, ih, List.length_cons, Nat.add_mul]; omega
theorem packBits_snoc (l : List Nat) (v n : Nat) : packBits (l ++ [v]) n = packBits l n ++ bitsOf v n := by simp [packBits]

def packOk (l : List Nat) (n : Int) : Bool := decide (1 ≤ n) && decide (n ≤ 64) && decide (l.length ≤ 134217728 / n.toNat) && l.all fun v => decide (v < 2 ^ n.toNat)
def packS (l : List Nat) (n : Int) : ByteArray := if packOk l n = true then strOf (pk (packBits l n.toNat)) else ⟨#[]⟩
def packC (l : List Nat) (n : Int) : Int := if packOk l n = true then 0 else 1

/-- a slice of numbers that reads as a list -/
def SlU (w : World) (A : Option Addr) (l : List Nat) : Prop := ∀ i, i < l.length → ∃ a, A = some a ∧ w.cell? (a.add i) = some (.int .u64 (l.getD i 0 : Nat))
theorem SlU.below {w w' : World} {A : Option Addr} {l : List Nat} (h : SlU w A l) (hb : Below w.heap.size w w') : SlU w' A l := by
  intro i hi
  obtain ⟨a, rfl, hc⟩ := h i hi
  exact ⟨a, rfl, (hb.cell (World.block_lt_of_cell? w _ hc)).trans hc⟩
theorem take_snocN (l : List Nat) (k : Nat) (h : k < l.length) : l.take (k + 1) = l.take k ++ [l.getD k 0] := by
  rw [List.take_succ_eq_append_getElem h]
  simp [List.getD, List.getElem?_eq_getElem h]

theorem pack_no {l : List Nat} {n : Int} (h : packOk l n = false) : packS l n = ⟨#[]⟩ ∧ packC l n = 1 := by
  unfold packS packC; rw [h]; simp
theorem pack_yes {l : List Nat} {n : Int} (h : packOk l n = true) : packS l n = strOf (pk (packBits l n.toNat)) ∧ packC l n = 0 := by
  unfold packS packC; rw [h]; simp

theorem pput {h : Nat} {o : Option Nat} {l : List Bool} {w : World} {v n : Nat} (hw : WrAt w h o l) (hv : v < 2 ^ n) (hv64 : v < 18446744073709551616) (hn : n ≤ 64) (hl : l.length + n ≤ 134217728) :
    Calls Try.prog 26 #[.pointer (some ⟨h, 0, none⟩), .int .u64 v, .int .i64 n] w fun e w' => e = .returned (.int .i64 0) ∧ WrTo w h o (l ++ bitsOf v n) w' := by
  have hc : putCode l.length v n = 0 := putCode_ok (by simp [hv]; omega) (by omega)
  have hb : putBits l v n = l ++ bitsOf v n := by unfold putBits; rw [hc, if_pos rfl]; rfl
  have := wput_any h o l v n w hv64 hw (by omega)
  rw [hb, hc] at this
  exact this
theorem pput_no {h : Nat} {o : Option Nat} {l : List Bool} {w : World} {v n : Nat} (hw : WrAt w h o l) (hv : ¬ v < 2 ^ n) (hv64 : v < 18446744073709551616) (hl : l.length ≤ 134217728) :
    Calls Try.prog 26 #[.pointer (some ⟨h, 0, none⟩), .int .u64 v, .int .i64 n] w fun e w' => e = .returned (.int .i64 1) ∧ WrTo w h o l w' := by
  have hc : putCode l.length v n = 1 := putCode_arg (by simp; right; right; omega)
  have hb : putBits l v n = l := by unfold putBits; rw [hc, if_neg (by decide)]
  have := wput_any h o l v n w hv64 hw hl
  rw [hb, hc] at this
  exact this

theorem below_wr {w0 w w' : World} {h : Nat} {o : Option Nat} {l : List Bool} (hb : Below w0.heap.size w0 w) (p : WrTo w h o l w') (g : w0.heap.size ≤ h) (e : Ge w0.heap.size o) : Below w0.heap.size w0 w' :=
  below_only hb p.only hb.size (by rintro i (rfl | hi); exact g; exact e i hi)

set_option maxRecDepth 100000 in
set_option maxHeartbeats 4000000 in
theorem pack_any (A : Option Addr) (c : Nat) (l : List Nat) (n : Int) (w : World) (hlen : l.length ≤ 9223372036854775807) (hA : SlU w A l) (h64 : ∀ i, l.getD i 0 < 18446744073709551616) :
    Calls Try.prog 31 #[.slice A l.length c, .int .i64 n] w fun e w' => e = .returned (.tuple #[.string (packS l n), .int .i64 (packC l n)]) ∧ Below w.heap.size w w' := by
  by_cases h1 : n < 1
  · have hno : packOk l n = false := by unfold packOk; simp; omega
    have HN := Lib.hid (pack_no hno)
    clear hno
    go_enter Try.func31, Try.ntmps31
    go_wp2_with fail
    go_ret2
    rw [HN.out.1, HN.out.2]
    exact ⟨rfl, Below.refl _ _⟩
  by_cases h2 : 64 < n
  · have hno : packOk l n = false := by unfold packOk; simp; omega
    have HN := Lib.hid (pack_no hno)
    clear hno
    go_enter Try.func31, Try.ntmps31
    go_wp2_with fail
    go_ret2
    rw [HN.out.1, HN.out.2]
    exact ⟨rfl, Below.refl _ _⟩
  obtain ⟨m, rfl⟩ := Int.eq_ofNat_of_zero_le (show 0 ≤ n by omega)
  have hm1 : 1 ≤ m := by omega
  have hm64 : m ≤ 64 := by omega
  obtain ⟨q, hq⟩ : ∃ q, q = 134217728 / m := ⟨_, rfl⟩
  have hqi : (134217728 : Int) / (m : Int) = (q : Int) := by rw [hq]; rfl
  have hqm : q * m ≤ 134217728 := by rw [hq]; exact Nat.div_mul_le_self _ _
  have Hq := Lib.hid (And.intro hq hqm)
  have hqle : q ≤ 134217728 := by rw [hq]; exact Nat.div_le_self _ _
  clear hq hqm
  by_cases h3 : q < l.length
  · have hno : packOk l m = false := by unfold packOk; rw [Hq.out.1] at h3; simp; intros; omega
    have HN := Lib.hid (pack_no hno)
    clear hno
    have hd : decide ((q : Int) < (l.length : Int)) = true := decide_eq_true (by omega)
    go_enter Try.func31, Try.ntmps31
    go_wp2_with fail
    go_ret2
    rw [HN.out.1, HN.out.2]
    exact ⟨rfl, Below.refl _ _⟩
  have hd : decide ((q : Int) < (l.length : Int)) = false := decide_eq_false (by omega)
  have hlq : l.length ≤ q := by omega
  have HA := Lib.hid (And.intro hA h64)
  clear hA h64 h1 h2
  go_enter Try.func31, Try.ntmps31
  go_wp2_with fail
  refine (new_any _).mono ?_
  rintro e w1 ⟨rfl, rfl⟩
  have H0 := Lib.hid (And.intro (WrAt.new w) ((Below.refl _ w).alloc (Nat.le_refl _) (.cells #[.slice none 0 0, .int .i64 0] 93)))
  go_wp2_with fail
  obtain ⟨h1, hh1⟩ : ∃ h1, h1 = w.heap.size := ⟨_, rfl⟩
  obtain ⟨wx, hwx⟩ : ∃ wx, wx = w.alloc (.cells #[.slice none 0 0, .int .i64 0] 93) := ⟨_, rfl⟩
  rw [← hwx, ← hh1] at H0
  rw [← hwx, ← hh1]
  have G1 : Hid (w.heap.size = h1) := hh1.symm
  clear hwx hh1
  go_loopg [26] l.length (fun g i wr => ∃ (k : Nat) (o : Option Nat), k + g = l.length ∧ i = .int .i64 k ∧ WrAt wr h1 o (packBits (l.take k) m) ∧ Below h1 w wr ∧ Ge h1 o ∧ (∀ v ∈ l.take k, v < 2 ^ m))
  case atStart => exact ⟨0, none, by omega, rfl, H0.out.1, H0.out.2, Ge.none_, by simp⟩
  case round =>
    obtain ⟨k, o, hk, rfl, ha, hbel, hge, hall⟩ := hrel
    clear H0
    have hsz := hbel.size
    by_cases hlt : k < l.length
    · obtain ⟨a, rfl, hc⟩ := HA.out.1 k hlt
      have hc2 : wr.cell? (a.add k) = some (.int .u64 (l.getD k 0 : Nat)) := (hbel.cell (by have := World.block_lt_of_cell? w _ hc; rw [← G1.out]; exact this)).trans hc
      have hv64 := HA.out.2 k
      obtain ⟨v, hv⟩ : ∃ v, v = l.getD k 0 := ⟨_, rfl⟩
      rw [← hv] at hc2 hv64
      have hpl := length_packBits (l.take k) m
      have hlk : (l.take k).length = k := by rw [List.length_take]; omega
      rw [hlk] at hpl
      have hkm : (packBits (l.take k) m).length + m ≤ 134217728 := by
        have h5 : (k + 1) * m ≤ q * m := Nat.mul_le_mul_right _ (by omega)
        have h6 := Hq.out.2
        rw [Nat.add_mul] at h5
        omega
      have HV := Lib.hid (And.intro hv (And.intro hall (And.intro ha (And.intro hbel hge))))
      clear hv hall hbel hge hpl hlk hc
      by_cases hfit : v < 2 ^ m
      · have Hfit := Lib.hid hfit
        clear hfit
        go_wp2_with fail
        refine (pput ha Hfit.out hv64 hm64 hkm).mono ?_
        rintro e w2 ⟨rfl, hp⟩
        have HP := Lib.hid hp
        clear hp ha
        go_wp2_with fail
        go_roundg (gk - 1)
        case measure => omega
        case rel =>
          obtain ⟨hv, hall, ha, hbel, hge⟩ := HV.out
          have hon := HP.out.only
          obtain ⟨o', p1, p2, p3⟩ := HP.out
          refine ⟨k + 1, o', by omega, by go_num, ?_, ?_, ?_, ?_⟩
          · rw [take_snocN l k hlt, packBits_snoc, ← hv]; exact p1
          · rw [← G1.out] at hbel hge hon ⊢
            exact below_only hbel hon hbel.size (by rintro i (rfl | hi); exact Nat.le_refl _; exact hge i hi)
          · rw [← G1.out] at hge hbel ⊢; exact p3.geq hge hbel.size
          · intro x hx
            rw [take_snocN l k hlt, List.mem_append] at hx
            rcases hx with hx | hx
            · exact hall x hx
            · simp at hx; subst hx
              have := Hfit.out; rw [hv] at this; simpa using this
      · have hno : packOk l m = false := by
          have hmem : v ∈ l := by
            have hv := HV.out.1
            rw [hv, List.getD, List.getElem?_eq_getElem hlt]
            exact List.getElem_mem hlt
          unfold packOk
          have : (l.all fun v => decide (v < 2 ^ ((m : Int)).toNat)) = false := by
            rw [List.all_eq_false]
            exact ⟨v, hmem, by simpa using hfit⟩
          rw [this, Bool.and_false]
        have HN := Lib.hid (pack_no hno)
        have Hfit := Lib.hid hfit
        clear hno hfit
        go_wp2_with fail
        refine (pput_no ha Hfit.out hv64 (by omega)).mono ?_
        rintro e w2 ⟨rfl, hp⟩
        have HP := Lib.hid hp
        clear hp ha
        go_wp2_with fail
        go_ret2
        rw [HN.out.1, HN.out.2]
        obtain ⟨hv, hall, ha, hbel, hge⟩ := HV.out
        refine ⟨rfl, ?_⟩
        rw [← G1.out] at hbel hge
        exact below_only hbel HP.out.only hbel.size (by rintro i (rfl | hi); rw [← G1.out]; exact Nat.le_refl _; exact hge i hi)
    · have hkl : k = l.length := by omega
      subst hkl
      rw [List.take_length] at ha hall
      have hyes : packOk l m = true := by
        unfold packOk
        have h5 : (l.all fun v => decide (v < 2 ^ ((m : Int)).toNat)) = true := by
          rw [List.all_eq_true]; intro x hx; simpa using hall x hx
        rw [h5]
        have h6 := Hq.out.1
        simp
        omega
      have HY := Lib.hid (pack_yes hyes)
      have HB := Lib.hid hbel
      clear hyes hall hbel hge
      go_wp2_with fail
      refine (wtext_any h1 o _ _ ha).mono ?_
      rintro e w' ⟨rfl, rfl⟩
      go_wp2_with fail
      go_ret2
      rw [HY.out.1, HY.out.2]
      exact ⟨rfl, by rw [G1.out]; exact HB.out⟩
end Go.Proofs.Ytmgngmnkmmhckaa
