/-
  codes: Len, Put and Read at any code and number.
-/
import Derived.Test.YtmgngmnkmmhckaaCNum2
import Derived.Test.YtmgngmnkmmhckaaCPut
set_option linter.unusedVariables false
namespace Go.Proofs.Ytmgngmnkmmhckaa
open Go.RowKit Plain

theorem cB_one (z : Nat) (a0 n0 : Nat) : cB (z : Int) a0 n0 0 0 = List.replicate z false ++ [true] ++ bitsOf a0 n0 := by
  unfold cB zB pB
  rw [if_pos (by omega), if_neg (by decide), if_neg (by decide), Int.toNat_natCast, bitsOf_zero, List.append_nil]
theorem sp_any {kd K v : Nat} (h : cMay kd K v = true) : ∃ (z : Int) (a0 n0 a1 n1 : Nat), Sp kd K v z a0 n0 a1 n1 ∧ -1 ≤ z ∧ z ≤ 65535 ∧ n0 ≤ 64 ∧ n1 ≤ 64 ∧ a0 < 2 ^ n0 ∧ a1 < 2 ^ n1 ∧ cB z a0 n0 a1 n1 = cb kd K v := by
  unfold cb
  rcases cMay_spec h with ⟨rfl, hv⟩ | ⟨rfl, hv⟩ | ⟨rfl, hv⟩ | ⟨rfl, k1, k2, hv⟩ | ⟨rfl, k1, k2, hv⟩
  · refine ⟨v, 0, 0, 0, 0, sp_unary K v hv, by omega, by omega, by decide, by decide, by decide, by decide, ?_⟩
    rw [cB_one, if_pos rfl, bitsOf_zero, List.append_nil]
  · have hl := (lo_spec hv).1
    refine ⟨_, _, _, 0, 0, sp_gamma K v hv, by omega, by omega, by omega, by decide, rs_lt hv, by decide, ?_⟩
    rw [cB_one, if_neg (by decide), if_pos rfl]; rfl
  · have hl := (lo_spec hv).1
    have hl2 := lo_lo hv
    refine ⟨_, _, _, _, _, sp_delta K v hv, by omega, by omega, by omega, by omega, rs_lt (by omega), rs_lt hv, ?_⟩
    rw [if_neg (by decide), if_neg (by decide), if_pos rfl]
    unfold cB zB pB gB
    rw [if_pos (by omega), if_neg (by decide), if_neg (by decide), Int.toNat_natCast]
    simp only [List.append_assoc]
  · obtain ⟨q1, q2, q3⟩ := z_of k1 k2 hv
    obtain ⟨b1, b2, b3, b4⟩ := z_bound k1 k2 q1
    have hx : zX K v < zK K v := by unfold zX zK; omega
    obtain ⟨n1, n2, n3⟩ := shN_nat (zX K v) (zK K v) b3 b4 hx
    have hq : 47 / K ≤ 47 := Nat.div_le_self _ _
    refine ⟨(zH K v : Nat), shV (zX K v) (zK K v), (shN (zX K v) (zK K v)).toNat, 0, 0, ?_, by omega, by omega, by omega, by decide, n3, by decide, ?_⟩
    · intro w
      have := split_zeta K v w k1 k2 hv
      rw [show zF K v = zFr K (zH K v) from rfl, show v + 1 - zFr K (zH K v) = zX K v from rfl, show zFr K (zH K v) * 2 ^ K - zFr K (zH K v) = zK K v from rfl, n1] at this
      exact this
    · rw [cB_one, if_neg (by decide), if_neg (by decide), if_neg (by decide), if_pos rfl]
  · have e : (2 : Nat) ^ 63 = 9223372036854775808 := by decide
    obtain ⟨n1, n2, n3⟩ := shN_nat v K k1 (by omega) hv
    refine ⟨-1, shV v K, (shN v K).toNat, 0, 0, sp_min K v k1 k2 hv, by omega, by omega, by omega, by decide, n3, by decide, ?_⟩
    rw [if_neg (by decide), if_neg (by decide), if_neg (by decide), if_neg (by decide)]
    unfold cB zB pB
    rw [if_neg (by decide), if_neg (by decide), if_neg (by decide), bitsOf_zero, List.append_nil, List.nil_append]

/-- Len -/
def cL (kd K v : Nat) : Nat := if cMay kd K v = true then (cb kd K v).length else 0
def cE (kd K v : Nat) : Int := if cMay kd K v = true then 0 else 1
theorem cb_len {kd K v : Nat} (h : cMay kd K v = true) : (cb kd K v).length ≤ 65664 := by
  obtain ⟨z, a0, n0, a1, n1, _, hz, hz2, h0, h1, _, _, he⟩ := sp_any h
  have := length_cB hz a0 n0 a1 n1
  rw [he] at this
  omega
theorem clen_any (kd K v : Nat) (w : World) (hK : K < 18446744073709551616) : Calls Try.prog 42 #[.agg #[.int .u8 kd, .int .u64 K], .int .u64 v] w fun e w' =>
    e = .returned (.tuple #[.int .i64 (cL kd K v : Nat), .int .i64 (cE kd K v)]) ∧ Below w.heap.size w w' := by
  unfold cL cE
  cases h : cMay kd K v with
  | false => simpa using len_no kd K v w hK h
  | true =>
    obtain ⟨z, a0, n0, a1, n1, hsp, hz, hz2, h0, h1, _, _, he⟩ := sp_any h
    have := len_yes kd K v z a0 n0 a1 n1 w hK h hsp hz hz2 h0 h1
    rw [← length_cB hz, he] at this
    simpa using this

/-- Put -/
def cpC (n kd K v : Nat) : Int := if cMay kd K v = true then (if 134217728 < n + (cb kd K v).length then 3 else 0) else 1
def cpB (l : List Bool) (kd K v : Nat) : List Bool := if cpC l.length kd K v = 0 then l ++ cb kd K v else l

set_option maxRecDepth 100000 in
set_option maxHeartbeats 4000000 in
theorem cput_full (h : Nat) (o : Option Nat) (L : List Bool) (kd K v n : Nat) (w : World) (hw : WrAt w h o L) (hL : L.length ≤ 134217728) (hK : K < 18446744073709551616)
    (hn : Hid (cL kd K v = n ∧ cE kd K v = 0)) (hfit : 134217728 < L.length + n) :
    Calls Try.prog 41 #[.pointer (some ⟨h, 0, none⟩), .agg #[.int .u8 kd, .int .u64 K], .int .u64 v] w fun e w' => e = .returned (.int .i64 3) ∧ WrTo w h o L w' := by
  have H0 := Lib.hid (WrTo.refl hw)
  have HH := Lib.hid hK
  clear hw hK
  go_enter Try.func41, Try.ntmps41
  go_wp2_with fail
  obtain ⟨w1, hw1⟩ : ∃ w1, w1 = w.alloc (.cells #[.int .u8 kd, .int .u64 K] 71) := ⟨_, rfl⟩
  have H1 : Hid (WrTo w h o L w1) := by rw [hw1]; exact H0.out.more ((Below.refl _ w).alloc (Nat.le_refl _) (.cells #[.int .u8 kd, .int .u64 K] 71))
  rw [← hw1]
  clear hw1 H0
  refine (clen_any kd K v _ HH.out).mono ?_
  rintro e w2 ⟨rfl, hb⟩
  rw [hn.out.1, hn.out.2]
  have H2 := Lib.hid (H1.out.more hb)
  clear hb H1
  obtain ⟨o2, q2, q3⟩ := H2.out
  have Q := Lib.hid q2
  clear q2 q3
  have hd : decide ((134217728 : Int) - (L.length : Int) < (n : Int)) = true := decide_eq_true (by omega)
  clear hfit
  go_wp2_with fail
  refine (wlen_any h o2 L _ Q.out).mono ?_
  rintro e w' ⟨rfl, rfl⟩
  go_wp2_with fail
  go_ret
  exact ⟨rfl, H2.out⟩

theorem cput_any (h : Nat) (o : Option Nat) (L : List Bool) (kd K v : Nat) (w : World) (hw : WrAt w h o L) (hL : L.length ≤ 134217728) (hK : K < 18446744073709551616) :
    Calls Try.prog 41 #[.pointer (some ⟨h, 0, none⟩), .agg #[.int .u8 kd, .int .u64 K], .int .u64 v] w fun e w' => e = .returned (.int .i64 (cpC L.length kd K v)) ∧ WrTo w h o (cpB L kd K v) w' := by
  unfold cpB cpC
  cases hm : cMay kd K v with
  | false => simpa using cput_no h o L kd K v w hw hK hm
  | true =>
    rw [if_pos rfl]
    by_cases hf : 134217728 < L.length + (cb kd K v).length
    · rw [if_pos hf, if_neg (by decide)]
      exact cput_full h o L kd K v _ w hw hL hK ⟨by unfold cL; rw [if_pos hm], by unfold cE; rw [if_pos hm]⟩ hf
    · rw [if_neg hf, if_pos rfl]
      obtain ⟨z, a0, n0, a1, n1, hsp, hz, hz2, h0, h1, x0, x1, he⟩ := sp_any hm
      have hl := length_cB hz a0 n0 a1 n1
      have := cput_yes h o L kd K v z a0 n0 a1 n1 w hw hL hK hm hsp hz hz2 h0 h1 x0 x1 (by rw [he] at hl; omega)
      rw [he] at this
      exact this

/-- Read -/
def rV (B : List Bool) (a kd K : Nat) : Nat := if cOk kd K = true then (if rdBad kd K (rd B a kd K).1 (rd B a kd K).2.2 = true then 0 else (rd B a kd K).1) else 0
def rE (B : List Bool) (a kd K : Nat) : Int := if cOk kd K = true then (if rdBad kd K (rd B a kd K).1 (rd B a kd K).2.2 = true then 4 else 0) else 1
def rA (B : List Bool) (a kd K : Nat) : Nat := if cOk kd K = true then (if rdBad kd K (rd B a kd K).1 (rd B a kd K).2.2 = true then a else (rd B a kd K).2.1) else a
set_option maxRecDepth 100000 in
set_option maxHeartbeats 4000000 in
theorem cread_no (h : Nat) (s : ByteArray) (a kd K : Nat) (w : World) (hw : RdAt w h s a) (hK : K < 18446744073709551616) (hok : cOk kd K = false) :
    Calls Try.prog 37 #[.pointer (some ⟨h, 0, none⟩), .agg #[.int .u8 kd, .int .u64 K]] w fun e w' => e = .returned (.tuple #[.int .u64 0, .int .i64 1]) ∧ RdTo w h s a w' := by
  have hmf : ∀ (fn : Fn) (first cap : Array Value) (w : World), (Instr.makeFunc fn first cap).run Try.prog w = .ok (.func fn first cap) w := fun _ _ _ _ => rfl
  have HH := Lib.hid (And.intro hw (And.intro hK hok))
  clear hw hK hok
  go_enter_defers Try.func37, Try.ntmps37
  go_wp2_with fail
  have O3 : Only (fun k => k = h) w (((w.alloc (.cells #[.pointer (some ⟨h, 0, none⟩)] 23)).alloc (.cells #[.int .u8 kd, .int .u64 K] 71)).alloc (.cells #[.int .i64 0] 32)) := (((Only.refl _ w).alloc _).alloc _).alloc _
  have R3 : RdAt (((w.alloc (.cells #[.pointer (some ⟨h, 0, none⟩)] 23)).alloc (.cells #[.int .u8 kd, .int .u64 K] 71)).alloc (.cells #[.int .i64 0] 32)) h s a := ⟨((HH.out.1.1.alloc _).alloc _).alloc _, HH.out.1.2⟩
  have B3 : Blk (((w.alloc (.cells #[.pointer (some ⟨h, 0, none⟩)] 23)).alloc (.cells #[.int .u8 kd, .int .u64 K] 71)).alloc (.cells #[.int .i64 0] 32)) (w.heap.size + 1 + 1) 32 #[.int .i64 0] := by
    have := Blk.new ((w.alloc (.cells #[.pointer (some ⟨h, 0, none⟩)] 23)).alloc (.cells #[.int .u8 kd, .int .u64 K] 71)) 32 #[.int .i64 0]
    rw [World.size_alloc, World.size_alloc] at this
    exact this
  obtain ⟨w3, hw3⟩ : ∃ w3, w3 = (((w.alloc (.cells #[.pointer (some ⟨h, 0, none⟩)] 23)).alloc (.cells #[.int .u8 kd, .int .u64 K] 71)).alloc (.cells #[.int .i64 0] 32)) := ⟨_, rfl⟩
  rw [← hw3] at O3 R3 B3
  rw [← hw3]
  obtain ⟨gr, hgr⟩ : ∃ gr, gr = w.heap.size := ⟨_, rfl⟩
  rw [← hgr] at B3
  rw [← hgr]
  have hge : w.heap.size ≤ gr + 1 + 1 := by omega
  have hlt : h < w.heap.size := HH.out.1.1.lt
  have Hgr := Lib.hid (And.intro hge (show h ≠ gr + 1 + 1 by omega))
  clear hw3 hgr hge hlt
  refine (check_any kd K _).mono ?_
  rintro e w4 ⟨rfl, hb⟩
  rw [cChk_no HH.out.2.2]
  have ob : Only (fun _ => False) w3 w4 := Only.of_below hb
  have B4 := B3.only ob (fun e => e)
  have c3 := B4.cell 0
  have f3 := B4.frozen 0
  simp at c3
  have H4 := Lib.hid (And.intro (O3.trans ob (fun _ _ e => e.elim)) (And.intro (R3.only ob) B4))
  clear ob hb O3 R3 B3 B4
  go_wp2_with fail
  have HS : Hid (RdTo w h s a (w4.setCell ⟨gr + 1 + 1, 0, none⟩ (.int .i64 1))) := ⟨⟨H4.out.2.1.1.far (by show h ≠ gr + 1 + 1; exact Hgr.out.2) _, H4.out.2.1.2⟩, H4.out.1.setCell (p := ⟨gr + 1 + 1, 0, none⟩) (.inr Hgr.out.1) _⟩
  have B5 := H4.out.2.2.set_ 0 (.int .i64 1)
  have hc : (w4.setCell ⟨gr + 1 + 1, 0, none⟩ (.int .i64 1)).cell? ⟨gr + 1 + 1, 0, none⟩ = some (.int .i64 1) := by rw [B5.cell 0]; rfl
  refine ⟨.tuple #[.int .u64 0, .int .i64 1], ?_, ?_⟩
  · simp [results, Try.results37, go_sem, hc]
  · exact ⟨rfl, HS.out⟩
theorem cread_any (h : Nat) (s : ByteArray) (a kd K : Nat) (w : World) (hw : RdAt w h s a) (hs : s.size ≤ 140737488355328) (hK : K < 18446744073709551616) :
    Calls Try.prog 37 #[.pointer (some ⟨h, 0, none⟩), .agg #[.int .u8 kd, .int .u64 K]] w fun e w' => e = .returned (.tuple #[.int .u64 (rV (bitsS s) a kd K : Nat), .int .i64 (rE (bitsS s) a kd K)]) ∧ RdTo w h s (rA (bitsS s) a kd K) w' := by
  cases hok : cOk kd K with
  | false =>
    have := cread_no h s a kd K w hw hK hok
    unfold rV rE rA
    rw [hok]
    exact this
  | true =>
    exact cread_yes h s a kd K _ _ _ w hw hs hK hok (nm_any kd K s a hs hok) _ _ _ ⟨by unfold rV; rw [if_pos hok], by unfold rE; rw [if_pos hok], by unfold rA; rw [if_pos hok]⟩
end Go.Proofs.Ytmgngmnkmmhckaa
