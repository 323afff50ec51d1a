/-
  Decode's two closures: text and number.
-/
import Derived.Test.YtpggicaphejjfaaPDec
import Derived.Test.YtpggicaphejjfaaPRCheck
import Derived.Laws.IdiomStrings
import Derived.Laws.BytesString
set_option linter.unusedVariables false
namespace Go.Proofs.Ytpggicaphejjfaa
open Go.RowKit

theorem ba_ext {s t : ByteArray} (h : s.data.toList = t.data.toList) : s = t := by
  obtain ⟨⟨a⟩⟩ := s
  obtain ⟨⟨b⟩⟩ := t
  simp at h
  rw [h]
theorem extract_take {r : List UInt8} {n : Nat} (h : n ≤ r.length) : (mkB r).extract 0 n = mkB (r.take n) := by
  apply ba_ext
  rw [mkB_data]
  simp [ByteArray.data_extract, mkB]
theorem extract_drop {r : List UInt8} {n m : Nat} (h : m = r.length) : (mkB r).extract n m = mkB (r.drop n) := by
  apply ba_ext
  rw [mkB_data]
  subst h
  simp only [ByteArray.data_extract, mkB, Array.toList_extract, List.extract_eq_take_drop]
  exact List.take_of_length_le (by simp)

set_option maxRecDepth 100000 in
set_option maxHeartbeats 1000000 in
theorem text_any (n : Nat) (b : Bool) (r : List UInt8) (g5 g4 : Nat) (w : World) (h5 : Blk w g5 4 #[.bool b]) (h4 : Blk w g4 9 #[.string (mkB r)]) (hne : g5 ≠ g4) (hr : r.length ≤ 4096) (hn : n ≤ 4294967296) :
    Calls Try.prog 39 #[.int .i64 n, .pointer (some ⟨g5, 0, none⟩), .pointer (some ⟨g4, 0, none⟩)] w fun e w' => e = .returned (.string (mkB (tT n b r))) ∧ Blk w' g5 4 #[.bool (tB n b r)] ∧ Blk w' g4 9 #[.string (mkB (tR n b r))] ∧ Only (fun k => k = g5 ∨ k = g4) w w' := by
  have x5 := h5.cell 0
  have f5 := h5.frozen 0
  have x4 := h4.cell 0
  have f4 := h4.frozen 0
  simp at x5 x4
  obtain ⟨s, hs⟩ : ∃ s, s = mkB r := ⟨_, rfl⟩
  obtain ⟨L, hL⟩ : ∃ L, L = r.length := ⟨_, rfl⟩
  have hsz : s.size = L := by rw [hs, mkB_size, hL]
  have e1 : n ≤ r.length → s.extract 0 n = mkB (r.take n) := fun h => by rw [hs]; exact extract_take h
  have e2 : s.extract n L = mkB (r.drop n) := by rw [hs]; exact extract_drop hL
  rw [← hs] at x4
  rw [← hL] at hr e1
  have hc1 : ⟨g5, 0, none⟩ ≠ (⟨g4, 0, none⟩ : Addr) := fun e => hne (by injection e)
  have hc2 : ⟨g4, 0, none⟩ ≠ (⟨g5, 0, none⟩ : Addr) := fun e => hne (by injection e with e _ _; exact e.symm)
  have HB := Lib.hid (And.intro h5 h4)
  have HL := Lib.hid (And.intro hL (And.intro hs hne))
  clear h5 h4 hs hL hne
  cases b with
  | true =>
    have q1 : tB n true r = true := rfl
    have q2 : tT n true r = [] := by unfold tT; rw [q1]; rfl
    have q3 : tR n true r = r := by unfold tR; rw [q1]; rfl
    rw [q1, q2, q3]
    clear q1 q2 q3 e1 e2
    go_enter Try.func39, Try.ntmps39
    go_wp2_with fail
    go_ret
    exact ⟨rfl, HB.out.1.set_ 0 _, HB.out.2.far (fun e => HL.out.2.2 e.symm) _, (Only.refl _ _).setCell (p := ⟨g5, 0, none⟩) (.inl (.inl rfl)) _⟩
  | false =>
    by_cases hlt : L < n
    · have q1 : tB n false r = true := by unfold tB; rw [← HL.out.1]; simp [hlt]
      have q2 : tT n false r = [] := by unfold tT; rw [q1]; rfl
      have q3 : tR n false r = r := by unfold tR; rw [q1]; rfl
      rw [q1, q2, q3]
      have d : decide ((L : Int) < (n : Int)) = true := decide_eq_true (by omega)
      clear q1 q2 q3 e1 e2
      go_enter Try.func39, Try.ntmps39
      go_wp2_with fail
      go_ret
      exact ⟨rfl, HB.out.1.set_ 0 _, HB.out.2.far (fun e => HL.out.2.2 e.symm) _, (Only.refl _ _).setCell (p := ⟨g5, 0, none⟩) (.inl (.inl rfl)) _⟩
    · have q1 : tB n false r = false := by unfold tB; rw [← HL.out.1]; simp; omega
      have q2 : tT n false r = r.take n := by unfold tT; rw [q1]; rfl
      have q3 : tR n false r = r.drop n := by unfold tR; rw [q1]; rfl
      rw [q1, q2, q3]
      have d : decide ((L : Int) < (n : Int)) = false := decide_eq_false (by omega)
      have hnL : n ≤ L := by omega
      have e3 := e1 hnL
      obtain ⟨t1, ht1⟩ : ∃ t, t = mkB (r.take n) := ⟨_, rfl⟩
      obtain ⟨t2, ht2⟩ : ∃ t, t = mkB (r.drop n) := ⟨_, rfl⟩
      rw [← ht1] at e3 ⊢
      rw [← ht2] at e2 ⊢
      clear q1 q2 q3 e1 ht1 ht2 hlt
      go_enter Try.func39, Try.ntmps39
      go_wp2_with fail
      go_ret
      have k1 := (HB.out.1.set_ 0 (.bool false)).far (p := ⟨g4, 0, none⟩) (fun e => HL.out.2.2 e) (.string t2)
      have k2 := (HB.out.2.far (p := ⟨g5, 0, none⟩) (fun e => HL.out.2.2 e.symm) (.bool false)).set_ 0 (.string t2)
      exact ⟨rfl, k1, k2, ((Only.refl _ _).setCell (p := ⟨g5, 0, none⟩) (.inl (.inl rfl)) _).setCell (p := ⟨g4, 0, none⟩) (.inl (.inr rfl)) _⟩
/-- the row of bytes of a text -/
theorem text_bytes (w : World) (l : List UInt8) : ∃ cap w', (convert 9 43 (.string (mkB l))).run Try.prog w = .ok (.slice (some ⟨w.heap.size, 0, none⟩) l.length cap) w' ∧ (∀ F : Nat → Prop, Only F w w') ∧ ∀ j, j < l.length → w'.cell? ⟨w.heap.size, j, none⟩ = some (.int .u8 ((l.getD j 0).toNat : Nat)) := by
  have h := run_bytes_of_string (P := Try.prog) w 9 43 5 (mkB l) Try.underlying9 Try.underlying43 Try.underlying5
  refine ⟨grownCap w (mkB l).size 0 5, w.drew.alloc (.cells (bytesRow (mkB l) (grownCap w (mkB l).size 0 5)) 5 ((bytesRow (mkB l) (grownCap w (mkB l).size 0 5)).size, (bytesRow (mkB l) (grownCap w (mkB l).size 0 5)).size + 1)), ?_, fun F => ?_, fun j hj => ?_⟩
  · rw [mkB_size] at h ⊢
    exact h
  · exact ((Only.refl F w).drew).alloc _
  · have h1 := World.cell?_alloc_mark w.drew (bytesRow (mkB l) (grownCap w (mkB l).size 0 5)) 5 ((bytesRow (mkB l) (grownCap w (mkB l).size 0 5)).size, (bytesRow (mkB l) (grownCap w (mkB l).size 0 5)).size + 1) j
    refine h1.trans ?_
    rw [bytesRow_at _ _ j (by simpa [mkB] using hj)]
    simp [mkB, List.getD, List.getElem?_eq_getElem hj]
theorem valL_take (l : List UInt8) (k : Nat) (h : k < l.length) : valL (l.take (k + 1)) 0 = valL (l.take k) 0 * 256 + (l.getD k 0).toNat := by
  rw [take_snoc 0 l h, valL_append]
  rfl
theorem or_byte (a b : Nat) (ha : a < 4294967296) (hb : b < 256) : bits .or .i64 ((a * 256 : Nat) : Int) (b : Int) = ((a * 256 + b : Nat) : Int) := by
  have hor : a * 256 ||| b = a * 256 + b := by
    have := Nat.two_pow_add_eq_or_of_lt (i := 8) (b := b) (by omega) a
    rw [show (2 : Nat) ^ 8 = 256 from rfl, Nat.mul_comm] at this
    exact this.symm
  show IntKind.i64.wrap ((BitVec.ofInt 64 ((a * 256 : Nat) : Int) ||| BitVec.ofInt 64 (b : Int)).toNat : Int) = _
  rw [BitVec.toNat_or, ofInt_u64 _ (by omega), ofInt_u64 b (by omega), hor]
  exact IntWalk.i64_in _ (by omega)

set_option maxRecDepth 100000 in
set_option maxHeartbeats 1000000 in
theorem number_any (n : Nat) (b : Bool) (r : List UInt8) (g6 g5 g4 : Nat) (w : World) (h6 : Blk w g6 73 #[.func (Fn.func 39) #[] #[.pointer (some ⟨g5, 0, none⟩), .pointer (some ⟨g4, 0, none⟩)]]) (h5 : Blk w g5 4 #[.bool b]) (h4 : Blk w g4 9 #[.string (mkB r)]) (hne : g5 ≠ g4) (hr : r.length ≤ 4096) (hn : n ≤ 4) :
    Calls Try.prog 40 #[.int .i64 n, .pointer (some ⟨g6, 0, none⟩)] w fun e w' => e = .returned (.int .i64 (val (tT n b r) : Nat)) ∧ Blk w' g5 4 #[.bool (tB n b r)] ∧ Blk w' g4 9 #[.string (mkB (tR n b r))] ∧ Only (fun k => k = g5 ∨ k = g4) w w' := by
  have x6 := h6.cell 0
  simp at x6
  have HT := Lib.hid (text_any n b r g5 g4 w h5 h4 hne hr (by omega))
  have hl := (length_tT n b r).1
  obtain ⟨l, hle⟩ : ∃ l, l = tT n b r := ⟨_, rfl⟩
  rw [← hle] at HT hl ⊢
  have HL := Lib.hid (And.intro hle hne)
  clear h6 h5 h4 hle hne
  go_enter Try.func40, Try.ntmps40
  go_wp2_with fail
  refine HT.out.mono ?_
  rintro e w2 ⟨rfl, h5, h4, ho⟩
  have H2 := Lib.hid (And.intro h5 (And.intro h4 ho))
  clear h5 h4 ho x6
  obtain ⟨cap, w3, hcv, ho3, hcl⟩ := text_bytes w2 l
  have H3 : Hid ((∀ F : Nat → Prop, Only F w2 w3) ∧ ∀ j, j < l.length → w3.cell? ⟨w2.heap.size, j, none⟩ = some (.int .u8 ((l.getD j 0).toNat : Nat))) := ⟨ho3, hcl⟩
  clear ho3 hcl
  obtain ⟨g, hg⟩ : ∃ g, g = w2.heap.size := ⟨_, rfl⟩
  obtain ⟨N, hN⟩ : ∃ N, N = l.length := ⟨_, rfl⟩
  rw [← hg, ← hN] at hcv
  rw [← hg] at H3
  rw [← hN] at hl
  have hN4 : N ≤ 4 := by omega
  have HN := Lib.hid hN
  clear hg hl hN
  go_wp2_with fail
  go_loopg [3, 11] N (fun g v i wr => ∃ k : Nat, k + g = N ∧ i = .int .i64 k ∧ v = .int .i64 (valL (l.take k) 0 : Nat) ∧ wr = w3)
  case atStart => exact ⟨0, by omega, rfl, rfl, rfl⟩
  case round =>
    clear hcv
    obtain ⟨k, hk, rfl, rfl, rfl⟩ := hrel
    by_cases hlt : k < N
    · have hc := H3.out.2 k (by rw [← HN.out]; exact hlt)
      have hv := valL_take l k (by rw [← HN.out]; exact hlt)
      have hm := val_lt (l.take k)
      have hpw : 256 ^ (l.take k).length ≤ 16777216 := by
        have h1 : (l.take k).length ≤ 3 := by rw [List.length_take]; omega
        exact Nat.le_trans (Nat.pow_le_pow_right (by decide) h1) (by decide)
      unfold val at hm
      obtain ⟨m, hme⟩ : ∃ m, m = valL (l.take k) 0 := ⟨_, rfl⟩
      obtain ⟨c, hce⟩ : ∃ c, c = (l.getD k 0).toNat := ⟨_, rfl⟩
      have hc256 : c < 256 := by rw [hce]; exact (l.getD k 0).toNat_lt
      rw [← hme, ← hce] at hv
      rw [← hme] at hm ⊢
      rw [← hce] at hc
      have hm2 : m < 16777216 := by omega
      have hor := or_byte m c (by omega) hc256
      obtain ⟨mk, hmk⟩ : ∃ q, q = m * 256 := ⟨_, rfl⟩
      rw [← hmk] at hor hv
      have hmk1 : (m : Int) * 256 = (mk : Int) := by omega
      have hmk2 : mk ≤ 4294967296 := by omega
      have HV := Lib.hid hv
      have hor2 : bits .or .i64 (mk : Int) (c : Int) = (mk : Int) + (c : Int) := by rw [hor]; omega
      clear hv hm hpw hme hce hmk hor
      go_wp2_with fail
      go_roundg (gk - 1)
      case measure => omega
      case rel => exact ⟨k + 1, by omega, by go_num, by rw [HV.out]; simp, rfl⟩
    · have hk2 : k = N := by omega
      have hfin : l.take k = l := List.take_of_length_le (by rw [← HN.out]; omega)
      have HF := Lib.hid hfin
      rw [hfin]
      clear hfin
      obtain ⟨m, hm⟩ : ∃ m, m = valL l 0 := ⟨_, rfl⟩
      rw [← hm]
      have HM := Lib.hid hm
      clear hm
      go_wp2_with fail
      go_ret
      exact ⟨by rw [HM.out]; rfl, H2.out.1.only (H3.out.1 (fun _ => False)) (fun f => f), H2.out.2.1.only (H3.out.1 (fun _ => False)) (fun f => f), H2.out.2.2.trans (H3.out.1 (fun _ => False)) (fun _ _ f => f.elim)⟩
end Go.Proofs.Ytpggicaphejjfaa
