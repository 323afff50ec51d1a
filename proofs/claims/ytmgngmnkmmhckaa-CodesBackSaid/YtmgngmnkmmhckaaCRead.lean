/-
  codes: a number is read.
-/
import Derived.Test.YtmgngmnkmmhckaaCGamma
import Derived.Defers
set_option linter.unusedVariables false
namespace Go.Proofs.Ytmgngmnkmmhckaa
open Go.RowKit Plain

/-- what 'number' answers at one code, text and place -/
def Nm (kd K : Nat) (s : ByteArray) (a V a' : Nat) (bad : Bool) : Prop := ∀ g h w, RgAt w g h s a false → Calls Try.prog 56 #[.pointer (some ⟨g, 0, none⟩), .agg #[.int .u8 kd, .int .u64 K]] w fun e w' =>
    e = .returned (.int .u64 (V : Nat)) ∧ RgTo w g h s a' bad w'

set_option maxRecDepth 100000 in
set_option maxHeartbeats 4000000 in
theorem nm_gamma (K : Nat) (s : ByteArray) (a : Nat) (hs : s.size ≤ 140737488355328) : Nm 1 K s a (gm (bitsS s) a 47).1 (gm (bitsS s) a 47).2.1 (gm (bitsS s) a 47).2.2 := by
  intro g h w hw
  have hw2 : Hid (RgTo w g h s a false (w.alloc (.cells #[.int .u8 1, .int .u64 K] 71))) := ⟨⟨hw.1.alloc _, hw.2.1.alloc _, hw.2.2⟩, (Only.refl _ _).alloc _⟩
  clear hw
  go_enter Try.func56, Try.ntmps56
  go_wp2_with fail
  refine (gamma_any g h s a 47 _ hw2.out.1 hs (by decide)).mono ?_
  rintro e w' ⟨rfl, hp⟩
  have H1 := Lib.hid (hw2.out.trans hp)
  clear hp
  go_wp2_with fail
  go_ret
  exact ⟨rfl, H1.out⟩

set_option maxRecDepth 100000 in
theorem back0 (ge gr ga : Nat) (u : FrameMode) (w : World) (h0 : w.cell? ⟨ge, 0, none⟩ = some (.int .i64 0)) :
    CallsD Try.prog 55 #[.pointer (some ⟨ge, 0, none⟩), .pointer (some ⟨gr, 0, none⟩), .pointer (some ⟨ga, 0, none⟩)] u w fun e u' w' => u' = u ∧ e = .returned (.tuple #[]) ∧ w = w' := by
  go_enter_d Try.func55, Try.ntmps55
  go_wp2_with fail
  go_end0
  exact ⟨rfl, rfl⟩
set_option maxRecDepth 100000 in
theorem back1 (ge gr ga h : Nat) (c : Int) (a b : Nat) (s : ByteArray) (u : FrameMode) (w : World) (hc : (c == 0) = false) (h0 : w.cell? ⟨ge, 0, none⟩ = some (.int .i64 c)) (h1 : w.cell? ⟨gr, 0, none⟩ = some (.pointer (some ⟨h, 0, none⟩)))
    (h2 : w.cell? ⟨ga, 0, none⟩ = some (.int .i64 (a : Nat))) (hr : RdAt w h s b) (hs : s.size ≤ 140737488355328) (ha : a ≤ 8 * s.size) :
    CallsD Try.prog 55 #[.pointer (some ⟨ge, 0, none⟩), .pointer (some ⟨gr, 0, none⟩), .pointer (some ⟨ga, 0, none⟩)] u w fun e u' w' => u' = u ∧ e = .returned (.tuple #[]) ∧ RdTo w h s a w' := by
  have hcne : ¬ c = 0 := by simpa using hc
  have hk := seek_any h s b a w hr hs
  have hsc : seekCode s.size (a : Int) = 0 := by unfold seekCode; rw [if_neg (by omega)]
  rw [show seekAt s.size b a = a from by unfold seekAt; rw [hsc]; rfl] at hk
  have HK := Lib.hid hk
  clear hk hc hr ha hsc
  go_enter_d Try.func55, Try.ntmps55
  go_wp2_with fail
  refine HK.out.mono ?_
  rintro e w' ⟨rfl, hp⟩
  have HP := Lib.hid hp
  clear hp
  go_wp2_with fail
  go_end0
  exact ⟨rfl, HP.out⟩

def rdBad (kd K V : Nat) (bad : Bool) : Bool := bad || decide (cMost kd K < V)
set_option maxRecDepth 100000 in
set_option maxHeartbeats 8000000 in
theorem cread_yes (h : Nat) (s : ByteArray) (a kd K V a' : Nat) (bad : Bool) (w : World) (hw : RdAt w h s a) (hs : s.size ≤ 140737488355328) (hK : K < 18446744073709551616) (hok : cOk kd K = true) (hnm : Nm kd K s a V a' bad)
    (rv : Nat) (rc : Int) (ra : Nat) (hr : Hid (rv = (if rdBad kd K V bad = true then 0 else V) ∧ rc = (if rdBad kd K V bad = true then 4 else 0) ∧ ra = if rdBad kd K V bad = true then a else a')) :
    Calls Try.prog 37 #[.pointer (some ⟨h, 0, none⟩), .agg #[.int .u8 kd, .int .u64 K]] w fun e w' => e = .returned (.tuple #[.int .u64 rv, .int .i64 rc]) ∧ RdTo w h s ra w' := by
  have hmf : ∀ (fn : Fn) (first cap : Array Value) (w : World), (Instr.makeFunc fn first cap).run Try.prog w = .ok (.func fn first cap) w := fun _ _ _ _ => rfl
  have HH := Lib.hid (And.intro hw (And.intro hs (And.intro hK (And.intro hok hnm))))
  have hlt := hw.1.lt
  clear hw hs hK hok hnm
  go_enter_defers Try.func37, Try.ntmps37
  go_wp2_with fail
  have B1 : Blk (((w.alloc (.cells #[.pointer (some ⟨h, 0, none⟩)] 23)).alloc (.cells #[.int .u8 kd, .int .u64 K] 71)).alloc (.cells #[.int .i64 0] 32)) w.heap.size 23 #[.pointer (some ⟨h, 0, none⟩)] := ((Blk.new w 23 _).alloc _).alloc _
  have B2 : Blk (((w.alloc (.cells #[.pointer (some ⟨h, 0, none⟩)] 23)).alloc (.cells #[.int .u8 kd, .int .u64 K] 71)).alloc (.cells #[.int .i64 0] 32)) (w.heap.size + 1) 71 #[.int .u8 kd, .int .u64 K] := blk2 w _ _ 71 _
  have B3 : Blk (((w.alloc (.cells #[.pointer (some ⟨h, 0, none⟩)] 23)).alloc (.cells #[.int .u8 kd, .int .u64 K] 71)).alloc (.cells #[.int .i64 0] 32)) (w.heap.size + 1 + 1) 32 #[.int .i64 0] := by
    have := Blk.new ((w.alloc (.cells #[.pointer (some ⟨h, 0, none⟩)] 23)).alloc (.cells #[.int .u8 kd, .int .u64 K] 71)) 32 #[.int .i64 0]
    rw [World.size_alloc, World.size_alloc] at this
    exact this
  have O3 : Only (fun k => k = h) w (((w.alloc (.cells #[.pointer (some ⟨h, 0, none⟩)] 23)).alloc (.cells #[.int .u8 kd, .int .u64 K] 71)).alloc (.cells #[.int .i64 0] 32)) := (((Only.refl _ w).alloc _).alloc _).alloc _
  have R3 : RdAt (((w.alloc (.cells #[.pointer (some ⟨h, 0, none⟩)] 23)).alloc (.cells #[.int .u8 kd, .int .u64 K] 71)).alloc (.cells #[.int .i64 0] 32)) h s a := ⟨((HH.out.1.1.alloc _).alloc _).alloc _, HH.out.1.2⟩
  obtain ⟨w3, hw3⟩ : ∃ w3, w3 = (((w.alloc (.cells #[.pointer (some ⟨h, 0, none⟩)] 23)).alloc (.cells #[.int .u8 kd, .int .u64 K] 71)).alloc (.cells #[.int .i64 0] 32)) := ⟨_, rfl⟩
  rw [← hw3] at B1 B2 B3 O3 R3
  rw [← hw3]
  obtain ⟨gr, hgr⟩ : ∃ gr, gr = w.heap.size := ⟨_, rfl⟩
  rw [← hgr] at B1 B2 B3 hlt
  rw [← hgr]
  have Hgr := Lib.hid hgr
  clear hw3 hgr
  have H3 := Lib.hid (And.intro B1 (And.intro B2 (And.intro B3 (And.intro O3 R3))))
  clear B1 B2 B3 O3 R3
  refine (check_any kd K _).mono ?_
  rintro e w4 ⟨rfl, hb⟩
  rw [cChk_yes HH.out.2.2.2.1]
  have ob : Only (fun _ => False) w3 w4 := Only.of_below hb
  have B1 := H3.out.1.only ob (fun e => e)
  have B2 := H3.out.2.1.only ob (fun e => e)
  have B3 := H3.out.2.2.1.only ob (fun e => e)
  have O4 := H3.out.2.2.2.1.trans ob (fun _ _ e => e.elim)
  have R4 := H3.out.2.2.2.2.only ob
  have c1 := B1.cell 0
  have c2a := B2.cell 0
  have c2b := B2.cell 1
  have c3 := B3.cell 0
  simp at c1 c2a c2b c3
  have l1 := B1.lt
  have l2 := B2.lt
  have l3 := B3.lt
  have H4 := Lib.hid (And.intro B1 (And.intro B2 (And.intro B3 (And.intro O4 R4))))
  clear B1 B2 B3 O4 R4 ob hb H3
  go_wp2_with fail
  refine (at_any h s a _ H4.out.2.2.2.2).mono ?_
  rintro e w' ⟨rfl, rfl⟩
  go_wp2_with fail
  have S5 : Hid (∀ (x y : Obj), Only (fun _ => False) w4 ((w4.alloc x).alloc y)) := fun x y => ((Only.refl _ w4).alloc x).alloc y
  have B6 : Blk ((w4.alloc (.cells #[.int .i64 a] 3)).alloc (.cells #[.pointer (some ⟨h, 0, none⟩), .bool false] 98)) w4.heap.size 3 #[.int .i64 a] := (Blk.new w4 3 _).alloc _
  have B7 : Blk ((w4.alloc (.cells #[.int .i64 a] 3)).alloc (.cells #[.pointer (some ⟨h, 0, none⟩), .bool false] 98)) (w4.heap.size + 1) 98 #[.pointer (some ⟨h, 0, none⟩), .bool false] := by
    have := Blk.new (w4.alloc (.cells #[.int .i64 a] 3)) 98 #[.pointer (some ⟨h, 0, none⟩), .bool false]
    rw [World.size_alloc] at this
    exact this
  have ob := S5.out (.cells #[.int .i64 a] 3) (.cells #[.pointer (some ⟨h, 0, none⟩), .bool false] 98)
  have B1 := H4.out.1.only ob (fun e => e)
  have B2 := H4.out.2.1.only ob (fun e => e)
  have B3 := H4.out.2.2.1.only ob (fun e => e)
  have O5 := H4.out.2.2.2.1.trans ob (fun _ _ e => e.elim)
  have R5 := H4.out.2.2.2.2.only ob
  obtain ⟨w5, hw5⟩ : ∃ w5, w5 = ((w4.alloc (.cells #[.int .i64 a] 3)).alloc (.cells #[.pointer (some ⟨h, 0, none⟩), .bool false] 98)) := ⟨_, rfl⟩
  rw [← hw5] at B1 B2 B3 B6 B7 O5 R5
  rw [← hw5]
  obtain ⟨g6, hg6⟩ : ∃ g6, g6 = w4.heap.size := ⟨_, rfl⟩
  rw [← hg6] at B6 B7 l1 l2 l3
  rw [← hg6]
  clear hw5 hg6 S5 ob c1 c2a c2b c3
  have H5 := Lib.hid (And.intro B1 (And.intro B2 (And.intro B3 (And.intro B6 (And.intro (show RgAt w5 (g6 + 1) h s a false from ⟨B7, R5⟩) O5)))))
  clear B1 B2 B3 B6 B7 O5 R5 H4
  refine (HH.out.2.2.2.2 (g6 + 1) h w5 H5.out.2.2.2.2.1).mono ?_
  rintro e w6 ⟨rfl, hp⟩
  have B1 : Blk w6 gr 23 #[.pointer (some ⟨h, 0, none⟩)] := H5.out.1.only hp.2 (by rintro (e | e) <;> omega)
  have B2 : Blk w6 (gr + 1) 71 #[.int .u8 kd, .int .u64 K] := H5.out.2.1.only hp.2 (by rintro (e | e) <;> omega)
  have B3 : Blk w6 (gr + 1 + 1) 32 #[.int .i64 0] := H5.out.2.2.1.only hp.2 (by rintro (e | e) <;> omega)
  have B6 : Blk w6 g6 3 #[.int .i64 a] := H5.out.2.2.2.1.only hp.2 (by rintro (e | e) <;> omega)
  have c1 := B1.cell 0
  have c2a := B2.cell 0
  have c2b := B2.cell 1
  have c3 := B3.cell 0
  have f3 := B3.frozen 0
  have c6 := B6.cell 0
  have c7 := hp.1.1.cell 1
  simp at c1 c2a c2b c3 c6 c7
  have hgw := Hgr.out
  have l5 : w.heap.size ≤ g6 := by omega
  have O6 : Only (fun k => k = h) w w6 := H5.out.2.2.2.2.2.trans hp.2 (by rintro i hi (e | e); exact e; omega)
  have H6 := Lib.hid (And.intro B1 (And.intro B2 (And.intro B3 (And.intro B6 (And.intro hp.1 O6)))))
  clear B1 B2 B3 B6 O6 hp H5 hgw
  cases bad with
  | true =>
    have hX : rv = 0 ∧ rc = 4 ∧ ra = a := hr.out
    have HX := Lib.hid hX
    clear hX hr
    go_wp2_with fail
    have HS : Hid (RdTo w h s a' (w6.setCell ⟨gr + 1 + 1, 0, none⟩ (.int .i64 4))) := ⟨⟨H6.out.2.2.2.2.1.2.1.far (by show h ≠ gr + 1 + 1; omega) _, H6.out.2.2.2.2.1.2.2⟩, H6.out.2.2.2.2.2.setCell (p := ⟨gr + 1 + 1, 0, none⟩) (.inr (by have := Hgr.out; show _ ≤ gr + 1 + 1; omega)) _⟩
    have B3 := H6.out.2.2.1.set_ 0 (.int .i64 4)
    have B1 : Blk (w6.setCell ⟨gr + 1 + 1, 0, none⟩ (.int .i64 4)) gr 23 #[.pointer (some ⟨h, 0, none⟩)] := H6.out.1.far (by show gr ≠ gr + 1 + 1; omega) _
    have B6 : Blk (w6.setCell ⟨gr + 1 + 1, 0, none⟩ (.int .i64 4)) g6 3 #[.int .i64 a] := H6.out.2.2.2.1.far (by show g6 ≠ gr + 1 + 1; omega) _
    refine leaves_cons (f := 55) (args := #[.pointer (some ⟨gr + 1 + 1, 0, none⟩), .pointer (some ⟨gr, 0, none⟩), .pointer (some ⟨g6, 0, none⟩)]) (by simp) (by simp [go_sem]) ?_
    refine (back1 (gr + 1 + 1) gr g6 h 4 a a' s .returning _ (by decide) (by rw [B3.cell 0]; rfl) (by rw [B1.cell 0]; rfl) (by rw [B6.cell 0]; rfl) HS.out.1 HH.out.2.1 HH.out.1.2).mono ?_
    rintro e u' w7 ⟨rfl, rfl, hp⟩
    have B3' : Blk w7 (gr + 1 + 1) 32 #[.int .i64 4] := Blk.only (by simpa using B3) hp.2 (by show gr + 1 + 1 ≠ h; omega)
    have hc : w7.cell? ⟨gr + 1 + 1, 0, none⟩ = some (.int .i64 4) := by rw [B3'.cell 0]; rfl
    refine ⟨.tuple #[.int .u64 0, .int .i64 4], ?_, ?_⟩
    · simp [results, Try.results37, go_sem, hc]
    · rw [HX.out.1, HX.out.2.1, HX.out.2.2]
      exact ⟨rfl, hp.1, HS.out.2.trans hp.2 (fun _ _ e => e)⟩
  | false =>
    obtain ⟨M, hM⟩ : ∃ M, M = cMost kd K := ⟨_, rfl⟩
    have hX : rv = (if M < V then 0 else V) ∧ rc = (if M < V then 4 else 0) ∧ ra = if M < V then a else a' := by
      have := hr.out
      unfold rdBad at this
      rw [← hM] at this
      simpa using this
    have HX := Lib.hid hX
    have HM := Lib.hid hM
    clear hX hr hM
    go_wp2_with fail
    refine (most_any kd K _ HH.out.2.2.1).mono ?_
    rintro e w7 ⟨rfl, hb⟩
    rw [← HM.out]
    have ob : Only (fun _ => False) w6 w7 := Only.of_below hb
    have B1 := H6.out.1.only ob (fun e => e)
    have B3 := H6.out.2.2.1.only ob (fun e => e)
    have B6 := H6.out.2.2.2.1.only ob (fun e => e)
    have R7 := H6.out.2.2.2.2.1.2.only ob
    have O7 := H6.out.2.2.2.2.2.trans ob (fun _ _ e => e.elim)
    have d3 := B3.cell 0
    have e3 := B3.frozen 0
    simp at d3
    have H7 := Lib.hid (And.intro B1 (And.intro B3 (And.intro B6 (And.intro R7 O7))))
    clear B1 B3 B6 R7 O7 ob hb c1 c2a c2b c3 f3 c6 c7 H6
    by_cases hlm : M < V
    · have HX2 : Hid (rv = 0 ∧ rc = 4 ∧ ra = a) := by have := HX.out; rw [if_pos hlm, if_pos hlm, if_pos hlm] at this; exact this
      clear HX
      go_wp2_with fail
      have HS : Hid (RdTo w h s a' (w7.setCell ⟨gr + 1 + 1, 0, none⟩ (.int .i64 4))) := ⟨⟨H7.out.2.2.2.1.1.far (by show h ≠ gr + 1 + 1; omega) _, H7.out.2.2.2.1.2⟩, H7.out.2.2.2.2.setCell (p := ⟨gr + 1 + 1, 0, none⟩) (.inr (by have := Hgr.out; show _ ≤ gr + 1 + 1; omega)) _⟩
      have B3 := H7.out.2.1.set_ 0 (.int .i64 4)
      have B1 : Blk (w7.setCell ⟨gr + 1 + 1, 0, none⟩ (.int .i64 4)) gr 23 #[.pointer (some ⟨h, 0, none⟩)] := H7.out.1.far (by show gr ≠ gr + 1 + 1; omega) _
      have B6 : Blk (w7.setCell ⟨gr + 1 + 1, 0, none⟩ (.int .i64 4)) g6 3 #[.int .i64 a] := H7.out.2.2.1.far (by show g6 ≠ gr + 1 + 1; omega) _
      refine leaves_cons (f := 55) (args := #[.pointer (some ⟨gr + 1 + 1, 0, none⟩), .pointer (some ⟨gr, 0, none⟩), .pointer (some ⟨g6, 0, none⟩)]) (by simp) (by simp [go_sem]) ?_
      refine (back1 (gr + 1 + 1) gr g6 h 4 a a' s .returning _ (by decide) (by rw [B3.cell 0]; rfl) (by rw [B1.cell 0]; rfl) (by rw [B6.cell 0]; rfl) HS.out.1 HH.out.2.1 HH.out.1.2).mono ?_
      rintro e u' w8 ⟨rfl, rfl, hp⟩
      have B3' : Blk w8 (gr + 1 + 1) 32 #[.int .i64 4] := Blk.only (by simpa using B3) hp.2 (by show gr + 1 + 1 ≠ h; omega)
      have hc : w8.cell? ⟨gr + 1 + 1, 0, none⟩ = some (.int .i64 4) := by rw [B3'.cell 0]; rfl
      refine ⟨.tuple #[.int .u64 0, .int .i64 4], ?_, ?_⟩
      · simp [results, Try.results37, go_sem, hc]
      · rw [HX2.out.1, HX2.out.2.1, HX2.out.2.2]
        exact ⟨rfl, hp.1, HS.out.2.trans hp.2 (fun _ _ e => e)⟩
    · have HX2 : Hid (rv = V ∧ rc = 0 ∧ ra = a') := by have := HX.out; rw [if_neg hlm, if_neg hlm, if_neg hlm] at this; exact this
      clear HX
      go_wp2_with fail
      have HS : Hid (RdTo w h s a' (w7.setCell ⟨gr + 1 + 1, 0, none⟩ (.int .i64 0))) := ⟨⟨H7.out.2.2.2.1.1.far (by show h ≠ gr + 1 + 1; omega) _, H7.out.2.2.2.1.2⟩, H7.out.2.2.2.2.setCell (p := ⟨gr + 1 + 1, 0, none⟩) (.inr (by have := Hgr.out; show _ ≤ gr + 1 + 1; omega)) _⟩
      have B3 := H7.out.2.1.set_ 0 (.int .i64 0)
      have hc : (w7.setCell ⟨gr + 1 + 1, 0, none⟩ (.int .i64 0)).cell? ⟨gr + 1 + 1, 0, none⟩ = some (.int .i64 0) := by rw [B3.cell 0]; rfl
      refine leaves_cons (f := 55) (args := #[.pointer (some ⟨gr + 1 + 1, 0, none⟩), .pointer (some ⟨gr, 0, none⟩), .pointer (some ⟨g6, 0, none⟩)]) (by simp) (by simp [go_sem]) ?_
      refine (back0 (gr + 1 + 1) gr g6 .returning _ hc).mono ?_
      rintro e u' w8 ⟨rfl, rfl, rfl⟩
      refine ⟨.tuple #[.int .u64 V, .int .i64 0], ?_, ?_⟩
      · simp [results, Try.results37, go_sem, hc]
      · rw [HX2.out.1, HX2.out.2.1, HX2.out.2.2]
        exact ⟨rfl, HS.out⟩
end Go.Proofs.Ytmgngmnkmmhckaa
