/-
  The law PageDecodes: its walk.
-/
import Derived.Test.YtpggicaphejjfaaPDecode2
import Derived.Test.YtpggicaphejjfaaPRDecode2
import Derived.Test.YtpggicaphejjfaaPSame2
set_option linter.unusedVariables false
namespace Go.Proofs.Ytpggicaphejjfaa
open Go.RowKit

theorem nd_move {W W' : World} {B : Nat} {n : Nd} {K V U : Option Addr} {c1 c2 c3 : Nat} (h : NdR W n K V U) (ho : OwnD W' B n K V U c1 c2 c3) : NdR W' n K V U :=
  { k := row_strR ho.1, v := row_strR ho.2.1, i := row_kidR ho.2.2.1, l1 := h.l1, l2 := h.l2, l3 := h.l3, a1 := fun _ => row_lt ho.1, a2 := fun _ => row_lt ho.2.1, b := h.b, z := h.z, u := h.u }
theorem OwnD.frame {F : Nat → Prop} {W W' : World} {B : Nat} {n : Nd} {K V U : Option Addr} {c1 c2 c3 : Nat} (h : OwnD W B n K V U c1 c2 c3) (ho : Only F W W') (hF : ∀ g, B ≤ g → ¬ F g) : OwnD W' B n K V U c1 c2 c3 :=
  ⟨own_only h.1 ho (fun g hg => hF g (h.1.lt g hg).1), own_only h.2.1 ho (fun g hg => hF g (h.2.1.lt g hg).1), own_only h.2.2.1 ho (fun g hg => hF g (h.2.2.1.lt g hg).1), h.2.2.2⟩
/-- what the three loops keep -/
def LdI (B T : Nat) (w4 : World) (N1 N2 N3 : Nat) (K V U : Option Addr) (e1 e2 e3 : Nat) (u : World) : Prop :=
  Only (fun k => B ≤ k ∧ k < T) w4 u ∧ (∃ xs, u.ownsRow B 9 1 (.slice K N1 e1) N1 xs) ∧ (∃ xs, u.ownsRow B 9 1 (.slice V N2 e2) N2 xs) ∧ (∃ xs, u.ownsRow B 42 1 (.slice U N3 e3) N3 xs)
section
variable {B T : Nat} {w4 u : World} {N1 N2 N3 : Nat} {K V U : Option Addr} {e1 e2 e3 : Nat}
theorem own_row_ne {e e' : TypeId} {v v' : Value} {n n' : Nat} {xs xs' : List Value} (h : u.ownsRow B e 1 v n xs) (h' : u.ownsRow B e' 1 v' n' xs') (hne : e ≠ e') : ∀ k, v.ownBlock = some k → v'.ownBlock ≠ some k := by
  intro k hk hk'
  rcases h'.2 with ⟨e1, _⟩ | ⟨g, cap, cur, e1, _, hg, _⟩
  · rw [e1] at hk'; simp [Value.ownBlock] at hk'
  · rw [e1] at hk'
    have e2 : g = k := by simpa [Value.ownBlock] using hk'
    subst e2
    exact own_blk_ne h (g := g) hg hne g hk rfl
/-- a store into a row -/
theorem row_store {e : TypeId} {A : Option Addr} {n c i : Nat} {xs : List Value} (h : u.ownsRow B e 1 (.slice A n c) n xs) (hi : i < n) (hT : ∀ k, Value.ownBlock (.slice A n c) = some k → k < T) (v : Value) :
    ∃ g, A = some ⟨g, 0, none⟩ ∧ (∃ y, u.cell? ⟨g, i, none⟩ = some y) ∧ u.frozen? ⟨g, i, none⟩ = false ∧ (∃ xs', (u.setCell ⟨g, i, none⟩ v).ownsRow B e 1 (.slice A n c) n xs') ∧ Only (fun k => B ≤ k ∧ k < T) u (u.setCell ⟨g, i, none⟩ v) ∧ Only (fun k => Value.ownBlock (.slice A n c) = some k) u (u.setCell ⟨g, i, none⟩ v) := by
  obtain ⟨g, cap, hv, _, _⟩ := World.ownsRow.form h (by omega)
  injection hv with q1 q2 q3
  subst q1 q3
  have hl := h.1
  have hc := World.ownsRow.cellAt h i (by omega)
  rw [List.getElem?_eq_getElem (by omega)] at hc
  have hg := h.lt g rfl
  exact ⟨g, rfl, ⟨_, hc⟩, World.ownsRow.frozenAt h i, ⟨_, (World.ownsRow.stored h i v).1⟩, (Only.refl _ u).setCell (p := ⟨g, i, none⟩) (.inl ⟨hg.1, hT g rfl⟩) _, (Only.refl (fun k => Value.ownBlock (.slice (some ⟨g, 0, none⟩) n c) = some k) u).setCell (p := ⟨g, i, none⟩) (.inl rfl) v⟩
end

set_option maxRecDepth 100000 in
set_option maxHeartbeats 8000000 in
theorem decodes_any (S : ByteArray) (w : World) (hS : S.size ≤ 140737488355328) : Calls Try.prog 5 #[.string S] w fun e w' => e = .returned (.bool true) ∧ Below w.heap.size w w' := by
  have HD1 := Lib.hid (decode_any S w hS)
  have HDA : Hid (∀ u, Calls Try.prog 23 #[.string S] u (DecPost S u) ∧ Calls Try.prog 24 #[.string S] u (DecPost S u)) := fun u => ⟨decode_any S u hS, rdecode_any S u hS⟩
  clear hS
  go_enter Try.func5, Try.ntmps5
  go_wp2_with fail
  refine HD1.out.mono ?_
  rintro e w1 ⟨n, K, V, U, e1, e2, e3, ev, rfl, hb1, hnd1, hod1, hR1, l1, l2, l3⟩
  obtain ⟨w2, hw2⟩ : ∃ w2, w2 = w1.alloc (.cells (ndC n K V U e1 e2 e3) 26) := ⟨_, rfl⟩
  obtain ⟨pa, hpa⟩ : ∃ p, p = w1.heap.size := ⟨_, rfl⟩
  have hs2 : w2.heap.size = w1.heap.size + 1 := by rw [hw2]; simp
  have hb2 : Below w1.heap.size w1 w2 := by rw [hw2]; exact (Below.refl _ w1).alloc (Nat.le_refl _) _
  have ka : Blk w2 pa 26 (ndC n K V U e1 e2 e3) := by rw [hw2, hpa]; exact Blk.new w1 26 _
  have HW2 := Lib.hid (And.intro hw2 hpa)
  have H2 := Lib.hid (And.intro hb1 (And.intro hnd1 (And.intro hod1 (And.intro hR1 (And.intro hb2 (And.intro ka (And.intro hs2 hpa)))))))
  have HLn : Hid (∀ B1 B2 B3 d1 d2 d3, ndC n B1 B2 B3 d1 d2 d3 = #[.bool n.leaf, .slice B1 n.keys.length d1, .slice B2 n.vals.length d2, .slice B3 n.kids.length d3]) := fun _ _ _ _ _ _ => rfl
  clear hb1 hnd1 hod1 hR1 hb2 ka hs2 hw2 hpa
  rw [HLn.out] at HW2 H2 ⊢
  obtain ⟨N1, hN1⟩ : ∃ N, N = n.keys.length := ⟨_, rfl⟩
  obtain ⟨N2, hN2⟩ : ∃ N, N = n.vals.length := ⟨_, rfl⟩
  obtain ⟨N3, hN3⟩ : ∃ N, N = n.kids.length := ⟨_, rfl⟩
  obtain ⟨lf, hlf⟩ : ∃ b, b = n.leaf := ⟨_, rfl⟩
  simp only [← hN1, ← hN2, ← hN3, ← hlf] at HW2 H2 HLn ⊢
  rw [← hN1] at l1
  rw [← hN2] at l2
  rw [← hN3] at l3
  have HN := Lib.hid (And.intro hN1 (And.intro hN2 hN3))
  clear hN1 hN2 hN3 hlf
  go_upto_region 2 with fail
  rw [← HW2.out.1, ← HW2.out.2]
  go_wp2_with fail
  refine (HDA.out w2).2.mono ?_
  rintro e w3 ⟨n', K', V', U', d1, d2, d3, ev', rfl, hb3, hnd3, hod3, hR3, _, _, _⟩
  obtain ⟨rfl, rfl⟩ := decR_inj H2.out.2.2.2.1 hR3
  rw [HLn.out]
  obtain ⟨w4, hw4⟩ : ∃ w4, w4 = w3.alloc (.cells #[.bool lf, .slice K' N1 d1, .slice V' N2 d2, .slice U' N3 d3] 25) := ⟨_, rfl⟩
  obtain ⟨pb, hpb⟩ : ∃ p, p = w3.heap.size := ⟨_, rfl⟩
  have hb4 : Below w3.heap.size w3 w4 := by rw [hw4]; exact (Below.refl _ w3).alloc (Nat.le_refl _) _
  have kb : Blk w4 pb 25 #[.bool lf, .slice K' N1 d1, .slice V' N2 d2, .slice U' N3 d3] := by rw [hw4, hpb]; exact Blk.new w3 25 _
  have h24 : Below w2.heap.size w2 w4 := below_step hb3 hb4
  have h14 : Below w1.heap.size w1 w4 := below_step H2.out.2.2.2.2.1 h24
  have HW4 := Lib.hid (And.intro hw4 hpb)
  have H4 : Hid (Blk w4 pa 26 #[.bool lf, .slice K N1 e1, .slice V N2 e2, .slice U N3 e3] ∧ Blk w4 pb 25 #[.bool lf, .slice K' N1 d1, .slice V' N2 d2, .slice U' N3 d3] ∧ NdR w4 n K V U ∧ OwnD w4 w.heap.size n K V U e1 e2 e3 ∧ NdR w4 n K' V' U' ∧ OwnD w4 w2.heap.size n K' V' U' d1 d2 d3 ∧ Below w.heap.size w w4 ∧ w1.heap.size ≤ pa ∧ w1.heap.size ≤ pb ∧ w.heap.size ≤ w1.heap.size ∧ w2.heap.size = w1.heap.size + 1) :=
    ⟨H2.out.2.2.2.2.2.1.below h24 H2.out.2.2.2.2.2.1.lt, kb, H2.out.2.1.below h14, H2.out.2.2.1.below h14, hnd3.below hb4, hod3.below hb4, below_step H2.out.1 h14, Nat.le_of_eq H2.out.2.2.2.2.2.2.2.symm, by rw [hpb]; have h5 := hb3.size; have h6 := H2.out.2.2.2.2.2.2.1; omega, H2.out.1.size, H2.out.2.2.2.2.2.2.1⟩
  have HROW : Hid (∀ k, (Value.ownBlock (.slice K N1 e1) = some k ∨ Value.ownBlock (.slice V N2 e2) = some k ∨ Value.ownBlock (.slice U N3 e3) = some k) → k < w1.heap.size) := by
    have hh := H2.out.2.2.1
    unfold OwnD at hh
    rw [← HN.out.1, ← HN.out.2.1, ← HN.out.2.2] at hh
    rintro k (h | h | h)
    · exact (hh.1.lt k h).2
    · exact (hh.2.1.lt k h).2
    · exact (hh.2.2.1.lt k h).2
  have hI4 : LdI w.heap.size w1.heap.size w4 N1 N2 N3 K V U e1 e2 e3 w4 := by
    have hh := H4.out.2.2.2.1
    unfold OwnD at hh
    rw [← HN.out.1, ← HN.out.2.1, ← HN.out.2.2] at hh
    exact ⟨Only.refl _ _, ⟨_, hh.1⟩, ⟨_, hh.2.1⟩, ⟨_, hh.2.2.1⟩⟩
  have HKV : Hid (∀ k, Value.ownBlock (.slice K N1 e1) = some k → Value.ownBlock (.slice V N2 e2) ≠ some k) := by
    have hh := H4.out.2.2.2.1.2.2.2
    rw [← HN.out.1, ← HN.out.2.1] at hh
    exact hh
  have HI4 := Lib.hid hI4
  have hsame := same_any n n K V U K' V' U' e1 e2 e3 d1 d2 d3 true w4 H4.out.2.2.1 H4.out.2.2.2.2.1 (by simp)
  rw [HLn.out, HLn.out] at hsame
  have HSA := Lib.hid hsame
  have x0 := H4.out.1.cell 0
  have x1 := H4.out.1.cell 1
  have x2 := H4.out.1.cell 2
  have x3 := H4.out.1.cell 3
  have y0 := H4.out.2.1.cell 0
  have y1 := H4.out.2.1.cell 1
  have y2 := H4.out.2.1.cell 2
  have y3 := H4.out.2.1.cell 3
  simp at x0 x1 x2 x3 y0 y1 y2 y3
  clear hb3 hnd3 hod3 hR3 hw4 hpb hb4 kb h24 h14 hI4 hsame
  go_upto_region 3 with fail
  rw [← HW4.out.1, ← HW4.out.2]
  have hee : ((ev != ev) = false) := by simp
  go_wp2_with fail
  refine HSA.out.mono ?_
  rintro e w5 ⟨rfl, hb5⟩
  have HI5 : Hid (LdI w.heap.size w1.heap.size w4 N1 N2 N3 K V U e1 e2 e3 w5) := by
    obtain ⟨_, ⟨xs, q1⟩, ⟨ys, q2⟩, ⟨zs, q3⟩⟩ := HI4.out
    have ho : Only (fun _ => False) w4 w5 := Only.of_below hb5
    exact ⟨(Only.of_below hb5), ⟨xs, own_only q1 ho (fun _ _ f => f)⟩, ⟨ys, own_only q2 ho (fun _ _ f => f)⟩, ⟨zs, own_only q3 ho (fun _ _ f => f)⟩⟩
  have HPA : Hid (∀ u, LdI w.heap.size w1.heap.size w4 N1 N2 N3 K V U e1 e2 e3 u → Blk u pa 26 #[.bool lf, .slice K N1 e1, .slice V N2 e2, .slice U N3 e3]) := fun u hu => H4.out.1.only hu.1 (fun hf => by have := H4.out.2.2.2.2.2.2.2.1; omega)
  clear hb5 x0 x1 x2 x3 y0 y1 y2 y3 hee
  have x1 := (HPA.out w5 HI5.out).cell 1
  simp at x1
  go_wp2_with fail
  go_loopg [7] N1 (fun g i wr => ∃ k : Nat, k + g = N1 ∧ i = .int .i64 k ∧ LdI w.heap.size w1.heap.size w4 N1 N2 N3 K V U e1 e2 e3 wr)
  case atStart => exact ⟨0, by omega, rfl, HI5.out⟩
  case round =>
    obtain ⟨k, hk, rfl, hI⟩ := hrel
    have HJ := Lib.hid hI
    clear x1
    have x1 := (HPA.out wr hI).cell 1
    simp at x1
    clear hI
    by_cases hlt : k < N1
    · obtain ⟨hO, ⟨xs, q1⟩, ⟨ys, q2⟩, ⟨zs, q3⟩⟩ := HJ.out
      obtain ⟨g, rfl, ⟨yv, hcell⟩, hfz, ⟨xs', r1⟩, rF, rO⟩ := row_store (T := w1.heap.size) q1 hlt (fun q hq => HROW.out q (.inl hq)) (.string ⟨#[126]⟩)
      have hJ2 : Hid (LdI w.heap.size w1.heap.size w4 N1 N2 N3 _ _ _ e1 e2 e3 (wr.setCell ⟨g, k, none⟩ (.string ⟨#[126]⟩))) := ⟨hO.trans rF (fun _ _ h => h), ⟨xs', r1⟩, ⟨ys, own_only q2 rO (fun g hg hf => HKV.out g hf hg)⟩, ⟨zs, own_only q3 rO (fun g hg hf => own_row_ne q1 q3 (by decide) g hf hg)⟩⟩
      have hkI0 : (0 : Int) ≤ (k : Int) := by omega
      have hkI1 : (k : Int) < (N1 : Int) := by omega
      clear hO q1 q2 q3 r1 rF rO
      go_wp2_with fail
      go_roundg (N1 - k - 1)
      case measure => omega
      case rel => exact ⟨k + 1, by omega, by go_num, hJ2.out⟩
    · have hkN : N1 = k := by omega
      have x3 := (HPA.out wr HJ.out).cell 3
      simp at x3
      subst hkN
      go_wp2_with fail
      go_loopg [8] N3 (fun g i wr => ∃ k : Nat, k + g = N3 ∧ i = .int .i64 k ∧ LdI w.heap.size w1.heap.size w4 N1 N2 N3 K V U e1 e2 e3 wr)
      case atStart => exact ⟨0, by omega, rfl, HJ.out⟩
      case round =>
        obtain ⟨k, hk, rfl, hI⟩ := hrel
        have HJ2 := Lib.hid hI
        clear x3
        have x3 := (HPA.out wr hI).cell 3
        simp at x3
        clear hI
        by_cases hlt : k < N3
        · obtain ⟨hO, ⟨xs, q1⟩, ⟨ys, q2⟩, ⟨zs, q3⟩⟩ := HJ2.out
          obtain ⟨g, rfl, ⟨yv, hcell⟩, hfz, ⟨xs', r1⟩, rF, rO⟩ := row_store (T := w1.heap.size) q3 hlt (fun q hq => HROW.out q (.inr (.inr hq))) (.int .u32 0)
          have hJ2 : Hid (LdI w.heap.size w1.heap.size w4 N1 N2 N3 _ _ _ e1 e2 e3 (wr.setCell ⟨g, k, none⟩ (.int .u32 0))) := ⟨hO.trans rF (fun _ _ h => h), ⟨xs, own_only q1 rO (fun g hg hf => own_row_ne q1 q3 (by decide) g hg hf)⟩, ⟨ys, own_only q2 rO (fun g hg hf => own_row_ne q2 q3 (by decide) g hg hf)⟩, ⟨xs', r1⟩⟩
          have hkI0 : (0 : Int) ≤ (k : Int) := by omega
          have hkI1 : (k : Int) < (N3 : Int) := by omega
          clear hO q1 q2 q3 r1 rF rO
          go_wp2_with fail
          go_roundg (N3 - k - 1)
          case measure => omega
          case rel => exact ⟨k + 1, by omega, by go_num, hJ2.out⟩
        · have hkN : N3 = k := by omega
          have x2 := (HPA.out _ HJ2.out).cell 2
          simp at x2
          subst hkN
          go_wp2_with fail
          go_loopg [9] N2 (fun g i wr => ∃ k : Nat, k + g = N2 ∧ i = .int .i64 k ∧ LdI w.heap.size w1.heap.size w4 N1 N2 N3 K V U e1 e2 e3 wr)
          case atStart => exact ⟨0, by omega, rfl, HJ2.out⟩
          case round =>
            obtain ⟨k, hk, rfl, hI⟩ := hrel
            have HJ3 := Lib.hid hI
            clear x2
            have x2 := (HPA.out wr hI).cell 2
            simp at x2
            clear hI
            by_cases hlt : k < N2
            · obtain ⟨hO, ⟨xs, q1⟩, ⟨ys, q2⟩, ⟨zs, q3⟩⟩ := HJ3.out
              obtain ⟨g, rfl, ⟨yv, hcell⟩, hfz, ⟨xs', r1⟩, rF, rO⟩ := row_store (T := w1.heap.size) q2 hlt (fun q hq => HROW.out q (.inr (.inl hq))) (.string ⟨#[126]⟩)
              have hJ2 : Hid (LdI w.heap.size w1.heap.size w4 N1 N2 N3 _ _ _ e1 e2 e3 (wr.setCell ⟨g, k, none⟩ (.string ⟨#[126]⟩))) := ⟨hO.trans rF (fun _ _ h => h), ⟨xs, own_only q1 rO (fun g hg hf => HKV.out g hg hf)⟩, ⟨xs', r1⟩, ⟨zs, own_only q3 rO (fun g hg hf => own_row_ne q2 q3 (by decide) g hf hg)⟩⟩
              have hkI0 : (0 : Int) ≤ (k : Int) := by omega
              have hkI1 : (k : Int) < (N2 : Int) := by omega
              clear hO q1 q2 q3 r1 rF rO
              go_wp2_with fail
              go_roundg (N2 - k - 1)
              case measure => omega
              case rel => exact ⟨k + 1, by omega, by go_num, hJ2.out⟩
            · have hkN : N2 = k := by omega
              subst hkN
              go_wp2_with fail
              refine (HDA.out _).1.mono ?_
              rintro e w6 ⟨n', K2, V2, U2, g1, g2, g3, ev', rfl, hb6, hnd6, hod6, hR6, _, _, _⟩
              obtain ⟨rfl, rfl⟩ := decR_inj H2.out.2.2.2.1 hR6
              rw [HLn.out]
              have hO := HJ3.out.1
              have hF : ∀ g, w2.heap.size ≤ g → ¬ (w.heap.size ≤ g ∧ g < w1.heap.size) := fun g h1 h2 => by have := H4.out.2.2.2.2.2.2.2.2.2.2; omega
              have hodb := H4.out.2.2.2.2.2.1.frame hO hF
              have hndb := nd_move H4.out.2.2.2.2.1 hodb
              have kb := H4.out.2.1.only hO (fun hf => by have := H4.out.2.2.2.2.2.2.2.2.1; omega)
              have hbw : Below w.heap.size w _ := H4.out.2.2.2.2.2.2.1.trans (hO.below (fun k hk hf => by omega) H4.out.2.2.2.2.2.2.1.size)
              obtain ⟨w7, hw7⟩ : ∃ w7, w7 = w6.alloc (.cells #[.bool lf, .slice K2 N1 g1, .slice V2 N2 g2, .slice U2 N3 g3] 26) := ⟨_, rfl⟩
              obtain ⟨pc, hpc⟩ : ∃ p, p = w6.heap.size := ⟨_, rfl⟩
              have hb7 : Below w6.heap.size w6 w7 := by rw [hw7]; exact (Below.refl _ w6).alloc (Nat.le_refl _) _
              have kc : Blk w7 pc 26 #[.bool lf, .slice K2 N1 g1, .slice V2 N2 g2, .slice U2 N3 g3] := by rw [hw7, hpc]; exact Blk.new w6 26 _
              have h67 := below_step hb6 hb7
              have kb7 := kb.below h67 kb.lt
              have hsame := same_any n n K2 V2 U2 K' V' U' g1 g2 g3 d1 d2 d3 true w7 (hnd6.below hb7) (hndb.below h67) (by simp)
              rw [HLn.out, HLn.out] at hsame
              have HSB := Lib.hid hsame
              have H7 := Lib.hid (below_step hbw h67)
              have HW7 := Lib.hid (And.intro hw7 hpc)
              have z0 := kc.cell 0
              have z1 := kc.cell 1
              have z2 := kc.cell 2
              have z3 := kc.cell 3
              have y0 := kb7.cell 0
              have y1 := kb7.cell 1
              have y2 := kb7.cell 2
              have y3 := kb7.cell 3
              simp at z0 z1 z2 z3 y0 y1 y2 y3
              clear hb6 hnd6 hod6 hR6 hO hF hodb hndb kb hbw hw7 hpc hb7 kc h67 kb7 hsame
              go_upto_region 18 with fail
              rw [← HW7.out.1, ← HW7.out.2]
              go_wp2_with fail
              refine HSB.out.mono ?_
              rintro e w8 ⟨rfl, hb8⟩
              have H8 := Lib.hid (below_step H7.out hb8)
              clear hb8 z0 z1 z2 z3 y0 y1 y2 y3
              go_wp2_with fail
              refine (awake_any w8).mono ?_
              rintro e w9 ⟨rfl, hb9⟩
              have H9 := Lib.hid (below_step H8.out hb9)
              clear hb9
              go_wp2_with fail
              go_ret
              exact ⟨by simp, H9.out⟩
end Go.Proofs.Ytpggicaphejjfaa
