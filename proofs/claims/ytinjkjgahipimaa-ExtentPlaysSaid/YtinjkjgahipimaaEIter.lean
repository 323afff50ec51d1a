/-
  The iterator over the free extents: its contract.
-/
import Derived.RangeFuncNested
import Derived.RangeFuncBound
import Derived.RangeFuncCalls
import Derived.RangeFuncLeaves
import Derived.RangeFuncBox
import Derived.Shelf.Abstract
import Derived.Shelf.RegionOpen
import Derived.OwnWalkIn
import Derived.TacticsInMore
import Derived.LoopNIn
import Derived.LoopIn
import Derived.Maps.AppendAt
import Derived.Test.YtinjkjgahipimaaEBase
import Derived.Test.YtinjkjgahipimaaESp
set_option linter.unusedVariables false
namespace Go.Proofs.Ytinjkjgahipimaa
open Go.RowKit Go.Shelf
attribute [local go_sem] Oper.semAt_some

/-- the blocks of G lie as they lay -/
def Kg (G : Nat → Prop) (W W' : World) : Prop := W.heap.size ≤ W'.heap.size ∧ ∀ k, G k → W'.heap[k]? = W.heap[k]?
section
variable {G : Nat → Prop} {W W' X : World}
theorem Kg.refl (G : Nat → Prop) (W : World) : Kg G W W := ⟨Nat.le_refl _, fun _ _ => rfl⟩
theorem Kg.trans (h : Kg G W W') (k : Kg G W' X) : Kg G W X := ⟨Nat.le_trans h.1 k.1, fun i hi => (k.2 i hi).trans (h.2 i hi)⟩
theorem Kg.alloc (h : Kg G W W') (hG : ∀ k, G k → k < W'.heap.size) (o : Obj) : Kg G W (W'.alloc o) :=
  ⟨Nat.le_trans h.1 (by simp), fun k hk => (Below.heap_alloc W' o k (hG k hk)).trans (h.2 k hk)⟩
theorem Kg.cell (h : Kg G W W') {p : Addr} (hp : G p.block) : W'.cell? p = W.cell? p := World.cell?_of_block (h.2 _ hp)
theorem Kg.setCell (h : Kg G W W') {p : Addr} (hp : ¬ G p.block) (u : Value) : Kg G W (W'.setCell p u) :=
  ⟨Nat.le_trans h.1 (by simp [World.setCell]), fun k hk => (Below.heap_setCell W' p u k (fun e => hp (e ▸ hk))).trans (h.2 k hk)⟩
theorem Kg.of_only {F : Nat → Prop} (h : Only F W W') (hG : ∀ k, G k → k < W.heap.size) (hF : ∀ k, G k → ¬ F k) : Kg G W W' :=
  ⟨h.size, fun k hk => h.block k (hG k hk) (hF k hk)⟩
theorem kg_b {w : World} (hG : ∀ k, G k → k < w.heap.size) : ∀ (W : World) (l : Nat) (o o' : Obj), w.heap.size ≤ l → W.heap[l]? = some o → o.isCells = false → o.isWalk = false → Kg G W (W.putObj l o') :=
  fun W l o o' hl _ _ _ => ⟨by simp, fun k hk => World.putObj_heap_other (by have := hG k hk; omega)⟩
end

/-- what an iterator reads: the box of its map, the map, the row -/
structure Rd (G : Nat → Prop) (Bm h : Nat) (A : Option Addr) (c f : Nat) (L : List Nat) (W : World) : Prop where
  box : W.cell? ⟨Bm, 0, none⟩ = some (.pointer (some ⟨h, 0, none⟩))
  fro : W.cell? ⟨h, 0, none⟩ = some (.int .i64 f)
  row : W.cell? ⟨h, 1, none⟩ = some (.slice A L.length c)
  is : ∀ k, k < L.length → ∃ a, A = some a ∧ W.cell? (a.add k) = some (.int .u8 (L.getD k 0 : Nat)) ∧ G a.block
  gB : G Bm
  gh : G h
theorem Rd.keep {G : Nat → Prop} {Bm h c f : Nat} {A : Option Addr} {L : List Nat} {W W' : World} (r : Rd G Bm h A c f L W) (k : Kg G W W') : Rd G Bm h A c f L W' :=
  ⟨(k.cell (p := ⟨Bm, 0, none⟩) r.gB).trans r.box, (k.cell (p := ⟨h, 0, none⟩) r.gh).trans r.fro, (k.cell (p := ⟨h, 1, none⟩) r.gh).trans r.row,
   fun i hi => by obtain ⟨a, e, hc, hg⟩ := r.is i hi; exact ⟨a, e, (k.cell (p := a.add i) (by rw [addr_block]; exact hg)).trans hc, hg⟩, r.gB, r.gh⟩

def exV (x : Nat × Nat) : Value := .agg #[.int .i64 x.1, .int .i64 x.2]
/-- one of the free extents -/
abbrev Sx (L : List Nat) (f : Nat) := { x : Nat × Nat // x ∈ spc L f }
def vals {L : List Nat} {f : Nat} (xs : List (Sx L f)) : List (Nat × Nat) := xs.map (·.1)
theorem vals_snoc {L : List Nat} {f : Nat} (xs : List (Sx L f)) (x : Sx L f) : vals (xs ++ [x]) = vals xs ++ [x.1] := by simp [vals]
theorem vals_length {L : List Nat} {f : Nat} (xs : List (Sx L f)) : (vals xs).length = xs.length := by simp [vals]

set_option maxRecDepth 100000 in
set_option maxHeartbeats 2000000 in
theorem spaces1_in (F : Fence) (n : Nat) (h52 : F.fn 52) (hro : F.round = none) (hn : 1 ≤ n) (G : Nat → Prop) (lp Bm h c f : Nat) (A : Option Addr) (L : List Nat) (J Jx : List (Sx L f) → World → Prop) (W : World)
    (hJ : AbidesFrom W.heap.size J)
    (hY : ∀ pre x W1, J pre W1 → pre.length < (spc L f).length → YieldAt F (n - 1) Try.prog lp #[exV x.1] W1 fun e W' =>
      (e = .returned (.bool true) ∧ J (pre ++ [x]) W' ∧ Kg G W1 W') ∨ (e = .returned (.bool false) ∧ Jx (pre ++ [x]) W'))
    (hG : ∀ k, G k → k < W.heap.size) (hr : Rd G Bm h A c f L W) (hL : L.length ≤ 4096) (hfL : f ≤ L.length) (h0 : J [] W) :
    CallsIn F n Try.prog 52 #[.func (.yield lp) #[] #[], .pointer (some ⟨Bm, 0, none⟩)] W fun e W' => (∃ v, e = .returned v) ∧
      ((∃ ys, vals ys = spc L f ∧ J ys W') ∨ (∃ pre, vals pre <+: spc L f ∧ Jx pre W')) := by
  have x0 := hr.box
  have x1 := hr.fro
  have x2 := hr.row
  refine callsIn_of_wp Try.func52 rfl h52 ?_ hro
  simp only [Try.ntmps52, List.size_toArray, List.length_cons, List.length_nil, Nat.reduceAdd, Nat.reduceSub, Array.replicate_succ, Array.replicate_zero, List.push_toArray, List.append_toArray, List.nil_append, List.cons_append]
  have HH := Lib.hid (And.intro hJ (And.intro hY hr))
  clear hJ hY hr
  gi_wp2
  clear x0 x1 x2
  gi_loopw [3] (fun i wr => ∃ (k : Nat) (pre : List (Sx L f)), k ≤ L.length + 1 ∧ i = .int .i64 k ∧ spc L f = vals pre ++ spc L k ∧ J pre wr ∧ Kg G W wr)
    (fun i _ => L.length + 1 - (intOf i).toNat)
  case atStart => exact ⟨f, [], by omega, rfl, rfl, h0, Kg.refl _ _⟩
  case round =>
    obtain ⟨k, pre, hk, rfl, hx, hJs, hkg⟩ := hrel
    obtain ⟨x0, x1, x2, x3, _, _⟩ := HH.out.2.2.keep hkg
    have HS := Lib.hid (And.intro hx (And.intro hJs (And.intro hkg x3)))
    clear hx hJs hkg x3
    by_cases hlt : k < L.length
    · obtain ⟨q, hq⟩ : ∃ q, q = fr L k := ⟨_, rfl⟩
      have hql : k + q ≤ L.length := by have := fr_le L k; omega
      have Hq := Lib.hid hq
      clear hq
      gi_wp2
      obtain ⟨wx, hwx⟩ : ∃ wx, wx = wr.alloc (.cells #[.int .i64 k, .int .i64 0] 39) := ⟨_, rfl⟩
      obtain ⟨bx, hbx⟩ : ∃ bx, bx = wr.heap.size := ⟨_, rfl⟩
      have hGr : ∀ k, G k → k < wr.heap.size := fun k hk => Nat.lt_of_lt_of_le (hG k hk) HS.out.2.2.1.1
      have hkx : Kg G W wx := by rw [hwx]; exact HS.out.2.2.1.alloc hGr _
      have hB : Blk wx bx 39 #[.int .i64 k, .int .i64 0] := by rw [hwx, hbx]; exact Blk.new _ _ _
      have hGx : ¬ G bx := fun hg => by have := hGr bx hg; omega
      have hset : wx.setCell ⟨bx, 1, none⟩ (.int .i64 q) = wr.alloc (.cells #[.int .i64 k, .int .i64 q] 39) := by
        rw [hwx, hbx, World.setCell_alloc_new]; rfl
      have hJx : J pre (wr.alloc (.cells #[.int .i64 k, .int .i64 q] 39)) := HH.out.1 pre wr _ none HS.out.2.1 (World.grownBy_alloc _ _ none) (fun r e => by cases e)
      have hkq : Kg G W (wr.alloc (.cells #[.int .i64 k, .int .i64 q] 39)) := HS.out.2.2.1.alloc hGr _
      rw [← hset] at hJx hkq
      rw [← hwx, ← hbx]
      have HX := Lib.hid (And.intro hkx (And.intro hB (And.intro hJx hkq)))
      clear hwx hbx hGr hkx hB hset hJx hkq x0 x1 x2
      obtain ⟨y0, y1, y2, y3, _, _⟩ := HH.out.2.2.keep HX.out.1
      have HY := Lib.hid y3
      clear y3
      have z0 := HX.out.2.1.cell 0
      have z1 := HX.out.2.1.cell 1
      have f1 := HX.out.2.1.frozen 1
      simp at z0 z1
      gi_loopw [3] (fun i wz => ∃ j : Nat, j ≤ q ∧ i = .int .i64 (k + j : Nat) ∧ wz = wx) (fun i _ => k + q - (intOf i).toNat)
      case atStart => exact ⟨0, Nat.zero_le _, rfl, rfl⟩
      case round =>
        obtain ⟨j, hj, rfl, rfl⟩ := hrel
        by_cases hjq : j < q
        · have hkj : k + j < L.length := by omega
          obtain ⟨a, rfl, hc, _⟩ := HY.out (k + j) hkj
          have hv : L.getD (k + j) 0 = 0 := fr_zero (by rw [← Hq.out]; exact hjq)
          rw [hv] at hc
          clear hv
          gi_wp2
          go_roundw
          case rel => exact ⟨j + 1, by omega, by go_num, by first | rfl | trivial⟩
          case measure => simp [intOf]; omega
        · obtain rfl : j = q := by omega
          rcases Nat.eq_zero_or_pos j with h0 | h0
          · subst h0
            have hs : L.getD k 0 ≠ 0 := by have := fr_stop (l := L) (n := k) (by rw [← Hq.out]; omega); rw [← Hq.out] at this; exact this
            obtain ⟨a, rfl, hc, _⟩ := HY.out k hlt
            obtain ⟨v, hv⟩ : ∃ v, v = L.getD k 0 := ⟨_, rfl⟩
            rw [← hv] at hc hs
            have hne : ((v : Int) == 0) = false := by simp; omega
            have hsp : spc L k = spc L (k + 1) := spc_zero hlt Hq.out.symm
            have HP := Lib.hid hsp
            clear hs hv hsp
            gi_wp2
            refine ⟨fun _ h => (by cases h), ?_⟩
            gi_wp2
            go_roundw
            case rel => exact ⟨k + 1, pre, by omega, by go_num, by rw [HS.out.1, HP.out], HX.out.2.2.1, HX.out.2.2.2⟩
            case measure => simp [intOf]; omega
          · have hsp : spc L k = (k, j) :: spc L (k + j + 1) := by rw [Hq.out]; exact spc_pos hlt (by rw [← Hq.out]; exact h0)
            have hmem : (k, j) ∈ spc L f := by rw [HS.out.1, hsp]; simp
            obtain ⟨fn, tmps, assign, body, hy, hR⟩ := HH.out.2.1 pre ⟨(k, j), hmem⟩ _ HX.out.2.2.1 (by rw [HS.out.1, hsp]; simp [vals])
            unfold exV at hy
            dsimp only at hy
            have Hspl : Hid (spc L f = vals pre ++ [(k, j)] ++ spc L (k + j + 1)) := by rw [List.append_assoc]; exact HS.out.1.trans (by rw [hsp]; rfl)
            have HP := Lib.hid (And.intro hsp hR)
            clear hsp hR
            have hj0 : (0 : Int) < (j : Int) := by omega
            have hsub : (k : Int) + (j : Int) - (k : Int) = (j : Int) := by omega
            rcases Nat.lt_or_ge (k + j) L.length with h2 | h2
            · obtain ⟨a, rfl, hc, _⟩ := HY.out (k + j) h2
              have hs : L.getD (k + j) 0 ≠ 0 := by have := fr_stop (l := L) (n := k) (by rw [← Hq.out]; omega); rw [← Hq.out] at this; exact this
              obtain ⟨v, hv⟩ : ∃ v, v = L.getD (k + j) 0 := ⟨_, rfl⟩
              rw [← hv] at hc hs
              have hne : ((v : Int) == 0) = false := by simp; omega
              clear hs hv
              gi_wp2
              refine HP.out.2.mono ?_
              rintro e W3 (⟨rfl, hJ3, hk3⟩ | ⟨rfl, hJx3⟩)
              · have H3 := Lib.hid (And.intro hJ3 hk3)
                clear hJ3 hk3 hy
                gi_wp2
                go_roundw
                case rel => exact ⟨k + j + 1, pre ++ [⟨(k, j), hmem⟩], by omega, by go_num, by rw [vals_snoc]; exact Hspl.out, H3.out.1, HX.out.2.2.2.trans H3.out.2⟩
                case measure => simp [intOf]; omega
              · have H3 := Lib.hid hJx3
                clear hJx3 hy
                gi_wp2
                refine bodyPost_ret (results_none rfl _ _ _) rfl ?_
                exact ⟨⟨_, rfl⟩, .inr ⟨pre ++ [⟨(k, j), hmem⟩], ⟨spc L (k + j + 1), by rw [vals_snoc]; exact Hspl.out.symm⟩, H3.out⟩⟩
            · gi_wp2
              refine HP.out.2.mono ?_
              rintro e W3 (⟨rfl, hJ3, hk3⟩ | ⟨rfl, hJx3⟩)
              · have H3 := Lib.hid (And.intro hJ3 hk3)
                clear hJ3 hk3 hy
                gi_wp2
                go_roundw
                case rel => exact ⟨k + j + 1, pre ++ [⟨(k, j), hmem⟩], by omega, by go_num, by rw [vals_snoc]; exact Hspl.out, H3.out.1, HX.out.2.2.2.trans H3.out.2⟩
                case measure => simp [intOf]; omega
              · have H3 := Lib.hid hJx3
                clear hJx3 hy
                gi_wp2
                refine bodyPost_ret (results_none rfl _ _ _) rfl ?_
                exact ⟨⟨_, rfl⟩, .inr ⟨pre ++ [⟨(k, j), hmem⟩], ⟨spc L (k + j + 1), by rw [vals_snoc]; exact Hspl.out.symm⟩, H3.out⟩⟩
    · gi_wp2
      go_end0
      exact ⟨⟨_, rfl⟩, .inl ⟨_, by rw [HS.out.1, spc_end (by omega), List.append_nil], HS.out.2.1⟩⟩

/-- the iterator's value -/
theorem spaces_in (F : Fence) (n : Nat) (h38 : F.fn 38) (hro : F.round = none) (h : Nat) (w : World) :
    CallsIn F n Try.prog 38 #[.pointer (some ⟨h, 0, none⟩)] w fun e w' => e = .returned (.func (.func 52) #[] #[.pointer (some ⟨w.heap.size, 0, none⟩)]) ∧ w' = w.alloc (.cells #[.pointer (some ⟨h, 0, none⟩)] 26) := by
  refine callsIn_of_wp Try.func38 rfl h38 ?_ hro
  simp only [Try.ntmps38, List.size_toArray, List.length_cons, List.length_nil, Nat.reduceAdd, Nat.reduceSub, Array.replicate_succ, Array.replicate_zero, List.push_toArray, List.append_toArray, List.nil_append, List.cons_append]
  gi_wp2
  go_ret
  exact ⟨rfl, rfl⟩
theorem spaces_stops (F : Fence) (n : Nat) (h52 : F.fn 52) (hro : F.round = none) (hn : 1 ≤ n) (G : Nat → Prop) (Bm h c f : Nat) (A : Option Addr) (L : List Nat) (w : World)
    (hG : ∀ k, G k → k < w.heap.size) (hr : Rd G Bm h A c f L w) (hL : L.length ≤ 4096) (hfL : f ≤ L.length) :
    SeqStopsK F n Try.prog 52 #[.pointer (some ⟨Bm, 0, none⟩)] (fun x : Sx L f => #[exV x.1]) (Kg G) (fun ys => vals ys = spc L f) (fun pre => vals pre <+: spc L f) (spc L f).length w := fun l J Jx W hW hJ _ hY h0 =>
  spaces1_in F n h52 hro hn G l Bm h c f A L J Jx W hJ hY (fun k hk => Nat.lt_of_lt_of_le (hG k hk) hW.size) (hr.keep ⟨hW.size, fun k hk => hW.block k (hG k hk)⟩) hL hfL h0
end Go.Proofs.Ytinjkjgahipimaa
