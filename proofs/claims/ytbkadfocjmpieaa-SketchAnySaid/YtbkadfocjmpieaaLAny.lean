/-
  SketchAny: the law's walk.
-/
import Derived.Test.YtbkadfocjmpieaaSSk
import Derived.Test.YtbkadfocjmpieaaLGrows
import Derived.Deep.RegionLaw
import Derived.Deep.RegionHeld3
set_option linter.unusedVariables false
namespace Go.Proofs.Ytbkadfocjmpieaa
open Go.RowKit

theorem info22 : (Try.prog.info? 22).map (fun i => (i.zero, i.size, i.bytes)) = some (some (.int .u64 0), 1, 8) := by kernel_rfl
def u64s (xs : List Nat) : List Value := xs.map fun (x : Nat) => .int .u64 x
theorem length_u64s (xs : List Nat) : (u64s xs).length = xs.length := by simp [u64s]
theorem u64s_append (xs ys : List Nat) : u64s (xs ++ ys) = u64s xs ++ u64s ys := by simp [u64s]
theorem u64s_get {xs : List Nat} {k : Nat} (hk : k < xs.length) : (u64s xs)[k]? = some (.int .u64 (xs.getD k 0 : Nat)) := by
  simp [u64s, List.getD, List.getElem?_eq_getElem hk]
theorem u64s_one (xs : List Nat) : ∀ u ∈ u64s xs, u.oneCell' = true := by
  intro u hu
  simp only [u64s, List.mem_map] at hu
  obtain ⟨x, _, rfl⟩ := hu
  rfl
theorem pair_src (w : World) (v : Nat) : Src ((w.alloc (.cells #[.int .u64 v, .int .u64 v] 22)).drew) (some ⟨w.heap.size, 0, none⟩) (u64s [v, v]) := by
  intro j u hj
  refine ⟨_, rfl, ?_⟩
  have hB := (Blk.new w 22 #[.int .u64 v, .int .u64 v]).drew
  match j, hj with
  | 0, hj => rw [show (⟨w.heap.size, 0, none⟩ : Addr).add 0 = ⟨w.heap.size, 0, none⟩ from rfl, hB.cell 0]; exact hj
  | 1, hj => rw [show (⟨w.heap.size, 0, none⟩ : Addr).add 1 = ⟨w.heap.size, 1, none⟩ from rfl, hB.cell 1]; exact hj
  | n + 2, hj => simp [u64s] at hj
theorem bk_mem {x : Nat} : ∀ {l : List Nat}, x ∈ bk l → x ∈ l
  | [], h => h
  | y :: l, h => by
    simp only [bk, List.mem_append, List.mem_cons, List.not_mem_nil, or_false] at h
    rcases h with h | h | h
    · exact List.mem_cons_of_mem _ (bk_mem h)
    · exact h ▸ List.mem_cons_self
    · exact h ▸ List.mem_cons_self
theorem mem_lt {l : List Nat} {B : Nat} (hB : 0 < B) : (∀ i, l.getD i 0 < B) ↔ ∀ x ∈ l, x < B := by
  constructor
  · intro h x hx
    obtain ⟨i, hi, rfl⟩ := List.getElem_of_mem hx
    have := h i
    rwa [List.getD, List.getElem?_eq_getElem hi, Option.getD_some] at this
  · intro h i
    rcases Nat.lt_or_ge i l.length with hi | hi
    · rw [List.getD, List.getElem?_eq_getElem hi, Option.getD_some]; exact h _ (List.getElem_mem hi)
    · rw [List.getD, List.getElem?_eq_none hi]; exact hB
theorem bk64 {l : List Nat} (h : ∀ i, l.getD i 0 < 18446744073709551616) : ∀ i, (bk l).getD i 0 < 18446744073709551616 :=
  (mem_lt (by decide)).2 fun x hx => (mem_lt (by decide)).1 h x (bk_mem hx)
theorem slU_own {w : World} {base : Nat} {A : Option Addr} {c n : Nat} {xs : List Nat} (h : w.ownsRow base 22 1 (.slice A n c) n (u64s xs)) : SlU w A xs := by
  intro i hi
  exact Src.own h i _ (u64s_get hi)
theorem bk_drop (l : List Nat) (k : Nat) (h : k < l.length) : bk (l.drop k) = bk (l.drop (k + 1)) ++ [l.getD k 0, l.getD k 0] := by
  rw [List.drop_eq_getElem_cons h]
  simp [bk, List.getD, List.getElem?_eq_getElem h]

set_option maxRecDepth 100000 in
set_option maxHeartbeats 1500000 in
theorem any_any (A B : Option Addr) (ca cb : Nat) (la lb : List Nat) (seed x : Nat) (P : Int) (w : World) (ha : SlU w A la) (hb : SlU w B lb) (ha64 : ∀ i, la.getD i 0 < 18446744073709551616) (hb64 : ∀ i, lb.getD i 0 < 18446744073709551616)
    (hca : la.length ≤ ca) (hcb : lb.length ≤ cb) (hcam : ca ≤ 9223372036854775807) (hcbm : cb ≤ 9223372036854775807) (hsd : seed < 18446744073709551616) :
    Calls Try.prog 5 #[.agg #[.int .u64 seed, .int .u64 x, .int .i64 P], .slice A la.length ca, .slice B lb.length cb] w fun e w' => e = .returned (.bool true) ∧ Below w.heap.size w w' := by
  have hB := Blk.new w 24 #[.int .u64 seed, .int .u64 x, .int .i64 P]
  have hB0 : Hid (Below w.heap.size w (w.alloc (.cells #[.int .u64 seed, .int .u64 x, .int .i64 P] 24))) := (Below.refl _ _).alloc (Nat.le_refl _) _
  obtain ⟨tb1, tb2⟩ := tmod13 P
  obtain ⟨q, hq⟩ : ∃ q, q = pOf P := ⟨_, rfl⟩
  have hq1 : Int.tmod P 13 % 13 = (q : Int) := by rw [hq]; unfold pOf; omega
  have hq2 : (Int.tmod P 13 + 13) % 13 = (q : Int) := by rw [hq]; unfold pOf; omega
  have hq3 : q < 13 := by rw [hq]; unfold pOf; omega
  obtain ⟨p, hp⟩ : ∃ p, p = 4 + q := ⟨_, rfl⟩
  have hpi : (4 + (q : Int)) = (p : Int) := by omega
  have h4 : 4 ≤ p := by omega
  have h16 : p ≤ 16 := by omega
  -- the two lots
  obtain ⟨xs, hxs⟩ : ∃ xs, xs = la.take 200 := ⟨_, rfl⟩
  obtain ⟨ys, hys⟩ : ∃ ys, ys = lb.take 100 := ⟨_, rfl⟩
  have hxl : xs.length = min la.length 200 := by rw [hxs, List.length_take]; omega
  have hyl : ys.length = min lb.length 100 := by rw [hys, List.length_take]; omega
  have hx2 : xs.length ≤ 200 := by omega
  have hy2 : ys.length ≤ 100 := by omega
  have sx : SlU w A xs := by rw [hxs]; exact ha.take _
  have sy : SlU w B ys := by rw [hys]; exact hb.take _
  have x64 : ∀ i, xs.getD i 0 < 18446744073709551616 := fun i => by
    rw [hxs]; simp only [List.getD, List.getElem?_take]; split
    · exact ha64 i
    · simp
  have y64 : ∀ i, ys.getD i 0 < 18446744073709551616 := fun i => by
    rw [hys]; simp only [List.getD, List.getElem?_take]; split
    · exact hb64 i
    · simp
  clear hxs hys ha hb ha64 hb64
  obtain ⟨m, hm⟩ : ∃ m, m = xs.length := ⟨_, rfl⟩
  obtain ⟨n, hn⟩ : ∃ n, n = ys.length := ⟨_, rfl⟩
  have mA1 : min la.length 200 = m := by omega
  have mA2 : min (la.length : Int) 200 = (m : Int) := by omega
  have mB1 : min lb.length 100 = n := by omega
  have mB2 : min (lb.length : Int) 100 = (n : Int) := by omega
  have hmc : m ≤ ca := by omega
  have hnc : n ≤ cb := by omega
  have hm2 : m ≤ 200 := by omega
  have hn2 : n ≤ 100 := by omega
  have skA := fun w h => sketched_any A ca xs p seed w hx2 h x64 h4 h16 hsd
  have skB := fun w h => sketched_any B cb ys p seed w (by omega) h y64 h4 h16 hsd
  rw [← hm] at skA
  rw [← hn] at skB
  have HS := Lib.hid (And.intro hB (And.intro sx (And.intro sy (And.intro skA (And.intro skB (And.intro hm (And.intro hn (And.intro y64 (And.intro hq hp)))))))))
  clear hB sx sy skA skB hm hn x64 y64 hxl hyl hx2 hy2 hq hp
  go_enter Try.func5, Try.ntmps5
  go_upto_region 2 with fail
  obtain ⟨w1, hw1⟩ : ∃ w1, w1 = w.alloc (.cells #[.int .u64 seed, .int .u64 x, .int .i64 P] 24) := ⟨_, rfl⟩
  obtain ⟨g, hg⟩ : ∃ g, g = w.heap.size := ⟨_, rfl⟩
  have H1 : Hid (Below w.heap.size w w1 ∧ Blk w1 g 24 #[.int .u64 seed, .int .u64 x, .int .i64 P] ∧ g < w1.heap.size) := by
    rw [hw1, hg]; exact ⟨hB0.out, HS.out.1, HS.out.1.lt⟩
  rw [← hw1, ← hg]
  clear hw1 hg hB0
  have hcell : Hid (∀ w', Below w1.heap.size w1 w' → w'.cell? ⟨g, 0, none⟩ = some (.int .u64 seed)) := by
    intro w' hb
    have := H1.out.2.1.below hb H1.out.2.2
    rw [this.cell 0]; rfl
  have c0 := hcell.out w1 (Below.refl _ _)
  have sx1 := HS.out.2.1.below (w' := w1) H1.out.1
  have sy1 := HS.out.2.2.1.below (w' := w1) H1.out.1
  have S1 := Lib.hid (And.intro sx1 sy1)
  clear sx1 sy1
  go_wp2_with fail
  refine (HS.out.2.2.2.1 _ S1.out.1).mono ?_
  rintro e w2 ⟨rfl, hb⟩
  have c1 := hcell.out w2 hb
  have sy2 := S1.out.2.below hb
  have H2 := Lib.hid (And.intro hb sy2)
  clear hb sy2 c0
  go_wp2_with fail
  refine (HS.out.2.2.2.2.1 _ H2.out.2).mono ?_
  rintro e w3 ⟨rfl, hb⟩
  have H3 := Lib.hid (below_step H2.out.1 hb)
  have sy3 := Lib.hid (H2.out.2.below hb)
  clear hb c1
  obtain ⟨bs, hbs⟩ : ∃ bs, bs = w3.heap.size := ⟨_, rfl⟩
  have Hbs := Lib.hid hbs
  clear hbs
  go_wp2_with fail
  obtain ⟨i0, hi, hz0, hz1, hz2⟩ := info_parts info22
  go_loopg [12, 13] n (fun gg v i wr => ∃ (A' : Option Addr) (c' N : Nat), gg ≤ n ∧ i = .int .i64 ((gg : Int) - 1) ∧ N = 2 * (n - gg) ∧ v = .slice A' N c' ∧ wr.ownsRow bs 22 1 (.slice A' N c') N (u64s (bk (ys.drop gg))) ∧ Below w3.heap.size w3 wr)
  case atStart => exact ⟨none, 0, 0, Nat.le_refl _, rfl, by omega, rfl, by rw [List.drop_of_length_le (by rw [HS.out.2.2.2.2.2.2.1]; exact Nat.le_refl _)]; exact World.ownsRow_nil w3 _ 22 1, Below.refl _ _⟩
  case round =>
    obtain ⟨A', c', N, hgn, rfl, hN, rfl, hown, hbel⟩ := hrel
    by_cases hlt : 1 ≤ gk
    · obtain ⟨k, rfl⟩ : ∃ k, gk = k + 1 := ⟨gk - 1, by omega⟩
      obtain ⟨b, rfl, hc⟩ := sy3.out k (by rw [← HS.out.2.2.2.2.2.2.1]; omega)
      have hc2 : wr.cell? (b.add k) = some (.int .u64 (ys.getD k 0 : Nat)) := (hbel.cell (World.block_lt_of_cell? w3 _ hc)).trans hc
      have hki : ((k + 1 : Nat) : Int) - 1 = (k : Int) := by omega
      rw [hki]
      obtain ⟨v, hv⟩ : ∃ v, v = ys.getD k 0 := ⟨_, rfl⟩
      rw [← hv] at hc2
      have HV := Lib.hid (And.intro hv (And.intro hown (And.intro hbel hN)))
      have hNl : N ≤ 200 := by omega
      have hkn : k < n := by omega
      clear hv hown hbel hN hki hc
      go_upto_block 1 with fail
      go_cut [12] (fun s12 wx => ∃ (A2 : Option Addr) (c2 : Nat), s12 = .slice A2 (N + 2) c2 ∧ wx.ownsRow bs 22 1 (.slice A2 (N + 2) c2) (N + 2) (u64s (bk (ys.drop k))) ∧ Below w3.heap.size w3 wx)
      case first =>
        have ho : Hid (((wr.alloc (.cells #[.int .u64 v, .int .u64 v] 22)).drew).ownsRow bs 22 1 (.slice A' N c') N (u64s (bk (ys.drop (k + 1))))) := (HV.out.2.1.alloc _).drew
        have hsrc : Hid (Src ((wr.alloc (.cells #[.int .u64 v, .int .u64 v] 22)).drew) (some ⟨wr.heap.size, 0, none⟩) (u64s [v, v])) := pair_src wr v
        have hlt := HV.out.2.1.lt
        have hbd : Hid (Below w3.heap.size w3 ((wr.alloc (.cells #[.int .u64 v, .int .u64 v] 22)).drew) ∧ w3.heap.size ≤ ((wr.alloc (.cells #[.int .u64 v, .int .u64 v] 22)).drew).heap.size) :=
          have h := (HV.out.2.2.1.alloc HV.out.2.2.1.size (.cells #[.int .u64 v, .int .u64 v] 22)).drew
          ⟨h, h.size⟩
        have Hlt := Lib.hid hlt
        clear hlt
        go_wp2_with fail
        go_region_law
          (refine step_append_src _ rfl (.tmp 66) (.tmp 75) 38 rfl bs 22 i0 (.int .u64 0) 8 Try.underlying38 hi hz0 hz1 hz2 rfl (.slice A' N c') N (u64s (bk (ys.drop (k + 1)))) (by simp [Act.eval]) ho.out (some ⟨wr.heap.size, 0, none⟩) 2 2 (u64s [v, v]) (by simp [Act.eval]) rfl hsrc.out (u64s_one _) (by unfold maxLen; omega) (by omega) (by rw [Hbs.out]; exact hbd.out.2) ?_
           intro A2 c2 w4 hown2 hgrow hat
           have HC := Lib.hid (And.intro hown2 (hbd.out.1.grown hgrow hbd.out.2 (fun i hi => by have := Hlt.out i hi; rw [Hbs.out] at this; exact this.1)))
           clear hown2 hgrow hat)
        all_goals
          go_wp2_with fail
          go_meet
          refine ⟨A2, c2, rfl, ?_, HC.out.2⟩
          have h := HC.out.1
          rw [← u64s_append, HV.out.1, ← bk_drop ys k (by rw [← HS.out.2.2.2.2.2.2.1]; exact hkn)] at h
          exact h
      case rest =>
        obtain ⟨A2, c2, rfl, hown2, hbel2⟩ := hcut
        have HC := Lib.hid (And.intro hown2 hbel2)
        clear hown2 hbel2
        go_wp2_with fail
        go_roundg k
        case measure => omega
        case rel => exact ⟨A2, c2, N + 2, by omega, rfl, by rw [HV.out.2.2.2]; omega, rfl, HC.out.1, HC.out.2⟩
    · obtain rfl : gk = 0 := by omega
      have c0 := hcell.out wr (below_step H3.out hbel)
      have hbk := skF_bk p seed (nwL p) ys
      have hN2 : N = (bk ys).length := by rw [length_bk, ← HS.out.2.2.2.2.2.2.1, hN]; omega
      have skC := sketched_any A' c' (bk ys) p seed wr (by omega) (slU_own hown) (bk64 HS.out.2.2.2.2.2.2.2.1) h4 h16 hsd
      rw [← hN2, hbk] at skC
      have HB := Lib.hid (And.intro skC hbel)
      clear skC hbel hown hN hN2 hbk
      go_wp2_with fail
      refine HB.out.1.mono ?_
      rintro e w5 ⟨rfl, hb⟩
      have H5 := Lib.hid (below_step (below_step H3.out HB.out.2) hb)
      clear hb c0
      have hX := Sk.fold seed xs (Sk.nw h4 h16)
      have hY := Sk.fold seed ys (Sk.nw h4 h16)
      have hXY := hX.un hY
      have hlen : (skF p seed (nwL p) xs).length = (skF p seed (nwL p) ys).length := by rw [hX.len, hY.len]
      have u1 := fun w => unionL_any w hX hY
      have u2 := fun w => unionL_any w hY hX
      have u3 := fun w => unionL_any w hX hX
      have u4 := fun w => unionL_any w hXY hX
      rw [unL_comm hlen.symm] at u2
      rw [unL_self] at u3
      rw [unL_left hlen] at u4
      have had := fun k v (hv : v < 18446744073709551616) w => addL_any (hsN seed v) w (Sk.fold seed (ys.take k) hX) (hsN_lt seed v)
      have hfin : strOf (skF p seed (skF p seed (nwL p) xs) ys) = strOf (unL (skF p seed (nwL p) xs) (skF p seed (nwL p) ys)) := by rw [skF_un]
      have hnil : n = 0 → strOf (unL (skF p seed (nwL p) xs) (skF p seed (nwL p) ys)) = strOf (skF p seed (nwL p) xs) := fun h => by
        have e : ys = [] := List.eq_nil_of_length_eq_zero (by rw [← HS.out.2.2.2.2.2.2.1]; exact h)
        rw [← skF_un, e]; rfl
      obtain ⟨T0, hS0⟩ : ∃ S, S = strOf (skF p seed (nwL p) xs) := ⟨_, rfl⟩
      obtain ⟨T1, hS1⟩ : ∃ S, S = strOf (skF p seed (nwL p) ys) := ⟨_, rfl⟩
      obtain ⟨T2, hS2⟩ : ∃ S, S = strOf (unL (skF p seed (nwL p) xs) (skF p seed (nwL p) ys)) := ⟨_, rfl⟩
      rw [← hS0, ← hS1]
      rw [← hS0, ← hS1, ← hS2] at u1 u2
      rw [← hS0] at u3
      rw [← hS2, ← hS0] at u4
      rw [← hS2] at hfin hnil
      rw [← hS0] at hnil
      have U := Lib.hid (And.intro u1 (And.intro u2 (And.intro u3 (And.intro u4 (And.intro had (And.intro hfin (And.intro hnil hS0)))))))
      clear u1 u2 u3 u4 had hfin hnil hX hY hXY hlen hS0 hS1 hS2
      go_wp2_with fail
      refine (U.out.1 _).mono ?_
      rintro e w6 ⟨rfl, hb⟩
      have H6 := Lib.hid (below_step H5.out hb)
      clear hb
      go_wp2_with fail
      refine (U.out.2.1 _).mono ?_
      rintro e w7 ⟨rfl, hb⟩
      have H7 := Lib.hid (below_step H6.out hb)
      clear hb
      go_wp2_with fail
      refine (U.out.2.2.1 _).mono ?_
      rintro e w8 ⟨rfl, hb⟩
      have H8 := Lib.hid (below_step H7.out hb)
      clear hb
      go_wp2_with fail
      refine (U.out.2.2.2.1 _).mono ?_
      rintro e w9 ⟨rfl, hb⟩
      have H9 := Lib.hid (below_step H8.out hb)
      clear hb
      go_wp2_with fail
      go_loopg [8, 24, 25, 26] n (fun gg s8 s24 s25 i wr => ∃ (k : Nat) (t24 : ByteArray), k + gg = n ∧ i = .int .i64 k ∧ s25 = .int .i64 0 ∧ s8 = .string (strOf (skF p seed (skF p seed (nwL p) xs) (ys.take k))) ∧ s24 = .string t24 ∧ (k = 0 → t24 = T2) ∧ (1 ≤ k → t24 = strOf (skF p seed (skF p seed (nwL p) xs) (ys.take k))) ∧ Below w1.heap.size w1 wr)
      case atStart => exact ⟨0, T2, by omega, rfl, rfl, by rw [U.out.2.2.2.2.2.2.2]; rfl, rfl, fun _ => rfl, fun h => absurd h (by decide), H9.out⟩
      case round =>
        obtain ⟨k, t24, hk, rfl, rfl, rfl, rfl, ht0, ht1, hbel⟩ := hrel
        by_cases hlt : k < n
        · obtain ⟨b, rfl, hc⟩ := S1.out.2 k (by rw [← HS.out.2.2.2.2.2.2.1]; exact hlt)
          have hc2 : wr.cell? (b.add k) = some (.int .u64 (ys.getD k 0 : Nat)) := (hbel.cell (World.block_lt_of_cell? w1 _ hc)).trans hc
          have c0 := hcell.out wr hbel
          obtain ⟨v, hv⟩ : ∃ v, v = ys.getD k 0 := ⟨_, rfl⟩
          have hv64 : v < 18446744073709551616 := by rw [hv]; exact HS.out.2.2.2.2.2.2.2.1 k
          rw [← hv] at hc2
          have HV := Lib.hid (And.intro hv (And.intro hbel (And.intro ht0 (And.intro ht1 (And.intro hc hv64)))))
          clear hv hbel ht0 ht1 hc
          have hh := hash_any seed v
          have ha := U.out.2.2.2.2.1 k v HV.out.2.2.2.2.2
          have hkn : k < n := hlt
          have HK := Lib.hid (And.intro hh ha)
          clear hh ha
          go_upto_region 22 with fail
          go_cut [24, 25] (fun s24 s25 wx => s24 = .string (strOf (skF p seed (skF p seed (nwL p) xs) (ys.take (k + 1)))) ∧ s25 = .int .i64 0 ∧ Below w1.heap.size w1 wx)
          case first =>
            go_region_held3 (fun w' => w'.cell? (b.add k) = some (.int .u64 v) ∧ w'.cell? ⟨g, 0, none⟩ = some (.int .u64 seed)) (first | exact ⟨hc2, c0⟩ | exact K1.out)
              (first
                | (go_at_call 10; refine (HK.out.1 _ hsd HV.out.2.2.2.2.2).mono ?_; rintro e w' ⟨rfl, rfl⟩)
                | (go_at_call 9; refine (HK.out.2 _).mono ?_; rintro e wx ⟨rfl, hb⟩; have K0 : Hid (Below w1.heap.size w1 wx) := (by first | exact below_step HV.out.2.1.drew hb | exact below_step HV.out.2.1 hb); have K1 : Hid (wx.cell? (b.add k) = some (.int .u64 v) ∧ wx.cell? ⟨g, 0, none⟩ = some (.int .u64 seed)) := ⟨(K0.out.cell (World.block_lt_of_cell? w1 _ HV.out.2.2.2.2.1)).trans (by rw [HV.out.1]; exact HV.out.2.2.2.2.1), hcell.out _ K0.out⟩; clear hb))
            all_goals
              go_wp2_with fail
              go_meet
              refine ⟨?_, rfl, by first | exact K0.out | exact K0.out.drew⟩
              rw [take_snocN ys k (by rw [← HS.out.2.2.2.2.2.2.1]; exact hlt), skF_append, ← HV.out.1]
              rfl
          case rest =>
            obtain ⟨rfl, rfl, hbel2⟩ := hcut
            have HC := Lib.hid hbel2
            clear hbel2 hc2 c0
            go_wp2_with fail
            go_roundg (gk - 1)
            case measure => omega
            case rel => exact ⟨k + 1, _, by omega, by go_num, rfl, rfl, rfl, fun h => absurd h (by omega), fun _ => rfl, HC.out⟩
        · obtain rfl : k = n := by omega
          have hfull : ys.take k = ys := List.take_of_length_le (by rw [← HS.out.2.2.2.2.2.2.1]; exact Nat.le_refl _)
          rw [hfull, U.out.2.2.2.2.2.1]
          rw [hfull, U.out.2.2.2.2.2.1] at ht1
          have HB := Lib.hid hbel
          clear hbel hfull
          rcases Nat.eq_zero_or_pos k with h0 | h0
          · subst h0
            obtain rfl : t24 = T2 := ht0 rfl
            have hT := U.out.2.2.2.2.2.2.1 rfl
            subst hT
            clear ht0 ht1
            go_wp2_with fail
            refine (awake_any _).mono ?_
            rintro e wz ⟨rfl, hb⟩
            have HZ := Lib.hid (H1.out.1.trans ((below_step HB.out hb).mono H1.out.1.size))
            clear hb
            go_wp2_with fail
            go_ret
            exact ⟨rfl, HZ.out⟩
          · obtain rfl : t24 = T2 := ht1 h0
            clear ht0 ht1
            have e0 : ((k : Int) == 0) = false := by simp; omega
            go_wp2_with fail
            refine (awake_any _).mono ?_
            rintro e wz ⟨rfl, hb⟩
            have HZ := Lib.hid (H1.out.1.trans ((below_step HB.out hb).mono H1.out.1.size))
            clear hb
            go_wp2_with fail
            go_ret
            exact ⟨rfl, HZ.out⟩
end Go.Proofs.Ytbkadfocjmpieaa
