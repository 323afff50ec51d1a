/-
  BitioPacks: the law's walk.
-/
import Derived.Test.YtmgngmnkmmhckaaSame
set_option linter.unusedVariables false
namespace Go.Proofs.Ytmgngmnkmmhckaa
open Go.RowKit Plain

theorem below_step {a b c : World} (h : Below a.heap.size a b) (k : Below b.heap.size b c) : Below a.heap.size a c := h.trans (k.mono h.size)
theorem u64s_one (l : List Nat) : ∀ u ∈ u64s l, u.oneCell' = true := by
  intro u hu
  unfold u64s at hu
  rw [List.mem_map] at hu
  obtain ⟨x, _, rfl⟩ := hu
  rfl
/-- where the law stands: what was there reads as it did, and so does the copy -/
structure PkS (w w2 : World) (A : Option Addr) (g : Nat) (l : List Nat) (wi : World) : Prop where
  b0 : Below w.heap.size w wi
  b2 : Below w2.heap.size w2 wi
  la : SlU wi A l
  lm : SlU wi (some ⟨g, 0, none⟩) l
  c77 : wi.cell? ⟨g, l.length, none⟩ = some (.int .u64 77)
theorem PkS.next {w w2 wi wj : World} {A : Option Addr} {g : Nat} {l : List Nat} (h : PkS w w2 A g l wi) (k : Below wi.heap.size wi wj) : PkS w w2 A g l wj :=
  ⟨below_step h.b0 k, below_step h.b2 k, h.la.below k, h.lm.below k, (k.cell (World.block_lt_of_cell? wi _ h.c77)).trans h.c77⟩
theorem own_step {w w' : World} {b : Nat} {v : Value} {n : Nat} {xs : List Value} (h : w.ownsRow b 35 1 v n xs) (k : Below w.heap.size w w') : w'.ownsRow b 35 1 v n xs :=
  own_only h (Only.of_below (F := fun _ => False) k) (fun _ _ e => e)

set_option maxRecDepth 100000 in
set_option maxHeartbeats 4000000 in
theorem packs_any (A : Option Addr) (c : Nat) (l : List Nat) (s : ByteArray) (n cnt : Int) (w : World) (hl : l.length ≤ 1048576) (hA : SlU w A l) (h64 : ∀ i, l.getD i 0 < 18446744073709551616) (hs : s.size ≤ 1048576) :
    Calls Try.prog 6 #[.slice A l.length c, .string s, .agg #[.int .i64 n, .int .i64 cnt]] w fun e w' => e = .returned (.bool true) ∧ Below w.heap.size w w' := by
  obtain ⟨i0, hi, hz0, hz1, hz2⟩ := info_parts info35
  have HA := Lib.hid (And.intro hA h64)
  clear hA h64
  go_enter Try.func6, Try.ntmps6
  go_wp2_with (at_builtin; refine wpList_append_src _ rfl (.tmp 24) (.tmp 25) _ rfl w.heap.size 35 i0 (.int .u64 0) 8 Try.underlying58 hi hz0 hz1 hz2 rfl (.slice (some ⟨w.heap.size + 1, 0, none⟩) 0 0) 0 [] rfl ?c0 A l.length c (u64s l) rfl (length_u64s l) ?c1 ?c2 ?c3 ?c4 ?c5 ?_)
  case c0 =>
    have := World.ownsRow_made (w.alloc (Obj.cells #[Value.int IntKind.i64 n, Value.int IntKind.i64 cnt] 60)) #[] 0 (base := w.heap.size) (e := 35) (size := 1) (by rw [World.size_alloc]; omega) (by decide) rfl
    rw [World.size_alloc] at this
    exact this
  case c1 => exact (HA.out.1.below (((Below.refl _ w).alloc (Nat.le_refl _) _).alloc (by rw [World.size_alloc]; omega) _)).src
  case c2 => exact u64s_one l
  case c3 => unfold maxLen; omega
  case c4 => omega
  case c5 => rw [World.size_alloc, World.size_alloc]; omega
  intro A1 c1 w1 hown1 hgrow1 hat1
  have hb1 : Below w.heap.size w w1 := (((Below.refl _ w).alloc (Nat.le_refl _) _).alloc (by rw [World.size_alloc]; omega) _).grown hgrow1 (by rw [World.size_alloc, World.size_alloc]; omega) (by
    intro k hk; simp [Value.ownBlock] at hk; omega)
  clear hgrow1 hat1
  go_wp2_with (at_builtin; refine wpList_append_own_at _ rfl (.tmp 26) (.tmp 27) _ rfl w.heap.size 35 i0 (.int .u64 0) 1 8 Try.underlying58 hi hz0 hz1 hz2 rfl (by decide) (.slice A1 l.length c1) l.length (u64s l) rfl (hown1.alloc _) ⟨w1.heap.size, 0, none⟩ 1 1 [.int .u64 77] rfl rfl ?c1 ?c2 ?c3 ?c4 ?c5 ?_)
  case c1 => exact cell_one_new _ _ _
  case c2 => simp [Value.oneCell']
  case c3 => unfold maxLen; omega
  case c4 => omega
  case c5 => rw [World.size_alloc]; have := hb1.size; omega
  intro v2 w2 hown2 hgrow2 _ hat2
  have HS : Hid (∃ g cap, v2 = .slice (some ⟨g, 0, none⟩) (l.length + 1) cap ∧ l.length + 1 ≤ cap ∧ PkS w w2 A g l w2) := by
    have hb2 : Below w.heap.size w w2 := (hb1.alloc hb1.size _).grown hgrow2 (by rw [World.size_alloc]; have := hb1.size; omega) (fun k hk => (hown1.lt k hk).1)
    have hform : ∃ g cap, v2 = .slice (some ⟨g, 0, none⟩) (l.length + 1) cap ∧ l.length + 1 ≤ cap := by
      rcases hown2.2 with ⟨_, h0⟩ | ⟨g, cap, cur, hv, _, _, hc, _⟩
      · omega
      · exact ⟨g, cap, hv, hc⟩
    obtain ⟨g, cap, hv, hle⟩ := hform
    subst hv
    have hx : u64s l ++ [.int .u64 77] = u64s (l ++ [77]) := by rw [u64s_append]; rfl
    have h77 := World.ownsRow.cellAt hown2 l.length (by omega)
    rw [List.getElem?_append_right (by rw [length_u64s]; exact Nat.le_refl _), length_u64s, Nat.sub_self] at h77
    rw [hx] at hown2
    exact ⟨g, cap, rfl, hle, hb2, Below.refl _ _, HA.out.1.below hb2, (SlU.own hown2).append, h77⟩
  have H64 := Lib.hid HA.out.2
  clear hown1 hb1 hown2 hgrow2 hat2 HA
  obtain ⟨g, cap, rfl, hcap, hp2⟩ := HS.out
  have h1 : l.length ≤ cap := by omega
  have H2 := Lib.hid hp2
  clear HS hp2
  go_wp2_with fail
  refine (pack_any (some ⟨g, 0, none⟩) _ l n _ (by omega) H2.out.lm H64.out).mono ?_
  rintro e w3 ⟨rfl, hb3⟩
  have H3 := Lib.hid (H2.out.next hb3)
  clear hb3
  go_wp2_with fail
  refine (rpack_any A c l n _ (by omega) H3.out.la H64.out).mono ?_
  rintro e w4 ⟨rfl, hb4⟩
  have H4 := Lib.hid (H3.out.next hb4)
  clear hb4
  go_wp2_with fail
  refine (unpack_any s n cnt _ (by omega)).mono ?_
  rintro e w5 ⟨v5, rfl, ho5, hb5⟩
  obtain ⟨A5, c5, rfl⟩ := own_shape ho5
  have H5 := Lib.hid (And.intro ho5 (H4.out.next hb5))
  clear ho5 hb5
  go_wp2_with fail
  refine (runpack_any s n cnt _ (by omega)).mono ?_
  rintro e w6 ⟨v6, rfl, ho6, hb6⟩
  obtain ⟨A6, c6, rfl⟩ := own_shape ho6
  have H6 := Lib.hid (And.intro (own_step H5.out.1 hb6) (And.intro ho6 (H5.out.2.next hb6)))
  clear ho6 hb6
  obtain ⟨U, hU⟩ : ∃ U, U = unOut s n cnt := ⟨_, rfl⟩
  have hUl : U.length ≤ 9223372036854775807 := by
    rw [hU]
    unfold unOut
    split
    · rename_i h0
      rw [length_unL]
      unfold unC at h0
      split at h0
      · cases h0
      · split at h0
        · cases h0
        · rename_i h5
          have := Nat.div_le_self 134217728 n.toNat
          omega
    · decide
  rw [← hU] at H5 H6
  rw [← hU]
  have HUl := Lib.hid (And.intro hU hUl)
  clear hU hUl
  go_wp2_with fail
  refine (same_any A5 A6 c5 c6 _ _ U _ rfl rfl HUl.out.2 (SlU.own H6.out.1) (SlU.own H6.out.2.1)).mono ?_
  rintro e w7 ⟨rfl, r7, rfl⟩
  go_wp2_with fail
  refine (same_any (some ⟨g, 0, none⟩) A _ c _ _ l _ rfl rfl (by omega) (H6.out.2.2.lm.drewN _) (H6.out.2.2.la.drewN _)).mono ?_
  rintro e w8 ⟨rfl, r8, rfl⟩
  have c77 : ((w6.drewN r7).drewN r8).cell? ⟨g, l.length, none⟩ = some (.int .u64 77) := H6.out.2.2.c77
  have H8 : Hid (Below w.heap.size w ((w6.drewN r7).drewN r8)) := below_drewN (below_drewN H6.out.2.2.b0 _) _
  have H9 : Hid (SlU ((w6.drewN r7).drewN r8) A l) := (H6.out.2.2.la.drewN _).drewN _
  obtain ⟨wx, hwx⟩ : ∃ wx, wx = (w6.drewN r7).drewN r8 := ⟨_, rfl⟩
  rw [← hwx] at c77 H8 H9 ⊢
  clear hwx H6 H5
  go_wp2_with fail
  refine (unpack_any (packS l n) n l.length _ (size_packS l n)).mono ?_
  rintro e w9 ⟨v9, rfl, ho9, hb9⟩
  obtain ⟨A9, c9, rfl⟩ := own_shape ho9
  have H10 := Lib.hid (And.intro (below_step H8.out hb9) (H9.out.below hb9))
  have H11 := Lib.hid ho9
  clear ho9 hb9 c77 H8 H9
  by_cases hok : packOk l n = true
  · obtain ⟨e1, e2⟩ := pack_back hok
    have e3 := (pack_yes hok).2
    rw [e2] at H11
    rw [e1, e2, e3]
    clear e1 e2 e3 hok
    go_wp2_with fail
    refine (same_any A9 A c9 c _ _ l _ rfl rfl (by omega) (SlU.own H11.out) H10.out.2).mono ?_
    rintro e w10 ⟨rfl, r10, rfl⟩
    go_wp2_with fail
    refine (awake_any _).mono ?_
    rintro e w11 ⟨rfl, hb11⟩
    have H12 := Lib.hid (below_step (below_drewN H10.out.1 r10) hb11)
    clear hb11
    go_wp2_with fail
    go_ret
    exact ⟨rfl, H12.out⟩
  · have e3 := (pack_no (l := l) (n := n) (by simpa using hok)).2
    rw [e3]
    clear e3 hok
    go_wp2_with fail
    refine (awake_any _).mono ?_
    rintro e w11 ⟨rfl, hb11⟩
    have H12 := Lib.hid (below_step H10.out.1 hb11)
    clear hb11
    go_wp2_with fail
    go_ret
    exact ⟨rfl, H12.out⟩
end Go.Proofs.Ytmgngmnkmmhckaa
