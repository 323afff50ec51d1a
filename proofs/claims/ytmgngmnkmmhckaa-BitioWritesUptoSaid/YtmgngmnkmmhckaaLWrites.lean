/-
  BitioWrites: the law's walk.
-/
import Derived.Test.YtmgngmnkmmhckaaWPair
import Derived.Deep.CutBlock
set_option linter.unusedVariables false
namespace Go.Proofs.Ytmgngmnkmmhckaa
open Go.RowKit Plain

/-- the script in memory -/
def Script4 (w : World) (A : Option Addr) (n : Nat) (K N : Nat → Int) (V : Nat → Nat) (T : Nat → ByteArray) : Prop :=
  0 < n → ∃ b off, A = some ⟨b, off, none⟩ ∧ b < w.heap.size ∧ ∀ i, i < n → (w.cell? ⟨b, off + i * 4, none⟩ = some (.int .i64 (K i)) ∧ w.cell? ⟨b, off + i * 4 + 1, none⟩ = some (.int .u64 (V i)) ∧
    w.cell? ⟨b, off + i * 4 + 2, none⟩ = some (.int .i64 (N i)) ∧ w.cell? ⟨b, off + i * 4 + 3, none⟩ = some (.string (T i))) ∧ V i < 18446744073709551616 ∧ (T i).size ≤ 1048576

def Ge (B : Nat) (o : Option Nat) : Prop := ∀ k, o = some k → B ≤ k
def Apart (o o' : Option Nat) : Prop := ∀ k, o = some k → o' ≠ some k

theorem Ge.none_ {B : Nat} : Ge B none := fun k h => by cases h
theorem Apart.none_ {o : Option Nat} : Apart none o := fun k h => by cases h

structure Tri (w0 w : World) (h1 h2 h3 : Nat) (o1 o2 o3 : Option Nat) (l : List Bool) (k : Nat) : Prop where
  pair : PairAt w h1 h2 o1 o2 l
  other : ∃ l3, WrAt w h3 o3 l3 ∧ l3.length = 7 * k
  ne : h1 ≠ h3
  apart : Apart o1 o3
  below : Below w0.heap.size w0 w
  g1 : w0.heap.size ≤ h1
  g2 : w0.heap.size ≤ h2
  g3 : w0.heap.size ≤ h3
  e1 : Ge w0.heap.size o1
  e2 : Ge w0.heap.size o2
  e3 : Ge w0.heap.size o3

theorem WrAt.two_ne {w : World} {h1 h3 : Nat} {o1 o3 : Option Nat} {l m : List Bool} (a : WrAt w h1 o1 l) (b : WrAt w h3 o3 m) (hn : h1 ≠ h3) (ho : Apart o1 o3) : ∀ k, WrFoot h1 o1 k → ¬ WrFoot h3 o3 k := by
  obtain ⟨v1, b1, r1, rfl⟩ := a
  obtain ⟨v2, b2, r2, rfl⟩ := b
  rintro k (rfl | hk) (rfl | hk')
  · exact hn rfl
  · exact own_blk_ne r2 b1 (by decide) k hk' rfl
  · exact own_blk_ne r1 b2 (by decide) k hk rfl
  · exact ho k hk hk'
theorem Fresh.geq {w : World} {o o' : Option Nat} {B : Nat} (h : Fresh w o o') (ho : Ge B o) (hs : B ≤ w.heap.size) : Ge B o' := h.ge ho hs
theorem Fresh.apart {w : World} {o o' o3 : Option Nat} (h : Fresh w o o') (ha : Apart o o3) (h3 : ∀ k, o3 = some k → k < w.heap.size) : Apart o' o3 := by
  rintro k rfl e
  rcases h with h | ⟨g, hg, hl⟩
  · exact ha k h.symm e
  · injection hg with hg
    have := h3 k e
    omega
theorem Apart.symm {o o' : Option Nat} (h : Apart o o') : Apart o' o := fun k hk hk' => h k hk' hk

theorem Tri.put {w0 w w1 : World} {h1 h2 h3 k : Nat} {o1 o2 o3 : Option Nat} {l : List Bool} (t : Tri w0 w h1 h2 h3 o1 o2 o3 l k) (p : PairTo w h1 h2 o1 o2 w1) :
    ∃ l' o1' o2', Tri w0 w1 h1 h2 h3 o1' o2' o3 l' k := by
  obtain ⟨l', o1', o2', pa, po, pf, pg⟩ := p
  obtain ⟨l3, a3, hl3⟩ := t.other
  have d13 := WrAt.two_ne t.pair.1 a3 t.ne t.apart
  have d23 := WrAt.foot_ne a3 t.pair.2.1
  have a3' : WrAt w1 h3 o3 l3 := a3.only po (fun k hk hf => by
    rcases hf with hf | hf
    · exact d13 k hf hk
    · exact d23 k hk hf)
  refine ⟨l', o1', o2', pa, ⟨l3, a3', hl3⟩, t.ne, pf.apart t.apart a3.lto, ?_, t.g1, t.g2, t.g3, pf.geq t.e1 t.below.size, pg.geq t.e2 t.below.size, t.e3⟩
  refine below_only t.below po t.below.size ?_
  rintro i ((rfl | h) | (rfl | h))
  · exact t.g1
  · exact t.e1 i h
  · exact t.g2
  · exact t.e2 i h
theorem Tri.more {w0 w w1 : World} {h1 h2 h3 k : Nat} {o1 o2 o3 : Option Nat} {l l3 : List Bool} (t : Tri w0 w h1 h2 h3 o1 o2 o3 l k) (a3 : WrAt w h3 o3 l3) (p : WrTo w h3 o3 (l3 ++ bitsOf 3 7) w1) (hl3 : l3.length = 7 * k) :
    ∃ o3', Tri w0 w1 h1 h2 h3 o1 o2 o3' l (k + 1) := by
  obtain ⟨o3', b1, b2, b3⟩ := p
  have d13 := WrAt.two_ne t.pair.1 a3 t.ne t.apart
  have d23 := WrAt.foot_ne a3 t.pair.2.1
  refine ⟨o3', ⟨t.pair.1.only b2 d13, t.pair.2.1.only b2 (fun k hk hf => d23 k hf hk), t.pair.2.2⟩, ⟨_, b1, by rw [List.length_append, length_bitsOf, hl3]; omega⟩, t.ne,
    (b3.apart t.apart.symm t.pair.1.lto).symm, ?_, t.g1, t.g2, t.g3, t.e1, t.e2, b3.geq t.e3 t.below.size⟩
  refine below_only t.below b2 t.below.size ?_
  rintro i (rfl | h)
  · exact t.g3
  · exact t.e3 i h
theorem Tri.same {w0 w w1 : World} {h1 h2 h3 k : Nat} {o1 o2 o3 : Option Nat} {l : List Bool} (t : Tri w0 w h1 h2 h3 o1 o2 o3 l k) (ho : Only (fun _ => False) w w1) : Tri w0 w1 h1 h2 h3 o1 o2 o3 l k := by
  obtain ⟨l3, a3, hl3⟩ := t.other
  exact ⟨PairAt.new ho t.pair, ⟨l3, a3.only ho (fun _ _ h => h), hl3⟩, t.ne, t.apart, below_only t.below ho t.below.size (fun i h => h.elim), t.g1, t.g2, t.g3, t.e1, t.e2, t.e3⟩

theorem only_drew_below {F : Nat → Prop} {w w' : World} (h : Below w.drew.heap.size w.drew w') : Only F w w' := ⟨h.os, h.tape, h.output, h.size, fun k hk _ => h.block k hk⟩

theorem oput {h : Nat} {o : Option Nat} {l : List Bool} {w : World} {k : Nat} (hw : WrAt w h o l) (hl : l.length = 7 * k) (hk : k ≤ 200) :
    Calls Try.prog 26 #[.pointer (some ⟨h, 0, none⟩), .int .u64 3, .int .i64 7] w fun e w' => e = .returned (.int .i64 0) ∧ WrTo w h o (l ++ bitsOf 3 7) w' := by
  have hc : putCode l.length 3 7 = 0 := putCode_ok (by decide) (by omega)
  have hb : putBits l 3 7 = l ++ bitsOf 3 7 := by unfold putBits; rw [hc, if_pos rfl]; rfl
  have := wput_any h o l 3 7 w (by decide) hw (by omega)
  rw [hb, hc] at this
  exact this

set_option maxRecDepth 100000 in
set_option maxHeartbeats 4000000 in
theorem writes_any (A : Option Addr) (n c : Nat) (K N : Nat → Int) (V : Nat → Nat) (T : Nat → ByteArray) (w : World) (hn : n ≤ 1048576) (hA : Script4 w A n K N V T) :
    Calls Try.prog 5 #[.slice A n c] w fun e w' => e = .returned (.bool true) ∧ Below w.heap.size w w' := by
  have HA := Lib.hid hA
  clear hA
  go_enter Try.func5, Try.ntmps5
  go_wp2_with fail
  refine (new_any _).mono ?_
  rintro e w1 ⟨rfl, rfl⟩
  go_wp2_with fail
  refine (new_any _).mono ?_
  rintro e w1 ⟨rfl, rfl⟩
  have HT : Hid (Tri w (((w.alloc (.cells #[.slice none 0 0, .int .i64 0] 93)).alloc (.cells #[.slice none 0 0, .int .i64 0] 93)).alloc (.cells #[.slice none 0 0] 55)) w.heap.size (w.heap.size + 2) (w.heap.size + 1) none none none [] 0) := by
    have a1 := WrAt.new w
    have d1 : Only (fun _ => False) (w.alloc (.cells #[.slice none 0 0, .int .i64 0] 93)) (((w.alloc (.cells #[.slice none 0 0, .int .i64 0] 93)).alloc (.cells #[.slice none 0 0, .int .i64 0] 93)).alloc (.cells #[.slice none 0 0] 55)) := ((Only.refl _ _).alloc _).alloc _
    have a2 := WrAt.new (w.alloc (.cells #[.slice none 0 0, .int .i64 0] 93))
    have d2 : Only (fun _ => False) ((w.alloc (.cells #[.slice none 0 0, .int .i64 0] 93)).alloc (.cells #[.slice none 0 0, .int .i64 0] 93)) (((w.alloc (.cells #[.slice none 0 0, .int .i64 0] 93)).alloc (.cells #[.slice none 0 0, .int .i64 0] 93)).alloc (.cells #[.slice none 0 0] 55)) := (Only.refl _ _).alloc _
    have a3 : RwAt (((w.alloc (.cells #[.slice none 0 0, .int .i64 0] 93)).alloc (.cells #[.slice none 0 0, .int .i64 0] 93)).alloc (.cells #[.slice none 0 0] 55)) (w.heap.size + 2) none [] :=
      ⟨_, by have := Blk.new ((w.alloc (.cells #[.slice none 0 0, .int .i64 0] 93)).alloc (.cells #[.slice none 0 0, .int .i64 0] 93)) 55 #[.slice none 0 0]; simpa using this, World.ownsRow_nil _ _ _ _, rfl⟩
    have a2' := a2.only d2 (fun _ _ h => h)
    rw [World.size_alloc] at a2'
    exact ⟨⟨a1.only d1 (fun _ _ h => h), a3, by decide⟩, ⟨[], a2', rfl⟩, by omega, Apart.none_, (((Below.refl _ w).alloc (Nat.le_refl _) _).alloc (by simp) _).alloc (by simp; omega) _, Nat.le_refl _, by omega, by omega, Ge.none_, Ge.none_, Ge.none_⟩
  go_wp2_with fail
  obtain ⟨wx, hwx⟩ : ∃ wx, wx = (((w.alloc (.cells #[.slice none 0 0, .int .i64 0] 93)).alloc (.cells #[.slice none 0 0, .int .i64 0] 93)).alloc (.cells #[.slice none 0 0] 55)) := ⟨_, rfl⟩
  obtain ⟨h1, hh1⟩ : ∃ h1, h1 = w.heap.size := ⟨_, rfl⟩
  obtain ⟨h2, hh2⟩ : ∃ h2, h2 = w.heap.size + 2 := ⟨_, rfl⟩
  obtain ⟨h3, hh3⟩ : ∃ h3, h3 = w.heap.size + 1 := ⟨_, rfl⟩
  rw [← hwx, ← hh1] at HT
  rw [← hwx, ← hh1]
  have H0 : Hid (Tri w wx h1 h2 h3 none none none [] 0) := by rw [hh2, hh3, hh1]; rw [hh1] at HT; exact HT
  have e2 : (h1 + 2) = h2 := by omega
  have e3 : (h1 + 1) = h3 := by omega
  rw [e2, e3]
  clear hwx hh1 hh2 hh3 e2 e3 HT
  go_loopg [6] n (fun g i wr => ∃ (k : Nat) (l : List Bool) (o1 o2 o3 : Option Nat), k + g = n ∧ k ≤ 100 ∧ i = .int .i64 k ∧ Tri w wr h1 h2 h3 o1 o2 o3 l k)
  case atStart => exact ⟨0, [], none, none, none, by omega, by omega, rfl, H0.out⟩
  case round =>
    obtain ⟨k, l, o1, o2, o3, hk, hk1, rfl, ht⟩ := hrel
    clear H0
    by_cases hlt : k < n ∧ k < 100
    · obtain ⟨hkn, hk100⟩ := hlt
      obtain ⟨b, off, rfl, m1, hcells⟩ := HA.out (by omega)
      obtain ⟨⟨c0, c1, c2, c3⟩, hV, hT⟩ := hcells k hkn
      clear hcells
      have d0 := (ht.below.cell (p := ⟨b, off + k * 4, none⟩) m1).trans c0
      have d1 := (ht.below.cell (p := ⟨b, off + k * 4 + 1, none⟩) m1).trans c1
      have d2 := (ht.below.cell (p := ⟨b, off + k * 4 + 2, none⟩) m1).trans c2
      have d3 := (ht.below.cell (p := ⟨b, off + k * 4 + 3, none⟩) m1).trans c3
      clear c0 c1 c2 c3
      go_wp2_with fail
      refine (lput_any h1 h2 o1 o2 l (K k) (N k) (V k) (T k) _ ht.pair hV hT).mono ?_
      rintro e w2 ⟨rfl, hp⟩
      obtain ⟨l', o1', o2', ht2⟩ := ht.put hp
      obtain ⟨l3, a3, hl3⟩ := ht2.other
      clear hp ht d0 d1 d2 d3
      have Hl3 := Lib.hid hl3
      clear hl3
      go_wp2_with fail
      refine (oput a3 Hl3.out (by omega)).mono ?_
      rintro e w3 ⟨rfl, ho⟩
      obtain ⟨o3', ht3⟩ := ht2.more a3 ho Hl3.out
      clear ho ht2 a3
      go_wp2_with fail
      refine (wtext_any h1 o1' l' _ ht3.pair.1).mono ?_
      rintro e w' ⟨rfl, rfl⟩
      obtain ⟨sv, hbq, hoq, hsq⟩ := ht3.pair.2.1
      obtain ⟨Aq, cq, rfl⟩ := own_shape hoq
      have f0 := hbq.cell 0
      simp at f0
      have hsl := SlB.own hoq
      have hl8 := ht3.pair.2.2
      have HT3 := Lib.hid ht3
      clear hbq hoq hsq ht3
      go_upto_region 10 with fail
      go_cut [61] (fun s61 wx => s61 = .bool false ∧ Tri w wx h1 h2 h3 o1' o2' o3' l' (k + 1))
      case first =>
        go_region_held3 (fun w' => w'.cell? ⟨h2, 0, none⟩ = some (.slice Aq l'.length cq)) (first | exact f2 | exact f0)
          (first
            | (go_at_call 30; refine (text_any Aq cq l' _ hl8 (by exact hsl)).mono ?_; rintro e w4 ⟨rfl, hb4⟩; have ht4 := Lib.hid (Tri.same HT3.out (only_drew_below hb4)); have f2 : w4.cell? ⟨h2, 0, none⟩ = some (.slice Aq l'.length cq) := (hb4.cell (p := ⟨h2, 0, none⟩) HT3.out.pair.2.1.lt).trans f0; clear hb4)
            | (go_at_call 25; refine (wlen_any h1 o1' l' _ (ht4.out.pair.1)).mono ?_; rintro e w5 ⟨rfl, rfl⟩))
        all_goals
          go_wp2_with fail
          go_meet
          exact ⟨rfl, ht4.out⟩
      case rest =>
        obtain ⟨rfl, ht5⟩ := hcut
        have HT5 := Lib.hid ht5
        clear ht5 f0
        go_wp2_with fail
        go_roundg (gk - 1)
        case measure => omega
        case rel => exact ⟨k + 1, l', o1', o2', o3', by omega, by omega, by go_num, HT5.out⟩
    · obtain ⟨l3, a3, hl3⟩ := ht.other
      have HT := Lib.hid ht
      clear ht
      have hsz := HT.out.below.size
      by_cases hkn : k < n
      · have hk100 : k = 100 := by omega
        subst hk100
        have hlen : (l3.length : Int) = 700 := by omega
        have hn100 : (100 : Int) ≤ (n : Int) := by omega
        have hn100' : ¬ ((n : Int) < 100) := by omega
        clear hlt
        go_wp2_with (first | (go_at_call 25; refine (wlen_any h3 o3 l3 _ a3).mono ?_; rintro e w5 ⟨rfl, rfl⟩) | (go_at_call 23; refine (awake_any _).mono ?_; rintro e w6 ⟨rfl, hb6⟩; have H6 := Lib.hid hb6; clear hb6))
        go_ret
        exact ⟨rfl, HT.out.below.trans (H6.out.mono hsz)⟩
      · have hkn2 : k = n := by omega
        subst hkn2
        have hlen : (l3.length : Int) = 7 * (k : Int) := by omega
        clear hlt hkn hk
        go_wp2_with (first | (go_at_call 25; refine (wlen_any h3 o3 l3 _ a3).mono ?_; rintro e w5 ⟨rfl, rfl⟩) | (go_at_call 23; refine (awake_any _).mono ?_; rintro e w6 ⟨rfl, hb6⟩; have H6 := Lib.hid hb6; clear hb6))
        go_ret
        exact ⟨rfl, HT.out.below.trans (H6.out.mono hsz)⟩
end Go.Proofs.Ytmgngmnkmmhckaa
