/-
  How many bytes a node needs: the program's Bytes.
-/
import Derived.Test.YtpggicaphejjfaaPBytes
set_option linter.unusedVariables false
namespace Go.Proofs.Ytpggicaphejjfaa
open Go.RowKit

/-- a node -/
structure Nd where
  leaf : Bool
  keys : List ByteArray
  vals : List ByteArray
  kids : List Nat
/-- a node as it is handed over -/
def ndC (n : Nd) (A1 A2 A3 : Option Addr) (c1 c2 c3 : Nat) : Array Value := #[.bool n.leaf, .slice A1 n.keys.length c1, .slice A2 n.vals.length c2, .slice A3 n.kids.length c3]
/-- how many bytes it needs -/
def bytesN (n : Nd) : Nat := if n.leaf = true then 3 + szs n.keys 3 n.keys.length + szs n.vals 0 n.vals.length else 3 + szs n.keys 1 n.keys.length + 4 * n.kids.length
theorem StrR.only {w w' : World} {A : Option Addr} {l : List ByteArray} {F : Nat → Prop} (h : StrR w A l) (ho : Only F w w') (hF : 0 < l.length → ∀ p, A = some p → p.block < w.heap.size → ¬ F p.block) : StrR w' A l := by
  intro hn
  obtain ⟨b, off, rfl, hlt, hc⟩ := h hn
  exact ⟨b, off, rfl, Nat.lt_of_lt_of_le hlt ho.size, fun i hi => (ho.cell (p := ⟨b, off + i, none⟩) hlt (hF hn ⟨b, off, none⟩ rfl hlt)).trans (hc i hi)⟩

theorem below_of_only2 {S : Nat → Prop} {a b c : World} (h : Below a.heap.size a b) (k : Only S b c) (hS : ∀ i, S i → a.heap.size ≤ i) : Below a.heap.size a c :=
  h.trans (k.below (fun i hi hs => by have := hS i hs; omega) h.size)
set_option maxRecDepth 100000 in
set_option maxHeartbeats 2000000 in
theorem bytes_any (n : Nd) (A1 A2 A3 : Option Addr) (c1 c2 c3 : Nat) (w : World) (h1 : StrR w A1 n.keys) (h2 : StrR w A2 n.vals) (hl1 : n.keys.length ≤ 140737488355328) (hl2 : n.vals.length ≤ 140737488355328) (hl3 : n.kids.length ≤ 140737488355328)
    (hA1 : 0 < n.keys.length → ∀ p, A1 = some p → p.block < w.heap.size) (hA2 : 0 < n.vals.length → ∀ p, A2 = some p → p.block < w.heap.size) (hb : Szd n.keys ∧ Szd n.vals) :
    Calls Try.prog 17 #[.agg (ndC n A1 A2 A3 c1 c2 c3)] w fun e w' => e = .returned (.int .i64 (wrap64 (bytesN n : Nat))) ∧ Below w.heap.size w w' := by
  obtain ⟨leaf, keys, vals, kids⟩ := n
  have hbx := Blk.new w 26 (ndC ⟨leaf, keys, vals, kids⟩ A1 A2 A3 c1 c2 c3)
  have hB1 : Below w.heap.size w (w.alloc (.cells (ndC ⟨leaf, keys, vals, kids⟩ A1 A2 A3 c1 c2 c3) 26)) := (Below.refl _ w).alloc (Nat.le_refl _) _
  have hgx := Blk.new (w.alloc (.cells (ndC ⟨leaf, keys, vals, kids⟩ A1 A2 A3 c1 c2 c3) 26)) 3 #[.int .i64 3]
  obtain ⟨N1, hN1⟩ : ∃ N, N = keys.length := ⟨_, rfl⟩
  obtain ⟨N2, hN2⟩ : ∃ N, N = vals.length := ⟨_, rfl⟩
  obtain ⟨N3, hN3⟩ : ∃ N, N = kids.length := ⟨_, rfl⟩
  have HN := Lib.hid (And.intro hN1 (And.intro hN2 hN3))
  have H0 := Lib.hid (And.intro h1 (And.intro h2 (And.intro hb (And.intro hA1 hA2))))
  clear h1 h2 hb hA1 hA2
  unfold ndC at hbx hB1 hgx ⊢
  simp only at hl1 hl2 hl3 hbx hB1 hgx ⊢
  rw [← hN1] at hl1
  rw [← hN2] at hl2
  rw [← hN3] at hl3
  rw [← hN1, ← hN2, ← hN3] at hbx hB1 hgx ⊢
  clear hN1 hN2 hN3
  have hsz : (w.alloc (.cells #[.bool leaf, .slice A1 N1 c1, .slice A2 N2 c2, .slice A3 N3 c3] 26)).heap.size = w.heap.size + 1 := by simp
  rw [hsz] at hgx
  have hbx2 := hbx.alloc (.cells #[.int .i64 3] 3)
  have hB2 := hB1.alloc (by simp) (.cells #[.int .i64 3] 3)
  obtain ⟨w2, hw2⟩ : ∃ w2, w2 = (w.alloc (.cells #[.bool leaf, .slice A1 N1 c1, .slice A2 N2 c2, .slice A3 N3 c3] 26)).alloc (.cells #[.int .i64 3] 3) := ⟨_, rfl⟩
  obtain ⟨bx, hbxe⟩ : ∃ bx, bx = w.heap.size := ⟨_, rfl⟩
  obtain ⟨gx, hgxe⟩ : ∃ gx, gx = w.heap.size + 1 := ⟨_, rfl⟩
  rw [← hw2, ← hbxe] at hbx2
  rw [← hw2, ← hgxe] at hgx
  rw [← hw2] at hB2
  have HW := Lib.hid (And.intro hw2 (And.intro hbxe hgxe))
  have H2 : Hid (Blk w2 bx 26 #[.bool leaf, .slice A1 N1 c1, .slice A2 N2 c2, .slice A3 N3 c3] ∧ Blk w2 gx 3 #[.int .i64 (wrap64 ((3 : Nat) : Int))] ∧ Below w.heap.size w w2 ∧ bx ≠ gx ∧ w.heap.size ≤ gx) := ⟨hbx2, (by rw [wrap_ofNat (by omega)]; exact hgx), hB2, by omega, by omega⟩
  have HA : Hid ((0 < keys.length → ∀ p, A1 = some p → p.block ≠ gx) ∧ (0 < vals.length → ∀ p, A2 = some p → p.block ≠ gx)) := ⟨fun hl p hp => by have := H0.out.2.2.2.1 hl p hp; omega, fun hl p hp => by have := H0.out.2.2.2.2 hl p hp; omega⟩
  clear hsz hbx hB1 hbx2 hgx hB2 hw2 hbxe hgxe
  cases leaf with
  | true =>
    have hbn : bytesN ⟨true, keys, vals, kids⟩ = 3 + szs keys 3 N1 + szs vals 0 N2 := by rw [HN.out.1, HN.out.2.1]; rfl
    have hb := H0.out.2.2.1
    rw [hbn]
    have hadd1 := add_any A1 c1 3 gx 3 keys w2 (by rw [← HN.out.1]; omega) (by decide) (H0.out.1.below H2.out.2.2.1) H2.out.2.1 HA.out.1 hb.1
    rw [← HN.out.1] at hadd1
    have hadd2 := fun (w3 : World) (hb3 : Blk w3 gx 3 #[.int .i64 (wrap64 ((3 + szs keys 3 N1 : Nat) : Int))]) (ho : Only (fun k => k = gx) w2 w3) => add_any A2 c2 0 gx (3 + szs keys 3 N1) vals w3 (by rw [← HN.out.2.1]; omega) (by decide) ((H0.out.2.1.below H2.out.2.2.1).only ho (fun hl p hp _ e => HA.out.2 hl p hp e)) hb3 HA.out.2 hb.2
    rw [← HN.out.2.1] at hadd2
    obtain ⟨t1, ht1⟩ : ∃ t, t = wrap64 ((3 + szs keys 3 N1 : Nat) : Int) := ⟨_, rfl⟩
    rw [← ht1] at hadd1 hadd2
    obtain ⟨t2, ht2⟩ : ∃ t, t = wrap64 ((3 + szs keys 3 N1 + szs vals 0 N2 : Nat) : Int) := ⟨_, rfl⟩
    rw [← ht2] at hadd2 ⊢
    have HD1 := Lib.hid hadd1
    have HD2 := Lib.hid hadd2
    clear hadd1 hadd2 ht1 ht2 hbn hb
    go_enter Try.func17, Try.ntmps17
    go_upto_region 3 with fail
    rw [← HW.out.1, ← HW.out.2.2, ← HW.out.2.1]
    have x0 := H2.out.1.cell 0
    have x1 := H2.out.1.cell 1
    simp at x0 x1
    go_wp2_with fail
    refine HD1.out.mono ?_
    rintro e w3 ⟨rfl, hb3, ho3⟩
    have H3 := Lib.hid (And.intro hb3 ho3)
    have hbx3 := H2.out.1.only ho3 (fun e => H2.out.2.2.2.1 e)
    clear hb3 ho3 x0 x1
    have x2 := hbx3.cell 2
    simp at x2
    clear hbx3
    go_wp2_with fail
    refine (HD2.out w3 H3.out.1 H3.out.2).mono ?_
    rintro e w4 ⟨rfl, hb4, ho4⟩
    have z0 := hb4.cell 0
    simp at z0
    have H4 := Lib.hid ho4
    clear hb4 ho4 x2
    go_wp2_with fail
    go_ret
    exact ⟨rfl, below_of_only2 H2.out.2.2.1 (H3.out.2.trans H4.out (fun _ _ e => e)) (fun i e => by have e2 : i = gx := e; rw [e2]; exact H2.out.2.2.2.2)⟩
  | false =>
    have hbn : bytesN ⟨false, keys, vals, kids⟩ = 3 + szs keys 1 N1 + 4 * N3 := by rw [HN.out.1, HN.out.2.2]; rfl
    have hb := H0.out.2.2.1
    rw [hbn]
    have hadd1 := add_any A1 c1 1 gx 3 keys w2 (by rw [← HN.out.1]; omega) (by decide) (H0.out.1.below H2.out.2.2.1) H2.out.2.1 HA.out.1 hb.1
    rw [← HN.out.1] at hadd1
    obtain ⟨q, hq⟩ : ∃ q, q = 4 * N3 := ⟨_, rfl⟩
    rw [← hq]
    have hq1 : (4 : Int) * (N3 : Int) = (q : Int) := by omega
    obtain ⟨t1, ht1⟩ : ∃ t, t = wrap64 ((3 + szs keys 1 N1 : Nat) : Int) := ⟨_, rfl⟩
    rw [← ht1] at hadd1
    have hstep := wrap_step (d := q) ht1
    rw [← hstep]
    have hq2 : q ≤ 140737488360000000 := by omega
    have HD1 := Lib.hid hadd1
    clear hadd1 ht1 hbn hq hb hstep
    go_enter Try.func17, Try.ntmps17
    go_upto_region 3 with fail
    rw [← HW.out.1, ← HW.out.2.2, ← HW.out.2.1]
    have x0 := H2.out.1.cell 0
    have x1 := H2.out.1.cell 1
    simp at x0 x1
    go_wp2_with fail
    refine HD1.out.mono ?_
    rintro e w3 ⟨rfl, hb3, ho3⟩
    have H3 := Lib.hid (And.intro hb3 ho3)
    have hbx3 := H2.out.1.only ho3 (fun e => H2.out.2.2.2.1 e)
    have z0 := hb3.cell 0
    simp at z0
    clear hb3 ho3 x0 x1
    have x3 := hbx3.cell 3
    simp at x3
    clear hbx3
    go_wp2_with fail
    go_ret
    exact ⟨rfl, below_of_only2 H2.out.2.2.1 H3.out.2 (fun i e => by have e2 : i = gx := e; rw [e2]; exact H2.out.2.2.2.2)⟩
end Go.Proofs.Ytpggicaphejjfaa
