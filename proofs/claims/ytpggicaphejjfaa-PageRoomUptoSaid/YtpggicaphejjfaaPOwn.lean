/-
  The laws' own: a node laid anew, with a mark behind each list.
-/
import Derived.Test.YtpggicaphejjfaaPInv
import Derived.Test.YtpggicaphejjfaaPCheck
set_option linter.unusedVariables false
namespace Go.Proofs.Ytpggicaphejjfaa
open Go.RowKit

section
variable {w : World} {A1 A2 A3 : Option Addr} {n1 n2 n3 c1 c2 c3 : Nat} {a : Act} {K : Act → World → Prop} {Q : Exit → Act → World → Prop}
theorem wp_newS {o : Oper} (ho : o.op = .buildSlice 22 0 #[]) (h : K (a.put o.dst (.slice (some ⟨w.heap.size, 0, none⟩) 0 0)) (w.alloc (.cells #[] 9))) : o.wp Try.prog a w K Q := by
  unfold Oper.wp execOp
  simp only [ho]
  go_simp
  exact h
theorem wp_newS1 {o : Oper} (ho : o.op = .buildSlice 22 1 #[(0, .const (.string ⟨#[35]⟩))]) (h : K (a.put o.dst (.slice (some ⟨w.heap.size, 0, none⟩) 1 1)) (w.alloc (.cells #[.string ⟨#[35]⟩] 9))) : o.wp Try.prog a w K Q := by
  unfold Oper.wp execOp
  simp only [ho]
  go_simp
  exact h
theorem wp_newU {o : Oper} (ho : o.op = .buildSlice 23 0 #[]) (h : K (a.put o.dst (.slice (some ⟨w.heap.size, 0, none⟩) 0 0)) (w.alloc (.cells #[] 42))) : o.wp Try.prog a w K Q := by
  unfold Oper.wp execOp
  simp only [ho]
  go_simp
  exact h
theorem wp_newU1 {o : Oper} (ho : o.op = .buildSlice 23 1 #[(0, .const (.int .u32 77))]) (h : K (a.put o.dst (.slice (some ⟨w.heap.size, 0, none⟩) 1 1)) (w.alloc (.cells #[.int .u32 77] 42))) : o.wp Try.prog a w K Q := by
  unfold Oper.wp execOp
  simp only [ho]
  go_simp
  exact h
theorem add_zero_map (A : Option Addr) (c : Nat) : (if c = 0 then A else A.map fun x => x.add 0) = A := by
  split
  · rfl
  · cases A with
    | none => rfl
    | some a => simp [Addr.add]
theorem wp_cutS {o : Oper} {sx sy : Nat} {A : Option Addr} {n c k : Nat} (ho : o.op = .slice 22 (.tmp sx) none (some (.tmp sy)) none) (hx : a.tmps.getD sx undef = .slice A n c) (hy : a.tmps.getD sy undef = .int .i64 k) (hk : k ≤ c) (hk2 : k ≤ 140737488355328) (h : K (a.put o.dst (.slice A k c)) w) : o.wp Try.prog a w K Q := by
  simp only [Array.getD_eq_getD_getElem?] at hx hy
  unfold Oper.wp execOp
  simp only [ho]
  have hm := add_zero_map A c
  go_simp
  exact h
theorem wp_cutU {o : Oper} {sx sy : Nat} {A : Option Addr} {n c k : Nat} (ho : o.op = .slice 23 (.tmp sx) none (some (.tmp sy)) none) (hx : a.tmps.getD sx undef = .slice A n c) (hy : a.tmps.getD sy undef = .int .i64 k) (hk : k ≤ c) (hk2 : k ≤ 140737488355328) (h : K (a.put o.dst (.slice A k c)) w) : o.wp Try.prog a w K Q := by
  simp only [Array.getD_eq_getD_getElem?] at hx hy
  unfold Oper.wp execOp
  simp only [ho]
  have hm := add_zero_map A c
  go_simp
  exact h
theorem wp_build4 {o : Oper} {b : Bool} (ho : o.op = .build 26 #[(0, .tmp 4), (1, .tmp 14), (2, .tmp 24), (3, .tmp 34)]) (h0 : a.tmps.getD 4 undef = .bool b) (h1 : a.tmps.getD 14 undef = .slice A1 n1 c1) (h2 : a.tmps.getD 24 undef = .slice A2 n2 c2) (h3 : a.tmps.getD 34 undef = .slice A3 n3 c3)
    (h : K (a.put o.dst (.agg #[.bool b, .slice A1 n1 c1, .slice A2 n2 c2, .slice A3 n3 c3])) w) : o.wp Try.prog a w K Q := by
  simp only [Array.getD_eq_getD_getElem?] at h0 h1 h2 h3
  unfold Oper.wp execOp
  simp only [ho]
  go_simp
  exact h
theorem wp_storeN {o : Oper} {b : Bool} {r : Nat} {z0 z1 z2 z3 : Value} (ho : o.op = .store 26 (.tmp 2) (.tmp 35)) (hd : o.dst = none) (h0 : a.tmps.getD 2 undef = .pointer (some ⟨r, 0, none⟩)) (h1 : a.tmps.getD 35 undef = .agg #[.bool b, .slice A1 n1 c1, .slice A2 n2 c2, .slice A3 n3 c3])
    (hb : Blk w r 26 #[z0, z1, z2, z3])
    (h : K a ((((w.setCell ⟨r, 0, none⟩ (.bool b)).setCell ⟨r, 1, none⟩ (.slice A1 n1 c1)).setCell ⟨r, 2, none⟩ (.slice A2 n2 c2)).setCell ⟨r, 3, none⟩ (.slice A3 n3 c3))) : o.wp Try.prog a w K Q := by
  have x0 := hb.cell 0
  have x1 := hb.cell 1
  have x2 := hb.cell 2
  have x3 := hb.cell 3
  have f0 := hb.frozen 0
  have f1 := hb.frozen 1
  have f2 := hb.frozen 2
  have f3 := hb.frozen 3
  simp at x0 x1 x2 x3
  simp only [Array.getD_eq_getD_getElem?] at h0 h1
  unfold Oper.wp execOp
  simp only [ho]
  go_simp
  exact h
end

/-! one list's part of the region: five operations that make or turn memory -/
/-- the blocks' owners behind an operation of chain 'c' -/
def colN (col : Nat → Nat) (W : World) (c : Nat) : Nat → Nat := fun k => if k < W.heap.size then col k else c
/-- which blocks an operation of chain 'c' may turn -/
def ChF (B : Nat) (col : Nat → Nat) (c : Nat) : Nat → Prop := fun k => B ≤ k ∧ col k = c
/-- what is known of a chain: 'b': the number of its first operation, 's': that operation's slot -/
structure Ch (B : Nat) (e : TypeId) (xs : List Value) (y : Value) (n : Nat) (col : Nat → Nat) (c b s : Nat) (l : Array Bool) (a : Act) (W : World) : Prop where
  p0 : l.getD b false = true → l.getD (b + 3) false = false → ∃ g, a.tmps.getD s undef = .slice (some ⟨g, 0, none⟩) 0 0 ∧ Blk W g e #[] ∧ B ≤ g ∧ col g = c
  p1 : l.getD (b + 4) false = true → l.getD (b + 5) false = false → ∃ g, a.tmps.getD (s + 4) undef = .slice (some ⟨g, 0, none⟩) 1 1 ∧ Blk W g e #[y] ∧ B ≤ g ∧ col g = c
  p2 : l.getD (b + 3) false = true → l.getD (b + 5) false = false → ∃ A d, a.tmps.getD (s + 3) undef = .slice A n d ∧ W.ownsRow B e 1 (.slice A n d) n xs ∧ ∀ k, Value.ownBlock (.slice A n d) = some k → col k = c
  p3 : l.getD (b + 5) false = true → ∃ A d, a.tmps.getD (s + 5) undef = .slice A (n + 1) d ∧ W.ownsRow B e 1 (.slice A (n + 1) d) (n + 1) (xs ++ [y]) ∧ (∀ k, Value.ownBlock (.slice A (n + 1) d) = some k → col k = c) ∧ (l.getD (b + 9) false = true → a.tmps.getD (s + 9) undef = .slice A n d)
theorem getD_put_ne {a : Act} {d s : Nat} {v : Value} (h : d ≠ s) : (a.put (some d) v).tmps.getD s undef = a.tmps.getD s undef := by
  simp [Act.put, Array.getElem?_setIfInBounds_ne h]
theorem getD_put_same {a : Act} {d : Nat} {v : Value} (h : d < a.tmps.size) : (a.put (some d) v).tmps.getD d undef = v := by
  simp [Act.put, h]
theorem getDf_set_ne {l : Array Bool} {i j : Nat} (h : i ≠ j) : (l.setIfInBounds i true).getD j false = l.getD j false := getD_set_ne false h
theorem getDf_set_same {l : Array Bool} {i : Nat} (h : i < l.size) : (l.setIfInBounds i true).getD i false = true := by simp [h]
theorem ownBlk_lt {W : World} {B : Nat} {e : TypeId} {n m : Nat} {v : Value} {xs : List Value} (h : W.ownsRow B e 1 v n xs) : ∀ k, v.ownBlock = some k → B ≤ k ∧ k < W.heap.size := fun k hk => h.lt k hk
/-- an operation of no concern to this chain -/
theorem Ch.keep {B : Nat} {e : TypeId} {xs : List Value} {y : Value} {n : Nat} {col col' : Nat → Nat} {c c' b s : Nat} {l : Array Bool} {a : Act} {W W' : World} (h : Ch B e xs y n col c b s l a W)
    {j d : Nat} {v : Value} (hj : j ≠ b ∧ j ≠ b + 3 ∧ j ≠ b + 4 ∧ j ≠ b + 5 ∧ j ≠ b + 9) (hd : d ≠ s ∧ d ≠ s + 3 ∧ d ≠ s + 4 ∧ d ≠ s + 5 ∧ d ≠ s + 9) (ho : Only (ChF B col c') W W') (hc : c ≠ c') (hcol : ∀ k, k < W.heap.size → col' k = col k) :
    Ch B e xs y n col' c b s (l.setIfInBounds j true) (a.put (some d) v) W' := by
  obtain ⟨j0, j3, j4, j5, j9⟩ := hj
  obtain ⟨d0, d3, d4, d5, d9⟩ := hd
  refine ⟨fun h1 h2 => ?_, fun h1 h2 => ?_, fun h1 h2 => ?_, fun h1 => ?_⟩
  · rw [getDf_set_ne j0] at h1
    rw [getDf_set_ne j3] at h2
    obtain ⟨g, q1, q2, q3, q4⟩ := h.p0 h1 h2
    exact ⟨g, by rw [getD_put_ne d0]; exact q1, q2.only ho (fun hf => hc (by rw [← q4]; exact hf.2)), q3, by rw [hcol g q2.lt]; exact q4⟩
  · rw [getDf_set_ne j4] at h1
    rw [getDf_set_ne j5] at h2
    obtain ⟨g, q1, q2, q3, q4⟩ := h.p1 h1 h2
    exact ⟨g, by rw [getD_put_ne d4]; exact q1, q2.only ho (fun hf => hc (by rw [← q4]; exact hf.2)), q3, by rw [hcol g q2.lt]; exact q4⟩
  · rw [getDf_set_ne j3] at h1
    rw [getDf_set_ne j5] at h2
    obtain ⟨A, dd, q1, q2, q3⟩ := h.p2 h1 h2
    exact ⟨A, dd, by rw [getD_put_ne d3]; exact q1, own_only q2 ho (fun g hg hf => hc (by rw [← q3 g hg]; exact hf.2)), fun k hk => by rw [hcol k (q2.lt k hk).2]; exact q3 k hk⟩
  · rw [getDf_set_ne j5] at h1
    obtain ⟨A, dd, q1, q2, q3, q4⟩ := h.p3 h1
    exact ⟨A, dd, by rw [getD_put_ne d5]; exact q1, own_only q2 ho (fun g hg hf => hc (by rw [← q3 g hg]; exact hf.2)), fun k hk => by rw [hcol k (q2.lt k hk).2]; exact q3 k hk, fun h9 => by rw [getDf_set_ne j9] at h9; rw [getD_put_ne d9]; exact q4 h9⟩
theorem colN_old {col : Nat → Nat} {W : World} {c k : Nat} (h : k < W.heap.size) : colN col W c k = col k := by simp [colN, h]
theorem colN_new {col : Nat → Nat} {W : World} {c k : Nat} (h : W.heap.size ≤ k) : colN col W c k = c := by simp [colN]; omega
theorem Only.allocW {F : Nat → Prop} (W : World) (o : Obj) : Only F W (W.alloc o) := (Only.refl F W).alloc o
theorem ownAlloc {W : World} {B : Nat} {e : TypeId} {n : Nat} {v : Value} {xs : List Value} (h : W.ownsRow B e 1 v n xs) (o : Obj) : (W.alloc o).ownsRow B e 1 v n xs := own_only h (Only.allocW (F := fun _ => False) W o) (fun _ _ f => f)
section
variable {B : Nat} {e : TypeId} {xs : List Value} {y : Value} {n : Nat} {col : Nat → Nat} {c b s : Nat} {l : Array Bool} {a : Act} {W : World}
/-- the first: an empty slice -/
theorem Ch.new0 (h : Ch B e xs y n col c b s l a W) (hB : B ≤ W.heap.size) (hs : s < a.tmps.size) (hl : b < l.size) (h3 : l.getD (b + 3) false = false) (h5 : l.getD (b + 5) false = false) :
    Ch B e xs y n (colN col W c) c b s (l.setIfInBounds b true) (a.put (some s) (.slice (some ⟨W.heap.size, 0, none⟩) 0 0)) (W.alloc (.cells #[] e)) := by
  refine ⟨fun h1 h2 => ⟨W.heap.size, getD_put_same hs, Blk.new W e #[], hB, colN_new (Nat.le_refl _)⟩, fun h1 h2 => ?_, fun h1 h2 => ?_, fun h1 => ?_⟩
  · rw [getDf_set_ne (by omega)] at h1 h2
    obtain ⟨g, q1, q2, q3, q4⟩ := h.p1 h1 h2
    exact ⟨g, by rw [getD_put_ne (by omega)]; exact q1, q2.alloc _, q3, by rw [colN_old q2.lt]; exact q4⟩
  · rw [getDf_set_ne (by omega), h3] at h1; cases h1
  · rw [getDf_set_ne (by omega), h5] at h1; cases h1
/-- the mark's slice -/
theorem Ch.new1 (h : Ch B e xs y n col c b s l a W) (hB : B ≤ W.heap.size) (hs : s + 4 < a.tmps.size) (hl : b + 4 < l.size) (h5 : l.getD (b + 5) false = false) :
    Ch B e xs y n (colN col W c) c b s (l.setIfInBounds (b + 4) true) (a.put (some (s + 4)) (.slice (some ⟨W.heap.size, 0, none⟩) 1 1)) (W.alloc (.cells #[y] e)) := by
  refine ⟨fun h1 h2 => ?_, fun h1 h2 => ⟨W.heap.size, getD_put_same hs, Blk.new W e #[y], hB, colN_new (Nat.le_refl _)⟩, fun h1 h2 => ?_, fun h1 => ?_⟩
  · rw [getDf_set_ne (by omega)] at h1 h2
    obtain ⟨g, q1, q2, q3, q4⟩ := h.p0 h1 h2
    exact ⟨g, by rw [getD_put_ne (by omega)]; exact q1, q2.alloc _, q3, by rw [colN_old q2.lt]; exact q4⟩
  · rw [getDf_set_ne (by omega)] at h1 h2
    obtain ⟨A, d, q1, q2, q3⟩ := h.p2 h1 h2
    exact ⟨A, d, by rw [getD_put_ne (by omega)]; exact q1, ownAlloc q2 _, fun k hk => by rw [colN_old (q2.lt k hk).2]; exact q3 k hk⟩
  · rw [getDf_set_ne (by omega), h5] at h1; cases h1
/-- the last: the mark cut off -/
theorem Ch.cut (h : Ch B e xs y n col c b s l a W) (hs : s + 9 < a.tmps.size) (h3 : l.getD (b + 3) false = true) (h5 : l.getD (b + 5) false = true) {A : Option Addr} {d : Nat} (ha : a.tmps.getD (s + 5) undef = .slice A (n + 1) d) :
    Ch B e xs y n col c b s (l.setIfInBounds (b + 9) true) (a.put (some (s + 9)) (.slice A n d)) W := by
  refine ⟨fun h1 h2 => ?_, fun h1 h2 => ?_, fun h1 h2 => ?_, fun h1 => ?_⟩
  · rw [getDf_set_ne (by omega), h3] at h2; cases h2
  · rw [getDf_set_ne (by omega), h5] at h2; cases h2
  · rw [getDf_set_ne (by omega), h5] at h2; cases h2
  · obtain ⟨A', d', q1, q2, q3, q4⟩ := h.p3 h5
    rw [ha] at q1
    injection q1 with e1 e2 e3
    subst e1 e3
    exact ⟨A, d, by rw [getD_put_ne (by omega)]; exact ha, q2, q3, fun _ => getD_put_same hs⟩
variable {P : Program} {K : Act → World → Prop} {Q : Exit → Act → World → Prop} {o : Oper} {t : TypeId} {i : TypeInfo} {z : Value} {bytes : Nat}
theorem own_nil {g : Nat} (h : Blk W g e #[]) (hB : B ≤ g) : W.ownsRow B e 1 (.slice (some ⟨g, 0, none⟩) 0 0) 0 [] := ⟨rfl, .inr ⟨g, 0, #[], rfl, hB, h, Nat.le_refl _, Nat.zero_le _, rfl, rfl⟩⟩
/-- the first append -/
theorem Ch.app0 (h : Ch B e xs y n col c b s l a W) (hB : B ≤ W.heap.size) (ho : o.op = .call { callee := .builtin .append, args := #[.tmp s, .tmp (s + 2)], argTypes := #[t, t] }) (hd : o.dst = some (s + 3))
    (ht : P.underlying t = some (.slice e)) (hi : P.info? e = some i) (hz : i.zero = some z) (hsize : i.size = 1) (hby : i.bytes = bytes) (hzs : z.cells.size = 1)
    (hs : s + 3 < a.tmps.size) (hl : b + 3 < l.size) (h0 : l.getD b false = true) (h3 : l.getD (b + 3) false = false) (h5 : l.getD (b + 5) false = false)
    {A1 : Option Addr} {m : Nat} (hx : a.tmps.getD (s + 2) undef = .slice A1 n m) (hln : xs.length = n) (hsrc : Src W A1 xs) (hone : ∀ u ∈ xs, u.oneCell' = true) (h63 : n + 1 ≤ maxLen) (hbytes : (n + 1) * bytes ≤ 140737488355328)
    (hK : ∀ v W', Only (ChF B col c) W W' → Ch B e xs y n (colN col W c) c b s (l.setIfInBounds (b + 3) true) (a.put (some (s + 3)) v) W' → K (a.put (some (s + 3)) v) W') : o.wp P a W K Q := by
  obtain ⟨g, q1, q2, q3, q4⟩ := h.p0 h0 h3
  have hb2 : n * bytes ≤ 140737488355328 := Nat.le_trans (Nat.mul_le_mul_right _ (Nat.le_succ n)) hbytes
  refine wp_append_src W (.tmp s) (.tmp (s + 2)) t ho B e i z bytes ht hi hz hsize hby hzs (.slice (some ⟨g, 0, none⟩) 0 0) 0 [] q1 (own_nil q2 q3) A1 n m xs hx hln hsrc hone (by omega) (by rw [Nat.zero_add]; exact hb2) hB ?_
  intro A' d W' hown hg hat
  rw [hd]
  rw [Nat.zero_add] at hown hat ⊢
  have ho : Only (ChF B col c) W W' := (Only.refl _ W).grown hg (fun k hk => by simp [Value.ownBlock] at hk; subst hk; exact .inl ⟨q3, q4⟩)
  have hcol : ∀ k, Value.ownBlock (.slice A' n d) = some k → colN col W c k = c := fun k hk => by
    rcases hat with e1 | e1
    · rw [e1] at hk
      simp [Value.ownBlock] at hk
      subst hk
      rw [colN_old q2.lt]; exact q4
    · rw [e1] at hk
      simp at hk
      exact colN_new (by omega)
  refine hK _ W' ho ⟨fun h1 h2 => ?_, fun h1 h2 => ?_, fun h1 h2 => ⟨A', d, getD_put_same hs, hown, hcol⟩, fun h1 => ?_⟩
  · rw [getDf_set_same hl] at h2; cases h2
  · rw [getDf_set_ne (by omega)] at h1 h2
    obtain ⟨g', r1, r2, r3, r4⟩ := h.p1 h1 h2
    refine ⟨g', by rw [getD_put_ne (by omega)]; exact r1, r2.grown hg (fun e1 => ?_), r3, by rw [colN_old r2.lt]; exact r4⟩
    simp [Value.ownBlock] at e1
    subst e1
    unfold Blk at q2 r2
    rw [q2] at r2
    injection r2 with r2
    injection r2 with r2
    simp at r2
  · rw [getDf_set_ne (by omega), h5] at h1; cases h1
/-- the second append: the mark -/
theorem Ch.app1 (h : Ch B e xs y n col c b s l a W) (hB : B ≤ W.heap.size) (ho : o.op = .call { callee := .builtin .append, args := #[.tmp (s + 3), .tmp (s + 4)], argTypes := #[t, t] }) (hd : o.dst = some (s + 5))
    (ht : P.underlying t = some (.slice e)) (hi : P.info? e = some i) (hz : i.zero = some z) (hsize : i.size = 1) (hby : i.bytes = bytes) (hzs : z.cells.size = 1)
    (hs : s + 5 < a.tmps.size) (hl : b + 5 < l.size) (h3 : l.getD (b + 3) false = true) (h4 : l.getD (b + 4) false = true) (h5 : l.getD (b + 5) false = false) (h9 : l.getD (b + 9) false = false)
    (hone : y.oneCell' = true) (h63 : n + 1 ≤ maxLen) (hbytes : (n + 1) * bytes ≤ 140737488355328)
    (hK : ∀ v W', Only (ChF B col c) W W' → Ch B e xs y n (colN col W c) c b s (l.setIfInBounds (b + 5) true) (a.put (some (s + 5)) v) W' → K (a.put (some (s + 5)) v) W') : o.wp P a W K Q := by
  obtain ⟨g, q1, q2, q3, q4⟩ := h.p1 h4 h5
  obtain ⟨A, d0, r1, r2, r3⟩ := h.p2 h3 h5
  have hsrc : Src W (some ⟨g, 0, none⟩) [y] := fun j u hu => by
    refine ⟨_, rfl, ?_⟩
    rw [Addr.add_lit, Nat.zero_add, q2.cell]
    simpa using hu
  refine wp_append_src W (.tmp (s + 3)) (.tmp (s + 4)) t ho B e i z bytes ht hi hz hsize hby hzs (.slice A n d0) n xs r1 r2 (some ⟨g, 0, none⟩) 1 1 [y] q1 rfl hsrc (by simpa using hone) h63 hbytes hB ?_
  intro A' d W' hown hg hat
  rw [hd]
  have ho : Only (ChF B col c) W W' := (Only.refl _ W).grown hg (fun k hk => .inl ⟨(r2.lt k hk).1, r3 k hk⟩)
  have hcol : ∀ k, Value.ownBlock (.slice A' (n + 1) d) = some k → colN col W c k = c := fun k hk => by
    rcases hat with e1 | e1
    · rw [e1] at hk
      rw [colN_old (r2.lt k hk).2]; exact r3 k hk
    · rw [e1] at hk
      simp at hk
      exact colN_new (by omega)
  refine hK _ W' ho ⟨fun h1 h2 => ?_, fun h1 h2 => ?_, fun h1 h2 => ?_, fun h1 => ⟨A', d, getD_put_same hs, hown, hcol, fun e1 => ?_⟩⟩
  · rw [getDf_set_ne (by omega), h3] at h2; cases h2
  · rw [getDf_set_same hl] at h2; cases h2
  · rw [getDf_set_same hl] at h2; cases h2
  · rw [getDf_set_ne (by omega), h9] at e1; cases e1
end
end Go.Proofs.Ytpggicaphejjfaa
