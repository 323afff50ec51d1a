/-
  The laws' own: the walk.
-/
import Derived.Test.YtpggicaphejjfaaPOwn
import Derived.Test.YtpggicaphejjfaaPBuild
import Derived.Test.YtpggicaphejjfaaPWrite
set_option linter.unusedVariables false
set_option linter.unusedSimpArgs false
namespace Go.Proofs.Ytpggicaphejjfaa
open Go.RowKit

def kidsV (l : List Nat) : List Value := l.map fun k => .int .u32 (k : Nat)
def markS : Value := .string ⟨#[35]⟩
def markU : Value := .int .u32 77
/-- operations that only read: their number, their slot -/
def tix : List (Nat × Nat) := [(0, 3), (1, 4), (3, 6), (4, 7), (8, 11), (9, 12), (10, 13), (13, 16), (14, 17), (18, 21), (19, 22), (20, 23), (23, 26), (24, 27), (28, 31), (29, 32), (30, 33)]
/-- what comes ahead of what -/
def imps : List (Nat × Nat) := [(11, 7), (7, 5), (7, 6), (5, 2), (21, 17), (17, 15), (17, 16), (15, 12), (31, 27), (27, 25), (27, 26), (25, 22), (32, 11), (32, 21), (32, 31), (32, 1), (33, 32), (1, 0), (4, 3), (5, 4), (9, 8), (10, 9), (11, 10), (14, 13), (15, 14), (19, 18), (20, 19), (21, 20), (24, 23), (25, 24), (29, 28), (30, 29), (31, 30)]
def valN (bx : Nat) (lf : Bool) (A1 A2 A3 : Option Addr) (N1 N2 N3 c1 c2 c3 : Nat) : Nat → Value
  | 0 => .pointer (some ⟨bx, 0, none⟩)
  | 1 => .bool lf
  | 3 => .pointer (some ⟨bx, 1, none⟩)
  | 4 => .slice A1 N1 c1
  | 8 => .pointer (some ⟨bx, 1, none⟩)
  | 9 => .slice A1 N1 c1
  | 10 => .int .i64 N1
  | 13 => .pointer (some ⟨bx, 2, none⟩)
  | 14 => .slice A2 N2 c2
  | 18 => .pointer (some ⟨bx, 2, none⟩)
  | 19 => .slice A2 N2 c2
  | 20 => .int .i64 N2
  | 23 => .pointer (some ⟨bx, 3, none⟩)
  | 24 => .slice A3 N3 c3
  | 28 => .pointer (some ⟨bx, 3, none⟩)
  | 29 => .slice A3 N3 c3
  | 30 => .int .i64 N3
  | _ => undef
/-- the three chains -/
def Ch3 (B : Nat) (ks vs us : List Value) (N1 N2 N3 : Nat) (col : Nat → Nat) (l : Array Bool) (a : Act) (W : World) : Prop :=
  Ch B 9 ks markS N1 col 1 2 5 l a W ∧ Ch B 9 vs markS N2 col 2 12 15 l a W ∧ Ch B 42 us markU N3 col 3 22 25 l a W
structure OwnJ (w1 : World) (B bx r : Nat) (val : Nat → Value) (ks vs us : List Value) (N1 N2 N3 : Nat) (l : Array Bool) (a : Act) (W : World) : Prop where
  sz : l.size = 34
  tz : a.tmps.size = 36
  df : a.defers = []
  t1 : a.tmps.getD 1 undef = .pointer (some ⟨bx, 0, none⟩)
  t2 : a.tmps.getD 2 undef = .pointer (some ⟨r, 0, none⟩)
  tb : ∀ p ∈ tix, l.getD p.1 false = true → a.tmps.getD p.2 undef = val p.1
  im : ∀ p ∈ imps, l.getD p.1 false = true → l.getD p.2 false = true
  bl : Below B w1 W
  ch : ∃ col, Ch3 B ks vs us N1 N2 N3 col l a W
  bd : l.getD 32 false = true → a.tmps.getD 35 undef = .agg #[val 1, a.tmps.getD 14 undef, a.tmps.getD 24 undef, a.tmps.getD 34 undef]
  lt : l.getD 33 false = false
section
variable {w1 : World} {B bx r : Nat} {val : Nat → Value} {ks vs us : List Value} {N1 N2 N3 : Nat} {l : Array Bool} {a : Act} {W W' : World}
theorem OwnJ.upd (h : OwnJ w1 B bx r val ks vs us N1 N2 N3 l a W) (j d : Nat) (v : Value)
    (hjd : ∀ p ∈ tix, p.1 = j → p.2 = d ∧ v = val j) (hd : ∀ p ∈ tix, p.1 ≠ j → p.2 ≠ d) (him : ∀ p ∈ imps, p.1 = j → l.getD p.2 false = true) (hbl : Below B w1 W')
    (hch : ∃ col, Ch3 B ks vs us N1 N2 N3 col (l.setIfInBounds j true) (a.put (some d) v) W') (h1 : d ≠ 1) (h2 : d ≠ 2) (h36 : d < 36) (h34 : j < 34) (h33 : j ≠ 33)
    (hbd : (l.setIfInBounds j true).getD 32 false = true → (a.put (some d) v).tmps.getD 35 undef = .agg #[val 1, (a.put (some d) v).tmps.getD 14 undef, (a.put (some d) v).tmps.getD 24 undef, (a.put (some d) v).tmps.getD 34 undef]) :
    OwnJ w1 B bx r val ks vs us N1 N2 N3 (l.setIfInBounds j true) (a.put (some d) v) W' := by
  refine ⟨by simp [h.sz], by simp [Act.put, h.tz], by simp [Act.put, h.df], by rw [getD_put_ne h1]; exact h.t1, by rw [getD_put_ne h2]; exact h.t2, fun p hp hl => ?_, fun p hp hl => ?_, hbl, hch, hbd, by rw [getDf_set_ne h33]; exact h.lt⟩
  · by_cases e : p.1 = j
    · obtain ⟨e1, e2⟩ := hjd p hp e
      rw [e1, getD_put_same (by rw [h.tz]; exact h36), e, e2]
    · rw [getDf_set_ne (fun e' => e e'.symm)] at hl
      rw [getD_put_ne (fun e' => hd p hp e e'.symm)]
      exact h.tb p hp hl
  · by_cases e : p.1 = j
    · have := him p hp e
      by_cases e2 : j = p.2
      · rw [← e2]; exact getDf_set_same (by rw [h.sz]; exact h34)
      · rw [getDf_set_ne e2]; exact this
    · rw [getDf_set_ne (fun e' => e e'.symm)] at hl
      have := h.im p hp hl
      by_cases e2 : j = p.2
      · rw [← e2]; exact getDf_set_same (by rw [h.sz]; exact h34)
      · rw [getDf_set_ne e2]; exact this
theorem OwnJ.bd_keep (h : OwnJ w1 B bx r val ks vs us N1 N2 N3 l a W) {j d : Nat} {v : Value} (hj : j ≠ 32) (h35 : d ≠ 35) (hs : (d ≠ 14 ∧ d ≠ 24 ∧ d ≠ 34) ∨ l.getD 32 false = false) :
    (l.setIfInBounds j true).getD 32 false = true → (a.put (some d) v).tmps.getD 35 undef = .agg #[val 1, (a.put (some d) v).tmps.getD 14 undef, (a.put (some d) v).tmps.getD 24 undef, (a.put (some d) v).tmps.getD 34 undef] := by
  intro hl
  rw [getDf_set_ne hj] at hl
  rcases hs with ⟨q1, q2, q3⟩ | hs
  · rw [getD_put_ne h35, getD_put_ne q1, getD_put_ne q2, getD_put_ne q3]
    exact h.bd hl
  · rw [hs] at hl; cases hl
theorem OwnJ.imf (h : OwnJ w1 B bx r val ks vs us N1 N2 N3 l a W) (x y : Nat) (hp : (x, y) ∈ imps) (hy : l.getD y false = false) : l.getD x false = false := by
  cases e : l.getD x false with
  | false => rfl
  | true => have := h.im _ hp e; rw [hy] at this; cases this
/-- an operation that only reads -/
theorem OwnJ.read (h : OwnJ w1 B bx r val ks vs us N1 N2 N3 l a W) (j d : Nat) (hp : (j, d) ∈ tix) (him : ∀ p ∈ imps, p.1 = j → l.getD p.2 false = true) : OwnJ w1 B bx r val ks vs us N1 N2 N3 (l.setIfInBounds j true) (a.put (some d) (val j)) W := by
  have k1 : ∀ p ∈ tix, ∀ q ∈ tix, (q.1 = p.1 → q.2 = p.2) ∧ (q.1 ≠ p.1 → q.2 ≠ p.2) := by decide
  have k3 : ∀ p ∈ tix, p.2 ≠ 1 ∧ p.2 ≠ 2 ∧ p.2 < 36 ∧ p.1 < 34 := by decide
  have k4 : ∀ p ∈ tix, p.1 ≠ 33 ∧ p.1 ≠ 32 ∧ p.2 ≠ 35 := by decide
  have k5 : ∀ p ∈ tix, p.2 ≠ 14 ∧ p.2 ≠ 24 ∧ p.2 ≠ 34 := by decide
  have j1 : ∀ p ∈ tix, p.1 ≠ 2 ∧ p.1 ≠ 5 ∧ p.1 ≠ 6 ∧ p.1 ≠ 7 ∧ p.1 ≠ 11 := by decide
  have j2 : ∀ p ∈ tix, p.1 ≠ 12 ∧ p.1 ≠ 15 ∧ p.1 ≠ 16 ∧ p.1 ≠ 17 ∧ p.1 ≠ 21 := by decide
  have j3 : ∀ p ∈ tix, p.1 ≠ 22 ∧ p.1 ≠ 25 ∧ p.1 ≠ 26 ∧ p.1 ≠ 27 ∧ p.1 ≠ 31 := by decide
  have s1 : ∀ p ∈ tix, p.2 ≠ 5 ∧ p.2 ≠ 8 ∧ p.2 ≠ 9 ∧ p.2 ≠ 10 ∧ p.2 ≠ 14 := by decide
  have s2 : ∀ p ∈ tix, p.2 ≠ 15 ∧ p.2 ≠ 18 ∧ p.2 ≠ 19 ∧ p.2 ≠ 20 ∧ p.2 ≠ 24 := by decide
  have s3 : ∀ p ∈ tix, p.2 ≠ 25 ∧ p.2 ≠ 28 ∧ p.2 ≠ 29 ∧ p.2 ≠ 30 ∧ p.2 ≠ 34 := by decide
  obtain ⟨m1, m2, m3, m4⟩ := k3 _ hp
  obtain ⟨m5, m6, m7⟩ := k4 _ hp
  obtain ⟨col, q1, q2, q3⟩ := h.ch
  exact h.upd j d (val j) (fun q hq e => ⟨(k1 _ hp q hq).1 e, rfl⟩) (fun q hq e => (k1 _ hp q hq).2 e) him h.bl
    ⟨col, q1.keep (c' := 0) (j1 _ hp) (s1 _ hp) (Only.refl _ _) (by decide) (fun _ _ => rfl), q2.keep (c' := 0) (j2 _ hp) (s2 _ hp) (Only.refl _ _) (by decide) (fun _ _ => rfl), q3.keep (c' := 0) (j3 _ hp) (s3 _ hp) (Only.refl _ _) (by decide) (fun _ _ => rfl)⟩
    m1 m2 m3 m4 m5 (h.bd_keep m6 m7 (.inl (k5 _ hp)))
theorem below_chF (h : Below B w1 W) {col : Nat → Nat} {c : Nat} (hB : B ≤ w1.heap.size) (ho : Only (ChF B col c) W W') : Below B w1 W' := h.trans (ho.below (fun k hk hf => absurd hf.1 (by omega)) (Nat.le_trans hB h.size))
/-- an operation of a chain that makes or turns memory -/
theorem OwnJ.chain (h : OwnJ w1 B bx r val ks vs us N1 N2 N3 l a W) (j d : Nat) (v : Value) (hB : B ≤ w1.heap.size) (c : Nat) (col : Nat → Nat) (ho : Only (ChF B col c) W W')
    (hch : ∃ col', Ch3 B ks vs us N1 N2 N3 col' (l.setIfInBounds j true) (a.put (some d) v) W')
    (hjt : ∀ p ∈ tix, p.1 ≠ j ∧ p.2 ≠ d) (him : ∀ p ∈ imps, p.1 = j → l.getD p.2 false = true) (hn : d ≠ 1 ∧ d ≠ 2 ∧ d < 36 ∧ j < 34 ∧ j ≠ 33 ∧ j ≠ 32 ∧ d ≠ 35) (hs : (d ≠ 14 ∧ d ≠ 24 ∧ d ≠ 34) ∨ l.getD 32 false = false) :
    OwnJ w1 B bx r val ks vs us N1 N2 N3 (l.setIfInBounds j true) (a.put (some d) v) W' := by
  obtain ⟨n1, n2, n3, n4, n5, n6, n7⟩ := hn
  exact h.upd j d v (fun p hp e => absurd e (hjt p hp).1) (fun p hp _ => (hjt p hp).2) him (below_chF h.bl hB ho) hch n1 n2 n3 n4 n5 (h.bd_keep n6 n7 hs)
end
theorem wpOp_of {P : Program} {ops : Array Oper} {Q : Exit → Act → World → Prop} {i : Nat} {o : Oper} {K : Act → World → Prop} {a : Act} {w : World} (ho : ops[i]? = some o) (hg : o.guard = none) (h : o.wp P a w K Q) : wpOp P ops Q i K a w := by
  unfold wpOp
  rw [ho]
  simp only [Region.wanted, hg, if_true]
  exact .inl h
section
variable {w : World} {a : Act} {K : Act → World → Prop} {Q : Exit → Act → World → Prop}
theorem wp_fa0 {o : Oper} {bx : Nat} (ho : o.op = .fieldAddr 25 (.tmp 1) 0) (h0 : a.tmps.getD 1 undef = .pointer (some ⟨bx, 0, none⟩)) (h : K (a.put o.dst (.pointer (some ⟨bx, 0, none⟩))) w) : o.wp Try.prog a w K Q := by
  simp only [Array.getD_eq_getD_getElem?] at h0
  unfold Oper.wp execOp
  simp only [ho]
  go_simp
  exact h
theorem wp_fa1 {o : Oper} {bx : Nat} (ho : o.op = .fieldAddr 25 (.tmp 1) 1) (h0 : a.tmps.getD 1 undef = .pointer (some ⟨bx, 0, none⟩)) (h : K (a.put o.dst (.pointer (some ⟨bx, 1, none⟩))) w) : o.wp Try.prog a w K Q := by
  simp only [Array.getD_eq_getD_getElem?] at h0
  unfold Oper.wp execOp
  simp only [ho]
  go_simp
  exact h
theorem wp_fa2 {o : Oper} {bx : Nat} (ho : o.op = .fieldAddr 25 (.tmp 1) 2) (h0 : a.tmps.getD 1 undef = .pointer (some ⟨bx, 0, none⟩)) (h : K (a.put o.dst (.pointer (some ⟨bx, 2, none⟩))) w) : o.wp Try.prog a w K Q := by
  simp only [Array.getD_eq_getD_getElem?] at h0
  unfold Oper.wp execOp
  simp only [ho]
  go_simp
  exact h
theorem wp_fa3 {o : Oper} {bx : Nat} (ho : o.op = .fieldAddr 25 (.tmp 1) 3) (h0 : a.tmps.getD 1 undef = .pointer (some ⟨bx, 0, none⟩)) (h : K (a.put o.dst (.pointer (some ⟨bx, 3, none⟩))) w) : o.wp Try.prog a w K Q := by
  simp only [Array.getD_eq_getD_getElem?] at h0
  unfold Oper.wp execOp
  simp only [ho]
  go_simp
  exact h
theorem wp_ld4 {o : Oper} {s : Nat} {q : Addr} {v : Value} (ho : o.op = .load 4 (.tmp s)) (h0 : a.tmps.getD s undef = .pointer (some q)) (hc : w.cell? q = some v) (h : K (a.put o.dst v) w) : o.wp Try.prog a w K Q := by
  simp only [Array.getD_eq_getD_getElem?] at h0
  unfold Oper.wp execOp
  simp only [ho]
  go_simp
  exact h
theorem wp_ld22 {o : Oper} {s : Nat} {q : Addr} {v : Value} (ho : o.op = .load 22 (.tmp s)) (h0 : a.tmps.getD s undef = .pointer (some q)) (hc : w.cell? q = some v) (h : K (a.put o.dst v) w) : o.wp Try.prog a w K Q := by
  simp only [Array.getD_eq_getD_getElem?] at h0
  unfold Oper.wp execOp
  simp only [ho]
  go_simp
  exact h
theorem wp_ld23 {o : Oper} {s : Nat} {q : Addr} {v : Value} (ho : o.op = .load 23 (.tmp s)) (h0 : a.tmps.getD s undef = .pointer (some q)) (hc : w.cell? q = some v) (h : K (a.put o.dst v) w) : o.wp Try.prog a w K Q := by
  simp only [Array.getD_eq_getD_getElem?] at h0
  unfold Oper.wp execOp
  simp only [ho]
  go_simp
  exact h
theorem wp_len22 {o : Oper} {s : Nat} {A : Option Addr} {n c : Nat} (ho : o.op = .call { callee := .builtin .len, args := #[.tmp s], argTypes := #[22] }) (h0 : a.tmps.getD s undef = .slice A n c) (h : K (a.put o.dst (.int .i64 n)) w) : o.wp Try.prog a w K Q := by
  simp only [Array.getD_eq_getD_getElem?] at h0
  unfold Oper.wp execOp
  simp only [ho]
  go_simp
  exact h
theorem wp_len23 {o : Oper} {s : Nat} {A : Option Addr} {n c : Nat} (ho : o.op = .call { callee := .builtin .len, args := #[.tmp s], argTypes := #[23] }) (h0 : a.tmps.getD s undef = .slice A n c) (h : K (a.put o.dst (.int .i64 n)) w) : o.wp Try.prog a w K Q := by
  simp only [Array.getD_eq_getD_getElem?] at h0
  unfold Oper.wp execOp
  simp only [ho]
  go_simp
  exact h
end
theorem own_cap {W : World} {B : Nat} {e : TypeId} {A : Option Addr} {n d : Nat} {xs : List Value} (h : W.ownsRow B e 1 (.slice A n d) n xs) : n ≤ d := by
  rcases h.2 with ⟨e1, e2⟩ | ⟨g, cap, cur, e1, _, _, h3, _⟩
  · injection e1 with _ _ e3; omega
  · injection e1 with _ _ e3; omega
theorem getD_tf {l : Array Bool} {i : Nat} (h : l.getD i false = true) : l.getD i true = true := by
  rcases Nat.lt_or_ge i l.size with q | q
  · simp [q] at h ⊢; exact h
  · simp [Array.getElem?_eq_none q]
theorem getD_ft {l : Array Bool} {i : Nat} (h : l.getD i true = false) : l.getD i false = false := by
  rcases Nat.lt_or_ge i l.size with q | q
  · simp [q] at h ⊢; exact h
  · simp [Array.getElem?_eq_none q] at h
theorem strR_src {w : World} {A : Option Addr} {l : List ByteArray} (h : StrR w A l) : Src w A (strs l) := by
  intro j u hu
  have hj : j < l.length := by have := (List.getElem?_eq_some_iff.1 hu).1; rw [length_strs] at this; exact this
  obtain ⟨b, off, rfl, _, hc⟩ := h (by omega)
  refine ⟨_, rfl, ?_⟩
  rw [Addr.add_lit, hc j hj, ← strs_get hj, hu]
theorem kidsV_get {l : List Nat} {k : Nat} (hk : k < l.length) : (kidsV l)[k]? = some (.int .u32 (l.getD k 0 : Nat)) := by
  simp [kidsV, List.getD, List.getElem?_eq_getElem hk]
theorem kidR_src {w : World} {A : Option Addr} {l : List Nat} (h : KidR w A l) : Src w A (kidsV l) := by
  intro j u hu
  have hj : j < l.length := by have := (List.getElem?_eq_some_iff.1 hu).1; simpa [kidsV] using this
  obtain ⟨b, off, rfl, _, hc⟩ := h (by omega)
  refine ⟨_, rfl, ?_⟩
  rw [Addr.add_lit, hc j hj, ← kidsV_get hj, hu]
theorem strs_one (l : List ByteArray) : ∀ u ∈ strs l, u.oneCell' = true := by
  intro u hu
  simp [strs] at hu
  obtain ⟨x, _, rfl⟩ := hu
  rfl
theorem kidsV_one (l : List Nat) : ∀ u ∈ kidsV l, u.oneCell' = true := by
  intro u hu
  simp [kidsV] at hu
  obtain ⟨x, _, rfl⟩ := hu
  rfl
theorem info9 : (Try.prog.info? 9).map (fun i => (i.zero, i.size, i.bytes)) = some (some (.string ⟨#[]⟩), 1, 16) := by kernel_rfl
theorem info42 : (Try.prog.info? 42).map (fun i => (i.zero, i.size, i.bytes)) = some (some (.int .u32 0), 1, 4) := by kernel_rfl
end Go.Proofs.Ytpggicaphejjfaa
