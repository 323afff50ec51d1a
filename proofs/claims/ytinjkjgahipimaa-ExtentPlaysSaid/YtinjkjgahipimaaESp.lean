/-
  The free extents: the plain law.
-/
set_option linter.unusedVariables false
namespace Go.Proofs.Ytinjkjgahipimaa

/-- how many free blocks in a row from n on -/
def fr (l : List Nat) (n : Nat) : Nat := ((l.drop n).takeWhile (fun x => x == 0)).length
theorem fr_le (l : List Nat) (n : Nat) : fr l n ≤ l.length - n := by
  unfold fr
  have := (List.takeWhile_sublist (fun x => x == 0) (l := l.drop n)).length_le
  rwa [List.length_drop] at this
theorem getD_drop (l : List Nat) (n j : Nat) : (l.drop n).getD j 0 = l.getD (n + j) 0 := by simp [List.getD, List.getElem?_drop]
theorem tw_zero : ∀ (l : List Nat) (j : Nat), j < (l.takeWhile (fun x => x == 0)).length → l.getD j 0 = 0
  | [], j, h => by simp at h
  | x :: l, j, h => by
    by_cases e : x = 0
    · subst e
      simp only [List.takeWhile_cons, beq_self_eq_true, if_true, List.length_cons] at h
      cases j with
      | zero => rfl
      | succ j => simpa using tw_zero l j (by omega)
    · have : (x == 0) = false := by simpa using e
      simp [this] at h
theorem tw_stop : ∀ (l : List Nat), (l.takeWhile (fun x => x == 0)).length < l.length → l.getD (l.takeWhile (fun x => x == 0)).length 0 ≠ 0
  | [], h => by simp at h
  | x :: l, h => by
    by_cases e : x = 0
    · subst e
      simp only [List.takeWhile_cons, beq_self_eq_true, if_true, List.length_cons] at h ⊢
      simpa using tw_stop l (by omega)
    · have : (x == 0) = false := by simpa using e
      simpa [List.takeWhile_cons, this] using e
theorem fr_zero {l : List Nat} {n j : Nat} (h : j < fr l n) : l.getD (n + j) 0 = 0 := by
  rw [← getD_drop]; exact tw_zero _ _ h
theorem fr_stop {l : List Nat} {n : Nat} (h : n + fr l n < l.length) : l.getD (n + fr l n) 0 ≠ 0 := by
  have := tw_stop (l.drop n) (by rw [List.length_drop]; unfold fr at h; omega)
  rw [getD_drop] at this
  exact this
/-- what makes it -/
theorem fr_eq {l : List Nat} {n k : Nat} (h1 : ∀ j, j < k → l.getD (n + j) 0 = 0) (h2 : n + k ≤ l.length) (h3 : n + k < l.length → l.getD (n + k) 0 ≠ 0) : fr l n = k := by
  rcases Nat.lt_trichotomy (fr l n) k with h | h | h
  · exact absurd (h1 _ h) (fr_stop (by omega))
  · exact h
  · exact absurd (fr_zero h) (h3 (by have := fr_le l n; omega))
theorem fr_full {l : List Nat} {n k : Nat} (h1 : ∀ j, j < k → l.getD (n + j) 0 = 0) (h2 : n + k ≤ l.length) : k ≤ fr l n := by
  rcases Nat.lt_or_ge (fr l n) k with h | h
  · exact absurd (h1 _ h) (fr_stop (by omega))
  · exact h

/-- the free extents from n on -/
def spc (l : List Nat) (n : Nat) : List (Nat × Nat) :=
  if h : n < l.length then (if 0 < fr l n then [(n, fr l n)] else []) ++ spc l (n + fr l n + 1) else []
termination_by l.length - n
decreasing_by omega
theorem spc_end {l : List Nat} {n : Nat} (h : l.length ≤ n) : spc l n = [] := by rw [spc, dif_neg (by omega)]
theorem spc_pos {l : List Nat} {n : Nat} (h : n < l.length) (h0 : 0 < fr l n) : spc l n = (n, fr l n) :: spc l (n + fr l n + 1) := by
  rw [spc, dif_pos h, if_pos h0]; rfl
theorem spc_zero {l : List Nat} {n : Nat} (h : n < l.length) (h0 : fr l n = 0) : spc l n = spc l (n + 1) := by
  rw [spc, dif_pos h, if_neg (by omega), h0]; rfl
/-- how many free blocks from n on -/
def room (l : List Nat) (n : Nat) : Nat := ((l.drop n).filter (fun x => x == 0)).length
theorem room_end {l : List Nat} {n : Nat} (h : l.length ≤ n) : room l n = 0 := by unfold room; rw [List.drop_of_length_le h]; rfl
theorem room_step {l : List Nat} {n : Nat} (h : n < l.length) : room l n = (if l.getD n 0 = 0 then 1 else 0) + room l (n + 1) := by
  unfold room
  rw [List.drop_eq_getElem_cons h, List.filter_cons]
  have e : l.getD n 0 = l[n] := by simp [List.getD, List.getElem?_eq_getElem h]
  rw [e]
  by_cases hz : l[n] = 0
  · rw [if_pos hz, if_pos (by simpa using hz), List.length_cons]; omega
  · rw [if_neg hz, if_neg (by simpa using hz)]; omega
theorem room_le (l : List Nat) (n : Nat) : room l n ≤ l.length := by
  unfold room
  have := List.length_filter_le (fun x => x == 0) (l.drop n)
  rw [List.length_drop] at this
  omega
theorem room_run {l : List Nat} {n : Nat} : ∀ k, (∀ j, j < k → l.getD (n + j) 0 = 0) → n + k ≤ l.length → room l n = k + room l (n + k)
  | 0, _, _ => by simp
  | k + 1, h, hl => by
    rw [room_run k (fun j hj => h j (by omega)) (by omega), room_step (n := n + k) (by omega), if_pos (h k (by omega))]
    rw [show n + (k + 1) = n + k + 1 from rfl]
    omega
/-- the sum of the extents' lengths -/
def lenS (xs : List (Nat × Nat)) : Nat := (xs.map (·.2)).sum
theorem lenS_cons (x : Nat × Nat) (xs : List (Nat × Nat)) : lenS (x :: xs) = x.2 + lenS xs := by simp [lenS]
theorem lenS_append (xs ys : List (Nat × Nat)) : lenS (xs ++ ys) = lenS xs + lenS ys := by simp [lenS]
theorem lenS_spc (l : List Nat) : ∀ d n, l.length - n ≤ d → lenS (spc l n) = room l n
  | 0, n, h => by rw [spc_end (by omega), room_end (by omega)]; rfl
  | d + 1, n, h => by
    rcases Nat.lt_or_ge n l.length with hn | hn
    · rcases Nat.eq_zero_or_pos (fr l n) with h0 | h0
      · rw [spc_zero hn h0, lenS_spc l d (n + 1) (by omega), room_step hn]
        have := fr_stop (l := l) (n := n) (by omega)
        rw [h0, Nat.add_zero] at this
        rw [if_neg this]; omega
      · rw [spc_pos hn h0, lenS_cons, lenS_spc l d _ (by omega)]
        have hle := fr_le l n
        rw [room_run (fr l n) (fun j hj => fr_zero hj) (by omega)]
        rcases Nat.lt_or_ge (n + fr l n) l.length with h2 | h2
        · rw [room_step h2, if_neg (fr_stop h2)]; show fr l n + _ = _; omega
        · rw [room_end h2, room_end (by omega)]
    · rw [spc_end hn, room_end hn]; rfl
theorem lenS_spaces (l : List Nat) (n : Nat) : lenS (spc l n) = room l n := lenS_spc l _ n (Nat.le_refl _)
theorem spc_len (l : List Nat) : ∀ d n, l.length - n ≤ d → (spc l n).length ≤ d
  | 0, n, h => by rw [spc_end (by omega)]; simp
  | d + 1, n, h => by
    rcases Nat.lt_or_ge n l.length with hn | hn
    · rcases Nat.eq_zero_or_pos (fr l n) with h0 | h0
      · rw [spc_zero hn h0]; have := spc_len l d (n + 1) (by omega); omega
      · rw [spc_pos hn h0, List.length_cons]; have := spc_len l d (n + fr l n + 1) (by omega); omega
    · rw [spc_end hn]; simp
theorem spc_length (l : List Nat) (n : Nat) : (spc l n).length ≤ l.length := Nat.le_trans (spc_len l _ n (Nat.le_refl _)) (Nat.sub_le _ _)
/-- where they lie -/
theorem spc_mem (l : List Nat) : ∀ d n, l.length - n ≤ d → ∀ x ∈ spc l n, n ≤ x.1 ∧ 0 < x.2 ∧ x.1 + x.2 ≤ l.length ∧ x.2 = fr l x.1
  | 0, n, h, x, hx => by rw [spc_end (by omega)] at hx; cases hx
  | d + 1, n, h, x, hx => by
    rcases Nat.lt_or_ge n l.length with hn | hn
    · rcases Nat.eq_zero_or_pos (fr l n) with h0 | h0
      · rw [spc_zero hn h0] at hx
        obtain ⟨a, b, c, e⟩ := spc_mem l d (n + 1) (by omega) x hx
        exact ⟨by omega, b, c, e⟩
      · rw [spc_pos hn h0] at hx
        rcases List.mem_cons.1 hx with rfl | hx
        · have := fr_le l n
          exact ⟨Nat.le_refl _, h0, by omega, rfl⟩
        · obtain ⟨a, b, c, e⟩ := spc_mem l d (n + fr l n + 1) (by omega) x hx
          exact ⟨by omega, b, c, e⟩
    · rw [spc_end hn] at hx; cases hx
theorem spc_in {l : List Nat} {n : Nat} {x : Nat × Nat} (hx : x ∈ spc l n) : n ≤ x.1 ∧ 0 < x.2 ∧ x.1 + x.2 ≤ l.length ∧ x.2 = fr l x.1 := spc_mem l _ n (Nat.le_refl _) x hx

/-- the reference's way: block by block -/
def rspS (l : List Nat) (out : List (Nat × Nat)) (i : Nat) : List (Nat × Nat) :=
  if l.getD i 0 ≠ 0 then out
  else match out.getLast? with
    | some x => if x.1 + x.2 = i then out.dropLast ++ [(x.1, x.2 + 1)] else out ++ [(i, 1)]
    | none => out ++ [(i, 1)]
def rspK (l : List Nat) : Nat → Nat → List (Nat × Nat) → List (Nat × Nat)
  | 0, _, out => out
  | k + 1, i, out => rspK l k (i + 1) (rspS l out i)
/-- the last extent ends ahead of i -/
def Ends (out : List (Nat × Nat)) (i : Nat) : Prop := ∀ x, out.getLast? = some x → x.1 + x.2 < i
theorem rsp_run {l : List Nat} {out : List (Nat × Nat)} {n : Nat} : ∀ k m, (∀ j, j < k → l.getD (n + m + j) 0 = 0) → 0 < m → rspK l k (n + m) (out ++ [(n, m)]) = out ++ [(n, m + k)]
  | 0, m, _, _ => rfl
  | k + 1, m, h, hm => by
    have e : rspS l (out ++ [(n, m)]) (n + m) = out ++ [(n, m + 1)] := by
      unfold rspS
      rw [if_neg (by have := h 0 (by omega); simpa using this)]
      simp
    unfold rspK
    rw [e, show n + m + 1 = n + (m + 1) from rfl, rsp_run k (m + 1) (fun j hj => by have := h (j + 1) (by omega); rw [show n + (m + 1) + j = n + m + (j + 1) by omega]; exact this) (by omega)]
    rw [show m + 1 + k = m + (k + 1) by omega]
theorem rspK_add (l : List Nat) : ∀ a b i out, rspK l (a + b) i out = rspK l b (i + a) (rspK l a i out)
  | 0, b, i, out => by simp [rspK]
  | a + 1, b, i, out => by
    rw [show a + 1 + b = (a + b) + 1 by omega]
    show rspK l (a + b) (i + 1) (rspS l out i) = rspK l b (i + (a + 1)) (rspK l a (i + 1) (rspS l out i))
    rw [rspK_add l a b (i + 1), show i + 1 + a = i + (a + 1) by omega]
theorem rsp_all (l : List Nat) : ∀ d n out, l.length - n ≤ d → n ≤ l.length → Ends out n → rspK l (l.length - n) n out = out ++ spc l n
  | 0, n, out, h, hn, _ => by rw [spc_end (by omega), show l.length - n = 0 by omega]; simp [rspK]
  | d + 1, n, out, h, hn, he => by
    rcases Nat.lt_or_ge n l.length with hlt | hge
    · rcases Nat.eq_zero_or_pos (fr l n) with h0 | h0
      · have hs := fr_stop (l := l) (n := n) (by omega)
        rw [h0, Nat.add_zero] at hs
        have e : rspS l out n = out := by unfold rspS; rw [if_pos hs]
        rw [show l.length - n = (l.length - (n + 1)) + 1 by omega]
        unfold rspK
        rw [e, rsp_all l d (n + 1) out (by omega) (by omega) (fun x hx => by have := he x hx; omega), spc_zero hlt h0]
      · have hle := fr_le l n
        obtain ⟨k, hk⟩ : ∃ k, fr l n = k + 1 := ⟨fr l n - 1, by omega⟩
        have hz : ∀ j, j < k + 1 → l.getD (n + j) 0 = 0 := fun j hj => fr_zero (by omega)
        have e1 : rspS l out n = out ++ [(n, 1)] := by
          unfold rspS
          rw [if_neg (by have := hz 0 (by omega); simpa using this)]
          cases hg : out.getLast? with
          | none => rfl
          | some x =>
            have := he x hg
            simp only
            rw [if_neg (by omega)]
        rw [show l.length - n = (k + 1) + (l.length - (n + (k + 1))) by omega, rspK_add]
        have e2 : rspK l (k + 1) n out = out ++ [(n, k + 1)] := by
          unfold rspK
          rw [e1, rsp_run k 1 (fun j hj => by rw [show n + 1 + j = n + (j + 1) by omega]; exact hz _ (by omega)) (by decide), show 1 + k = k + 1 by omega]
        rw [e2, spc_pos hlt h0, hk]
        rcases Nat.lt_or_ge (n + (k + 1)) l.length with h2 | h2
        · have hs := fr_stop (l := l) (n := n) (by omega)
          rw [hk] at hs
          rw [show l.length - (n + (k + 1)) = (l.length - (n + (k + 1) + 1)) + 1 by omega]
          unfold rspK
          have e3 : rspS l (out ++ [(n, k + 1)]) (n + (k + 1)) = out ++ [(n, k + 1)] := by unfold rspS; rw [if_pos hs]
          rw [e3, rsp_all l d (n + (k + 1) + 1) _ (by omega) (by omega) (fun x hx => by simp at hx; rw [← hx]; show n + (k + 1) < _; omega)]
          simp
        · rw [show l.length - (n + (k + 1)) = 0 by omega, spc_end (by omega)]
          simp [rspK]
    · rw [spc_end (by omega), show l.length - n = 0 by omega]; simp [rspK]
theorem rsp_spaces {l : List Nat} {n : Nat} (hn : n ≤ l.length) : rspK l (l.length - n) n [] = spc l n := by
  rw [rsp_all l _ n [] (Nat.le_refl _) hn (fun x hx => by cases hx), List.nil_append]
end Go.Proofs.Ytinjkjgahipimaa
