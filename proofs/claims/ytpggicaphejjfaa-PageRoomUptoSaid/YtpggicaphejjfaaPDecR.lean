/-
  What Decode answers, plain; what its walks share.
-/
import Derived.Test.YtpggicaphejjfaaPDecS
import Derived.Test.YtpggicaphejjfaaPREncode
set_option linter.unusedVariables false
namespace Go.Proofs.Ytpggicaphejjfaa
open Go.RowKit

def nd0 : Nd := ⟨false, [], [], []⟩
/-- a node whose block these bytes are -/
def ValidN (s : ByteArray) (n : Nd) : Prop := (∀ i, n.kids.getD i 0 < 4294967296) ∧ EncP n s.size ∧ encS n s.size = s
/-- what is answered -/
def DecR (s : ByteArray) (n : Nd) (ev : Int) : Prop := (ev = 0 ∧ ValidN s n) ∨ (ev = 4 ∧ n = nd0 ∧ ¬ ∃ n', ValidN s n')
theorem valid_inj {s : ByteArray} {n n' : Nd} (h : ValidN s n) (h' : ValidN s n') : n = n' := by
  obtain ⟨u, ⟨hs, hc⟩, he⟩ := h
  obtain ⟨u', ⟨_, hc'⟩, he'⟩ := h'
  have e : ((s.size : Int)).toNat = s.size := by omega
  rw [e] at hc hc'
  have h3 := hs.2.1
  refine enc_inj hc hc' (by omega) u u' ?_
  have : (encS n s.size).data.toList = (encS n' s.size).data.toList := by rw [he, he']
  simpa [encS] using this
theorem decR_inj {s : ByteArray} {n n' : Nd} {e e' : Int} (h : DecR s n e) (h' : DecR s n' e') : n = n' ∧ e = e' := by
  rcases h with ⟨rfl, h⟩ | ⟨rfl, rfl, h⟩
  · rcases h' with ⟨rfl, h'⟩ | ⟨rfl, rfl, h'⟩
    · exact ⟨valid_inj h h', rfl⟩
    · exact absurd ⟨_, h⟩ h'
  · rcases h' with ⟨rfl, h'⟩ | ⟨rfl, rfl, h'⟩
    · exact absurd ⟨_, h'⟩ h
    · exact ⟨rfl, rfl⟩
theorem valid_enc {s : ByteArray} {n : Nd} (h : ValidN s n) : CheckN n s.size ∧ s.size ≤ 4096 ∧ encN n s.size = s.data.toList := by
  obtain ⟨u, ⟨hs, hc⟩, he⟩ := h
  have e : ((s.size : Int)).toNat = s.size := by omega
  rw [e] at hc
  have h3 := hs.2.1
  refine ⟨hc, by omega, ?_⟩
  rw [← he]
  simp only [encS]
  have : (encS n s.size).size = s.size := by rw [he]
  unfold encS at this
  rw [this]
theorem valid_kind {s : ByteArray} {n : Nd} (h : ValidN s n) : kindOf s.data.toList = 1 ∨ kindOf s.data.toList = 2 := by
  obtain ⟨hc, hm, he⟩ := valid_enc h
  obtain ⟨p0, h1, _⟩ := dec_enc hc hm h.1
  rw [he] at h1
  rw [h1]
  split
  · exact .inl rfl
  · exact .inr rfl
/-- the loop's end, where the bytes are a node's -/
theorem valid_end {s : ByteArray} {n : Nd} (h : ValidN s n) {leaf : Bool} {C k : Nat} {p0 : PS} (hs : start s.data.toList = (leaf, C, p0)) (hk : k ≤ C) (hend : k = C ∨ (iter leaf p0 k).b = true) :
    (iter leaf p0 k).b = false ∧ (⟨leaf, (iter leaf p0 k).keys, (iter leaf p0 k).vals, (iter leaf p0 k).kids⟩ : Nd) = n := by
  obtain ⟨hc, hm, he⟩ := valid_enc h
  obtain ⟨q0, h1, h2, h3, h4, h5, h6⟩ := dec_enc hc hm h.1
  rw [he, hs] at h2
  simp only [Prod.mk.injEq] at h2
  obtain ⟨rfl, rfl, rfl⟩ := h2
  have hb := h3 k hk
  rcases hend with rfl | e
  · refine ⟨hb, ?_⟩
    rw [h4, h5, h6]
  · rw [hb] at e; cases e
/-- never a bad place on the way -/
theorem valid_way {s : ByteArray} {n : Nd} (h : ValidN s n) {leaf : Bool} {C k : Nat} {p0 : PS} (hs : start s.data.toList = (leaf, C, p0)) (hk : k ≤ C) : (iter leaf p0 k).b = false := by
  obtain ⟨hc, hm, he⟩ := valid_enc h
  obtain ⟨q0, h1, h2, h3, _⟩ := dec_enc hc hm h.1
  rw [he, hs] at h2
  simp only [Prod.mk.injEq] at h2
  obtain ⟨rfl, rfl, rfl⟩ := h2
  exact h3 k hk
theorem ok_iter {leaf : Bool} {p0 : PS} (h : PSok p0 0) : ∀ k, PSok (iter leaf p0 k) k
  | 0 => h
  | k + 1 => by
    show PSok (step leaf (iter leaf p0 k)) (k + 1)
    unfold step
    split
    · exact ok_stepL (ok_iter h k)
    · exact ok_stepB (ok_iter h k)
/-- a node in memory of its own -/
def OwnD (W : World) (B : Nat) (n : Nd) (K V U : Option Addr) (c1 c2 c3 : Nat) : Prop :=
  W.ownsRow B 9 1 (.slice K n.keys.length c1) n.keys.length (strs n.keys) ∧ W.ownsRow B 9 1 (.slice V n.vals.length c2) n.vals.length (strs n.vals) ∧ W.ownsRow B 42 1 (.slice U n.kids.length c3) n.kids.length (kidsV n.kids) ∧
    ∀ k, Value.ownBlock (.slice K n.keys.length c1) = some k → Value.ownBlock (.slice V n.vals.length c2) ≠ some k
theorem OwnD.below {W W' : World} {B : Nat} {n : Nd} {K V U : Option Addr} {c1 c2 c3 : Nat} (h : OwnD W B n K V U c1 c2 c3) (hb : Below W.heap.size W W') : OwnD W' B n K V U c1 c2 c3 :=
  ⟨own_only h.1 (Only.of_below (F := fun _ => False) hb) (fun _ _ f => f), own_only h.2.1 (Only.of_below (F := fun _ => False) hb) (fun _ _ f => f), own_only h.2.2.1 (Only.of_below (F := fun _ => False) hb) (fun _ _ f => f), h.2.2.2⟩
theorem row_strR {W : World} {B : Nat} {A : Option Addr} {l : List ByteArray} {c : Nat} (h : W.ownsRow B 9 1 (.slice A l.length c) l.length (strs l)) : StrR W A l := fun hn => by
  obtain ⟨g, cap, hv, _, _⟩ := World.ownsRow.form h hn
  injection hv with e1 e2 e3
  subst e1
  exact ⟨g, 0, rfl, (h.lt g rfl).2, fun i hi => by rw [Nat.zero_add, World.ownsRow.cellAt h i (by omega)]; exact strs_get hi⟩
theorem row_kidR {W : World} {B : Nat} {A : Option Addr} {l : List Nat} {c : Nat} (h : W.ownsRow B 42 1 (.slice A l.length c) l.length (kidsV l)) : KidR W A l := fun hn => by
  obtain ⟨g, cap, hv, _, _⟩ := World.ownsRow.form h hn
  injection hv with e1 e2 e3
  subst e1
  exact ⟨g, 0, rfl, (h.lt g rfl).2, fun i hi => by rw [Nat.zero_add, World.ownsRow.cellAt h i (by omega)]; exact kidsV_get hi⟩
theorem row_lt {W : World} {B : Nat} {e : TypeId} {A : Option Addr} {n c : Nat} {xs : List Value} (h : W.ownsRow B e 1 (.slice A n c) n xs) : ∀ q, A = some q → q.block < W.heap.size := fun q hq => by
  subst hq
  exact (h.lt q.block rfl).2
theorem OwnD.nd {W : World} {B : Nat} {n : Nd} {K V U : Option Addr} {c1 c2 c3 : Nat} (h : OwnD W B n K V U c1 c2 c3) (l1 : n.keys.length ≤ 100000) (l2 : n.vals.length ≤ 100000) (l3 : n.kids.length ≤ 100000)
    (z1 : ∀ i, (n.keys.getD i ⟨#[]⟩).size ≤ 4096) (z2 : ∀ i, (n.vals.getD i ⟨#[]⟩).size ≤ 4096) (u : ∀ i, n.kids.getD i 0 < 4294967296) : NdR W n K V U :=
  { k := row_strR h.1, v := row_strR h.2.1, i := row_kidR h.2.2.1, l1 := by omega, l2 := by omega, l3 := by omega
    a1 := fun _ => row_lt h.1, a2 := fun _ => row_lt h.2.1, b := fun i => by have := z2 i; omega, z := fun i => by have := z1 i; omega, u := u }
theorem ownD_nil (W : World) (B : Nat) : OwnD W B nd0 none none none 0 0 0 := ⟨⟨rfl, .inl ⟨rfl, rfl⟩⟩, ⟨rfl, .inl ⟨rfl, rfl⟩⟩, ⟨rfl, .inl ⟨rfl, rfl⟩⟩, fun k hk => by simp [Value.ownBlock] at hk⟩
theorem nd_nil (W : World) : NdR W nd0 none none none := (ownD_nil W 0).nd (by decide) (by decide) (by decide) (fun i => by simp [nd0, ByteArray.size]) (fun i => by simp [nd0, ByteArray.size]) (fun i => by simp [nd0])
/-- what Decode's contract says behind it -/
def DecPost (s : ByteArray) (w : World) (e : Ending) (w' : World) : Prop :=
  ∃ (n : Nd) (K V U : Option Addr) (c1 c2 c3 : Nat) (ev : Int), e = .returned (.tuple #[.agg (ndC n K V U c1 c2 c3), .int .i64 ev]) ∧ Below w.heap.size w w' ∧ NdR w' n K V U ∧ OwnD w' w.heap.size n K V U c1 c2 c3 ∧ DecR s n ev ∧
    n.keys.length ≤ 100000 ∧ n.vals.length ≤ 100000 ∧ n.kids.length ≤ 100000
theorem decPost_no {s : ByteArray} {w w' : World} (hb : Below w.heap.size w w') (hno : ¬ ∃ n, ValidN s n) : DecPost s w (.returned (.tuple #[.agg zN, .int .i64 4])) w' :=
  ⟨nd0, none, none, none, 0, 0, 0, 4, rfl, hb, nd_nil w', ownD_nil w' _, .inr ⟨rfl, rfl, hno⟩, by decide, by decide, by decide⟩
theorem results_cell_tmp {fn : Func} {P : Program} {q p : Tmp} {ty : TypeId} (h : fn.results = #[.cell p ty, .tmp q]) (tmps : Array Value) (w : World) (g : Nat) (t : TypeId) (cs : Array Value) (fr : Nat × Nat) (d : TypeDesc)
    (hp : tmps.getD p undef = .pointer (some ⟨g, 0, none⟩)) (hg : w.heap[g]? = some (.cells cs t fr))
    (hu : P.underlying ty = some d) (hd : (match d with | .struct _ | .array _ _ => true | _ => false) = true) (hi : (P.info? ty).map (·.size) = some cs.size) :
    (results fn tmps).run P w = .ok (.tuple #[.agg cs, tmps.getD q undef]) w := by
  have hp' : tmps[p]?.getD undef = .pointer (some ⟨g, 0, none⟩) := by simpa using hp
  simp [results, h, hp', asAddr, run_loadVar_row w g t ty cs fr d hg hu hd hi]
theorem encP_toNat (m : Nat) : ((m : Int)).toNat = m := by omega
end Go.Proofs.Ytpggicaphejjfaa
