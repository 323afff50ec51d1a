/-
  A map of blocks in memory, the program's and the reference's.
-/
import Derived.Test.YtinjkjgahipimaaMem
import Derived.OwnWalk
import Derived.Deep.LoopGhost
import Derived.Deep.CutBlock
import Derived.Deep.QuietTactic
import Derived.BigQuiet
import Derived.StillTailTactics
import Derived.Laws.BytesString
import Derived.Laws.IdiomStrings
set_option linter.unusedVariables false
namespace Go.Proofs.Ytinjkjgahipimaa
open Go.RowKit

def u8s (xs : List Nat) : List Value := xs.map fun (x : Nat) => .int .u8 x
theorem length_u8s (xs : List Nat) : (u8s xs).length = xs.length := by simp [u8s]
theorem u8s_append (xs ys : List Nat) : u8s (xs ++ ys) = u8s xs ++ u8s ys := by simp [u8s]
theorem u8s_get {xs : List Nat} {k : Nat} (hk : k < xs.length) : (u8s xs)[k]? = some (.int .u8 (xs.getD k 0 : Nat)) := by
  simp [u8s, List.getD, List.getElem?_eq_getElem hk]
theorem u8s_set (xs : List Nat) (k y : Nat) : (u8s xs).set k (.int .u8 y) = u8s (xs.set k y) := by
  simp [u8s, List.map_set]
theorem u8s_one (xs : List Nat) : ∀ u ∈ u8s xs, u.oneCell' = true := by
  intro u hu
  simp only [u8s, List.mem_map] at hu
  obtain ⟨x, _, rfl⟩ := hu
  rfl
theorem u8s_replicate (n : Nat) : List.replicate n (Value.int .u8 0) = u8s (List.replicate n 0) := by simp [u8s]
def i64s (xs : List Nat) : List Value := xs.map fun (x : Nat) => .int .i64 x
theorem length_i64s (xs : List Nat) : (i64s xs).length = xs.length := by simp [i64s]
theorem i64s_append (xs ys : List Nat) : i64s (xs ++ ys) = i64s xs ++ i64s ys := by simp [i64s]
theorem i64s_get {xs : List Nat} {k : Nat} (hk : k < xs.length) : (i64s xs)[k]? = some (.int .i64 (xs.getD k 0 : Nat)) := by
  simp [i64s, List.getD, List.getElem?_eq_getElem hk]
theorem i64s_set (xs : List Nat) (k y : Nat) : (i64s xs).set k (.int .i64 y) = i64s (xs.set k y) := by
  simp [i64s, List.map_set]
theorem i64s_one (xs : List Nat) : ∀ u ∈ i64s xs, u.oneCell' = true := by
  intro u hu
  simp only [i64s, List.mem_map] at hu
  obtain ⟨x, _, rfl⟩ := hu
  rfl
theorem i64s_replicate (n : Nat) : List.replicate n (Value.int .i64 0) = i64s (List.replicate n 0) := by simp [i64s]
theorem own_base {w : World} {base : Nat} {e : TypeId} {size n : Nat} {v : Value} {xs : List Value} (h : w.ownsRow base e size v n xs) : w.ownsRow 0 e size v n xs := by
  rcases h.2 with ⟨rfl, h0⟩ | ⟨g, cap, cur, q1, q2, q3⟩
  · exact ⟨h.1, .inl ⟨rfl, h0⟩⟩
  · exact ⟨h.1, .inr ⟨g, cap, cur, q1, Nat.zero_le _, q3⟩⟩

theorem info65 : (Try.prog.info? 65).map (fun i => (i.zero, i.size, i.bytes)) = some (some (.int .u8 0), 1, 1) := by kernel_rfl
theorem info5 : (Try.prog.info? 5).map (fun i => (i.zero, i.size, i.bytes)) = some (some (.int .u8 0), 1, 1) := by kernel_rfl
theorem info3 : (Try.prog.info? 3).map (fun i => (i.zero, i.size, i.bytes)) = some (some (.int .i64 0), 1, 8) := by kernel_rfl
theorem info39 : (Try.prog.info? 39).map (fun i => (i.zero, i.size, i.bytes)) = some (some (.agg #[.int .i64 0, .int .i64 0]), 2, 16) := by kernel_rfl

/-- what a map holds: its first block, what each block is, whether a transaction is open, what each was -/
structure St where
  f : Nat
  l : List Nat
  op : Bool
  wl : List Nat
/-- a map may be -/
structure St.Ok (s : St) : Prop where
  fl : s.f ≤ s.l.length
  le : s.l.length ≤ 4096
  st : ∀ i, s.l.getD i 0 ≤ 2
  wn : s.op = true → s.wl.length = s.l.length
  ws : s.op = true → ∀ i, s.wl.getD i 0 ≤ 2

/-- what a map was: known while a transaction is open, never long -/
def Wls (s : St) (wl : List Nat) : Prop := (s.op = true → wl = s.wl) ∧ wl.length ≤ 4096
/-- the program's map: which blocks it takes -/
def Mp (w : World) (h : Nat) (S : Nat → Prop) (s : St) : Prop :=
  ∃ (A A' : Option Addr) (c c' : Nat) (wl : List Nat), Blk w h 68 #[.int .i64 s.f, .slice A s.l.length c, .slice A' wl.length c', .bool s.op] ∧
    w.ownsRow 0 65 1 (.slice A s.l.length c) s.l.length (u8s s.l) ∧ w.ownsRow 0 65 1 (.slice A' wl.length c') wl.length (u8s wl) ∧ Wls s wl ∧
    (∀ k, Value.ownBlock (.slice A s.l.length c) = some k → Value.ownBlock (.slice A' wl.length c') ≠ some k) ∧
    ∀ k, S k ↔ (k = h ∨ Value.ownBlock (.slice A s.l.length c) = some k ∨ Value.ownBlock (.slice A' wl.length c') = some k)
/-- the reference's -/
def Rm (w : World) (h : Nat) (S : Nat → Prop) (s : St) : Prop :=
  ∃ (A A' : Option Addr) (c c' : Nat) (wl : List Nat), Blk w h 63 #[.int .i64 s.f, .int .i64 s.l.length, .slice A s.l.length c, .slice A' wl.length c', .bool s.op] ∧
    w.ownsRow 0 3 1 (.slice A s.l.length c) s.l.length (i64s s.l) ∧ w.ownsRow 0 3 1 (.slice A' wl.length c') wl.length (i64s wl) ∧ Wls s wl ∧
    ((∀ k, Value.ownBlock (.slice A s.l.length c) = some k → Value.ownBlock (.slice A' wl.length c') ≠ some k) ∨ (s.op = false ∧ A' = A ∧ c' = c ∧ wl = s.l)) ∧
    ∀ k, S k ↔ (k = h ∨ Value.ownBlock (.slice A s.l.length c) = some k ∨ Value.ownBlock (.slice A' wl.length c') = some k)

section
variable {w w' : World} {h : Nat} {S F : Nat → Prop} {s : St}
theorem Mp.lt (m : Mp w h S s) : ∀ k, S k → k < w.heap.size := by
  obtain ⟨A, A', c, c', wl, hb, h1, h2, _, _, hS⟩ := m
  intro k hk
  rcases (hS k).1 hk with rfl | e | e
  · exact hb.lt
  · exact own_lt h1 k e
  · exact own_lt h2 k e
theorem Rm.lt (m : Rm w h S s) : ∀ k, S k → k < w.heap.size := by
  obtain ⟨A, A', c, c', wl, hb, h1, h2, _, _, hS⟩ := m
  intro k hk
  rcases (hS k).1 hk with rfl | e | e
  · exact hb.lt
  · exact own_lt h1 k e
  · exact own_lt h2 k e
theorem Mp.keep (m : Mp w h S s) (ho : Only F w w') (hn : ∀ k, S k → ¬ F k) : Mp w' h S s := by
  obtain ⟨A, A', c, c', wl, hb, h1, h2, h3, h4, hS⟩ := m
  exact ⟨A, A', c, c', wl, hb.only ho (hn h ((hS h).2 (.inl rfl))), own_only h1 ho (fun g hg => hn g ((hS g).2 (.inr (.inl hg)))), own_only h2 ho (fun g hg => hn g ((hS g).2 (.inr (.inr hg)))), h3, h4, hS⟩
theorem Rm.keep (m : Rm w h S s) (ho : Only F w w') (hn : ∀ k, S k → ¬ F k) : Rm w' h S s := by
  obtain ⟨A, A', c, c', wl, hb, h1, h2, h3, h4, hS⟩ := m
  exact ⟨A, A', c, c', wl, hb.only ho (hn h ((hS h).2 (.inl rfl))), own_only h1 ho (fun g hg => hn g ((hS g).2 (.inr (.inl hg)))), own_only h2 ho (fun g hg => hn g ((hS g).2 (.inr (.inr hg)))), h3, h4, hS⟩
theorem Mp.below (m : Mp w h S s) (hb : Below w.heap.size w w') : Mp w' h S s := m.keep (F := fun _ => False) (Only.of_below hb) (fun _ _ => id)
theorem Rm.below (m : Rm w h S s) (hb : Below w.heap.size w w') : Rm w' h S s := m.keep (F := fun _ => False) (Only.of_below hb) (fun _ _ => id)
/-- what a call on a map has made of it -/
def MpTo (w : World) (h : Nat) (S : Nat → Prop) (s : St) (w' : World) : Prop := ∃ S', Mp w' h S' s ∧ Only S w w' ∧ ∀ k, S' k → S k ∨ w.heap.size ≤ k
def RmTo (w : World) (h : Nat) (S : Nat → Prop) (s : St) (w' : World) : Prop := ∃ S', Rm w' h S' s ∧ Only S w w' ∧ ∀ k, S' k → S k ∨ w.heap.size ≤ k
theorem MpTo.same (m : Mp w h S s) (hb : Below w.heap.size w w') : MpTo w h S s w' := ⟨S, m.below hb, (Only.of_below hb), fun k hk => .inl hk⟩
theorem RmTo.same (m : Rm w h S s) (hb : Below w.heap.size w w') : RmTo w h S s w' := ⟨S, m.below hb, (Only.of_below hb), fun k hk => .inl hk⟩
/-- a map whose 'is' is known, opened -/
theorem Mp.cells (m : Mp w h S s) : ∃ (A : Option Addr) (c : Nat) (V : Value), Blk w h 68 #[.int .i64 s.f, .slice A s.l.length c, V, .bool s.op] ∧
    (∀ k, k < s.l.length → ∃ a, A = some a ∧ w.cell? (a.add k) = some (.int .u8 (s.l.getD k 0 : Nat))) ∧ s.l.length ≤ c := by
  obtain ⟨A, A', c, c', wl, hb, h1, h2, h3, h4, hS⟩ := m
  refine ⟨A, c, _, hb, fun k hk => ?_, ?_⟩
  · obtain ⟨a, e, hc⟩ := Src.own h1 k _ (u8s_get hk)
    exact ⟨a, e, hc⟩
  · rcases h1.2 with ⟨e, h0⟩ | ⟨g, cap, cur, e, _, _, h5, _⟩
    · omega
    · cases e; exact h5
end
end Go.Proofs.Ytinjkjgahipimaa
