/-
  CodesBack: what the law's walk keeps.
-/
import Derived.Test.YtmgngmnkmmhckaaCBackP
import Derived.Test.YtmgngmnkmmhckaaCAwake
set_option linter.unusedVariables false
namespace Go.Proofs.Ytmgngmnkmmhckaa
open Go.RowKit Plain

theorem info78 : (Try.prog.info? 78).map (fun i => (i.zero, i.size, i.bytes)) = some (some (.agg #[.int .u8 0, .int .u64 0, .int .u64 0]), 3, 24) := by kernel_rfl
/-- the numbers in memory -/
def ScN (w : World) (A : Option Addr) (n : Nat) (kd K V : Nat → Nat) : Prop :=
  0 < n → ∃ b off, A = some ⟨b, off, none⟩ ∧ b < w.heap.size ∧ ∀ i, i < n → w.cell? ⟨b, off + i * 3, none⟩ = some (.int .u8 (kd i : Nat)) ∧ w.cell? ⟨b, off + i * 3 + 1, none⟩ = some (.int .u64 (K i : Nat)) ∧ w.cell? ⟨b, off + i * 3 + 2, none⟩ = some (.int .u64 (V i : Nat))

theorem WrAt.blk_ne {w : World} {h g : Nat} {o : Option Nat} {l : List Bool} {t : TypeId} {cs : Array Value} (x : WrAt w h o l) (r : Blk w g t cs) (h1 : t ≠ 93) (h2 : t ≠ 5) : ∀ k, WrFoot h o k → ¬ k = g := by
  obtain ⟨sv, b, ro, rfl⟩ := x
  rintro k (rfl | hk) e
  · exact b.ne_ r (fun e => h1 e.symm) e
  · exact own_blk_ne ro r (fun e => h2 e.symm) k hk e
theorem WrAt.row3_ne {w : World} {h : Nat} {o : Option Nat} {l : List Bool} {v : Value} {xs : List Value} {n : Nat} (a : WrAt w h o l) (r : w.ownsRow 0 78 3 v n xs) : ∀ g, v.ownBlock = some g → ¬ WrFoot h o g := by
  obtain ⟨sv, b, ro, rfl⟩ := a
  rintro g hg (rfl | hk)
  · exact own_blk_ne r b (by decide) _ hg rfl
  · exact own_own_ne r ro (by decide) g hg hk

/-- the first loop -/
structure Kb (w0 w : World) (h : Nat) (o : Option Nat) (L : List Bool) (v : Value) (xs : List T3) : Prop where
  a1 : WrAt w h o L
  row : w.ownsRow 0 78 3 v xs.length (cells3 xs)
  gv : Ge w0.heap.size v.ownBlock
  below : Below w0.heap.size w0 w
  g1 : w0.heap.size ≤ h
  e1 : Ge w0.heap.size o
theorem Kb.more {w0 w w' : World} {h : Nat} {o : Option Nat} {L : List Bool} {v : Value} {xs : List T3} (t : Kb w0 w h o L v xs) (k : Below w.heap.size w w') : Kb w0 w' h o L v xs :=
  ⟨t.a1.only (Only.of_below (F := fun _ => False) k) (fun _ _ e => e), own_only t.row (Only.of_below (F := fun _ => False) k) (fun _ _ e => e), t.gv, below_step t.below k, t.g1, t.e1⟩
theorem Kb.wrote {w0 w w' : World} {h : Nat} {o : Option Nat} {L L' : List Bool} {v : Value} {xs : List T3} (t : Kb w0 w h o L v xs) (p : WrTo w h o L' w') : ∃ o', Kb w0 w' h o' L' v xs := by
  have hbel := below_wr t.below p t.g1 t.e1
  obtain ⟨o', b1, b2, b3⟩ := p
  exact ⟨o', b1, own_only t.row b2 (WrAt.row3_ne t.a1 t.row), t.gv, hbel, t.g1, b3.geq t.e1 t.below.size⟩
theorem Kb.place {w0 w w1 : World} {h : Nat} {o : Option Nat} {L : List Bool} {v v' : Value} {xs : List T3} {x : T3} {ob : Obj} (t : Kb w0 w h o L v xs)
    (hown : w1.ownsRow 0 78 3 v' (xs.length + 1) (cells3 xs ++ [.int .u8 (x.1 : Nat), .int .u64 (x.2.1 : Nat), .int .u64 (x.2.2 : Nat)])) (hg : (w.alloc ob).grownBy w1 v.ownBlock) (hat : v'.ownBlock = v.ownBlock ∨ v'.ownBlock = some (w.heap.size + 1)) :
    Kb w0 w1 h o L v' (xs ++ [x]) := by
  have ho : Only (fun k => v.ownBlock = some k) w w1 := ((Only.refl _ _).alloc ob).grown hg (fun g hg => .inl hg)
  refine ⟨t.a1.only ho (fun k hk hf => WrAt.row3_ne t.a1 t.row k hf hk), by rw [List.length_append, cells3_snoc]; exact hown, ?_, ?_, t.g1, t.e1⟩
  · intro k hk
    rcases hat with h | h
    · exact t.gv k (h ▸ hk)
    · rw [h] at hk; injection hk with hk; have := t.below.size; omega
  · exact below_only t.below ho t.below.size (fun i hi => t.gv i hi)
/-- within a round: the two boxes -/
structure Kr (w0 w : World) (h : Nat) (o : Option Nat) (L : List Bool) (v : Value) (xs : List T3) (g6 g7 kd K V : Nat) : Prop where
  kb : Kb w0 w h o L v xs
  b6 : Blk w g6 78 #[.int .u8 kd, .int .u64 K, .int .u64 V]
  b7 : Blk w g7 71 #[.int .u8 kd, .int .u64 K]
theorem Kr.more {w0 w w' : World} {h g6 g7 kd K V : Nat} {o : Option Nat} {L : List Bool} {v : Value} {xs : List T3} (t : Kr w0 w h o L v xs g6 g7 kd K V) (k : Below w.heap.size w w') : Kr w0 w' h o L v xs g6 g7 kd K V :=
  ⟨t.kb.more k, t.b6.only (Only.of_below (F := fun _ => False) k) (fun e => e), t.b7.only (Only.of_below (F := fun _ => False) k) (fun e => e)⟩
theorem Kr.wrote {w0 w w' : World} {h g6 g7 kd K V : Nat} {o : Option Nat} {L L' : List Bool} {v : Value} {xs : List T3} (t : Kr w0 w h o L v xs g6 g7 kd K V) (p : WrTo w h o L' w') : ∃ o', Kr w0 w' h o' L' v xs g6 g7 kd K V := by
  obtain ⟨o', q⟩ := t.kb.wrote p
  obtain ⟨_, b1, b2, b3⟩ := p
  exact ⟨o', q, t.b6.only b2 (fun e => WrAt.blk_ne t.kb.a1 t.b6 (by decide) (by decide) _ e rfl), t.b7.only b2 (fun e => WrAt.blk_ne t.kb.a1 t.b7 (by decide) (by decide) _ e rfl)⟩
theorem Kr.use {w0 w : World} {h g6 g7 kd K V : Nat} {o : Option Nat} {L : List Bool} {v : Value} {xs : List T3} (t : Kr w0 w h o L v xs g6 g7 kd K V) :
    (w.cell? ⟨g6, 0, none⟩ = some (.int .u8 kd) ∧ w.cell? ⟨g6, 1, none⟩ = some (.int .u64 K) ∧ w.cell? ⟨g6, 2, none⟩ = some (.int .u64 V)) ∧ w.cell? ⟨g7, 0, none⟩ = some (.int .u8 kd) ∧ w.cell? ⟨g7, 1, none⟩ = some (.int .u64 K) :=
  ⟨⟨by rw [t.b6.cell 0]; rfl, by rw [t.b6.cell 1]; rfl, by rw [t.b6.cell 2]; rfl⟩, by rw [t.b7.cell 0]; rfl, by rw [t.b7.cell 1]; rfl⟩
theorem row3 {w : World} {A : Option Addr} {m c i : Nat} {xs : List T3} {x : T3} (h0 : w.ownsRow 0 78 3 (.slice A m c) xs.length (cells3 xs)) (hm : m = xs.length) (hx : xs[i]? = some x) :
    ∃ g, A = some ⟨g, 0, none⟩ ∧ w.cell? ⟨g, i * 3, none⟩ = some (.int .u8 (x.1 : Nat)) ∧ w.cell? ⟨g, i * 3 + 1, none⟩ = some (.int .u64 (x.2.1 : Nat)) ∧ w.cell? ⟨g, i * 3 + 2, none⟩ = some (.int .u64 (x.2.2 : Nat)) := by
  have hi : i < xs.length := (List.getElem?_eq_some_iff.1 hx).1
  have h : w.ownsRow 0 78 3 (.slice A m c) m (cells3 xs) := by rw [← hm] at h0; exact h0
  clear h0
  obtain ⟨g, cap, hv, _, _⟩ := World.ownsRow.form h (by omega)
  injection hv with hA _ hc
  subst hA hc
  obtain ⟨q1, q2, q3⟩ := cells3_get hx
  refine ⟨g, rfl, ?_, ?_, ?_⟩
  · rw [World.ownsRow.cellAt h (i * 3) (by omega), q1]
  · rw [World.ownsRow.cellAt h (i * 3 + 1) (by omega), q2]
  · rw [World.ownsRow.cellAt h (i * 3 + 2) (by omega), q3]
/-- the second loop -/
structure Ka (w0 w : World) (h : Nat) (o : Option Nat) (L : List Bool) (v : Value) (xs : List T3) (r : Nat) (s : ByteArray) (a : Nat) : Prop where
  kb : Kb w0 w h o L v xs
  rr : RdAt w r s a
  gr : w0.heap.size ≤ r
theorem Ka.more {w0 w w' : World} {h r a : Nat} {o : Option Nat} {L : List Bool} {v : Value} {xs : List T3} {s : ByteArray} (t : Ka w0 w h o L v xs r s a) (k : Below w.heap.size w w') : Ka w0 w' h o L v xs r s a :=
  ⟨t.kb.more k, t.rr.only (Only.of_below k), t.gr⟩
theorem Ka.wrote {w0 w w' : World} {h r a : Nat} {o : Option Nat} {L L' : List Bool} {v : Value} {xs : List T3} {s : ByteArray} (t : Ka w0 w h o L v xs r s a) (p : WrTo w h o L' w') : ∃ o', Ka w0 w' h o' L' v xs r s a := by
  obtain ⟨o', q⟩ := t.kb.wrote p
  obtain ⟨_, b1, b2, b3⟩ := p
  exact ⟨o', q, ⟨t.rr.1.only b2 (fun e => WrAt.rd_ne t.kb.a1 t.rr _ e rfl), t.rr.2⟩, t.gr⟩
theorem Ka.read {w0 w w' : World} {h r a a' : Nat} {o : Option Nat} {L : List Bool} {v : Value} {xs : List T3} {s : ByteArray} (t : Ka w0 w h o L v xs r s a) (p : RdTo w r s a' w') : Ka w0 w' h o L v xs r s a' :=
  ⟨⟨t.kb.a1.only p.2 (WrAt.rd_ne t.kb.a1 t.rr), own_only t.kb.row p.2 (fun g hg => own_blk_ne t.kb.row t.rr.1 (by decide) g hg), t.kb.gv, below_only t.kb.below p.2 t.kb.below.size (by rintro i rfl; exact t.gr), t.kb.g1, t.kb.e1⟩, p.1, t.gr⟩
end Go.Proofs.Ytmgngmnkmmhckaa
