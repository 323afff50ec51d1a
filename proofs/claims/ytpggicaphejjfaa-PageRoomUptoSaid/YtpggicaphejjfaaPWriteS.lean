/-
  strings.Builder's WriteString at this program.
-/
import Derived.Test.YtpggicaphejjfaaPWrite
import Derived.Lib.AppendStr
set_option linter.unusedVariables false
namespace Go.Proofs.Ytpggicaphejjfaa
open Go.RowKit

set_option maxRecDepth 100000 in
set_option maxHeartbeats 2000000 in
theorem writeS_any (B b : Nat) (bs : List Value) (s : ByteArray) (w : World) (h : Lib.IsBuilder 56 5 B b bs w)
    (hB : B ≤ w.heap.size) (hT : bs.length + s.size ≤ 1000000) :
    Calls Try.prog 29 #[.pointer (some ⟨b, 0, none⟩), .string s] w fun e w' => (∃ v, e = .returned v) ∧ Lib.IsBuilder 56 5 B b (bs ++ Lib.strCells s) w' ∧ Below B w w' := by
  obtain ⟨i, hi, hq⟩ := Option.map_eq_some_iff.1 info5'
  have hz : i.zero = some (.int .u8 0) := (Prod.mk.inj hq).1
  have hsz : i.size = 1 := (Prod.mk.inj (Prod.mk.inj hq).2).1
  have hby : i.bytes = 1 := (Prod.mk.inj (Prod.mk.inj hq).2).2
  have HC := Lib.hid (check_any B b bs w h)
  have hss : s.size ≤ 1000000 := by omega
  clear h hq
  go_enter Try.func29, Try.ntmps29
  go_wp2_with fail
  refine HC.out.mono ?_
  rintro e w1 ⟨rfl, ⟨hBb, v, hb, hown, hne⟩, ho, _⟩
  have x1 : w1.cell? ⟨b, 1, none⟩ = some v := by simp [World.cell?, hb]
  have hbk : Blk w1 b 56 #[.pointer (some ⟨b, 0, none⟩), v] := hb
  have H1 := Lib.hid (And.intro hbk (And.intro hown (And.intro hne (And.intro ho hBb))))
  clear hb hown hne ho hBb hbk
  go_wp2_with (refine Lib.wpList_append_own_string _ rfl (.tmp 12) (.tmp 13) 43 9 rfl B 5 i Try.underlying43 Try.underlying9 hi hz hsz hby v bs.length bs rfl H1.out.2.1 s rfl (by unfold maxLen; omega) (by omega) (Nat.le_trans hB H1.out.2.2.2.1.size) ?_)
  intro v' w2 hown2 hg _
  obtain ⟨A', c', rfl⟩ := own_shape hown2
  have hb2 := H1.out.1.grown hg (fun e => H1.out.2.2.1 e.symm)
  have f1 := hb2.frozen 1
  have z1 := hb2.cell 1
  simp at z1
  have hne2 : Value.ownBlock (.slice A' (bs.length + s.size) c') ≠ some b := fun e => own_blk_ne hown2 hb2 (by decide) b e rfl
  have hbel : Below B w w2 := by
    have q1 : Below B w w1 := H1.out.2.2.2.1.below (fun k hk e => by have e2 : k = b := e; have := H1.out.2.2.2.2; omega) hB
    exact q1.grown hg (Nat.le_trans hB H1.out.2.2.2.1.size) (fun k hk => (H1.out.2.1.lt k hk).1)
  have H2 := Lib.hid (And.intro hb2 (And.intro hown2 (And.intro hne2 hbel)))
  clear hown2 hg hb2 hne2 hbel x1
  go_wp2_with fail
  refine bodyPost_ret (v := .tuple #[.int .i64 s.size, .nilIface]) (by simp [results, Try.results29, go_sem]) rfl ⟨⟨_, rfl⟩, ?_, H2.out.2.2.2.setCell (p := ⟨b, 1, none⟩) H1.out.2.2.2.2 _⟩
  have hlen : (bs ++ Lib.strCells s).length = bs.length + s.size := by rw [List.length_append, Lib.strCells_length]
  have hset := H2.out.1.set_ 1 (.slice A' (bs.length + s.size) c')
  have ho3 : Only (fun k => k = b) w2 (w2.setCell ⟨b, 1, none⟩ (.slice A' (bs.length + s.size) c')) := (Only.refl (fun k => k = b) w2).setCell (p := ⟨b, 1, none⟩) (.inl rfl) _
  have hown3 := own_only H2.out.2.1 ho3 (fun g hg e => H2.out.2.2.1 (by have e2 : g = b := e; rw [← e2]; exact hg))
  refine .inr ⟨H1.out.2.2.2.2, .slice A' (bs.length + s.size) c', hset, ?_, H2.out.2.2.1⟩
  rw [hlen]
  exact hown3
end Go.Proofs.Ytpggicaphejjfaa
