/-
  strings.Builder's Write at this program.
-/
import Derived.Test.YtpggicaphejjfaaPBuild
set_option linter.unusedVariables false
namespace Go.Proofs.Ytpggicaphejjfaa
open Go.RowKit

theorem info5' : (Try.prog.info? 5).map (fun i => (i.zero, i.size, i.bytes)) = some (some (.int .u8 0), 1, 1) := by kernel_rfl
set_option maxRecDepth 100000 in
set_option maxHeartbeats 2000000 in
theorem write_any (B b : Nat) (bs news : List Value) (A : Option Addr) (m c : Nat) (w : World) (h : Lib.IsBuilder 56 5 B b bs w) (hl : news.length = m) (hs : Src w A news) (h1 : ∀ u ∈ news, u.oneCell' = true) (hA : ∀ p, A = some p → p.block ≠ b)
    (hB : B ≤ w.heap.size) (hT : bs.length + m ≤ 1000000) :
    Calls Try.prog 28 #[.pointer (some ⟨b, 0, none⟩), .slice A m c] w fun e w' => (∃ v, e = .returned v) ∧ Lib.IsBuilder 56 5 B b (bs ++ news) w' ∧ Below B w w' := by
  obtain ⟨i, hi, hq⟩ := Option.map_eq_some_iff.1 info5'
  have hz : i.zero = some (.int .u8 0) := (Prod.mk.inj hq).1
  have hsz : i.size = 1 := (Prod.mk.inj (Prod.mk.inj hq).2).1
  have hby : i.bytes = 1 := (Prod.mk.inj (Prod.mk.inj hq).2).2
  have HC := Lib.hid (check_any B b bs w h)
  have HS := Lib.hid (And.intro hs (And.intro hA (And.intro hl h1)))
  clear h hs hA hl h1 hq
  go_enter Try.func28, Try.ntmps28
  go_wp2_with fail
  refine HC.out.mono ?_
  rintro e w1 ⟨rfl, ⟨hBb, v, hb, hown, hne⟩, ho, _⟩
  have x1 : w1.cell? ⟨b, 1, none⟩ = some v := by simp [World.cell?, hb]
  have hbk : Blk w1 b 56 #[.pointer (some ⟨b, 0, none⟩), v] := hb
  have hsrc : Hid (Src w1 A news) := fun j u hu => by
    obtain ⟨a, rfl, hc⟩ := HS.out.1 j u hu
    refine ⟨a, rfl, ?_⟩
    rw [ho.cell (World.block_lt_of_cell? w _ hc) (fun e => HS.out.2.1 a rfl (by rw [← addr_block a j]; exact e))]
    exact hc
  have H1 := Lib.hid (And.intro hbk (And.intro hown (And.intro hne (And.intro ho hBb))))
  clear hb hown hne ho hBb hbk
  go_wp2_with (refine wpList_append_src _ rfl (.tmp 12) (.tmp 13) 43 rfl B 5 i (.int .u8 0) 1 Try.underlying43 hi hz hsz hby rfl v bs.length bs rfl H1.out.2.1 A m c news rfl HS.out.2.2.1 hsrc.out HS.out.2.2.2 (by unfold maxLen; omega) (by omega) (Nat.le_trans hB H1.out.2.2.2.1.size) ?_)
  intro A' c' w2 hown2 hg hat
  have hb2 := H1.out.1.grown hg (fun e => H1.out.2.2.1 e.symm)
  have f1 := hb2.frozen 1
  have z1 := hb2.cell 1
  simp at z1
  have hne2 : Value.ownBlock (.slice A' (bs.length + m) c') ≠ some b := by
    rcases hat with e | e
    · rw [e]; exact H1.out.2.2.1
    · rw [e]; have := H1.out.1.lt; simp; omega
  have hbel : Below B w w2 := by
    have q1 : Below B w w1 := H1.out.2.2.2.1.below (fun k hk e => by have e2 : k = b := e; have := H1.out.2.2.2.2; omega) hB
    exact q1.grown hg (Nat.le_trans hB H1.out.2.2.2.1.size) (fun k hk => (H1.out.2.1.lt k hk).1)
  have H2 := Lib.hid (And.intro hb2 (And.intro hown2 (And.intro hne2 hbel)))
  clear hown2 hg hat hb2 hne2 hbel x1
  go_wp2_with fail
  refine bodyPost_ret (v := .tuple #[.int .i64 m, .nilIface]) (by simp [results, Try.results28, go_sem]) rfl ⟨⟨_, rfl⟩, ?_, H2.out.2.2.2.setCell (p := ⟨b, 1, none⟩) H1.out.2.2.2.2 _⟩
  have hlen : (bs ++ news).length = bs.length + m := by rw [List.length_append, HS.out.2.2.1]
  have hset := H2.out.1.set_ 1 (.slice A' (bs.length + m) c')
  have ho3 : Only (fun k => k = b) w2 (w2.setCell ⟨b, 1, none⟩ (.slice A' (bs.length + m) c')) := (Only.refl (fun k => k = b) w2).setCell (p := ⟨b, 1, none⟩) (.inl rfl) _
  have hown3 := own_only H2.out.2.1 ho3 (fun g hg e => H2.out.2.2.1 (by have e2 : g = b := e; rw [← e2]; exact hg))
  refine .inr ⟨H1.out.2.2.2.2, .slice A' (bs.length + m) c', hset, ?_, H2.out.2.2.1⟩
  rw [hlen]
  exact hown3
end Go.Proofs.Ytpggicaphejjfaa
