/-
  The reference's bits, text, number: walks.
-/
import Derived.Test.YtmgngmnkmmhckaaWr
set_option linter.unusedVariables false
namespace Go.Proofs.Ytmgngmnkmmhckaa
open Go.RowKit Plain

def bs (l : List Bool) : List Value := l.map .bool
theorem bs_append (l m : List Bool) : bs (l ++ m) = bs l ++ bs m := by simp [bs]
theorem length_bs (l : List Bool) : (bs l).length = l.length := by simp [bs]
def sN (s : ByteArray) : List Nat := s.data.toList.map (·.toNat)
theorem length_sN (s : ByteArray) : (sN s).length = s.size := by simp [sN]
theorem sN_lt (s : ByteArray) (k : Nat) : (sN s).getD k 0 < 256 := by
  unfold sN
  simp only [List.getD, List.getElem?_map]
  cases s.data.toList[k]? with
  | none => simp
  | some v => simpa using v.toNat_lt
def bitsS (s : ByteArray) : List Bool := bytesBits (sN s)
theorem length_bitsS (s : ByteArray) : (bitsS s).length = 8 * s.size := by rw [bitsS, length_bytesBits, length_sN]

theorem info4 : (Try.prog.info? 4).map (fun i => (i.zero, i.size, i.bytes)) = some (some (.bool false), 1, 1) := by kernel_rfl

/-- an owned row of booleans -/
def BRow (w0 w : World) (v : Value) (l : List Bool) : Prop := w.ownsRow w0.heap.size 4 1 v l.length (bs l) ∧ Below w0.heap.size w0 w

theorem sN_get (s : ByteArray) (i : Nat) (h : i < s.size) : (sN s)[i]'(by rw [length_sN]; exact h) = s[i].toNat := by
  simp [sN]; rfl
theorem sN_take (s : ByteArray) (i : Nat) (h : i < s.size) : (sN s).take (i + 1) = (sN s).take i ++ [s[i].toNat] := by
  have h2 : i < (sN s).length := by rw [length_sN]; exact h
  rw [List.take_succ_eq_append_getElem h2, sN_get s i h]

theorem and1_u8 (x g : Nat) (hx : x < 256) : bits BinOp.and IntKind.u8 ((x : Int) / 2 ^ g) 1 = ((x / 2 ^ g % 2 : Nat) : Int) := by
  have h1 : ((x : Int) / 2 ^ g) = ((x / 2 ^ g : Nat) : Int) := by simp
  have h2 : x / 2 ^ g < 256 := Nat.lt_of_le_of_lt (Nat.div_le_self _ _) hx
  rw [h1]
  have := u8_and_nat (x / 2 ^ g) 1 h2 (by decide)
  rw [show ((1 : Int)) = ((1 : Nat) : Int) from rfl, this, Nat.and_one_is_mod]
theorem bit_u8 (x g : Nat) (hx : x < 256) : (bits BinOp.and IntKind.u8 ((x : Int) / 2 ^ g) 1 == 1) = x.testBit g := by
  rw [and1_u8 x g hx, Nat.testBit_eq_decide_div_mod_eq]
  by_cases h : x / 2 ^ g % 2 = 1
  · simp [h]
  · have h0 : x / 2 ^ g % 2 = 0 := by omega
    simp [h0]

theorem take_bits (x g : Nat) (hg : g < 8) : (bitsOf x 8).take (8 - g) = (bitsOf x 8).take (8 - (g + 1)) ++ [x.testBit g] := by
  have h1 : 8 - g = 8 - (g + 1) + 1 := by omega
  rw [h1]
  have h2 : 8 - (g + 1) < (bitsOf x 8).length := by rw [length_bitsOf]; omega
  rw [List.take_succ_eq_append_getElem h2]
  congr 2
  have h3 : (bitsOf x 8)[8 - (g + 1)] = (bitsOf x 8).getD (8 - (g + 1)) false := by rw [List.getD, List.getElem?_eq_getElem h2]; rfl
  have h4 : 8 - (g + 1) < 8 := by omega
  have h5 : 8 - 1 - (8 - (g + 1)) = g := by omega
  rw [h3, getD_bitsOf, h5, decide_eq_true h4, Bool.true_and]

theorem BRow.snoc {w0 wr w1 : World} {v v' : Value} {L : List Bool} {b : Bool} {o : Obj} (hown : wr.ownsRow w0.heap.size 4 1 v L.length (bs L)) (hb : Below w0.heap.size w0 wr)
    (h1 : w1.ownsRow w0.heap.size 4 1 v' (L.length + 1) (bs L ++ [.bool b])) (hg : (wr.alloc o).grownBy w1 v.ownBlock) : BRow w0 w1 v' (L ++ [b]) := by
  refine ⟨by rw [List.length_append, bs_append]; exact h1, (hb.alloc hb.size o).grown hg (by have := hb.size; simp; omega) fun k hk => (hown.lt k hk).1⟩

set_option maxRecDepth 100000 in
set_option maxHeartbeats 1000000 in
theorem bits_any (s : ByteArray) (w : World) (hs : s.size ≤ 16777216) :
    Calls Try.prog 14 #[.string s] w fun e w' => ∃ v, e = .returned v ∧ BRow w w' v (bitsS s) := by
  obtain ⟨i0, hi, hz0, hz1, hz2⟩ := info_parts info4
  go_enter Try.func14, Try.ntmps14
  go_wp2
  go_loopg [3, 4] s.size (fun g v i wr => ∃ k : Nat, k + g = s.size ∧ i = .int .i64 k ∧ BRow w wr v (bytesBits ((sN s).take k)))
  case atStart => exact ⟨0, by omega, rfl, World.ownsRow_nil _ _ _ _, Below.refl _ _⟩
  case round =>
    obtain ⟨k, hk, rfl, hbr⟩ := hrel
    by_cases hlt : k < s.size
    · go_wp2
      obtain ⟨g1, hg1⟩ : ∃ g1, g1 = gk := ⟨_, rfl⟩
      go_loopg [3, 5] 8 (fun g v j wr => j = .int .i64 ((g : Int) - 1) ∧ g ≤ 8 ∧ BRow w wr v (bytesBits ((sN s).take k) ++ (bitsOf s[k].toNat 8).take (8 - g)))
      case atStart => exact ⟨rfl, Nat.le_refl _, by simpa using hbr⟩
      case round =>
        obtain ⟨rfl, hg8, hbr2⟩ := hrel
        by_cases hg0 : gk = 0
        · subst hg0
          go_wp2
          go_roundg (g1 - 1)
          case measure => omega
          case rel =>
            refine ⟨k + 1, by omega, by go_num, ?_⟩
            have e8 : (bitsOf s[k].toNat 8).take (8 - 0) = bitsOf s[k].toNat 8 := List.take_of_length_le (by rw [length_bitsOf]; omega)
            rw [e8] at hbr2
            have e9 : bytesBits [s[k].toNat] = bitsOf s[k].toNat 8 := by simp [bytesBits]
            rw [sN_take s k hlt, bytesBits_append, e9]
            exact hbr2
        · obtain ⟨g, rfl⟩ : ∃ g, gk = g + 1 := ⟨gk - 1, by omega⟩
          have e : (((g + 1 : Nat) : Int) - 1) = (g : Int) := by omega
          rw [e]
          have hxlt : s[k].toNat < 256 := s[k].toNat_lt
          have hbit := bit_u8 s[k].toNat g hxlt
          obtain ⟨b, hb⟩ : ∃ b, b = s[k].toNat.testBit g := ⟨_, rfl⟩
          rw [← hb] at hbit
          obtain ⟨L, hL⟩ : ∃ L, L = bytesBits ((sN s).take k) ++ (bitsOf s[k].toNat 8).take (8 - (g + 1)) := ⟨_, rfl⟩
          rw [← hL] at hbr2
          have hlen : L.length ≤ 134217728 + 8 := by
            rw [hL, List.length_append, length_bytesBits, List.length_take, List.length_take, length_sN]; omega
          have HL := Lib.hid hL
          have Hb := Lib.hid hb
          clear hL hb
          obtain ⟨hown, hbel⟩ := hbr2
          go_wp2_with (at_builtin; refine wpList_append_own_at _ rfl (.tmp 16) (.tmp 24) _ rfl w.heap.size 4 i0 (.bool false) 1 1 Try.underlying26 hi hz0 hz1 hz2 rfl (by decide) u3 L.length (bs L) rfl (hown.alloc _) ⟨wr.heap.size, 0, none⟩ 1 1 [.bool b] rfl rfl ?c1 ?c2 ?c3 ?c4 ?c5 ?_)
          case c1 => exact cell_one_new _ _ _
          case c2 => simp [Value.oneCell']
          case c3 => unfold maxLen; omega
          case c4 => omega
          case c5 => have := hbel.size; simp; omega
          intro v' w1 hown1 hgrow _ hat
          have HC := Lib.hid (And.intro hown1 hgrow)
          clear hown1 hgrow hat
          go_wp2_with fail
          go_roundg g
          case measure => omega
          case rel =>
            refine ⟨rfl, by omega, ?_⟩
            obtain ⟨hown1, hgrow⟩ := HC.out
            rw [take_bits _ _ (by omega), ← List.append_assoc, ← HL.out, ← Hb.out]
            exact BRow.snoc hown hbel hown1 hgrow
    · go_wp2
      go_ret
      have e : (sN s).take k = sN s := List.take_of_length_le (by rw [length_sN]; omega)
      exact ⟨_, rfl, by rw [e] at hbr; exact hbr⟩
end Go.Proofs.Ytmgngmnkmmhckaa
