/- Bits of small numbers, as the program reckons them; walk of list (176): the places of a set. The set is below 128. -/
import Derived.Test.YtbceepjjdfpfmaaGreatNetA
import Derived.Test.YtbceepjjdfpfmaaGreatMapI
namespace Go.Proofs.YtbceepjjdfpfmaaGreat
open Go.RowKit HandSpec
set_option maxHeartbeats 2000000
set_option maxRecDepth 100000
/-- A set less another one. -/
def dif (a b : Nat) : Nat := a - (a &&& b)
theorem bits_andNot : ∀ a : Nat, a < 128 → ∀ b : Nat, b < 128 → bits .andNot .i64 (a : Int) (b : Int) = (dif a b : Int) := by decide +kernel
theorem bits_and : ∀ a : Nat, a < 128 → ∀ b : Nat, b < 128 → bits .and .i64 (a : Int) (b : Int) = ((a &&& b : Nat) : Int) := by decide +kernel
theorem bits_or : ∀ a : Nat, a < 128 → ∀ b : Nat, b < 128 → bits .or .i64 (a : Int) (b : Int) = ((a ||| b : Nat) : Int) := by decide +kernel
/-- The least place of a set, as a set. -/
def lowM (a : Nat) : Nat := a &&& ((a - 1) ^^^ 127)
theorem bits_low : ∀ a : Nat, a < 128 → bits .and .i64 (a : Int) (-(a : Int)) = (lowM a : Int) := by decide +kernel
/-- The places below k of a set. -/
def placesTo (s : Nat) : Nat → List Nat
  | 0 => []
  | k + 1 => if s.testBit k then placesTo s k ++ [k] else placesTo s k
def places (s : Nat) : List Nat := placesTo s 7
theorem bit_test : ∀ s : Nat, s < 128 → ∀ k : Nat, k < 7 → (bits BinOp.and IntKind.i64 ((s : Int) / 2 ^ k) 1 == 1) = s.testBit k := by decide +kernel
theorem places_end : ∀ s : Nat, s < 128 → ∀ k : Nat, k ≤ 7 → s / 2 ^ k = 0 → placesTo s k = places s := by decide +kernel
theorem placesTo_len (s : Nat) : ∀ k, (placesTo s k).length ≤ k
  | 0 => Nat.le_refl _
  | k + 1 => by
    have := placesTo_len s k
    simp only [placesTo]
    split <;> simp <;> omega
theorem list176 (s : Nat) (hs : s < 128) (w : World) : Calls Tryz.prog 176 #[.int .i64 (s : Int)] w fun e w' => ∃ u, e = .returned u ∧ Ext w w' ∧ OwnR w' w.heap.size 3 1 u (rows1 (places s)) := by
  go_enter Tryz.func176, Tryz.ntmps176
  go_upto_region 3 with fail
  go_loopw [3, 4] (fun a i wr => ∃ k : Nat, k ≤ 7 ∧ i = .int .i64 (k : Int) ∧ Hid (OwnR wr w.heap.size 3 1 a (rows1 (placesTo s k))) ∧ Ext w wr) (fun _ i _ => 7 - (intOf i).toNat)
  case atStart => exact ⟨0, by omega, rfl, hid OwnR.nil, Ext.refl _⟩
  case round =>
    obtain ⟨k, hk, rfl, hO, he⟩ := hrel
    have hc : ((s : Int) / 2 ^ k) = ((s / 2 ^ k : Nat) : Int) := by simp
    by_cases h0 : s / 2 ^ k = 0
    · have h1 : ¬ 0 < (s : Int) / 2 ^ k := by rw [hc, h0]; simp
      have hE := hid (places_end s hs k hk h0)
      clear hc h0
      go_wp2_with fail
      go_ret
      exact ⟨_, rfl, he, by rw [← hE.out]; exact hO.out⟩
    · have h1 : 0 < (s : Int) / 2 ^ k := by rw [hc]; exact Int.natCast_pos.2 (Nat.pos_of_ne_zero h0)
      have hk7 : k < 7 := by
        rcases Nat.lt_or_ge k 7 with h | h
        · exact h
        · obtain rfl : k = 7 := by omega
          exact absurd (Nat.div_eq_of_lt (by omega)) h0
      have hP := hid (show placesTo s (k + 1) = if s.testBit k then placesTo s k ++ [k] else placesTo s k from rfl)
      have hl := hid (placesTo_len s k)
      have hb := bit_test s hs k hk7
      clear hc h0
      cases hq : s.testBit k
      · rw [hq] at hb hP
        clear hq
        go_wp2_with fail
        go_roundw
        case rel => exact ⟨k + 1, by omega, by go_num, by rw [hP.out]; exact hO, he⟩
        case measure => simp [intOf]; omega
      · rw [hq] at hb hP
        clear hq
        go_wp2_with (at_builtin; refine wpList_append_rows rfl _ _ 22 rfl el22 rfl (hO.out.ext (Ext.alloc (Ext.refl _) _)) _ 1 1 [[(k : Int)]] rfl rfl (by simp) (by intro j; simp [cellsOf]) (by have := hl.out; rw [rows1_length]; omega) (by have := he.size; simp; omega) ?_; intro v' w3 hown3 hg3)
        go_roundw
        case rel =>
          refine ⟨k + 1, by omega, by go_num, ?_, (he.trans ((Ext.refl _).alloc _)).grown hg3 fun q hq => ?_⟩
          · rw [hP.out, if_pos rfl, rows1_append]; exact hid hown3
          · exact hO.out.block hq
        case measure => simp [intOf]; omega
end Go.Proofs.YtbceepjjdfpfmaaGreat
