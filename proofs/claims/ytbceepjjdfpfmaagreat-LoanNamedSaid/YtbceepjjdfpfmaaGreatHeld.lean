/- Walks: is a number in a list; is a hand there between two counts of a list of hours. -/
import Derived.Test.YtbceepjjdfpfmaaGreatGenA
namespace Go.Proofs.YtbceepjjdfpfmaaGreat
open Go.RowKit HandSpec
set_option maxHeartbeats 800000
set_option maxRecDepth 100000
theorem index139 {w : World} {A : Option Addr} {n cap : Nat} {g : Nat → Nat → Int} (hr : Rd w A n 1 g) (hn : n ≤ 1000) (z : Int) :
    Calls Tryz.prog 139 #[.slice A n cap, .int .i64 z] w fun e w' => e = .returned (.int .i64 (firstI (fun k => z == g k 0) n)) ∧ Ext w w' := by
  go_enter Tryz.func139, Tryz.ntmps139
  go_wp2
  go_loopw [4, 5, 8] (fun r _ i wr => ∃ k : Nat, k ≤ n ∧ i = .int .i64 k ∧ r = .int .i64 0 ∧ Hid (∀ j, j < k → (z == g j 0) = false) ∧ Ext w wr) (fun _ _ i _ => n - (intOf i).toNat)
  case atStart => exact ⟨0, Nat.zero_le _, rfl, rfl, fun _ h => absurd h (by omega), Ext.refl _⟩
  case round =>
    obtain ⟨k, hk, rfl, rfl, hp, he⟩ := hrel
    by_cases hlt : k < n
    · obtain ⟨b, o, rfl, hb, h0⟩ := (hr.ext he).at1 hlt
      cases hq : (z == g k 0)
      all_goals
        go_wp2_with fail
      · go_roundw
        case rel => exact ⟨k+1, by omega, by go_num, rfl, anyTo_step hp.out hq, he⟩
        case measure => simp [intOf]; omega
      · go_ret
        exact ⟨ret_int (firstI_yes hlt hp.out hq).symm, he⟩
    · go_wp2_with fail
      go_ret
      have : k = n := by omega
      subst this
      exact ⟨ret_int (firstI_no hp.out).symm, he⟩
theorem contains47 {w : World} {A : Option Addr} {n cap : Nat} {g : Nat → Nat → Int} (hr : Rd w A n 1 g) (hn : n ≤ 1000) (z : Int) :
    Calls Tryz.prog 47 #[.slice A n cap, .int .i64 z] w fun e w' => e = .returned (.bool (anyTo (fun k => z == g k 0) n)) ∧ Ext w w' := by
  have hf := firstI_any (fun k => z == g k 0) n
  have HF := hid hf; clear hf
  go_enter Tryz.func47, Tryz.ntmps47
  go_wp2_with (go_at_call 139; refine (index139 hr hn z).mono ?_; rintro e w1 ⟨rfl, he1⟩)
  go_ret
  exact ⟨ret_bool HF.out, he1⟩
/-- A spell is a hand's, and lies between two hours that follow each other. -/
def hereB (h : Int) (gH : Nat → Nat → Int) (k : Nat) (a f t : Int) : Bool := (a == h) && (decide (f < gH (k+1) 0) && decide (gH k 0 < t))
end Go.Proofs.YtbceepjjdfpfmaaGreat
