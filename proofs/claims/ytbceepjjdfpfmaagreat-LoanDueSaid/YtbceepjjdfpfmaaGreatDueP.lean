/- When a loan is due, and the first year in which it is paid: plain law. -/
import Derived.Test.YtbceepjjdfpfmaaGreatRefC
import Derived.Test.YtbceepjjdfpfmaaGreatPaid
namespace Go.Proofs.YtbceepjjdfpfmaaGreat
open Go.RowKit HandSpec LoanSpec
set_option maxHeartbeats 2000000
set_option maxRecDepth 100000
/-- The first year that is not bad. -/
theorem dueTo_spec (x : LD) : ∀ (n : Nat) (y : Int), 0 ≤ y → (LoanSpec.P.dueTo x y n = -1 ∧ ∀ z, y ≤ z → z < y + n → hasB x.bad x.bn z = true) ∨
    (y ≤ LoanSpec.P.dueTo x y n ∧ LoanSpec.P.dueTo x y n < y + n ∧ hasB x.bad x.bn (LoanSpec.P.dueTo x y n) = false ∧ ∀ z, y ≤ z → z < LoanSpec.P.dueTo x y n → hasB x.bad x.bn z = true)
  | 0, y, _ => .inl ⟨rfl, fun z h1 h2 => by omega⟩
  | n + 1, y, hy => by
    simp only [LoanSpec.P.dueTo]
    cases hb : hasB x.bad x.bn y
    · refine .inr ⟨by simp, by simp; omega, by simpa using hb, fun z h1 h2 => ?_⟩
      simp at h2
      omega
    · simp only [if_true]
      rcases dueTo_spec x n (y + 1) (by omega) with ⟨h1, h2⟩ | ⟨h1, h2, h3, h4⟩
      · refine .inl ⟨h1, fun z q1 q2 => ?_⟩
        by_cases e : z = y
        · subst e; exact hb
        · exact h2 z (by omega) (by push_cast at q2; omega)
      · refine .inr ⟨by omega, by push_cast; omega, h3, fun z q1 q2 => ?_⟩
        by_cases e : z = y
        · subst e; exact hb
        · exact h4 z (by omega) q2
/-- What the law asks of the year in which a loan is due. -/
theorem due_law {x : LD} (hx : Ok x) {i : Nat} (hi : i < x.ln) : (-1 ≤ LoanSpec.P.due x i ∧ LoanSpec.P.due x i < x.years) ∧
    ∀ y : Int, 0 ≤ y → y < x.years → (LoanSpec.P.due x i = y → x.lo i 1 ≤ y ∧ hasB x.bad x.bn y = false) ∧ (x.lo i 1 ≤ y → hasB x.bad x.bn y = false → 0 ≤ LoanSpec.P.due x i ∧ LoanSpec.P.due x i ≤ y) := by
  have hy := hx.lyear i hi
  have hyr := hx.years
  unfold LoanSpec.P.due
  rcases dueTo_spec x (x.years - x.lo i 1).toNat (x.lo i 1) hy.1 with ⟨h1, h2⟩ | ⟨h1, h2, h3, h4⟩
  · refine ⟨by omega, fun y q1 q2 => ⟨fun e => by omega, fun e1 e2 => ?_⟩⟩
    have := h2 y e1 (by omega)
    rw [e2] at this
    cases this
  · refine ⟨by omega, fun y q1 q2 => ⟨fun e => ⟨by omega, by rw [← e]; exact h3⟩, fun e1 e2 => ⟨by omega, ?_⟩⟩⟩
    rcases Int.lt_or_le y (LoanSpec.P.dueTo x (x.lo i 1) (x.years - x.lo i 1).toNat) with q | q
    · have := h4 y e1 q
      rw [e2] at this
      cases this
    · exact q
/-- Less is left in later years. -/
theorem left_later {x : LD} (hx : Ok x) {i : Nat} (hi : i < x.ln) {y z : Int} (h1 : x.lo i 1 ≤ y) (h2 : y ≤ z) : LoanSpec.R.left x i z ≤ LoanSpec.R.left x i y := by
  unfold LoanSpec.R.left
  rw [if_neg (by omega), if_neg (by omega)]
  have : ∀ k, k ≤ x.pn → sumTo (fun k => if x.pa k 1 ≤ y then LoanSpec.R.part x k i else 0) k ≤ sumTo (fun k => if x.pa k 1 ≤ z then LoanSpec.R.part x k i else 0) k := fun k => by
    induction k with
    | zero => exact fun _ => Int.le_refl _
    | succ k ih =>
      intro hk
      have ih := ih (by omega)
      have hp := LoanSpec.R.part_nonneg hx (show k < x.pn by omega) hi
      rw [sumTo_succ, sumTo_succ]
      by_cases q : x.pa k 1 ≤ y
      · rw [if_pos q, if_pos (by omega)]; omega
      · rw [if_neg q]
        split <;> omega
  have := this x.pn (Nat.le_refl _)
  omega
theorem paidTo_spec (x : LD) (i : Nat) : ∀ n : Nat, (LoanSpec.R.paidTo x i n = none ∧ ∀ k : Nat, k < n → LoanSpec.R.left x i (x.years - 1 - (k : Int)) ≠ 0) ∨
    ∃ k : Nat, k < n ∧ LoanSpec.R.paidTo x i n = some (x.years - 1 - (k : Int)) ∧ LoanSpec.R.left x i (x.years - 1 - (k : Int)) = 0 ∧ ∀ j : Nat, k < j → j < n → LoanSpec.R.left x i (x.years - 1 - (j : Int)) ≠ 0
  | 0 => .inl ⟨rfl, fun k hk => by omega⟩
  | n + 1 => by
    simp only [LoanSpec.R.paidTo]
    by_cases h : LoanSpec.R.left x i (x.years - 1 - (n : Int)) = 0
    · rw [if_pos h]
      exact .inr ⟨n, Nat.lt_succ_self _, rfl, h, fun j h1 h2 => by omega⟩
    · rw [if_neg h]
      rcases paidTo_spec x i n with ⟨h1, h2⟩ | ⟨k, h1, h2, h3, h4⟩
      · refine .inl ⟨h1, fun k hk => ?_⟩
        by_cases e : k = n
        · subst e; exact h
        · exact h2 k (by omega)
      · refine .inr ⟨k, by omega, h2, h3, fun j q1 q2 => ?_⟩
        by_cases e : j = n
        · subst e; exact h
        · exact h4 j q1 (by omega)
/-- What the law asks of the year in which a loan is paid. -/
theorem paid_law {x : LD} (hx : Ok x) {i : Nat} (hi : i < x.ln) : (LoanSpec.P.paid x i = none ∧ LoanSpec.P.left x i (x.years - 1) ≠ 0) ∨
    ∃ y : Int, LoanSpec.P.paid x i = some y ∧ LoanSpec.P.left x i (x.years - 1) = 0 ∧ x.lo i 1 ≤ y ∧ y ≤ x.years - 1 ∧ LoanSpec.P.left x i y = 0 ∧ (x.lo i 1 < y → LoanSpec.P.left x i (y - 1) ≠ 0) := by
  have hy := hx.lyear i hi
  have hyr := hx.years
  rw [LoanSpec.R.paid_eq hx hi, LoanSpec.P.left_eq hx hi]
  unfold LoanSpec.R.paid
  rcases paidTo_spec x i (x.years - x.lo i 1).toNat with ⟨h1, h2⟩ | ⟨k, h1, h2, h3, h4⟩
  · have := h2 0 (by omega)
    exact .inl ⟨h1, by rwa [show x.years - 1 - ((0 : Nat) : Int) = x.years - 1 by omega] at this⟩
  · refine .inr ⟨_, h2, ?_, by omega, by omega, by rw [LoanSpec.P.left_eq hx hi]; exact h3, fun q => ?_⟩
    · have l1 := left_later hx hi (y := x.years - 1 - (k : Int)) (z := x.years - 1) (by omega) (by omega)
      have l2 := (R.left_bd hx hi (x.years - 1)).1
      omega
    · rw [LoanSpec.P.left_eq hx hi]
      have := h4 (k + 1) (by omega) (by omega)
      rwa [show x.years - 1 - ((k + 1 : Nat) : Int) = x.years - 1 - (k : Int) - 1 by omega] at this
/-- What the law asks of what is asked. -/
theorem asked_law {x : LD} (hx : Ok x) {i : Nat} (hi : i < x.ln) : (hasB x.fo x.fn i = true → LoanSpec.P.asked x i = 0) ∧ (hasB x.fo x.fn i = false → 11 * x.lo i 2 ≤ 10 * LoanSpec.P.asked x i ∧ 10 * LoanSpec.P.asked x i ≤ 11 * x.lo i 2 + 9) := by
  have := hx.lsack i hi
  constructor
  · intro h
    unfold LoanSpec.P.asked
    rw [if_pos h]
  · intro h
    unfold LoanSpec.P.asked
    rw [h]
    simp only [Bool.false_eq_true, if_false]
    omega
end Go.Proofs.YtbceepjjdfpfmaaGreat
