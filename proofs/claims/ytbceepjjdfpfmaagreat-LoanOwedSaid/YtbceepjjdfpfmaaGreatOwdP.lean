/- The debts of a right ledger: they are right debts, and the net of the granary. Plain law. -/
import Derived.Test.YtbceepjjdfpfmaaGreatNts
import Derived.Test.YtbceepjjdfpfmaaGreatOwed
namespace Go.Proofs.YtbceepjjdfpfmaaGreat
open Go.RowKit HandSpec LoanSpec
set_option maxHeartbeats 2000000
set_option maxRecDepth 100000
theorem sumTo_swap (F : Nat → Nat → Int) (m : Nat) : ∀ n, sumTo (fun a => sumTo (fun i => F a i) m) n = sumTo (fun i => sumTo (fun a => F a i) n) m
  | 0 => by
    show (0 : Int) = sumTo (fun _ => 0) m
    rw [sumTo_zero]
  | n + 1 => by
    rw [sumTo_succ, sumTo_swap F m n, ← sumTo_add]
    exact sumTo_congr fun i _ => rfl
theorem sumTo_one (z v : Int) : ∀ n : Nat, sumTo (fun a => if z = (a : Int) then v else 0) n = if 0 ≤ z ∧ z < (n : Int) then v else 0
  | 0 => by
    show (0 : Int) = _
    rw [if_neg (by omega)]
  | n + 1 => by
    rw [sumTo_succ, sumTo_one z v n]
    by_cases h : z = (n : Int)
    · rw [if_pos h, if_neg (by omega), if_pos (by push_cast; omega)]; omega
    · rw [if_neg h]
      by_cases h2 : 0 ≤ z ∧ z < (n : Int)
      · rw [if_pos h2, if_pos (by push_cast; omega)]; omega
      · rw [if_neg h2, if_neg (by push_cast; omega)]; omega
/-- What is promised by a to b. -/
def prom (x : LD) (a b : Nat) (k : Nat) : Int := sumTo (fun i => if x.pr i 0 = (a : Int) ∧ x.pr i 1 = (b : Int) then x.pr i 2 else 0) k
/-- What a owes to b out of loans. -/
def base (x : LD) (a b : Nat) : Int := if 0 < a ∧ b = 0 then LoanSpec.P.owes x (a : Int) (x.years - 1) else 0
theorem owed_parts (x : LD) (a b : Nat) : P.owed x a b = base x a b + prom x a b x.mn := by
  have : ∀ k, LoanSpec.P.owedTo x k a b = base x a b + prom x a b k := fun k => by
    induction k with
    | zero => show _ = _ + (0 : Int); unfold base LoanSpec.P.owedTo; omega
    | succ k ih =>
      unfold prom at ih ⊢
      rw [sumTo_succ]
      show LoanSpec.P.owedTo x k a b + _ = _
      rw [ih]
      omega
  exact this x.mn
theorem prom_self {x : LD} (hx : Ok x) (a : Nat) : ∀ k, k ≤ x.mn → prom x a a k = 0
  | 0, _ => rfl
  | k + 1, hk => by
    have ih := prom_self hx a k (by omega)
    unfold prom at ih ⊢
    rw [sumTo_succ, ih, if_neg (fun h => hx.mne k (by omega) (by rw [h.1, h.2]))]
    rfl
theorem owed_debts {x : LD} (hx : Ok x) : chkD x.folk.toNat (fun _ => x.folk.toNat) (P.owed x) = 0 := by
  have hf := hx.folk
  have hm := hx.mn
  have h1 : inB (x.folk.toNat : Int) 1 7 = true := decide_eq_true (by omega)
  have h2 : sqB x.folk.toNat (fun _ => x.folk.toNat) = true := by unfold sqB; rw [anyTo_false.2 fun k _ => by simp]; rfl
  have h3 : entB x.folk.toNat (fun _ => x.folk.toNat) (P.owed x) = true := by
    unfold entB
    rw [anyTo_false.2 fun k _ => anyTo_false.2 fun j _ => by
      have := LoanSpec.P.owedTo_bd hx x.mn (Nat.le_refl _) k j
      have e : inB (P.owed x k j) 0 1000000 = true := decide_eq_true (by show 0 ≤ LoanSpec.P.owedTo x x.mn k j ∧ LoanSpec.P.owedTo x x.mn k j ≤ 1000000; omega)
      rw [e]
      rfl]
    rfl
  have h4 : anyTo (fun k => !(P.owed x k k == 0)) x.folk.toNat = false := anyTo_false.2 fun k _ => by
    rw [owed_parts, prom_self hx k x.mn (Nat.le_refl _)]
    unfold base
    rw [if_neg (by omega)]
    rfl
  unfold chkD
  rw [h1, h2, h3, h4]
  simp
/-- What is left of all loans. -/
def leftAll (x : LD) : Int := sumTo (fun i => LoanSpec.P.left x i (x.years - 1)) x.ln
theorem owes_all {x : LD} (hx : Ok x) : sumTo (fun a => base x a 0) x.folk.toNat = leftAll x := by
  have hf := hx.folk
  have e1 : sumTo (fun a => base x a 0) x.folk.toNat = sumTo (fun a => sumTo (fun i => if x.lo i 0 = (a : Int) then LoanSpec.R.left x i (x.years - 1) else 0) x.ln) x.folk.toNat := sumTo_congr fun a _ => by
    unfold base
    by_cases h : 0 < a
    · rw [if_pos ⟨h, rfl⟩, LoanSpec.P.owes_eq hx]; rfl
    · rw [if_neg (fun q => h q.1)]
      have : sumTo (fun i => if x.lo i 0 = (a : Int) then LoanSpec.R.left x i (x.years - 1) else 0) x.ln = sumTo (fun _ => 0) x.ln := sumTo_congr fun i hi => if_neg (by have := hx.lwho i hi; omega)
      rw [this, sumTo_zero]
  rw [e1, sumTo_swap]
  unfold leftAll
  refine sumTo_congr fun i hi => ?_
  rw [sumTo_one, if_pos (by have := hx.lwho i hi; omega), LoanSpec.P.left_eq hx hi]
theorem prom_to {x : LD} (hx : Ok x) (b : Nat) : sumTo (fun a => prom x a b x.mn) x.folk.toNat = sumTo (fun i => if x.pr i 1 = (b : Int) then x.pr i 2 else 0) x.mn := by
  unfold prom
  rw [sumTo_swap]
  refine sumTo_congr fun i hi => ?_
  by_cases h : x.pr i 1 = (b : Int)
  · rw [if_pos h]
    have := sumTo_one (x.pr i 0) (x.pr i 2) x.folk.toNat
    rw [if_pos (by have := hx.mfrom i hi; omega)] at this
    refine Eq.trans ?_ this
    exact sumTo_congr fun a _ => by simp [h]
  · rw [if_neg h]
    have : sumTo (fun a : Nat => if x.pr i 0 = (a : Int) ∧ x.pr i 1 = (b : Int) then x.pr i 2 else 0) x.folk.toNat = sumTo (fun _ => 0) x.folk.toNat := sumTo_congr fun a _ => if_neg (fun q => h q.2)
    rw [this, sumTo_zero]
theorem prom_from {x : LD} (hx : Ok x) (a : Nat) : sumTo (fun b => prom x a b x.mn) x.folk.toNat = sumTo (fun i => if x.pr i 0 = (a : Int) then x.pr i 2 else 0) x.mn := by
  unfold prom
  rw [sumTo_swap]
  refine sumTo_congr fun i hi => ?_
  by_cases h : x.pr i 0 = (a : Int)
  · rw [if_pos h]
    have := sumTo_one (x.pr i 1) (x.pr i 2) x.folk.toNat
    rw [if_pos (by have := hx.mto i hi; omega)] at this
    refine Eq.trans ?_ this
    exact sumTo_congr fun b _ => by simp [h]
  · rw [if_neg h]
    have : sumTo (fun b : Nat => if x.pr i 0 = (a : Int) ∧ x.pr i 1 = (b : Int) then x.pr i 2 else 0) x.folk.toNat = sumTo (fun _ => 0) x.folk.toNat := sumTo_congr fun b _ => if_neg (fun q => h q.1)
    rw [this, sumTo_zero]
/-- What the granary is promised, less what it promised, by the first k promises. -/
def promG (x : LD) (k : Nat) : Int := sumTo (fun i => (if x.pr i 1 = 0 then x.pr i 2 else 0) - (if x.pr i 0 = 0 then x.pr i 2 else 0)) k
theorem sumTo_sub (f g : Nat → Int) : ∀ k, sumTo (fun i => f i - g i) k = sumTo f k - sumTo g k
  | 0 => rfl
  | k + 1 => by rw [sumTo_succ, sumTo_succ, sumTo_succ, sumTo_sub f g k]; omega
/-- The net of the granary. -/
theorem net_granary {x : LD} (hx : Ok x) : netTo (P.owed x) x.folk.toNat x.folk.toNat 0 = leftAll x + promG x x.mn := by
  have hf := hx.folk
  rw [netTo_eq _ _ _ _ (by omega), if_pos (by omega)]
  have e1 : sumTo (fun a => P.owed x a 0) x.folk.toNat = sumTo (fun a => base x a 0) x.folk.toNat + sumTo (fun a => prom x a 0 x.mn) x.folk.toNat := by
    rw [← sumTo_add]
    exact sumTo_congr fun a _ => owed_parts x a 0
  have e2 : sumTo (P.owed x 0) x.folk.toNat = sumTo (fun b => prom x 0 b x.mn) x.folk.toNat := sumTo_congr fun b _ => by
    rw [owed_parts]
    unfold base
    rw [if_neg (by omega)]
    omega
  rw [e1, e2, owes_all hx, prom_to hx, prom_from hx]
  unfold promG
  rw [sumTo_sub]
  show leftAll x + sumTo (fun i => if x.pr i 1 = 0 then x.pr i 2 else 0) x.mn - sumTo (fun i => if x.pr i 0 = 0 then x.pr i 2 else 0) x.mn = _
  omega
theorem totTo_sum (f : Nat → Int) : ∀ n, totTo f n = sumTo f n
  | 0 => rfl
  | n + 1 => by simp only [totTo, sumTo_succ, totTo_sum f n]
theorem nets_sum (x : LD) : sumTo (netTo (P.owed x) x.folk.toNat x.folk.toNat) x.folk.toNat = 0 := by
  rw [← totTo_sum]
  exact totTo_net _ _ _ (Nat.le_refl _)
end Go.Proofs.YtbceepjjdfpfmaaGreat
