/- What the functions of the layer loan and of its reference compute, as plain functions; a payment is booked to the oldest loans, at once or bushel by bushel. No condition. -/
import Derived.Test.YtbceepjjdfpfmaaGreatWords
namespace LoanSpec
open HandSpec
/-- A ledger: how many of each; what stands at each place. Loans and payments: who, year, bushels; promises: from, to, bushels. -/
structure LD where
  folk : Int
  years : Int
  bn : Nat
  fn : Nat
  ln : Nat
  pn : Nat
  mn : Nat
  bad : Nat → Int
  fo : Nat → Int
  lo : Nat → Nat → Int
  pa : Nat → Nat → Int
  pr : Nat → Nat → Int
def offB (n lo hi : Int) : Bool := decide (n < lo ∨ hi < n)
/-- A list is not in strictly increasing order. -/
def fallB (f : Nat → Int) (n : Nat) : Bool := anyTo (fun i => decide (f (i+1) ≤ f i)) (n - 1)
def hasB (f : Nat → Int) (n : Nat) (z : Int) : Bool := anyTo (fun i => f i == z) n
namespace LD
variable (x : LD)
def many : Bool := offB x.folk 1 7 || (offB x.years 1 9 || (decide (10 < x.ln) || (decide (12 < x.pn) || decide (12 < x.mn))))
def wideB : Bool := anyTo (fun i => offB (x.lo i 2) 1 500) x.ln || (anyTo (fun i => offB (x.pa i 2) 1 500) x.pn || anyTo (fun i => offB (x.pr i 2) 1 500) x.mn)
def notB : Bool := anyTo (fun i => offB (x.lo i 0) 1 (x.folk - 1) || offB (x.lo i 1) 0 (x.years - 1)) x.ln || (anyTo (fun i => offB (x.pa i 0) 1 (x.folk - 1) || offB (x.pa i 1) 0 (x.years - 1)) x.pn ||
  (anyTo (fun i => offB (x.pr i 0) 0 (x.folk - 1) || offB (x.pr i 1) 0 (x.folk - 1)) x.mn || (anyTo (fun i => offB (x.bad i) 0 (x.years - 1)) x.bn || anyTo (fun i => offB (x.fo i) 0 ((x.ln : Int) - 1)) x.fn)))
def sameB : Bool := anyTo (fun i => x.pr i 0 == x.pr i 1) x.mn
def orderB : Bool := fallB x.bad x.bn || (fallB x.fo x.fn || anyTo (fun i => decide (x.pa (i+1) 1 < x.pa i 1)) (x.pn - 1))
/-- The error of a ledger. -/
def chk : Int := if x.many then 2 else if x.wideB then 3 else if x.notB then 1 else if x.sameB then 5 else if x.orderB then 4 else 0
end LD
/-- What a right ledger gives. -/
structure Ok (x : LD) : Prop where
  folk : 1 ≤ x.folk ∧ x.folk ≤ 7
  years : 1 ≤ x.years ∧ x.years ≤ 9
  ln : x.ln ≤ 10
  pn : x.pn ≤ 12
  mn : x.mn ≤ 12
  lwho : ∀ i, i < x.ln → 1 ≤ x.lo i 0 ∧ x.lo i 0 ≤ x.folk - 1
  lyear : ∀ i, i < x.ln → 0 ≤ x.lo i 1 ∧ x.lo i 1 ≤ x.years - 1
  lsack : ∀ i, i < x.ln → 1 ≤ x.lo i 2 ∧ x.lo i 2 ≤ 500
  pwho : ∀ i, i < x.pn → 1 ≤ x.pa i 0 ∧ x.pa i 0 ≤ x.folk - 1
  pyear : ∀ i, i < x.pn → 0 ≤ x.pa i 1 ∧ x.pa i 1 ≤ x.years - 1
  psack : ∀ i, i < x.pn → 1 ≤ x.pa i 2 ∧ x.pa i 2 ≤ 500
  mfrom : ∀ i, i < x.mn → 0 ≤ x.pr i 0 ∧ x.pr i 0 ≤ x.folk - 1
  mto : ∀ i, i < x.mn → 0 ≤ x.pr i 1 ∧ x.pr i 1 ≤ x.folk - 1
  msack : ∀ i, i < x.mn → 1 ≤ x.pr i 2 ∧ x.pr i 2 ≤ 500
  mne : ∀ i, i < x.mn → x.pr i 0 ≠ x.pr i 1
  bad : ∀ i, i < x.bn → 0 ≤ x.bad i ∧ x.bad i ≤ x.years - 1
  fo : ∀ i, i < x.fn → 0 ≤ x.fo i ∧ x.fo i ≤ (x.ln : Int) - 1
  binc : ∀ i, i + 1 < x.bn → x.bad i < x.bad (i+1)
  finc : ∀ i, i + 1 < x.fn → x.fo i < x.fo (i+1)
  pinc : ∀ i, i + 1 < x.pn → x.pa i 1 ≤ x.pa (i+1) 1
theorem offB_no {n lo hi : Int} (h : offB n lo hi = false) : lo ≤ n ∧ n ≤ hi := by
  unfold offB at h
  have := of_decide_eq_false h
  omega
theorem Ok.of_chk {x : LD} (h : x.chk = 0) : Ok x := by
  unfold LD.chk at h
  cases h1 : x.many
  case true => rw [h1] at h; simp at h
  cases h2 : x.wideB
  case true => rw [h1, h2] at h; simp at h
  cases h3 : x.notB
  case true => rw [h1, h2, h3] at h; simp at h
  cases h4 : x.sameB
  case true => rw [h1, h2, h3, h4] at h; simp at h
  cases h5 : x.orderB
  case true => rw [h1, h2, h3, h4, h5] at h; simp at h
  simp only [LD.many, LD.wideB, LD.notB, LD.sameB, LD.orderB, fallB, Bool.or_eq_false_iff, anyTo_false, decide_eq_false_iff_not] at h1 h2 h3 h4 h5
  obtain ⟨a1, a2, a3, a4, a5⟩ := h1
  obtain ⟨b1, b2, b3⟩ := h2
  obtain ⟨c1, c2, c3, c4, c5⟩ := h3
  obtain ⟨d1, d2, d3⟩ := h5
  exact ⟨offB_no a1, offB_no a2, by omega, by omega, by omega, fun i hi => offB_no (c1 i hi).1, fun i hi => offB_no (c1 i hi).2, fun i hi => offB_no (b1 i hi), fun i hi => offB_no (c2 i hi).1, fun i hi => offB_no (c2 i hi).2, fun i hi => offB_no (b2 i hi),
    fun i hi => offB_no (c3 i hi).1, fun i hi => offB_no (c3 i hi).2, fun i hi => offB_no (b3 i hi), fun i hi => by have := h4 i hi; simpa using this, fun i hi => offB_no (c4 i hi), fun i hi => offB_no (c5 i hi),
    fun i hi => by have := d1 i (by omega); omega, fun i hi => by have := d2 i (by omega); omega, fun i hi => by have := d3 i (by omega); omega⟩
namespace P
variable (x : LD)
/-- What is asked for a loan. -/
def asked (i : Nat) : Int := if hasB x.fo x.fn i then 0 else x.lo i 2 + (x.lo i 2 + 9) / 10
/-- The first year from y on, of n years, that is not bad. -/
def dueTo (y : Int) : Nat → Int
  | 0 => -1
  | n+1 => if hasB x.bad x.bn y then dueTo (y + 1) n else y
def due (i : Nat) : Int := dueTo x (x.lo i 1) (x.years - x.lo i 1).toNat
/-- The loans of one year, and those of the first years, the oldest first. -/
def ofYear (y : Nat) : List Nat := (List.range x.ln).filter fun i => decide (x.lo i 1 = (y : Int))
def order : List Nat := (List.range x.years.toNat).flatMap (ofYear x)
/-- The loans of somebody, lent by a year, the oldest first. -/
def mine (who year : Int) : List Nat := (order x).filter fun i => decide (x.lo i 0 = who) && decide (x.lo i 1 ≤ year)
/-- So much is booked to the loans of a list, one after the other: what is booked then, and what is over. -/
def fill (A : Nat → Int) : List Nat → (Nat → Int) → Int → (Nat → Int) × Int
  | [], b, n => (b, n)
  | i :: l, b, n => fill A l (upd b i (b i + min n (A i - b i))) (n - min n (A i - b i))
/-- The parts that are told. -/
def parts (A : Nat → Int) : List Nat → (Nat → Int) → Int → List (Nat × Int)
  | [], _, _ => []
  | i :: l, b, n => (if min n (A i - b i) = 0 then [] else [(i, min n (A i - b i))]) ++ parts A l (upd b i (b i + min n (A i - b i))) (n - min n (A i - b i))
/-- What is booked by the first k payments that are made by a year. -/
def book (k : Nat) (b : Nat → Int) : (Nat → Int) × Int := fill (asked x) (mine x (x.pa k 0) (x.pa k 1)) b (x.pa k 2)
def untilTo (year : Int) : Nat → Nat → Int
  | 0 => fun _ => 0
  | k+1 => if x.pa k 1 ≤ year then (book x k (untilTo year k)).1 else untilTo year k
def booked (year : Int) : Nat → Int := untilTo x year x.pn
/-- What is left of the loans that count. -/
def leftL (year : Int) (q : Nat → Bool) (b : Nat → Int) : List Nat → Int
  | [] => 0
  | i :: l => (if q i && decide (x.lo i 1 ≤ year) then asked x i - b i else 0) + leftL year q b l
def owes (who year : Int) : Int := leftL x year (fun i => x.lo i 0 == who) (booked x year) (order x)
def overdue (who year : Int) : Int := leftL x year (fun i => (x.lo i 0 == who) && (decide (0 ≤ due x i) && decide (due x i ≤ year))) (booked x year) (order x)
end P
namespace R
variable (x : LD)
/-- The loan to which the next bushel is booked, among the first n. -/
def better (left : Nat → Int) (who year : Int) (best : Option Nat) (i : Nat) : Option Nat :=
  if x.lo i 0 ≠ who ∨ year < x.lo i 1 ∨ left i = 0 then best else match best with
    | none => some i
    | some b => if x.lo i 1 < x.lo b 1 then some i else some b
def oldestTo (left : Nat → Int) (who year : Int) : Nat → Option Nat
  | 0 => none
  | n+1 => better x left who year (oldestTo left who year n) n
def oldest (left : Nat → Int) (who year : Int) : Option Nat := oldestTo x left who year x.ln
/-- One bushel more: what is left then, what is booked to each loan, and what is over. -/
def bushel (who year : Int) (s : (Nat → Int) × (Nat → Int) × Int) : (Nat → Int) × (Nat → Int) × Int :=
  match oldest x s.1 who year with
  | none => (s.1, s.2.1, s.2.2 + 1)
  | some i => (upd s.1 i (s.1 i - 1), upd s.2.1 i (s.2.1 i + 1), s.2.2)
def bush (who year : Int) : Nat → (Nat → Int) → (Nat → Int) × (Nat → Int) × Int
  | 0, left => (left, fun _ => 0, 0)
  | n+1, left => bushel x who year (bush who year n left)
/-- What is left behind the first k payments, and what the next one is booked to. -/
def leftTo : Nat → Nat → Int
  | 0 => P.asked x
  | k+1 => (bush x (x.pa k 0) (x.pa k 1) (x.pa k 2).toNat (leftTo k)).1
def part (k i : Nat) : Int := (bush x (x.pa k 0) (x.pa k 1) (x.pa k 2).toNat (leftTo x k)).2.1 i
def over (k : Nat) : Int := (bush x (x.pa k 0) (x.pa k 1) (x.pa k 2).toNat (leftTo x k)).2.2
/-- What is left of a loan at the end of a year. -/
def left (i : Nat) (year : Int) : Int := if year < x.lo i 1 then 0 else P.asked x i - sumTo (fun k => if x.pa k 1 ≤ year then part x k i else 0) x.pn
def owes (who year : Int) : Int := sumTo (fun i => if x.lo i 0 = who then left x i year else 0) x.ln
def overdue (who year : Int) : Int := sumTo (fun i => if x.lo i 0 = who ∧ 0 ≤ P.due x i ∧ P.due x i ≤ year then left x i year else 0) x.ln
end R
end LoanSpec
