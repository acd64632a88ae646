/- What is left of a loan, when it is paid, and to which loans a payment is booked: plain law. The ledger is right. -/
import Derived.Test.YtbceepjjdfpfmaaGreatMath
namespace LoanSpec
open HandSpec
namespace P
variable (x : LD)
/-- What is left of a loan at the end of a year. -/
def left (i : Nat) (year : Int) : Int := leftL x year (fun j => j == i) (booked x year) (order x)
/-- What is booked at the end of a year is what is booked in the end. -/
def doneB (year : Int) : Bool := !anyTo (fun j => booked x year j != booked x (x.years - 1) j) 10
/-- The first of n years from y on in which a loan is paid; the search ends when nothing is booked any more. -/
def paidTo (i : Nat) (y : Int) : Nat → Option Int
  | 0 => none
  | n+1 => if booked x y i = asked x i then some y else if doneB x y then none else paidTo i (y + 1) n
def paid (i : Nat) : Option Int := paidTo x i (x.lo i 1) (x.years - x.lo i 1).toNat
/-- The parts of a payment, and what is over. -/
def partsOf (k : Nat) : List (Nat × Int) := parts (asked x) (mine x (x.pa k 0) (x.pa k 1)) (untilTo x x.years k) (x.pa k 2)
def overOf (k : Nat) : Int := (fill (asked x) (mine x (x.pa k 0) (x.pa k 1)) (untilTo x x.years k) (x.pa k 2)).2
end P
namespace R
variable (x : LD)
def paidTo (i : Nat) : Nat → Option Int
  | 0 => none
  | n+1 => if left x i (x.years - 1 - (n : Int)) = 0 then some (x.years - 1 - (n : Int)) else paidTo i n
def paid (i : Nat) : Option Int := paidTo x i (x.years - x.lo i 1).toNat
/-- The parts of a payment, the oldest loan first. -/
def partsOf (k : Nat) : List (Nat × Int) := (P.order x).flatMap fun i => if 0 < part x k i then [(i, part x k i)] else []
end R
namespace R
variable {x : LD}
theorem part_nonneg (hx : Ok x) {k : Nat} (hk : k < x.pn) {i : Nat} (hi : i < x.ln) : 0 ≤ part x k i := by
  rw [part_left hx hk]
  have ih := leftTo_nonneg hx k (by omega) i hi
  have hp := hx.psack k (by omega)
  have h := (bush_fill hx (fun j hj => (leftTo_nonneg hx k (by omega) j hj).1) (x.pa k 0) (x.pa k 1) (x.pa k 2).toNat).1
  have h2 := (P.fillL_nonneg (l := P.mine x (x.pa k 0) (x.pa k 1)) (f := leftTo x k) (n := ((x.pa k 2).toNat : Int)) (by omega)).1 i ih.1
  rw [← h] at h2
  have : (bush x (x.pa k 0) (x.pa k 1) (x.pa k 2).toNat (leftTo x k)).1 = leftTo x (k+1) := rfl
  rw [this] at h2
  omega
theorem bush_over (x : LD) (who year : Int) (left : Nat → Int) : ∀ n : Nat, 0 ≤ (bush x who year n left).2.2 ∧ (bush x who year n left).2.2 ≤ n
  | 0 => by show (0 : Int) ≤ 0 ∧ (0 : Int) ≤ 0; omega
  | n+1 => by
    have ih := bush_over x who year left n
    rw [show bush x who year (n+1) left = bushel x who year (bush x who year n left) from rfl]
    generalize bush x who year n left = s at ih ⊢
    unfold bushel
    cases oldest x s.1 who year with
    | none => show 0 ≤ s.2.2 + 1 ∧ s.2.2 + 1 ≤ ((n + 1 : Nat) : Int); omega
    | some i => show 0 ≤ s.2.2 ∧ s.2.2 ≤ ((n + 1 : Nat) : Int); omega
theorem bush_bd (hx : Ok x) {k : Nat} (hk : k < x.pn) (m : Nat) {i : Nat} (hi : i < x.ln) : (0 ≤ (bush x (x.pa k 0) (x.pa k 1) m (leftTo x k)).1 i ∧ (bush x (x.pa k 0) (x.pa k 1) m (leftTo x k)).1 i ≤ 550) ∧ 0 ≤ (bush x (x.pa k 0) (x.pa k 1) m (leftTo x k)).2.1 i ∧ (bush x (x.pa k 0) (x.pa k 1) m (leftTo x k)).2.1 i ≤ 550 := by
  have ih := leftTo_nonneg hx k (by omega) i hi
  have ha := asked_nonneg hx hi
  obtain ⟨h1, -, h3⟩ := bush_fill hx (fun j hj => (leftTo_nonneg hx k (by omega) j hj).1) (x.pa k 0) (x.pa k 1) m
  have h2 := (P.fillL_nonneg (l := P.mine x (x.pa k 0) (x.pa k 1)) (f := leftTo x k) (n := (m : Int)) (by omega)).1 i ih.1
  rw [← h1] at h2
  have := h3 i
  omega
theorem oldest_lt {x : LD} {f : Nat → Int} {who year : Int} {i : Nat} (h : oldest x f who year = some i) : i < x.ln := by
  have := oldestTo_spec (x := x) f who year x.ln
  unfold oldest at h
  rw [h] at this
  exact this.1.1
theorem sum_part (hx : Ok x) (i : Nat) : ∀ k, k ≤ x.pn → sumTo (fun q => part x q i) k = P.asked x i - leftTo x k i
  | 0, _ => by show (0 : Int) = P.asked x i - P.asked x i; omega
  | k+1, hk => by
    rw [sumTo_succ, sum_part hx i k (by omega), part_left hx (by omega)]
    omega
theorem until_left (hx : Ok x) {year : Int} {k : Nat} (hk : k ≤ x.pn) (h : ∀ q, q < k → x.pa q 1 ≤ year) : P.untilTo x year k = fun i => P.asked x i - leftTo x k i := by
  funext i
  rw [until_sum hx year k hk i, sumTo_congr (g := fun q => part x q i) fun q hq => if_pos (h q hq), sum_part hx i k hk]
theorem sumTo_mono {f g : Nat → Int} : ∀ k, (∀ i, i < k → f i ≤ g i) → sumTo f k ≤ sumTo g k
  | 0, _ => Int.le_refl _
  | k+1, h => by
    rw [sumTo_succ, sumTo_succ]
    have := sumTo_mono k fun i hi => h i (by omega)
    have := h k (by omega)
    omega
theorem booked_mono (hx : Ok x) {y z : Int} (h : y ≤ z) {i : Nat} (hi : i < x.ln) : P.booked x y i ≤ P.booked x z i := by
  unfold P.booked
  rw [until_sum hx y _ (Nat.le_refl _), until_sum hx z _ (Nat.le_refl _)]
  refine sumTo_mono _ fun q hq => ?_
  have := part_nonneg hx hq hi
  by_cases h1 : x.pa q 1 ≤ y
  · rw [if_pos h1, if_pos (by omega)]; omega
  · rw [if_neg h1]; split <;> omega
theorem paid_eq (hx : Ok x) {i : Nat} (hi : i < x.ln) : P.paid x i = paid x i := by
  have hy := hx.lyear i hi
  have hl : ∀ y, x.lo i 1 ≤ y → (left x i y = 0 ↔ P.booked x y i = P.asked x i) := fun y h => by
    rw [left_eq hx, if_neg (by omega)]; omega
  -- nothing is paid where nothing is booked any more
  have hno : ∀ y, x.lo i 1 ≤ y → P.doneB x y = true → P.booked x y i ≠ P.asked x i → ∀ z, y ≤ z → z ≤ x.years - 1 → left x i z ≠ 0 := by
    intro y h1 h2 h3 z h4 h5 h6
    rw [hl z (by omega)] at h6
    have a := booked_mono hx h4 hi
    have b := booked_mono hx h5 hi
    unfold P.doneB at h2
    rw [Bool.not_eq_true', anyTo_false] at h2
    have c := h2 i (by have := hx.ln; omega)
    simp at c
    omega
  have none_ : ∀ n : Nat, (∀ z, x.years - n ≤ z → z ≤ x.years - 1 → left x i z ≠ 0) → paidTo x i n = none := by
    intro n
    induction n with
    | zero => intro _; rfl
    | succ n ih =>
      intro h
      unfold paidTo
      rw [if_neg (h _ (by omega) (by omega)), ih fun z h1 h2 => h z (by omega) h2]
  have main : ∀ n : Nat, (n : Int) ≤ x.years - x.lo i 1 → P.paidTo x i (x.years - n) n = paidTo x i n := by
    intro n
    induction n with
    | zero => intro _; rfl
    | succ n ih =>
      intro hn
      unfold P.paidTo paidTo
      have e : x.years - ((n + 1 : Nat) : Int) = x.years - 1 - (n : Int) := by omega
      rw [e]
      have hb := hl (x.years - 1 - (n : Int)) (by omega)
      by_cases h1 : P.booked x (x.years - 1 - (n : Int)) i = P.asked x i
      · rw [if_pos h1, if_pos (hb.2 h1)]
      · rw [if_neg h1, if_neg fun h => h1 (hb.1 h)]
        cases hd : P.doneB x (x.years - 1 - (n : Int)) with
        | true =>
          rw [if_pos rfl, none_ n fun z h2 h3 => hno _ (by omega) hd h1 z (by omega) h3]
        | false =>
          rw [if_neg (by simp), show x.years - 1 - (n : Int) + 1 = x.years - n by omega]
          exact ih (by omega)
  unfold P.paid paid
  have := main (x.years - x.lo i 1).toNat (by omega)
  rw [show x.years - ((x.years - x.lo i 1).toNat : Int) = x.lo i 1 by omega] at this
  exact this
/-- The debts, as specified. -/
def owedTo (x : LD) : Nat → Nat → Nat → Int
  | 0, a, b => if 0 < a ∧ b = 0 then owes x (a : Int) (x.years - 1) else 0
  | k+1, a, b => owedTo x k a b + if x.pr k 0 = (a : Int) ∧ x.pr k 1 = (b : Int) then x.pr k 2 else 0
def owed (x : LD) : Nat → Nat → Int := owedTo x x.mn
end R
namespace P
variable {x : LD}
theorem left_eq (hx : Ok x) {i : Nat} (hi : i < x.ln) (year : Int) : left x i year = R.left x i year := by
  unfold left
  rw [leftL_sum, sumL_order hx, R.left_eq hx]
  have : ∀ n : Nat, sumTo (fun j => if (j == i) && decide (x.lo j 1 ≤ year) then asked x j - booked x year j else 0) n = if i < n then (if year < x.lo i 1 then 0 else asked x i - booked x year i) else 0 := by
    intro n
    induction n with
    | zero => rfl
    | succ n ih =>
      rw [sumTo_succ, ih]
      rcases Nat.lt_trichotomy i n with h | h | h
      · have e : (n == i) = false := beq_false_of_ne (by omega)
        rw [if_pos h, if_pos (show i < n + 1 by omega), e]
        simp
      · subst h
        rw [if_neg (Nat.lt_irrefl i), if_pos (Nat.lt_succ_self i)]
        by_cases h2 : x.lo i 1 ≤ year
        · have h3 : ¬ year < x.lo i 1 := by omega
          simp [h2, h3]
        · have h3 : year < x.lo i 1 := by omega
          simp [h2, h3]
      · have e : (n == i) = false := beq_false_of_ne (by omega)
        rw [if_neg (show ¬ i < n by omega), if_neg (show ¬ i < n + 1 by omega), e]
        simp
  rw [this, if_pos hi]
theorem fill_other (A : Nat → Int) {j : Nat} : ∀ {l : List Nat} {b : Nat → Int} {n : Int}, j ∉ l → (fill A l b n).1 j = b j
  | [], _, _, _ => rfl
  | i :: l, b, n, h => by
    rw [List.mem_cons, not_or] at h
    unfold fill
    rw [fill_other A h.2, upd_other _ _ h.1]
theorem flatMap_same {α β : Type} {f g : α → List β} : ∀ {l : List α}, (∀ k, k ∈ l → f k = g k) → l.flatMap f = l.flatMap g
  | [], _ => rfl
  | a :: l, h => by
    rw [List.flatMap_cons, List.flatMap_cons, h a (List.mem_cons_self ..), flatMap_same fun k hk => h k (List.mem_cons_of_mem _ hk)]
theorem parts_flat (A : Nat → Int) : ∀ (l : List Nat) (b : Nat → Int) (n : Int), l.Pairwise (· ≠ ·) →
    parts A l b n = l.flatMap fun i => if (fill A l b n).1 i - b i = 0 then [] else [(i, (fill A l b n).1 i - b i)]
  | [], _, _, _ => rfl
  | i :: l, b, n, h => by
    rw [List.pairwise_cons] at h
    have hi : i ∉ l := fun hm => h.1 i hm rfl
    unfold parts
    rw [parts_flat A l _ _ h.2, List.flatMap_cons]
    have e : (fill A (i :: l) b n).1 i - b i = min n (A i - b i) := by
      unfold fill
      rw [fill_other A hi, upd_same]; omega
    rw [e]
    congr 1
    refine flatMap_same fun k hk => ?_
    have hk' : k ≠ i := fun e => hi (by rw [← e]; exact hk)
    rw [upd_other _ _ hk']
    rfl
theorem partsOf_eq (hx : Ok x) {k : Nat} (hk : k < x.pn) : partsOf x k = R.partsOf x k := by
  have hb : untilTo x x.years k = fun i => asked x i - R.leftTo x k i := R.until_left hx (by omega) fun q hq => by have := hx.pyear q (by omega); omega
  have hp := hx.psack k hk
  have hf := (fill_eq (asked x) (mine x (x.pa k 0) (x.pa k 1)) (untilTo x x.years k) (x.pa k 2)).1
  have hl : (fun i => asked x i - untilTo x x.years k i) = R.leftTo x k := by funext i; rw [hb]; show asked x i - (asked x i - R.leftTo x k i) = _; omega
  rw [hl] at hf
  have h4 := (R.bush_fill hx (fun j hj => (R.leftTo_nonneg hx k (by omega) j hj).1) (x.pa k 0) (x.pa k 1) (x.pa k 2).toNat).1
  rw [show ((x.pa k 2).toNat : Int) = x.pa k 2 by omega, ← hf] at h4
  have hd : ∀ i, (fill (asked x) (mine x (x.pa k 0) (x.pa k 1)) (untilTo x x.years k) (x.pa k 2)).1 i - untilTo x x.years k i = R.part x k i := fun i => by
    rw [R.part_left hx hk]
    have h5 : R.leftTo x (k+1) i = asked x i - _ := congrFun h4 i
    rw [h5, hb]
    show _ - (asked x i - R.leftTo x k i) = R.leftTo x k i - (asked x i - _)
    omega
  unfold partsOf R.partsOf
  rw [parts_flat _ _ _ _ (mine_nodup _ _)]
  simp only [hd]
  have go : ∀ l : List Nat, (∀ i, i ∈ l → i < x.ln) → (l.filter fun i => decide (x.lo i 0 = x.pa k 0) && decide (x.lo i 1 ≤ x.pa k 1)).flatMap (fun i => if R.part x k i = 0 then [] else [(i, R.part x k i)]) = l.flatMap fun i => if 0 < R.part x k i then [(i, R.part x k i)] else [] := by
    intro l
    induction l with
    | nil => intro _; rfl
    | cons i l ih =>
      intro hl
      have ih := ih fun j hj => hl j (List.mem_cons_of_mem _ hj)
      have hi := hl i (List.mem_cons_self ..)
      have h0 := R.part_nonneg hx hk hi
      rw [List.filter_cons, List.flatMap_cons, ← ih]
      split
      · rw [List.flatMap_cons]
        congr 1
        by_cases h : R.part x k i = 0
        · rw [if_pos h, if_neg (by omega)]
        · rw [if_neg h, if_pos (by omega)]
      · next hn =>
        have : R.part x k i = 0 := by
          rw [← hd, fill_other, Int.sub_self]
          intro hm
          obtain ⟨-, h1, h2⟩ := (mem_mine hx).1 hm
          simp [h1, h2] at hn
        rw [if_neg (by omega)]; rfl
  exact go _ fun i hi => (mem_order hx).1 hi
theorem overOf_eq (hx : Ok x) {k : Nat} (hk : k < x.pn) : overOf x k = R.over x k := by
  have hb : untilTo x x.years k = fun i => asked x i - R.leftTo x k i := R.until_left hx (by omega) fun q hq => by have := hx.pyear q (by omega); omega
  have hp := hx.psack k hk
  have hf := (fill_eq (asked x) (mine x (x.pa k 0) (x.pa k 1)) (untilTo x x.years k) (x.pa k 2)).2
  have hl : (fun i => asked x i - untilTo x x.years k i) = R.leftTo x k := by funext i; rw [hb]; show asked x i - (asked x i - R.leftTo x k i) = _; omega
  rw [hl] at hf
  have h4 := (R.bush_fill hx (fun j hj => (R.leftTo_nonneg hx k (by omega) j hj).1) (x.pa k 0) (x.pa k 1) (x.pa k 2).toNat).2.1
  rw [show ((x.pa k 2).toNat : Int) = x.pa k 2 by omega, ← hf] at h4
  exact h4.symm
theorem fill_snoc (A : Nat → Int) (i : Nat) : ∀ (l : List Nat) (b : Nat → Int) (n : Int),
    fill A (l ++ [i]) b n = (upd (fill A l b n).1 i ((fill A l b n).1 i + min (fill A l b n).2 (A i - (fill A l b n).1 i)), (fill A l b n).2 - min (fill A l b n).2 (A i - (fill A l b n).1 i))
  | [], _, _ => rfl
  | _ :: l, _, _ => fill_snoc A i l _ _
theorem parts_snoc (A : Nat → Int) (i : Nat) : ∀ (l : List Nat) (b : Nat → Int) (n : Int),
    parts A (l ++ [i]) b n = parts A l b n ++ if min (fill A l b n).2 (A i - (fill A l b n).1 i) = 0 then [] else [(i, min (fill A l b n).2 (A i - (fill A l b n).1 i))]
  | [], b, n => by
    show (if min n (A i - b i) = 0 then [] else [(i, min n (A i - b i))]) ++ [] = [] ++ _
    rw [List.append_nil, List.nil_append]
    rfl
  | k :: l, b, n => by
    have ih := parts_snoc A i l (upd b k (b k + min n (A k - b k))) (n - min n (A k - b k))
    show (if min n (A k - b k) = 0 then [] else [(k, min n (A k - b k))]) ++ parts A (l ++ [i]) _ _ = ((if min n (A k - b k) = 0 then [] else [(k, min n (A k - b k))]) ++ parts A l _ _) ++ _
    rw [ih, List.append_assoc]
    rfl
theorem fill_step {A : Nat → Int} {i : Nat} {l : List Nat} {b : Nat → Int} {n : Int} {s : Nat → Int} {t z a m : Int} (h : fill A l b n = (s, t)) (hz : s i = z) (ha : A i = a) (hm : min t (a - z) = m) :
    fill A (l ++ [i]) b n = (upd s i (z + m), t - m) ∧ parts A (l ++ [i]) b n = parts A l b n ++ if m = 0 then [] else [(i, m)] := by
  subst hm ha hz
  rw [fill_snoc, parts_snoc, h]
  exact ⟨rfl, rfl⟩
theorem parts_len (A : Nat → Int) : ∀ (l : List Nat) (b : Nat → Int) (n : Int), (parts A l b n).length ≤ l.length
  | [], _, _ => Nat.le_refl _
  | i :: l, b, n => by
    unfold parts
    rw [List.length_append]
    have := parts_len A l (upd b i (b i + min n (A i - b i))) (n - min n (A i - b i))
    split <;> simp <;> omega
theorem fill_bd {A : Nat → Int} {m : Nat} (hA : ∀ i, i < m → 0 ≤ A i) : ∀ (l : List Nat) (b : Nat → Int) (n : Int), 0 ≤ n → (∀ i, i < m → 0 ≤ b i ∧ b i ≤ A i) → (∀ i, i ∈ l → i < m) →
    (∀ i, i < m → 0 ≤ (fill A l b n).1 i ∧ (fill A l b n).1 i ≤ A i) ∧ 0 ≤ (fill A l b n).2 ∧ (fill A l b n).2 ≤ n
  | [], b, n, hn, hb, _ => ⟨hb, hn, Int.le_refl _⟩
  | k :: l, b, n, hn, hb, hl => by
    have hk := hb k (hl k (List.mem_cons_self ..))
    have ih := fill_bd hA l (upd b k (b k + min n (A k - b k))) (n - min n (A k - b k)) (by omega) (fun i hi => by
      by_cases e : i = k
      · subst e; rw [upd_same]; omega
      · rw [upd_other _ _ e]; exact hb i hi) fun i hi => hl i (List.mem_cons_of_mem _ hi)
    show (∀ i, i < m → 0 ≤ (fill A l _ _).1 i ∧ _) ∧ 0 ≤ (fill A l _ _).2 ∧ (fill A l _ _).2 ≤ n
    exact ⟨ih.1, ih.2.1, by omega⟩
theorem mine_lt (hx : Ok x) {who year : Int} {i : Nat} (h : i ∈ mine x who year) : i < x.ln := ((mem_mine hx).1 h).1
theorem until_bd (hx : Ok x) (year : Int) : ∀ k, k ≤ x.pn → ∀ i, i < x.ln → 0 ≤ untilTo x year k i ∧ untilTo x year k i ≤ asked x i
  | 0, _, i, hi => ⟨Int.le_refl _, (R.asked_nonneg hx hi).1⟩
  | k+1, hk, i, hi => by
    have ih := until_bd hx year k (by omega)
    unfold untilTo
    split
    · exact (fill_bd (A := asked x) (m := x.ln) (fun i hi => (R.asked_nonneg hx hi).1) _ _ _ (by have := hx.psack k (by omega); omega) ih fun i h => mine_lt hx h).1 i hi
    · exact ih i hi
/-- What is left of one loan. -/
def one (x : LD) (year : Int) (b : Nat → Int) (i : Nat) : Int := if x.lo i 1 ≤ year then asked x i - b i else 0
theorem leftL_filter (year : Int) (q : Nat → Bool) (b : Nat → Int) : ∀ l, leftL x year q b l = sumL (one x year b) (l.filter q)
  | [] => rfl
  | i :: l => by
    rw [show leftL x year q b (i :: l) = (if q i && decide (x.lo i 1 ≤ year) then asked x i - b i else 0) + leftL x year q b l from rfl, leftL_filter year q b l, List.filter_cons]
    cases hq : q i
    · simp
    · simp only [Bool.true_and, decide_eq_true_eq, if_true]; rfl
theorem sumL_bd {f : Nat → Int} {B : Int} : ∀ {l : List Nat}, (∀ i, i ∈ l → 0 ≤ f i ∧ f i ≤ B) → 0 ≤ sumL f l ∧ sumL f l ≤ B * l.length
  | [], _ => by simp [sumL]
  | i :: l, h => by
    have ih := sumL_bd (l := l) fun k hk => h k (List.mem_cons_of_mem _ hk)
    have h0 := h i (List.mem_cons_self ..)
    rw [show sumL f (i :: l) = f i + sumL f l from rfl, List.length_cons, Int.natCast_add, Int.mul_add]
    constructor <;> omega
theorem one_bd (hx : Ok x) {year : Int} {b : Nat → Int} {i : Nat} (hi : i < x.ln) (hb : 0 ≤ b i ∧ b i ≤ asked x i) : 0 ≤ one x year b i ∧ one x year b i ≤ 550 := by
  have := R.asked_nonneg hx hi
  unfold one
  split <;> omega
theorem orderTo_len : ∀ n, (orderTo x n).length ≤ n * x.ln
  | 0 => by simp [orderTo]
  | n+1 => by
    rw [orderTo_succ, List.length_append, Nat.succ_mul]
    have := orderTo_len n
    have h : (ofYear x n).length ≤ x.ln := Nat.le_trans (List.length_filter_le _ _) (by simp)
    omega
theorem owes_bd (hx : Ok x) (who year : Int) : 0 ≤ owes x who year ∧ owes x who year ≤ 49500 := by
  unfold owes
  rw [leftL_filter]
  have h := sumL_bd (f := one x year (booked x year)) (B := 550) (l := (order x).filter fun i => x.lo i 0 == who) fun i hi => by
    have hi := (mem_order hx).1 (List.mem_filter.1 hi).1
    exact one_bd hx hi (until_bd hx year _ (Nat.le_refl _) i hi)
  have hl : ((order x).filter fun i => x.lo i 0 == who).length ≤ 90 := by
    refine Nat.le_trans (List.length_filter_le _ _) ?_
    have h1 := orderTo_len (x := x) x.years.toNat
    have h2 : x.years.toNat * x.ln ≤ 9 * 10 := Nat.mul_le_mul (by have := hx.years; omega) hx.ln
    exact Nat.le_trans h1 h2
  omega
/-- The debts, behind the first k promises. -/
def owedTo (x : LD) : Nat → Nat → Nat → Int
  | 0, a, b => if 0 < a ∧ b = 0 then owes x (a : Int) (x.years - 1) else 0
  | k+1, a, b => owedTo x k a b + if x.pr k 0 = (a : Int) ∧ x.pr k 1 = (b : Int) then x.pr k 2 else 0
def owed (x : LD) : Nat → Nat → Int := owedTo x x.mn
theorem owedTo_bd (hx : Ok x) : ∀ k, k ≤ x.mn → ∀ a b, 0 ≤ owedTo x k a b ∧ owedTo x k a b ≤ 49500 + 500 * k
  | 0, _, a, b => by
    have := owes_bd hx (a : Int) (x.years - 1)
    unfold owedTo
    split <;> omega
  | k+1, hk, a, b => by
    have ih := owedTo_bd hx k (by omega) a b
    have := hx.msack k (by omega)
    unfold owedTo
    split <;> omega
theorem owedTo_eq (hx : Ok x) (a b : Nat) : ∀ k, owedTo x k a b = R.owedTo x k a b
  | 0 => by unfold owedTo R.owedTo; rw [owes_eq hx]
  | k+1 => by unfold owedTo R.owedTo; rw [owedTo_eq hx a b k]
end P
end LoanSpec
