/- A payment booked at once is booked as bushel by bushel; what is owed is as specified: plain law. The ledger is right. -/
import Derived.Test.YtbceepjjdfpfmaaGreatSpec
namespace LoanSpec
open HandSpec
/-- One loan is asked back ahead of another one. -/
def Before (x : LD) (i j : Nat) : Prop := x.lo i 1 < x.lo j 1 ∨ (x.lo i 1 = x.lo j 1 ∧ i < j)
namespace P
variable {x : LD}
theorem mem_ofYear {y i : Nat} : i ∈ ofYear x y ↔ i < x.ln ∧ x.lo i 1 = (y : Int) := by
  unfold ofYear
  rw [List.mem_filter, List.mem_range, decide_eq_true_iff]
/-- The loans of the first years, the oldest first. -/
def orderTo (x : LD) (n : Nat) : List Nat := (List.range n).flatMap (ofYear x)
theorem orderTo_succ (n : Nat) : orderTo x (n+1) = orderTo x n ++ ofYear x n := by
  unfold orderTo
  rw [List.range_succ, List.flatMap_append]
  simp
theorem mem_orderTo {i : Nat} : ∀ {n : Nat}, i ∈ orderTo x n ↔ i < x.ln ∧ 0 ≤ x.lo i 1 ∧ x.lo i 1 < (n : Int)
  | 0 => by
    simp only [orderTo, List.range_zero, List.flatMap_nil, List.not_mem_nil, false_iff]
    omega
  | n+1 => by
    rw [orderTo_succ, List.mem_append, mem_orderTo (n := n), mem_ofYear]
    constructor
    · rintro (⟨h1, h2, h3⟩ | ⟨h1, h2⟩)
      · exact ⟨h1, h2, by omega⟩
      · exact ⟨h1, by omega, by omega⟩
    · rintro ⟨h1, h2, h3⟩
      rcases Int.lt_or_eq_of_le (show x.lo i 1 ≤ (n : Int) by omega) with h | h
      · exact .inl ⟨h1, h2, h⟩
      · exact .inr ⟨h1, h⟩
theorem orderTo_sorted : ∀ n, (orderTo x n).Pairwise (Before x)
  | 0 => by simp [orderTo]
  | n+1 => by
    rw [orderTo_succ, List.pairwise_append]
    refine ⟨orderTo_sorted n, ?_, fun a ha b hb => ?_⟩
    · unfold ofYear
      have h : (List.range x.ln).Pairwise (· < ·) := List.pairwise_lt_range
      refine List.Pairwise.imp_of_mem (fun {a b} ha hb hab => ?_) (h.filter _)
      rw [List.mem_filter, decide_eq_true_iff] at ha hb
      exact .inr ⟨by rw [ha.2, hb.2], hab⟩
    · have h1 := (mem_orderTo.1 ha).2.2
      have h2 := (mem_ofYear.1 hb).2
      exact .inl (by omega)
theorem mem_order (hx : Ok x) {i : Nat} : i ∈ order x ↔ i < x.ln := by
  show i ∈ orderTo x x.years.toNat ↔ _
  rw [mem_orderTo]
  refine ⟨fun h => h.1, fun h => ⟨h, ?_⟩⟩
  have := hx.lyear i h
  omega
theorem mem_mine (hx : Ok x) {who year : Int} {i : Nat} : i ∈ mine x who year ↔ i < x.ln ∧ x.lo i 0 = who ∧ x.lo i 1 ≤ year := by
  unfold mine
  rw [List.mem_filter, mem_order hx]
  simp
theorem mine_sorted (who year : Int) : (mine x who year).Pairwise (Before x) := (orderTo_sorted (x := x) x.years.toNat).filter _
theorem before_irrefl {i : Nat} : ¬ Before x i i := fun h => by unfold Before at h; omega
theorem before_asymm {i j : Nat} (h : Before x i j) : ¬ Before x j i := fun k => by unfold Before at h k; omega
theorem mine_nodup (who year : Int) : (mine x who year).Pairwise (· ≠ ·) := (mine_sorted (x := x) who year).imp fun {a b} h e => by subst e; exact before_irrefl h
/-- The first one of a sorted list that is wanted. -/
theorem find_first {p : Nat → Bool} : ∀ {l : List Nat}, l.Pairwise (Before x) → ∀ {b : Nat}, b ∈ l → p b = true → (∀ c, c ∈ l → p c = true → c = b ∨ Before x b c) → l.find? p = some b
  | [], _, b, h, _, _ => by cases h
  | i :: l, hs, b, h, hb, hf => by
    rw [List.pairwise_cons] at hs
    rw [List.find?_cons]
    cases hp : p i with
    | true =>
      rcases hf i (List.mem_cons_self ..) hp with e | e
      · rw [e]
      · rcases List.mem_cons.1 h with e2 | e2
        · rw [e2]
        · exact absurd e (before_asymm (hs.1 b e2))
    | false =>
      rcases List.mem_cons.1 h with e2 | e2
      · rw [e2, hp] at hb; cases hb
      · exact find_first hs.2 e2 hb fun c hc => hf c (List.mem_cons_of_mem _ hc)
/-- What is left behind some bushels. -/
def fillL : List Nat → (Nat → Int) → Int → (Nat → Int) × Int
  | [], f, n => (f, n)
  | i :: l, f, n => fillL l (upd f i (f i - min n (f i))) (n - min n (f i))
theorem fill_eq (A : Nat → Int) : ∀ (l : List Nat) (b : Nat → Int) (n : Int), (fun i => A i - (fill A l b n).1 i) = (fillL l (fun i => A i - b i) n).1 ∧ (fill A l b n).2 = (fillL l (fun i => A i - b i) n).2
  | [], _, _ => ⟨rfl, rfl⟩
  | i :: l, b, n => by
    have h := fill_eq A l (upd b i (b i + min n (A i - b i))) (n - min n (A i - b i))
    have e : (fun k => A k - upd b i (b i + min n (A i - b i)) k) = upd (fun k => A k - b k) i (A i - b i - min n (A i - b i)) := by
      funext k
      unfold upd
      split
      · next h => subst h; omega
      · rfl
    rw [e] at h
    exact h
theorem fillL_other {j : Nat} : ∀ {l : List Nat} {f : Nat → Int} {n : Int}, j ∉ l → (fillL l f n).1 j = f j
  | [], _, _, _ => rfl
  | i :: l, f, n, h => by
    rw [List.mem_cons, not_or] at h
    unfold fillL
    rw [fillL_other h.2, upd_other _ _ h.1]
theorem fillL_zero : ∀ {l : List Nat} {f : Nat → Int}, (∀ i, i ∈ l → 0 ≤ f i) → fillL l f 0 = (f, 0)
  | [], _, _ => rfl
  | i :: l, f, h => by
    have h0 := h i (List.mem_cons_self ..)
    unfold fillL
    rw [show min 0 (f i) = 0 by omega, Int.sub_zero, Int.sub_zero]
    have e : upd f i (f i) = f := by funext k; unfold upd; split <;> simp_all
    rw [e]
    exact fillL_zero fun k hk => h k (List.mem_cons_of_mem _ hk)
theorem fillL_nonneg : ∀ {l : List Nat} {f : Nat → Int} {n : Int}, 0 ≤ n → (∀ i, 0 ≤ f i → 0 ≤ (fillL l f n).1 i ∧ (fillL l f n).1 i ≤ f i) ∧ 0 ≤ (fillL l f n).2
  | [], f, n, hn => ⟨fun i h => ⟨h, Int.le_refl _⟩, hn⟩
  | i :: l, f, n, hn => by
    unfold fillL
    have ih := fillL_nonneg (l := l) (f := upd f i (f i - min n (f i))) (n := n - min n (f i)) (by omega)
    refine ⟨fun k hk => ?_, ih.2⟩
    have h1 := ih.1 k
    by_cases e : k = i
    · subst e
      rw [upd_same] at h1
      have := h1 (by omega)
      omega
    · rw [upd_other _ _ e] at h1
      exact h1 hk
/-- One bushel more goes to the first loan of which something is left. -/
theorem fillL_succ : ∀ {l : List Nat} {f : Nat → Int} {n : Int}, (∀ i, i ∈ l → 0 ≤ f i) → 0 ≤ n → l.Pairwise (· ≠ ·) →
    fillL l f (n + 1) = match l.find? fun i => decide ((fillL l f n).1 i ≠ 0) with
      | none => ((fillL l f n).1, (fillL l f n).2 + 1)
      | some i => (upd (fillL l f n).1 i ((fillL l f n).1 i - 1), (fillL l f n).2)
  | [], _, _, _, _, _ => rfl
  | i :: l, f, n, h, hn, hd => by
    rw [List.pairwise_cons] at hd
    have hi : i ∉ l := fun hm => hd.1 i hm rfl
    have h0 := h i (List.mem_cons_self ..)
    have hl : ∀ v, ∀ k, k ∈ l → 0 ≤ upd f i v k := fun v k hk => by
      rw [upd_other _ _ fun e => hi (by rw [← e]; exact hk)]
      exact h k (List.mem_cons_of_mem _ hk)
    rcases Int.lt_or_le n (f i) with hlt | hge
    · have e1 : min n (f i) = n := by omega
      have e2 : min (n + 1) (f i) = n + 1 := by omega
      have z1 : fillL (i :: l) f n = (upd f i (f i - n), 0) := by
        unfold fillL
        rw [e1, Int.sub_self]
        exact fillL_zero (hl _)
      have z2 : fillL (i :: l) f (n + 1) = (upd f i (f i - (n + 1)), 0) := by
        unfold fillL
        rw [e2, Int.sub_self]
        exact fillL_zero (hl _)
      rw [z1, z2]
      have hp : decide (upd f i (f i - n) i ≠ 0) = true := by rw [upd_same]; exact decide_eq_true (by omega)
      simp only [List.find?_cons, hp]
      rw [upd_same]
      congr 1
      funext k
      unfold upd
      split <;> omega
    · have e1 : min n (f i) = f i := by omega
      have e2 : min (n + 1) (f i) = f i := by omega
      have ih := fillL_succ (l := l) (f := upd f i (f i - f i)) (n := n - f i) (hl _) (by omega) hd.2
      have z1 : fillL (i :: l) f n = fillL l (upd f i (f i - f i)) (n - f i) := by
        rw [show fillL (i :: l) f n = fillL l (upd f i (f i - min n (f i))) (n - min n (f i)) from rfl, e1]
      have z2 : fillL (i :: l) f (n + 1) = fillL l (upd f i (f i - f i)) (n - f i + 1) := by
        rw [show fillL (i :: l) f (n + 1) = fillL l (upd f i (f i - min (n + 1) (f i))) (n + 1 - min (n + 1) (f i)) from rfl, e2, show n + 1 - f i = n - f i + 1 by omega]
      have hz : (fillL l (upd f i (f i - f i)) (n - f i)).1 i = 0 := by rw [fillL_other hi, upd_same]; omega
      rw [z1, z2, ih]
      have hp : decide ((fillL l (upd f i (f i - f i)) (n - f i)).1 i ≠ 0) = false := by rw [hz]; rfl
      simp only [List.find?_cons, hp]
end P
namespace R
open P
variable {x : LD}
/-- What the search for the oldest loan has found. -/
theorem oldestTo_spec (left : Nat → Int) (who year : Int) : ∀ n,
    match oldestTo x left who year n with
    | none => ∀ c, c < n → x.lo c 0 = who → x.lo c 1 ≤ year → left c = 0
    | some b => (b < n ∧ x.lo b 0 = who ∧ x.lo b 1 ≤ year ∧ left b ≠ 0) ∧ ∀ c, c < n → x.lo c 0 = who → x.lo c 1 ≤ year → left c ≠ 0 → c = b ∨ Before x b c
  | 0 => fun c hc => absurd hc (by omega)
  | n+1 => by
    have ih := oldestTo_spec left who year n
    unfold oldestTo better
    by_cases hno : x.lo n 0 ≠ who ∨ year < x.lo n 1 ∨ left n = 0
    · rw [if_pos hno]
      cases ho : oldestTo x left who year n with
      | none =>
        rw [ho] at ih
        intro c hc h1 h2
        rcases Nat.lt_or_eq_of_le (Nat.le_of_lt_succ hc) with h | h
        · exact ih c h h1 h2
        · subst h; omega
      | some b =>
        rw [ho] at ih
        refine ⟨⟨by omega, ih.1.2⟩, fun c hc h1 h2 h3 => ?_⟩
        rcases Nat.lt_or_eq_of_le (Nat.le_of_lt_succ hc) with h | h
        · exact ih.2 c h h1 h2 h3
        · subst h; omega
    · rw [if_neg hno]
      have hn : x.lo n 0 = who ∧ x.lo n 1 ≤ year ∧ left n ≠ 0 := by omega
      cases ho : oldestTo x left who year n with
      | none =>
        rw [ho] at ih
        refine ⟨⟨by omega, hn⟩, fun c hc h1 h2 h3 => ?_⟩
        rcases Nat.lt_or_eq_of_le (Nat.le_of_lt_succ hc) with h | h
        · exact absurd (ih c h h1 h2) h3
        · exact .inl h
      | some b =>
        rw [ho] at ih
        by_cases hb : x.lo n 1 < x.lo b 1
        · simp only [hb, if_true]
          refine ⟨⟨by omega, hn⟩, fun c hc h1 h2 h3 => ?_⟩
          rcases Nat.lt_or_eq_of_le (Nat.le_of_lt_succ hc) with h | h
          · right
            rcases ih.2 c h h1 h2 h3 with e | e
            · subst e; exact .inl hb
            · unfold Before at e ⊢; omega
          · exact .inl h
        · simp only [hb, if_false]
          refine ⟨⟨by omega, ih.1.2⟩, fun c hc h1 h2 h3 => ?_⟩
          rcases Nat.lt_or_eq_of_le (Nat.le_of_lt_succ hc) with h | h
          · exact ih.2 c h h1 h2 h3
          · subst h
            right
            unfold Before
            omega
theorem oldest_find (hx : Ok x) (left : Nat → Int) (who year : Int) : oldest x left who year = (mine x who year).find? fun i => decide (left i ≠ 0) := by
  have h := oldestTo_spec (x := x) left who year x.ln
  unfold oldest
  cases ho : oldestTo x left who year x.ln with
  | none =>
    rw [ho] at h
    symm
    rw [List.find?_eq_none]
    intro c hc
    obtain ⟨h1, h2, h3⟩ := (mem_mine hx).1 hc
    rw [h c h1 h2 h3]
    simp
  | some b =>
    rw [ho] at h
    obtain ⟨⟨h1, h2, h3, h4⟩, h5⟩ := h
    symm
    refine P.find_first (mine_sorted who year) ((mem_mine hx).2 ⟨h1, h2, h3⟩) (decide_eq_true h4) fun c hc hp => ?_
    obtain ⟨c1, c2, c3⟩ := (mem_mine hx).1 hc
    exact h5 c c1 c2 c3 (of_decide_eq_true hp)
/-- Bushel by bushel is at once. -/
theorem bush_fill (hx : Ok x) {left : Nat → Int} (hl : ∀ i, i < x.ln → 0 ≤ left i) (who year : Int) : ∀ n : Nat, (bush x who year n left).1 = (fillL (mine x who year) left (n : Int)).1 ∧ (bush x who year n left).2.2 = (fillL (mine x who year) left (n : Int)).2 ∧ ∀ i, (bush x who year n left).2.1 i = left i - (bush x who year n left).1 i
  | 0 => by
    show left = (fillL _ left 0).1 ∧ (0 : Int) = (fillL _ left 0).2 ∧ ∀ i, (0 : Int) = left i - left i
    rw [fillL_zero fun i hi => hl i ((mem_mine hx).1 hi).1]
    exact ⟨rfl, rfl, fun i => by omega⟩
  | n+1 => by
    obtain ⟨h1, h2, h3⟩ := bush_fill hx hl who year n
    have hs := fillL_succ (l := mine x who year) (f := left) (n := (n : Int)) (fun i hi => hl i ((mem_mine hx).1 hi).1) (by omega) (mine_nodup who year)
    rw [← h1, ← oldest_find hx, ← h2] at hs
    rw [show ((n + 1 : Nat) : Int) = (n : Int) + 1 by omega, hs]
    rw [show bush x who year (n+1) left = bushel x who year (bush x who year n left) from rfl]
    generalize bush x who year n left = s at h3 ⊢
    unfold bushel
    cases ho : oldest x s.1 who year with
    | none => exact ⟨rfl, rfl, h3⟩
    | some i =>
      refine ⟨rfl, rfl, fun k => ?_⟩
      show upd s.2.1 i (s.2.1 i + 1) k = left k - upd s.1 i (s.1 i - 1) k
      unfold upd
      split
      · next e => subst e; have := h3 k; omega
      · exact h3 k
theorem asked_nonneg (hx : Ok x) {i : Nat} (hi : i < x.ln) : 0 ≤ P.asked x i ∧ P.asked x i ≤ 550 := by
  have := hx.lsack i hi
  unfold P.asked
  split <;> omega
theorem leftTo_nonneg (hx : Ok x) : ∀ k, k ≤ x.pn → ∀ i, i < x.ln → 0 ≤ leftTo x k i ∧ leftTo x k i ≤ P.asked x i
  | 0, _, i, hi => ⟨(asked_nonneg hx hi).1, Int.le_refl _⟩
  | k+1, hk, i, hi => by
    have ih := leftTo_nonneg hx k (by omega)
    have hp := hx.psack k (by omega)
    show 0 ≤ (bush x (x.pa k 0) (x.pa k 1) (x.pa k 2).toNat (leftTo x k)).1 i ∧ _ ≤ _
    have h := (bush_fill hx (fun j hj => (ih j hj).1) (x.pa k 0) (x.pa k 1) (x.pa k 2).toNat).1
    rw [show leftTo x (k+1) = (bush x (x.pa k 0) (x.pa k 1) (x.pa k 2).toNat (leftTo x k)).1 from rfl, h]
    have h2 := (fillL_nonneg (l := mine x (x.pa k 0) (x.pa k 1)) (f := leftTo x k) (n := ((x.pa k 2).toNat : Int)) (by omega)).1 i (ih i hi).1
    have h3 := (ih i hi).2
    omega
theorem part_left (hx : Ok x) {k : Nat} (hk : k < x.pn) (i : Nat) : part x k i = leftTo x k i - leftTo x (k+1) i :=
  (bush_fill hx (fun j hj => (leftTo_nonneg hx k (by omega) j hj).1) (x.pa k 0) (x.pa k 1) (x.pa k 2).toNat).2.2 i
theorem pyear_mono (hx : Ok x) {j k : Nat} (hjk : j ≤ k) (hk : k < x.pn) : x.pa j 1 ≤ x.pa k 1 := by
  obtain ⟨d, rfl⟩ : ∃ d, k = j + d := ⟨k - j, by omega⟩
  clear hjk
  induction d with
  | zero => exact Int.le_refl _
  | succ d ih =>
    have h1 := ih (by omega)
    have h2 := hx.pinc (j + d) (by omega)
    rw [← Nat.add_assoc]
    omega
/-- What is booked until a year is what all payments until then are booked to. -/
theorem until_sum (hx : Ok x) (year : Int) : ∀ k, k ≤ x.pn → ∀ i, P.untilTo x year k i = sumTo (fun q => if x.pa q 1 ≤ year then part x q i else 0) k
  | 0, _, _ => rfl
  | k+1, hk, i => by
    have ih := until_sum hx year k (by omega)
    unfold P.untilTo
    by_cases hy : x.pa k 1 ≤ year
    · rw [if_pos hy]
      have all : ∀ j, j ≤ k → ∀ i, sumTo (fun q => if x.pa q 1 ≤ year then part x q i else 0) j = P.asked x i - leftTo x j i := by
        intro j
        induction j with
        | zero => intro _ i; show (0 : Int) = P.asked x i - P.asked x i; omega
        | succ j ihj =>
          intro hj i
          have h1 := ihj (by omega) i
          have h2 := part_left hx (show j < x.pn by omega) i
          have h3 := pyear_mono hx (show j ≤ k by omega) (by omega)
          unfold sumTo
          rw [h1, if_pos (by omega), h2]
          omega
      have hb : P.untilTo x year k = fun i => P.asked x i - leftTo x k i := by
        funext i
        rw [ih i, all k (Nat.le_refl _) i]
      have hf := (fill_eq (P.asked x) (mine x (x.pa k 0) (x.pa k 1)) (P.untilTo x year k) (x.pa k 2)).1
      have hl : (fun i => P.asked x i - P.untilTo x year k i) = leftTo x k := by
        funext i
        rw [hb]
        show P.asked x i - (P.asked x i - leftTo x k i) = _
        omega
      rw [hl] at hf
      have hp := hx.psack k (by omega)
      have h4 := (bush_fill hx (fun j hj => (leftTo_nonneg hx k (by omega) j hj).1) (x.pa k 0) (x.pa k 1) (x.pa k 2).toNat).1
      rw [show ((x.pa k 2).toNat : Int) = x.pa k 2 by omega, ← hf] at h4
      have h5 := congrFun h4 i
      have h6 : leftTo x (k+1) i = P.asked x i - (P.book x k (P.untilTo x year k)).1 i := h5
      have h7 := all k (Nat.le_refl _) i
      have h8 := part_left hx (show k < x.pn by omega) i
      unfold sumTo
      rw [h7, if_pos hy, h8]
      omega
    · rw [if_neg hy, ih i]
      rw [sumTo_succ, if_neg hy]
      omega
theorem left_eq (hx : Ok x) (i : Nat) (year : Int) : left x i year = if year < x.lo i 1 then 0 else P.asked x i - P.booked x year i := by
  unfold left P.booked
  rw [until_sum hx year x.pn (Nat.le_refl _) i]
end R
namespace P
variable {x : LD}
/-- A sum over the loans, the oldest first, is one over all loans. -/
def sumL (f : Nat → Int) : List Nat → Int
  | [] => 0
  | i :: l => f i + sumL f l
theorem sumL_append (f : Nat → Int) : ∀ a b, sumL f (a ++ b) = sumL f a + sumL f b
  | [], b => by simp [sumL]
  | i :: a, b => by
    show f i + sumL f (a ++ b) = f i + sumL f a + sumL f b
    rw [sumL_append f a b]; omega
theorem sumL_filter (f : Nat → Int) (p : Nat → Bool) : ∀ n, sumL f ((List.range n).filter p) = sumTo (fun i => if p i then f i else 0) n
  | 0 => rfl
  | n+1 => by
    rw [List.range_succ, List.filter_append, sumL_append, sumL_filter f p n]
    rw [sumTo_succ]
    cases hp : p n <;> simp [sumL, hp]
theorem sumL_orderTo (hx : Ok x) (f : Nat → Int) : ∀ n, sumL f (orderTo x n) = sumTo (fun i => if x.lo i 1 < (n : Int) then f i else 0) x.ln
  | 0 => by
    show (0 : Int) = _
    rw [sumTo_congr (g := fun _ => 0) fun i hi => if_neg (by have := hx.lyear i hi; omega), sumTo_zero]
  | n+1 => by
    rw [orderTo_succ, sumL_append, sumL_orderTo hx f n]
    unfold ofYear
    rw [sumL_filter, ← sumTo_add]
    refine sumTo_congr fun i hi => ?_
    by_cases h1 : x.lo i 1 < (n : Int)
    · rw [if_pos h1, if_neg (by rw [decide_eq_true_iff]; omega), if_pos (by omega)]; omega
    · by_cases h2 : x.lo i 1 = (n : Int)
      · rw [if_neg h1, if_pos (decide_eq_true h2), if_pos (by omega)]; omega
      · rw [if_neg h1, if_neg (by rw [decide_eq_true_iff]; exact h2), if_neg (by omega)]; omega
theorem sumL_order (hx : Ok x) (f : Nat → Int) : sumL f (order x) = sumTo f x.ln := by
  show sumL f (orderTo x x.years.toNat) = _
  rw [sumL_orderTo hx]
  exact sumTo_congr fun i hi => if_pos (by have := hx.lyear i hi; omega)
theorem leftL_sum (year : Int) (q : Nat → Bool) (b : Nat → Int) : ∀ l, leftL x year q b l = sumL (fun i => if q i && decide (x.lo i 1 ≤ year) then asked x i - b i else 0) l
  | [] => rfl
  | i :: l => by
    show _ + leftL x year q b l = _ + sumL _ l
    rw [leftL_sum year q b l]
/-- What somebody owes is as specified. -/
theorem owes_eq (hx : Ok x) (who year : Int) : owes x who year = R.owes x who year := by
  unfold owes R.owes
  rw [leftL_sum, sumL_order hx]
  refine sumTo_congr fun i _ => ?_
  rw [R.left_eq hx]
  by_cases h1 : x.lo i 0 = who <;> by_cases h2 : x.lo i 1 ≤ year
  · rw [if_pos (by simp [h1, h2]), if_pos h1, if_neg (by omega)]
  · rw [if_neg (by simp [h2]), if_pos h1, if_pos (by omega)]
  · rw [if_neg (by simp [h1]), if_neg h1]
  · rw [if_neg (by simp [h1]), if_neg h1]
theorem overdue_eq (hx : Ok x) (who year : Int) : overdue x who year = R.overdue x who year := by
  unfold overdue R.overdue
  rw [leftL_sum, sumL_order hx]
  refine sumTo_congr fun i _ => ?_
  rw [R.left_eq hx]
  by_cases h1 : x.lo i 0 = who ∧ 0 ≤ due x i ∧ due x i ≤ year <;> by_cases h2 : x.lo i 1 ≤ year
  · rw [if_pos (by simp [h1, h2]), if_pos h1, if_neg (by omega)]
  · rw [if_neg (by simp [h2]), if_pos h1, if_pos (by omega)]
  · rw [if_neg (by simp; intro a b c; exact absurd ⟨a, b, c⟩ h1), if_neg h1]
  · rw [if_neg (by simp [h2]), if_neg h1]
end P
end LoanSpec
