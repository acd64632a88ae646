/- The least that hands have taken is what stretches prove: plain law. The watch is right, and has a truth. -/
import Derived.Test.YtkhjmedfhobebaaGreatDoF
import Derived.Test.YtkhjmedfhobebaaGreatSpec
namespace HandSpec
namespace R
def whole (x : WD) : Nat := 2 ^ x.hands.toNat - 1
/-- How many numbers of sacks a count can have. -/
def width (x : WD) (i : Nat) : Nat := (x.c i 2 - x.c i 1 + 1).toNat
def never : Int := 1000000
/-- What is gone in an interval, if so many numbers above the least ones lie there. -/
def gone (x : WD) (i j k : Nat) : Int := x.c i 1 + j + booked x i (i+1) - (x.c (i+1) 1 + k)
def over (x : WD) (i j k : Nat) : Int := max 0 (gone x i j k - al x i (i+1))
def tstep (x : WD) (m i : Nat) (f : Nat → Int) (k : Nat) (acc : Int) (j : Nat) : Int :=
 if gone x i j k < 0 ∨ (0 < over x i j k ∧ can x (whole x) i = false) then acc else min acc (f j + if can x (whole x - m) i then 0 else over x i j k)
def trow (x : WD) (m i : Nat) (f : Nat → Int) (k : Nat) : Nat → Int
 | 0 => never
 | j+1 => tstep x m i f k (trow x m i f k j) j
/-- The least that has been taken, if so many above the least lie there at a count. -/
def tk (x : WD) (m : Nat) : Nat → Nat → Int
 | 0 => fun _ => 0
 | i+1 => fun k => trow x m i (tk x m i) k (width x i)
def tmin (f : Nat → Int) : Nat → Int
 | 0 => never
 | j+1 => min (tmin f j) (f j)
def taken (x : WD) (m : Nat) : Int := tmin (tk x m (x.cn - 1)) (width x (x.cn - 1))

theorem tmin_le {f : Nat → Int} : ∀ {n j : Nat}, j < n → tmin f n ≤ f j
 | n+1, j, h => by
  unfold tmin
  rcases Nat.lt_or_eq_of_le (Nat.le_of_lt_succ h) with h' | h'
  ·have := tmin_le (f := f) h'; omega
  ·subst h'; omega
theorem tmin_at {f : Nat → Int} : ∀ {n : Nat}, tmin f n < never → ∃ j, j < n ∧ tmin f n = f j
 | 0, h => by unfold tmin at h; omega
 | n+1, h => by
  unfold tmin at h ⊢
  by_cases q : tmin f n ≤ f n
  ·rw [Int.min_eq_left q] at h ⊢
   obtain ⟨j, hj, he⟩ := tmin_at h
   exact ⟨j, by omega, he⟩
  ·rw [Int.min_eq_right (by omega)]
   exact ⟨n, by omega, rfl⟩
def stepOk (x : WD) (i j k : Nat) : Prop := 0 ≤ gone x i j k ∧ (can x (whole x) i = false → gone x i j k ≤ al x i (i+1))
def cost (x : WD) (m i j k : Nat) : Int := if can x (whole x - m) i then 0 else over x i j k
theorem tstep_eq (x : WD) (m i : Nat) (f : Nat → Int) (k : Nat) (acc : Int) (j : Nat) : (stepOk x i j k ∧ tstep x m i f k acc j = min acc (f j + cost x m i j k)) ∨ (¬ stepOk x i j k ∧ tstep x m i f k acc j = acc) := by
 unfold tstep stepOk cost over
 by_cases q : gone x i j k < 0 ∨ (0 < max 0 (gone x i j k - al x i (i+1)) ∧ can x (whole x) i = false)
 ·refine .inr ⟨fun ⟨h1, h2⟩ => ?_, by rw [if_pos q]⟩
  rcases q with q | ⟨q, hc⟩
  ·omega
  ·have := h2 hc; omega
 ·refine .inl ⟨⟨by omega, fun hc => ?_⟩, by rw [if_neg q]⟩
  have : ¬ 0 < max 0 (gone x i j k - al x i (i+1)) := fun h => q (.inr ⟨h, hc⟩)
  omega
theorem trow_le {x : WD} {m i : Nat} {f : Nat → Int} {k : Nat} : ∀ {n j : Nat}, j < n → stepOk x i j k → trow x m i f k n ≤ f j + cost x m i j k
 | n+1, j, h, hs => by
  unfold trow
  rcases Nat.lt_or_eq_of_le (Nat.le_of_lt_succ h) with h' | h'
  ·have := trow_le (m := m) (f := f) h' hs
   rcases tstep_eq x m i f k (trow x m i f k n) n with ⟨_, e⟩ | ⟨_, e⟩ <;> omega
  ·subst h'
   rcases tstep_eq x m i f k (trow x m i f k j) j with ⟨_, e⟩ | ⟨hn, _⟩
   ·omega
   ·exact absurd hs hn
theorem trow_at {x : WD} {m i : Nat} {f : Nat → Int} {k : Nat} : ∀ {n : Nat}, trow x m i f k n < never → ∃ j, j < n ∧ stepOk x i j k ∧ trow x m i f k n = f j + cost x m i j k
 | 0, h => by unfold trow at h; omega
 | n+1, h => by
  unfold trow at h ⊢
  rcases tstep_eq x m i f k (trow x m i f k n) n with ⟨hs, e⟩ | ⟨_, e⟩
  ·rw [e] at h ⊢
   by_cases q : trow x m i f k n ≤ f n + cost x m i n k
   ·rw [Int.min_eq_left q] at h ⊢
    obtain ⟨j, hj, h'⟩ := trow_at h
    exact ⟨j, by omega, h'⟩
   ·rw [Int.min_eq_right (by omega)]
    exact ⟨n, by omega, hs, rfl⟩
  ·rw [e] at h ⊢
   obtain ⟨j, hj, h'⟩ := trow_at h
   exact ⟨j, by omega, h'⟩
theorem over_nonneg (x : WD) (i j k : Nat) : 0 ≤ over x i j k := by unfold over; omega
theorem cost_nonneg (x : WD) (m i j k : Nat) : 0 ≤ cost x m i j k := by
 unfold cost
 split
 ·exact Int.le_refl _
 ·exact over_nonneg x i j k
theorem tk_nonneg (x : WD) (m : Nat) : ∀ i k, 0 ≤ tk x m i k
 | 0, _ => Int.le_refl _
 | i+1, k => by
  rcases Int.lt_or_le (trow x m i (tk x m i) k (width x i)) never with h | h
  ·obtain ⟨j, _, _, e⟩ := trow_at h
   have h1 := tk_nonneg x m i j
   have h2 := cost_nonneg x m i j k
   show 0 ≤ trow x m i (tk x m i) k (width x i)
   omega
  ·show 0 ≤ trow x m i (tk x m i) k (width x i)
   unfold never at h
   omega
end R
namespace P
/-! What the plans say, end by end. -/
def bs (x : WD) (m e : Nat) : Int := (best x m e).sum
theorem bestTo_other {x : WD} {m k : Nat} : ∀ e, k ≤ e → bestTo x m e k = bestTo x m k k
 | 0, h => by obtain rfl : k = 0 := by omega
              rfl
 | e+1, h => by
  rcases Nat.lt_or_eq_of_le h with h' | h'
  ·show roundP x m (bestTo x m e) (e+1) k = _
   rw [roundP_other (by omega), bestTo_other e (by omega)]
  ·rw [h']
theorem best_at {x : WD} {m k : Nat} (h : k ≤ x.cn - 1) : best x m k = bestTo x m k k := bestTo_other _ h
theorem stepP_ge {x : WD} {m e : Nat} {b : Nat → Plan} {s : Nat × Nat} : (b e).sum ≤ (stepP x m e b s e).sum := by
 unfold stepP
 split
 ·next h =>
  rw [updP_same]
  simp only [Bool.and_eq_true, decide_eq_true_eq] at h
  show (b e).sum ≤ (b (fst x m s)).sum + gap x s.1 s.2
  omega
 ·exact Int.le_refl _
theorem foldP_ge {x : WD} {m e : Nat} : ∀ (l : List (Nat × Nat)) (b : Nat → Plan), (b e).sum ≤ (l.foldl (stepP x m e) b e).sum
 | [], _ => Int.le_refl _
 | s :: l, b => Int.le_trans stepP_ge (foldP_ge l (stepP x m e b s))
theorem foldP_mem {x : WD} {m e : Nat} {s : Nat × Nat} (hs : okS x m e s = true) (he : 0 < e) : ∀ (l : List (Nat × Nat)) (b : Nat → Plan), s ∈ l → (b (fst x m s)).sum + gap x s.1 s.2 ≤ (l.foldl (stepP x m e) b e).sum
 | t :: l, b, h => by
  rw [List.foldl_cons]
  rcases List.mem_cons.1 h with rfl | h
  ·refine Int.le_trans ?_ (foldP_ge l _)
   by_cases q : (b e).sum < (b (fst x m s)).sum + gap x s.1 s.2
   ·rw [stepP_yes hs q, updP_same]; exact Int.le_refl _
   ·rw [stepP_le q]; omega
  ·have := foldP_mem hs he l (stepP x m e b t) h
   have hne : fst x m s ≠ e := by have := okS_first hs he; omega
   rw [stepP_other hne] at this
   exact this
theorem foldP_le {x : WD} {m e : Nat} {C : Int} (he : 0 < e) : ∀ (l : List (Nat × Nat)) (b : Nat → Plan), (b e).sum ≤ C → (∀ s, s ∈ l → okS x m e s = true → (b (fst x m s)).sum + gap x s.1 s.2 ≤ C) → (l.foldl (stepP x m e) b e).sum ≤ C
 | [], _, h, _ => h
 | s :: l, b, h, hC => by
  rw [List.foldl_cons]
  refine foldP_le he l _ ?_ fun t ht hok => ?_
  ·unfold stepP
   split
   ·next hc =>
    rw [updP_same]
    rw [Bool.and_eq_true] at hc
    exact hC s (List.mem_cons_self ..) hc.1
   ·exact h
  ·have hne : fst x m t ≠ e := by have := okS_first hok he; omega
   rw [stepP_other hne]
   exact hC t (List.mem_cons_of_mem _ ht) hok
theorem init_same (b : Nat → Plan) (e : Nat) : (initP b (e+1) (e+1)).sum = (b e).sum := by unfold initP; rw [updP_same]; rfl
theorem init_other (b : Nat → Plan) {e k : Nat} (h : k ≠ e + 1) : initP b (e+1) k = b k := by unfold initP; exact updP_other _ _ h
theorem bs_zero (x : WD) (m : Nat) : bs x m 0 = 0 := by
 unfold bs
 rw [best_at (by omega)]
 rfl
theorem bs_mono1 {x : WD} {m e : Nat} (he : e + 1 ≤ x.cn - 1) : bs x m e ≤ bs x m (e+1) := by
 unfold bs
 rw [best_at he, best_at (show e ≤ x.cn - 1 by omega)]
 show _ ≤ (roundP x m (bestTo x m e) (e+1) (e+1)).sum
 unfold roundP
 split
 ·exact Int.le_trans (Int.le_of_eq (init_same _ e).symm) (foldP_ge _ _)
 ·exact Int.le_of_eq (init_same _ e).symm
theorem bs_mono {x : WD} {m : Nat} {e f : Nat} (h : e ≤ f) (hf : f ≤ x.cn - 1) : bs x m e ≤ bs x m f := by
 induction f with
 | zero => obtain rfl : e = 0 := by omega
           exact Int.le_refl _
 | succ f ih =>
  rcases Nat.lt_or_eq_of_le h with h' | h'
  ·exact Int.le_trans (ih (by omega) (by omega)) (bs_mono1 hf)
  ·rw [h']; exact Int.le_refl _
theorem bs_nonneg {x : WD} {m e : Nat} (he : e ≤ x.cn - 1) : 0 ≤ bs x m e := by
 have := bs_mono (x := x) (m := m) (Nat.zero_le e) he
 rwa [bs_zero] at this
theorem bs_get {x : WD} {m e : Nat} {s : Nat × Nat} (he : e + 1 ≤ x.cn - 1) (hsp : spot x m e = true) (hs : okS x m (e+1) s = true) (hst : s.1 < s.2 ∧ s.2 < x.cn) : bs x m (fst x m s) + gap x s.1 s.2 ≤ bs x m (e+1) := by
 have hf := okS_first hs (Nat.succ_pos e)
 unfold bs
 rw [best_at he, best_at (show fst x m s ≤ x.cn - 1 by omega), ← bestTo_other (x := x) (m := m) (k := fst x m s) e (by omega)]
 show _ ≤ (roundP x m (bestTo x m e) (e+1) (e+1)).sum
 unfold roundP
 rw [show e + 1 - 1 = e by omega, hsp, if_pos rfl]
 have := foldP_mem hs (Nat.succ_pos e) (stretches x.cn) (initP (bestTo x m e) (e+1)) (mem_stretches.2 hst)
 rw [init_other _ (by omega)] at this
 exact this
theorem bs_le {x : WD} {m e : Nat} {C : Int} (he : e + 1 ≤ x.cn - 1) (h0 : bs x m e ≤ C) (h : ∀ s : Nat × Nat, s.1 < s.2 → s.2 < x.cn → spot x m e = true → okS x m (e+1) s = true → bs x m (fst x m s) + gap x s.1 s.2 ≤ C) : bs x m (e+1) ≤ C := by
 unfold bs at h0 ⊢
 rw [best_at (show e ≤ x.cn - 1 by omega)] at h0
 rw [best_at he]
 show (roundP x m (bestTo x m e) (e+1) (e+1)).sum ≤ C
 unfold roundP
 rw [show e + 1 - 1 = e by omega]
 split
 ·next hsp =>
  refine foldP_le (Nat.succ_pos e) _ _ (by rw [init_same]; exact h0) fun s hs hok => ?_
  have hf := okS_first hok (Nat.succ_pos e)
  have hst := mem_stretches.1 hs
  rw [init_other _ (by omega), bestTo_other (x := x) (m := m) (k := fst x m s) e (by omega), ← best_at (show fst x m s ≤ x.cn - 1 by omega)]
  exact h s hst.1 hst.2 hsp hok
 ·rw [init_same]; exact h0
/-- Without intervals of the hands nothing is proved. -/
theorem bs_none {x : WD} {m : Nat} (h : ∀ i, i + 1 < x.cn → spot x m i = false) : ∀ e, e ≤ x.cn - 1 → bs x m e ≤ 0
 | 0, _ => by rw [bs_zero]; exact Int.le_refl _
 | e+1, he => bs_le he (bs_none h e (by omega)) fun s _ _ hsp => by rw [h e (by omega)] at hsp; cases hsp

/-! The first and the last interval of the hands in a stretch. -/
theorem firstTo_none {own : Nat → Bool} {a : Nat} {b : Int} : ∀ {k : Nat}, (∀ d, d < k → own (a + d) = false) → firstTo own a b k = b
 | 0, _ => rfl
 | k+1, h => by
  unfold firstTo
  rw [h k (by omega)]
  exact firstTo_none fun d hd => h d (by omega)
theorem firstTo_some {own : Nat → Bool} {a : Nat} {b : Int} {d : Nat} : ∀ {k : Nat}, d < k → own (a + d) = true → (∀ q, q < d → own (a + q) = false) → ((a + k : Nat) : Int) ≤ b → firstTo own a b k = (a + d : Nat)
 | k+1, hd, ho, hn, hb => by
  unfold firstTo
  rcases Nat.lt_or_eq_of_le (Nat.le_of_lt_succ hd) with h' | h'
  ·rw [firstTo_some h' ho hn (by omega)]
   split <;> omega
  ·subst h'
   rw [ho, if_pos rfl, firstTo_none hn]
   omega
theorem lastTo_at {own : Nat → Bool} {a : Nat} : ∀ {k : Nat} {l : Int}, lastTo own a k = l → 0 ≤ l → ∃ d, d < k ∧ l = (a + d : Nat) ∧ own (a + d) = true ∧ ∀ q, d < q → q < k → own (a + q) = false
 | 0, l, h, h0 => by unfold lastTo at h; omega
 | k+1, l, h, h0 => by
  unfold lastTo at h
  split at h
  ·next ho => exact ⟨k, by omega, h.symm, ho, fun q h1 h2 => by omega⟩
  ·next hn =>
   obtain ⟨d, hd, he, ho, hq⟩ := lastTo_at h h0
   refine ⟨d, by omega, he, ho, fun q h1 h2 => ?_⟩
   rcases Nat.lt_or_eq_of_le (Nat.le_of_lt_succ h2) with h' | h'
   ·exact hq q h1 h'
   ·rw [h']; simpa using hn
theorem lastTo_ge {own : Nat → Bool} {a : Nat} : ∀ {k d : Nat}, d < k → own (a + d) = true → ((a + d : Nat) : Int) ≤ lastTo own a k
 | k+1, d, hd, ho => by
  unfold lastTo
  split
  ·omega
  ·next hn =>
   rcases Nat.lt_or_eq_of_le (Nat.le_of_lt_succ hd) with h' | h'
   ·exact lastTo_ge h' ho
   ·subst h'; exact absurd ho hn
end P
namespace L
open R P
variable {x : WD} {m : Nat}
/-- Somebody else is there in an interval. -/
abbrev oth (x : WD) (m i : Nat) : Bool := can x (whole x - m) i
theorem whole_bit (x : WD) (h : Nat) : (whole x).testBit h = decide (h < x.hands.toNat) := by unfold whole; exact Nat.testBit_two_pow_sub_one _ _
theorem other_bit (hm : m < 2 ^ x.hands.toNat) (h : Nat) : (whole x - m).testBit h = (decide (h < x.hands.toNat) && !m.testBit h) := by
 have := Nat.testBit_two_pow_sub_succ hm h
 unfold whole
 rw [show 2 ^ x.hands.toNat - 1 - m = 2 ^ x.hands.toNat - (m + 1) by omega]
 exact this
theorem can_whole (hm : m < 2 ^ x.hands.toNat) (i : Nat) : can x (whole x) i = false ↔ oth x m i = false ∧ can x m i = false := by
 unfold oth can
 rw [anyTo_false, anyTo_false, anyTo_false]
 constructor
 ·intro h
  refine ⟨fun k hk => ?_, fun k hk => ?_⟩
  ·have := h k hk
   rw [whole_bit, decide_eq_true hk, Bool.true_and] at this
   rw [this]; simp
  ·have := h k hk
   rw [whole_bit, decide_eq_true hk, Bool.true_and] at this
   rw [this]; simp
 ·rintro ⟨h1, h2⟩ k hk
  have a := h1 k hk
  have b := h2 k hk
  rw [other_bit hm, decide_eq_true hk] at a
  rw [whole_bit, decide_eq_true hk]
  cases hb : m.testBit k <;> rw [hb] at a b <;> simpa using (by first | simpa using a | simpa using b)
theorem met_one (M i : Nat) : met x M i (i+1) = can x M i := by
 rw [Bool.eq_iff_iff, met_true]
 constructor
 ·rintro ⟨j, h1, h2, h⟩
  obtain rfl : j = i := by omega
  exact h
 ·intro h; exact ⟨i, Nat.le_refl _, by omega, h⟩
theorem spot_can (hx : Ok x) {i : Nat} (hi : i + 1 < x.cn) : spot x m i = can x m i := by
 unfold spot
 rw [decide_eq_true hi, Bool.true_and, ← met_th hx (by omega) hi, met_one]
/-- Nobody else is there, by bits. -/
theorem th_only (hx : Ok x) (hm : m < 2 ^ x.hands.toNat) {a b : Nat} (hab : a < b) (hb : b < x.cn) : th x a b &&& m = th x a b ↔ met x (whole x - m) a b = false := by
 rw [met_th hx hab hb, decide_eq_false_iff_not, Classical.not_not]
 constructor
 ·intro h
  refine Nat.eq_of_testBit_eq fun i => ?_
  have h1 := congrArg (fun n => Nat.testBit n i) h
  simp only [Nat.testBit_and] at h1
  rw [Nat.testBit_and, other_bit hm, Nat.zero_testBit]
  cases hb1 : (th x a b).testBit i
  ·simp
  ·rw [hb1] at h1
   simp only [Bool.true_and] at h1
   rw [h1]; simp
 ·intro h
  refine Nat.eq_of_testBit_eq fun i => ?_
  have h1 := congrArg (fun n => Nat.testBit n i) h
  simp only [Nat.testBit_and, Nat.zero_testBit, other_bit hm] at h1
  rw [Nat.testBit_and]
  cases hb1 : (th x a b).testBit i
  ·simp
  ·rw [hb1] at h1
   have hi : i < x.hands.toNat := by
    rcases Nat.lt_or_ge i x.hands.toNat with h2 | h2
    ·exact h2
    ·have := Nat.testBit_lt_two_pow (Nat.lt_of_lt_of_le (th_lt' hx a b) (Nat.pow_le_pow_right (n := 2) (by omega) h2))
     rw [this] at hb1; cases hb1
   rw [decide_eq_true hi] at h1
   simpa using h1
theorem okS_mk (hx : Ok x) (hm : m < 2 ^ x.hands.toNat) {a b e : Nat} (hab : a < b) (hb : b < x.cn) (h1 : lst x m (a, b) + 1 = e) (h2 : met x (whole x - m) a b = false) (h3 : 0 < R.gap x a b) : okS x m e (a, b) = true := by
 unfold okS
 rw [decide_eq_true h1, decide_eq_true ((th_only hx hm hab hb).2 h2), decide_eq_true (show 0 < P.gap x a b by rw [gap_eq hx (by omega) hb]; exact h3)]
 rfl
theorem okS_get (hx : Ok x) (hm : m < 2 ^ x.hands.toNat) {a b e : Nat} (hab : a < b) (hb : b < x.cn) (h : okS x m e (a, b) = true) : lst x m (a, b) + 1 = e ∧ met x (whole x - m) a b = false ∧ 0 < R.gap x a b := by
 simp only [okS, Bool.and_eq_true, decide_eq_true_eq] at h
 obtain ⟨⟨h1, h2⟩, h3⟩ := h
 rw [gap_eq hx (by omega) hb] at h3
 exact ⟨h1, (th_only hx hm hab hb).1 h2, h3⟩
/-- The first interval of the hands in a stretch. -/
theorem fst_none {a b : Nat} (h : ∀ i, a ≤ i → i < b → spot x m i = false) : fst x m (a, b) = b := by
 unfold fst
 rw [firstTo_none fun d hd => h (a + d) (by omega) (by simp at hd; omega)]
 simp
theorem fst_some {a b f : Nat} (h1 : a ≤ f) (h2 : f < b) (h3 : spot x m f = true) (h4 : ∀ i, a ≤ i → i < f → spot x m i = false) : fst x m (a, b) = f := by
 unfold fst
 rw [firstTo_some (d := f - a) (by simp; omega) (by rw [show a + (f - a) = f by omega]; exact h3) (fun q hq => h4 (a + q) (by omega) (by omega)) (by simp; omega)]
 simp; omega
theorem least {p : Nat → Bool} {a b : Nat} (h : ∃ i, a ≤ i ∧ i < b ∧ p i = true) : ∃ f, a ≤ f ∧ f < b ∧ p f = true ∧ ∀ i, a ≤ i → i < f → p i = false := by
 obtain ⟨i, h1, h2, h3⟩ := h
 have key : ∀ d i, i - a = d → a ≤ i → i < b → p i = true → ∃ f, a ≤ f ∧ f < b ∧ p f = true ∧ ∀ i, a ≤ i → i < f → p i = false := by
  intro d
  induction d using Nat.strongRecOn with
  | _ d ih =>
   intro i hd h1 h2 h3
   by_cases hex : ∃ j, a ≤ j ∧ j < i ∧ p j = true
   ·obtain ⟨j, g1, g2, g3⟩ := hex
    exact ih (j - a) (by omega) j rfl g1 (by omega) g3
   ·refine ⟨i, h1, h2, h3, fun j g1 g2 => ?_⟩
    cases hp : p j
    ·rfl
    ·exact absurd ⟨j, g1, g2, hp⟩ hex
 exact key _ i rfl h1 h2 h3
theorem some_or (a b : Nat) : (∃ i, a ≤ i ∧ i < b ∧ spot x m i = true) ∨ ∀ i, a ≤ i → i < b → spot x m i = false := by
 by_cases h : ∃ i, a ≤ i ∧ i < b ∧ spot x m i = true
 ·exact .inl h
 ·refine .inr fun i h1 h2 => ?_
  cases hp : spot x m i
  ·rfl
  ·exact absurd ⟨i, h1, h2, hp⟩ h
theorem fst_mono {a k : Nat} (h : a ≤ k) : fst x m (a, k) ≤ fst x m (a, k+1) := by
 rcases some_or (x := x) (m := m) a k with hs | hn
 ·obtain ⟨f, h1, h2, h3, h4⟩ := least hs
  rw [fst_some h1 h2 h3 h4, fst_some h1 (by omega) h3 h4]
  exact Nat.le_refl _
 ·rw [fst_none hn]
  cases hk : spot x m k
  ·rw [fst_none fun i h1 h2 => ?_]
   ·omega
   ·rcases Nat.lt_or_eq_of_le (Nat.le_of_lt_succ h2) with h' | h'
    ·exact hn i h1 h'
    ·rw [h']; exact hk
  ·rw [fst_some h (by omega) hk hn]
   exact Nat.le_refl _
def gapy (x : WD) (a k : Nat) (y : Int) : Int := x.c a 1 + booked x a k - al x a k - y
/-- What a proof shows, if y sacks lie there at count k. -/
def Shows (x : WD) (m k : Nat) (y v : Int) : Prop := v ≤ bs x m k ∨ ∃ a, a < k ∧ met x (whole x - m) a k = false ∧ v ≤ bs x m (fst x m (a, k)) + gapy x a k y
theorem hi_conv (hx : Ok x) (hw : fwOk x (whole x) = true) (hm : m < 2 ^ x.hands.toNat) {k : Nat} (hk : k < x.cn) {v : Int} (h : Shows x m k (fw x (whole x) k).2 v) : v ≤ bs x m k := by
 rcases h with h | ⟨a, hak, hno, hv⟩
 ·exact h
 have hT := (fwOk_iff hx (whole x)).1 hw
 obtain ⟨-, j, hj, hy⟩ := fw_hi hx (whole x) k hk
 have hf : fst x m (a, k) ≤ k := fst_lt (s := (a, k))
 have hmono := bs_mono (m := m) hf (show k ≤ x.cn - 1 by omega)
 unfold gapy at hv
 rw [hy] at hv
 rcases Nat.lt_or_ge a j with haj | haj
 ·rw [booked_add hx (show a ≤ j by omega) hj hk, al_add x a j k] at hv
  have hal := al_nonneg hx hj hk
  have hg : R.gap x a j = x.c a 1 + booked x a j - al x a j - x.c j 2 := gap_al x a j
  rcases Int.lt_or_le 0 (R.gap x a j) with hpos | hneg
  ·-- somebody is there
   have hmet : ∃ i, a ≤ i ∧ i < j ∧ spot x m i = true := by
    refine Classical.byContradiction fun hn => ?_
    have : met x (whole x) a j = false := met_false.2 fun i h1 h2 => by
     rw [can_whole hm]
     refine ⟨met_false.1 hno i h1 (by omega), ?_⟩
     rw [← spot_can hx (by omega)]
     cases hp : spot x m i
     ·rfl
     ·exact absurd ⟨i, h1, h2, hp⟩ hn
    have := (hT a j haj (by omega)).2 this
    omega
   obtain ⟨f, h1, h2, h3, h4⟩ := least hmet
   rw [fst_some h1 (show f < k by omega) h3 h4] at hv
   have hl0 := lastTo_ge (own := spot x m) (a := a) (k := j - a) (d := f - a) (by omega) (by rw [show a + (f - a) = f by omega]; exact h3)
   obtain ⟨d, hd, he, ho, -⟩ := lastTo_at (own := spot x m) (a := a) (k := j - a) rfl (by omega)
   have hok := okS_mk hx hm haj (show j < x.cn by omega) (e := a + d + 1) (by show lastTo (spot x m) a (j - a) + 1 = _; omega) (met_false.2 fun i h1 h2 => met_false.1 hno i h1 (by omega)) hpos
   have hb := bs_get (x := x) (m := m) (show a + d + 1 ≤ x.cn - 1 by omega) ho hok ⟨haj, by show j < x.cn; omega⟩
   rw [fst_some h1 h2 h3 h4, gap_eq hx (by omega) (show j < x.cn by omega)] at hb
   have hb2 := bs_mono (x := x) (m := m) (show a + d + 1 ≤ k by omega) (show k ≤ x.cn - 1 by omega)
   simp only at hb
   omega
  ·omega
 ·rw [show booked x j k = booked x j a + booked x a k from booked_add hx haj (by omega) hk] at hv
  have hal := al_nonneg hx (show a ≤ k by omega) hk
  have : x.c a 1 ≤ x.c j 2 + booked x j a := by
   rcases Nat.lt_or_eq_of_le haj with h' | h'
   ·exact (hT j a h' (by omega)).1
   ·subst h'; rw [booked_self]; have := hx.le j (by omega); omega
  omega
theorem fw_ok (hx : Ok x) (hw : fwOk x (whole x) = true) {k : Nat} (hk : k < x.cn) : (x.c k 1 ≤ (fw x (whole x) k).1 ∧ (fw x (whole x) k).1 ≤ (fw x (whole x) k).2) ∧ (fw x (whole x) k).2 ≤ x.c k 2 := by
 obtain ⟨h1, -⟩ := fw_lo hx (whole x) k hk
 obtain ⟨h2, -⟩ := fw_hi hx (whole x) k hk
 have a1 := h1 k (Nat.le_refl _) (met_false.2 fun i h1 h2 => absurd h1 (by omega))
 have a2 := h2 k (Nat.le_refl _)
 rw [booked_self] at a1 a2
 rw [al_self] at a1
 refine ⟨⟨by omega, ?_⟩, by omega⟩
 cases k with
 | zero => exact hx.le 0 hk
 | succ k =>
  unfold fwOk at hw
  rw [Bool.not_eq_true', anyTo_false] at hw
  have := hw k (by omega)
  simpa using this
theorem strong (hx : Ok x) (hw : fwOk x (whole x) = true) (hm : m < 2 ^ x.hands.toNat) : ∀ k, k < x.cn → ∀ q : Nat, (fw x (whole x) k).1 ≤ x.c k 1 + q → x.c k 1 + q ≤ (fw x (whole x) k).2 → Shows x m k (x.c k 1 + q) (tk x m k q)
 | 0, _, q, _, _ => .inl (by rw [bs_zero]; exact Int.le_refl _)
 | k+1, hk, q, h1, h2 => by
  obtain ⟨⟨f1, f2⟩, f3⟩ := fw_ok hx hw (show k < x.cn by omega)
  have e2 : (fw x (whole x) (k+1)).2 = min (x.c (k+1) 2) ((fw x (whole x) k).2 + booked x k (k+1)) := rfl
  have e1 : (fw x (whole x) (k+1)).1 = if can x (whole x) k then x.c (k+1) 1 else max (x.c (k+1) 1) ((fw x (whole x) k).1 + booked x k (k+1) - x.allow * hours x k (k+1)) := rfl
  have hL : x.allow * hours x k (k+1) = al x k (k+1) := rfl
  have hal := al_nonneg hx (show k ≤ k + 1 by omega) hk
  rw [hL] at e1
  -- from y sacks at count k
  have go : ∀ y, (fw x (whole x) k).1 ≤ y → y ≤ (fw x (whole x) k).2 → x.c (k+1) 1 + q ≤ y + booked x k (k+1) → (can x (whole x) k = false → y + booked x k (k+1) - (x.c (k+1) 1 + q) ≤ al x k (k+1)) →
    ∃ v, Shows x m k y v ∧ tk x m (k+1) q ≤ v + if oth x m k then 0 else max 0 (y + booked x k (k+1) - (x.c (k+1) 1 + q) - al x k (k+1)) := by
   intro y y1 y2 y3 y4
   have hj : ((y - x.c k 1).toNat : Int) = y - x.c k 1 := by omega
   have hgn : gone x k (y - x.c k 1).toNat q = y + booked x k (k+1) - (x.c (k+1) 1 + q) := by unfold gone; rw [hj]; omega
   have hs : stepOk x k (y - x.c k 1).toNat q := ⟨by rw [hgn]; omega, fun hc => by rw [hgn]; exact y4 hc⟩
   have ih := strong hx hw hm k (by omega) (y - x.c k 1).toNat (by rw [hj]; omega) (by rw [hj]; omega)
   rw [hj, show x.c k 1 + (y - x.c k 1) = y by omega] at ih
   refine ⟨_, ih, ?_⟩
   have := trow_le (m := m) (f := tk x m k) (n := width x k) (by unfold width; omega) hs
   unfold cost over at this
   rw [hgn] at this
   exact this
  have up : ∀ v, v ≤ bs x m k → Shows x m (k+1) (x.c (k+1) 1 + q) v := fun v hv => .inl (Int.le_trans hv (bs_mono1 (by omega)))
  cases ho : oth x m k
  ·-- nobody else
   have ext : ∀ a y c, a < k → met x (whole x - m) a k = false → tk x m (k+1) q ≤ bs x m (fst x m (a, k)) + gapy x a k y + c → y - c = x.c (k+1) 1 + q - booked x k (k+1) + al x k (k+1) → Shows x m (k+1) (x.c (k+1) 1 + q) (tk x m (k+1) q) := by
    intro a y c hak hno hv hyc
    refine .inr ⟨a, by omega, met_false.2 fun i g1 g2 => ?_, ?_⟩
    ·rcases Nat.lt_or_eq_of_le (Nat.le_of_lt_succ g2) with h' | h'
     ·exact met_false.1 hno i g1 h'
     ·rw [h']; exact ho
    ·have hb := bs_mono (x := x) (m := m) (fst_mono (x := x) (m := m) (show a ≤ k by omega)) (by have : fst x m (a, k+1) ≤ k + 1 := fst_lt (s := (a, k+1)); omega)
     unfold gapy at hv ⊢
     rw [booked_add hx (show a ≤ k by omega) (show k ≤ k+1 by omega) hk, al_add x a k (k+1)]
     omega
   rcases Int.lt_or_le (fw x (whole x) k).2 (x.c (k+1) 1 + q - booked x k (k+1) + al x k (k+1)) with hz | hz
   ·obtain ⟨v, hv, hle⟩ := go (fw x (whole x) k).2 f2 (Int.le_refl _) (by omega) (fun _ => by omega)
    have := hi_conv hx hw hm (by omega) hv
    refine up _ ?_
    rw [ho] at hle
    simp only [Bool.false_eq_true, if_false] at hle
    omega
   ·rcases Int.lt_or_le (x.c (k+1) 1 + q - booked x k (k+1) + al x k (k+1)) (fw x (whole x) k).1 with hz2 | hz2
    ·-- less than can lie there without the hands
     have hc : can x (whole x) k = true := by
      cases hc : can x (whole x) k
      ·rw [hc] at e1; simp only [Bool.false_eq_true, if_false] at e1; omega
      ·rfl
     have hsp : spot x m k = true := by
      rw [spot_can hx hk]
      cases hcm : can x m k
      ·have := (can_whole hm k).2 ⟨ho, hcm⟩
       rw [hc] at this; cases this
      ·rfl
     obtain ⟨v, hv, hle⟩ := go (fw x (whole x) k).1 (Int.le_refl _) f2 (by omega) (fun hc' => by rw [hc] at hc'; cases hc')
     rw [ho] at hle
     simp only [Bool.false_eq_true, if_false] at hle
     rcases hv with hv | ⟨a, hak, hno, hv⟩
     ·obtain ⟨-, j, hj, hmj, hlo⟩ := fw_lo hx (whole x) k (by omega)
      refine .inr ⟨j, by omega, met_false.2 fun i g1 g2 => ?_, ?_⟩
      ·rcases Nat.lt_or_eq_of_le (Nat.le_of_lt_succ g2) with h' | h'
       ·exact ((can_whole hm i).1 (met_false.1 hmj i g1 h')).1
       ·rw [h']; exact ho
      ·rw [fst_some hj (by omega) hsp fun i g1 g2 => by rw [spot_can hx (by omega)]; exact ((can_whole hm i).1 (met_false.1 hmj i g1 g2)).2]
       unfold gapy
       rw [booked_add hx hj (show k ≤ k+1 by omega) hk, al_add x j k (k+1)]
       omega
     ·exact ext a (fw x (whole x) k).1 ((fw x (whole x) k).1 - (x.c (k+1) 1 + q - booked x k (k+1) + al x k (k+1))) hak hno (by omega) (by omega)
    ·obtain ⟨v, hv, hle⟩ := go (x.c (k+1) 1 + q - booked x k (k+1) + al x k (k+1)) hz2 hz (by omega) (fun _ => by omega)
     rw [ho] at hle
     simp only [Bool.false_eq_true, if_false] at hle
     rcases hv with hv | ⟨a, hak, hno, hv⟩
     ·exact up _ (by omega)
     ·exact ext a (x.c (k+1) 1 + q - booked x k (k+1) + al x k (k+1)) 0 hak hno (by omega) (by omega)
  ·have hc : can x (whole x) k = true := by
    cases hc : can x (whole x) k
    ·have := ((can_whole hm k).1 hc).1
     rw [ho] at this; cases this
    ·rfl
   obtain ⟨v, hv, hle⟩ := go (fw x (whole x) k).2 f2 (Int.le_refl _) (by omega) (fun hc' => by rw [hc] at hc'; cases hc')
   have := hi_conv hx hw hm (by omega) hv
   rw [ho] at hle
   simp only [if_true] at hle
   exact up _ (by omega)
theorem taken_le (hx : Ok x) (hw : fwOk x (whole x) = true) (hm : m < 2 ^ x.hands.toNat) : taken x m ≤ bs x m (x.cn - 1) := by
 have hk : x.cn - 1 < x.cn := by have := hx.cn; omega
 obtain ⟨⟨f1, f2⟩, f3⟩ := fw_ok hx hw hk
 have hq : (((fw x (whole x) (x.cn - 1)).2 - x.c (x.cn - 1) 1).toNat : Int) = (fw x (whole x) (x.cn - 1)).2 - x.c (x.cn - 1) 1 := by omega
 have hs := strong hx hw hm (x.cn - 1) hk ((fw x (whole x) (x.cn - 1)).2 - x.c (x.cn - 1) 1).toNat (by rw [hq]; omega) (by rw [hq]; omega)
 rw [hq, show x.c (x.cn - 1) 1 + ((fw x (whole x) (x.cn - 1)).2 - x.c (x.cn - 1) 1) = (fw x (whole x) (x.cn - 1)).2 by omega] at hs
 refine Int.le_trans (tmin_le ?_) (hi_conv hx hw hm hk hs)
 unfold width; omega
/-- A way to come to a count, with what the hands take on it. -/
structure Path (x : WD) (m k : Nat) (p c : Nat → Int) : Prop where
 box : ∀ i, i ≤ k → x.c i 1 ≤ p i ∧ p i ≤ x.c i 2
 pos : ∀ i, i < k → 0 ≤ c i
 none : ∀ i, i < k → can x (whole x) i = false → p i + booked x i (i+1) - al x i (i+1) - p (i+1) ≤ 0
 mine : ∀ i, i < k → oth x m i = false → p i + booked x i (i+1) - al x i (i+1) - p (i+1) ≤ c i
theorem path : ∀ k, k < x.cn → ∀ q : Nat, q < width x k → tk x m k q < never → ∃ p c, Path x m k p c ∧ p k = x.c k 1 + q ∧ sumTo c k = tk x m k q
 | 0, _, q, hq, _ => ⟨fun _ => x.c 0 1 + q, fun _ => 0, ⟨fun i hi => by
   obtain rfl : i = 0 := by omega
   unfold width at hq; constructor <;> omega, fun i hi => by omega, fun i hi => by omega, fun i hi => by omega⟩, rfl, rfl⟩
 | k+1, hk, q, hq, ht => by
  obtain ⟨j, hj, hs, he⟩ := trow_at (show trow x m k (tk x m k) q (width x k) < never from ht)
  have hc := cost_nonneg x m k j q
  have he' : tk x m (k+1) q = tk x m k j + cost x m k j q := he
  obtain ⟨p, c, hp, hpk, hsum⟩ := path k (by omega) j hj (by omega)
  have hg : gone x k j q = p k + booked x k (k+1) - (x.c (k+1) 1 + q) := by unfold gone; omega
  have c0 : ∀ f : Nat → Int, ∀ n, n ≤ k → sumTo (fun i => if i = k then cost x m k j q else f i) n = sumTo f n := by
   intro f n
   induction n with
   | zero => intro _; rfl
   | succ n ih => intro hn; simp only [sumTo]; rw [ih (by omega), if_neg (by omega)]
  refine ⟨fun i => if i = k + 1 then x.c (k+1) 1 + q else p i, fun i => if i = k then cost x m k j q else c i, ⟨fun i hi => ?_, fun i hi => ?_, fun i hi hcan => ?_, fun i hi hoth => ?_⟩, ?_, ?_⟩
  ·by_cases e : i = k + 1
   ·subst e; simp only [if_true]; unfold width at hq; constructor <;> omega
   ·simp only [if_neg e]; exact hp.box i (by omega)
  ·by_cases e : i = k
   ·subst e; simp only [if_true]; exact hc
   ·simp only [if_neg e]; exact hp.pos i (by omega)
  ·have e0 : ¬ i = k + 1 := by omega
   by_cases e : i = k
   ·subst e
    simp only [if_neg e0, if_true]
    have := hs.2 hcan
    omega
   ·have e1 : ¬ i + 1 = k + 1 := by omega
    simp only [if_neg e0, if_neg e1]
    exact hp.none i (by omega) hcan
  ·have e0 : ¬ i = k + 1 := by omega
   by_cases e : i = k
   ·subst e
    simp only [if_neg e0, if_true]
    unfold cost over
    rw [show can x (whole x - m) i = false from hoth, hg]
    simp only [Bool.false_eq_true, if_false]
    omega
   ·have e1 : ¬ i + 1 = k + 1 := by omega
    simp only [if_neg e0, if_neg e1, if_neg e]
    exact hp.mine i (by omega) hoth
  ·simp
  ·simp only [sumTo]
   rw [c0 c k (Nat.le_refl _), hsum, he']
   simp
theorem weak (hx : Ok x) (hm : m < 2 ^ x.hands.toNat) {p c : Nat → Int} (hp : Path x m (x.cn - 1) p c) : ∀ e, e ≤ x.cn - 1 → bs x m e ≤ sumTo c e := by
 intro e
 induction e using Nat.strongRecOn with
 | _ e ih =>
  intro he
  cases e with
  | zero => rw [bs_zero]; exact Int.le_refl _
  | succ e =>
   refine bs_le he ?_ ?_
   ·have := ih e (by omega) (by omega)
    have := hp.pos e (by omega)
    simp only [sumTo]; omega
   ·rintro ⟨a, b⟩ hab hb hsp hok
    simp only at hab hb ⊢
    obtain ⟨h1, h2, h3⟩ := okS_get hx hm hab hb hok
    have hl : lastTo (spot x m) a (b - a) = e := by
     have : lastTo (spot x m) a (b - a) + 1 = (e + 1 : Nat) := h1
     omega
    obtain ⟨d, hd, hed, hod, hafter⟩ := lastTo_at hl (by omega)
    have hae : a ≤ e := by omega
    have heb : e < b := by omega
    obtain ⟨f, f1, f2, f3, f4⟩ := least (p := spot x m) (a := a) (b := e + 1) ⟨e, hae, by omega, hsp⟩
    rw [fst_some f1 (show f < b by omega) f3 f4, gap_eq hx (by omega) hb]
    have ihf := ih f (by omega) (by omega)
    -- along the stretch
    have key : ∀ t, a ≤ t → t ≤ b → p a + booked x a t - al x a t - p t ≤ if t ≤ f then 0 else sumTo c (min t (e+1)) - sumTo c f := by
     intro t
     induction t with
     | zero =>
      intro h1 _
      obtain rfl : a = 0 := by omega
      rw [booked_self, al_self, if_pos (by omega)]; omega
     | succ t iht =>
      intro g1 g2
      rcases Nat.lt_or_eq_of_le g1 with g | g
      ·have h4 := iht (by omega) (by omega)
       rw [booked_add hx (show a ≤ t by omega) (show t ≤ t+1 by omega) (by omega), al_add x a t (t+1)]
       have hoth := met_false.1 h2 t (by omega) (by omega)
       rcases Nat.lt_or_ge t f with ht | ht
       ·rw [if_pos (by omega)] at h4 ⊢
        have hns := f4 t (by omega) ht
        rw [spot_can hx (by omega)] at hns
        have := hp.none t (by omega) ((can_whole hm t).2 ⟨hoth, hns⟩)
        omega
       ·rw [if_neg (show ¬ t + 1 ≤ f by omega)]
        rcases Nat.lt_or_ge t (e + 1) with hte | hte
        ·rw [show min (t+1) (e+1) = t + 1 by omega]
         have := hp.mine t (by omega) hoth
         simp only [sumTo]
         rcases Nat.lt_or_eq_of_le ht with hft | hft
         ·rw [if_neg (by omega), show min t (e+1) = t by omega] at h4
          omega
         ·rw [if_pos (by omega)] at h4
          subst hft
          omega
        ·rw [show min (t+1) (e+1) = e + 1 by omega]
         rw [if_neg (by omega), show min t (e+1) = e + 1 by omega] at h4
         have hns := hafter (t - a) (by omega) (by omega)
         rw [show a + (t - a) = t by omega, spot_can hx (by omega)] at hns
         have := hp.none t (by omega) ((can_whole hm t).2 ⟨hoth, hns⟩)
         omega
      ·rw [← g, booked_self, al_self, if_pos (by omega)]; omega
    have hk := key b (by omega) (Nat.le_refl _)
    rw [if_neg (by omega), show min b (e+1) = e + 1 by omega] at hk
    have b1 := (hp.box a (by omega)).1
    have b2 := (hp.box b (by omega)).2
    rw [gap_al]
    omega
theorem le_taken (hx : Ok x) (hw : fwOk x (whole x) = true) (hm : m < 2 ^ x.hands.toNat) : bs x m (x.cn - 1) ≤ taken x m := by
 have hk : x.cn - 1 < x.cn := by have := hx.cn; omega
 have h1 := taken_le hx hw hm
 have hgood := (Good.bestTo hx m (x.cn - 1)) (x.cn - 1) (Nat.le_refl _)
 have hb : bs x m (x.cn - 1) ≤ 20000 * ((x.cn - 1 : Nat) : Int) := hgood.1.2
 have hcn := hx.cn
 have hlt : taken x m < never := by unfold never; omega
 obtain ⟨q, hq, he⟩ := tmin_at hlt
 have he' : taken x m = tk x m (x.cn - 1) q := he
 obtain ⟨p, c, hp, -, hsum⟩ := path (x := x) (m := m) (x.cn - 1) hk q hq (by rw [← he']; exact hlt)
 have := weak hx hm hp (x.cn - 1) (Nat.le_refl _)
 omega
/-- **The least that hands have taken is what stretches prove.** -/
theorem taken_eq (hx : Ok x) (hw : fwOk x (whole x) = true) (hm : m < 2 ^ x.hands.toNat) : taken x m = bs x m (x.cn - 1) := Int.le_antisymm (taken_le hx hw hm) (le_taken hx hw hm)
end L
end HandSpec
