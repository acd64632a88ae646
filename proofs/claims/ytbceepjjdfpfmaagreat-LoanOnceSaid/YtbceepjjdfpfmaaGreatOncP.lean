/- Plain law of LoanOnce: what a payment is booked to, in its order. -/
import Derived.Test.YtbceepjjdfpfmaaGreatRefC
import Derived.Test.YtbceepjjdfpfmaaGreatPaid
namespace Go.Proofs.YtbceepjjdfpfmaaGreat
open Go.RowKit HandSpec LoanSpec
set_option maxHeartbeats 2000000
set_option maxRecDepth 100000
/-- So much more is booked. -/
def addL : (Nat → Int) → List (Nat × Int) → Nat → Int
  | b, [] => b
  | b, p :: r => addL (upd b p.1 (b p.1 + p.2)) r
def sumV : List (Nat × Int) → Int
  | [] => 0
  | p :: r => p.2 + sumV r
theorem addL_snoc (p : Nat × Int) : ∀ (ps : List (Nat × Int)) (b : Nat → Int), addL b (ps ++ [p]) = upd (addL b ps) p.1 (addL b ps p.1 + p.2)
  | [], _ => rfl
  | _ :: r, _ => addL_snoc p r _
theorem sumV_snoc (p : Nat × Int) : ∀ ps : List (Nat × Int), sumV (ps ++ [p]) = sumV ps + p.2
  | [] => by simp [sumV]
  | q :: r => by
    have ih := sumV_snoc p r
    simp only [List.cons_append, sumV]
    omega
theorem fill_add (A : Nat → Int) : ∀ (l : List Nat) (b : Nat → Int) (n : Int), (P.fill A l b n).1 = addL b (P.parts A l b n) ∧ sumV (P.parts A l b n) + (P.fill A l b n).2 = n
  | [], b, n => ⟨rfl, by show 0 + n = n; omega⟩
  | i :: l, b, n => by
    obtain ⟨h1, h2⟩ := fill_add A l (upd b i (b i + min n (A i - b i))) (n - min n (A i - b i))
    show (P.fill A l _ _).1 = addL b ((if min n (A i - b i) = 0 then [] else [(i, min n (A i - b i))]) ++ P.parts A l _ _) ∧ sumV ((if min n (A i - b i) = 0 then [] else [(i, min n (A i - b i))]) ++ P.parts A l _ _) + (P.fill A l _ _).2 = n
    by_cases e : min n (A i - b i) = 0
    · rw [if_pos e]
      refine ⟨?_, ?_⟩
      · rw [h1, List.nil_append]
        congr 1
        rw [e]
        funext j
        by_cases q : j = i
        · subst q; rw [upd_same]; omega
        · rw [upd_other _ _ q]
      · exact h2.trans (by omega)
    · rw [if_neg e]
      refine ⟨by rw [h1]; rfl, ?_⟩
      show (min n (A i - b i) + sumV (P.parts A l (upd b i (b i + min n (A i - b i))) (n - min n (A i - b i)))) + (P.fill A l (upd b i (b i + min n (A i - b i))) (n - min n (A i - b i))).2 = n
      omega
theorem parts_in (A : Nat → Int) : ∀ (l : List Nat) (b : Nat → Int) (n : Int) (p : Nat × Int), p ∈ P.parts A l b n → p.1 ∈ l
  | [], _, _, _, h => by simp [P.parts] at h
  | i :: l, b, n, p, h => by
    have h : p ∈ (if min n (A i - b i) = 0 then [] else [(i, min n (A i - b i))]) ++ P.parts A l _ _ := h
    rcases List.mem_append.1 h with h | h
    · split at h
      · simp at h
      · rw [List.mem_singleton] at h
        subst h
        exact List.mem_cons_self ..
    · exact List.mem_cons_of_mem _ (parts_in A l _ _ p h)
theorem parts_pair {R : Nat → Nat → Prop} (A : Nat → Int) : ∀ (l : List Nat) (b : Nat → Int) (n : Int), l.Pairwise R → (P.parts A l b n).Pairwise (fun p q => R p.1 q.1)
  | [], _, _, _ => List.Pairwise.nil
  | i :: l, b, n, h => by
    rw [List.pairwise_cons] at h
    have ih := parts_pair A l (upd b i (b i + min n (A i - b i))) (n - min n (A i - b i)) h.2
    show ((if min n (A i - b i) = 0 then [] else [(i, min n (A i - b i))]) ++ P.parts A l _ _).Pairwise _
    split
    · exact ih
    · exact List.Pairwise.cons (fun p hp => h.1 _ (parts_in A l _ _ p hp)) ih
/-- Each part is of a bushel at least; who is not full is the last one that gets any, and nothing is over. -/
theorem parts_full {A : Nat → Int} {R : Nat → Nat → Prop} : ∀ (l : List Nat) (b : Nat → Int) (n : Int), 0 ≤ n → (∀ i, i ∈ l → b i ≤ A i) → l.Pairwise R → l.Pairwise (· ≠ ·) →
    (∀ p, p ∈ P.parts A l b n → 1 ≤ p.2 ∧ p.2 ≤ n) ∧ 0 ≤ (P.fill A l b n).2 ∧ (∀ i, i ∈ l → (P.fill A l b n).1 i ≤ A i ∧ ((P.fill A l b n).1 i ≠ A i → (P.fill A l b n).2 = 0 ∧ ∀ p, p ∈ P.parts A l b n → p.1 = i ∨ R p.1 i))
  | [], _, n, hn, _, _, _ => ⟨fun p hp => by simp [P.parts] at hp, hn, fun i hi => by simp at hi⟩
  | k :: l, b, n, hn, hb, hR, hne => by
    rw [List.pairwise_cons] at hR hne
    have hk := hb k (List.mem_cons_self ..)
    have hkl : k ∉ l := fun h => hne.1 k h rfl
    have hm : 0 ≤ min n (A k - b k) ∧ min n (A k - b k) ≤ n := by omega
    obtain ⟨h1, h2, h3⟩ := parts_full (A := A) (R := R) l (upd b k (b k + min n (A k - b k))) (n - min n (A k - b k)) (by omega) (fun i hi => by
      rw [upd_other _ _ (fun e => hkl (by rw [← e]; exact hi))]
      exact hb i (List.mem_cons_of_mem _ hi)) hR.2 hne.2
    have hzero : n - min n (A k - b k) = 0 → P.parts A l (upd b k (b k + min n (A k - b k))) (n - min n (A k - b k)) = [] ∧ (P.fill A l (upd b k (b k + min n (A k - b k))) (n - min n (A k - b k))).2 = 0 := fun e => by
      have h4 := (fill_add A l (upd b k (b k + min n (A k - b k))) (n - min n (A k - b k))).2
      have h5 : ∀ ps : List (Nat × Int), (∀ p, p ∈ ps → 1 ≤ p.2 ∧ p.2 ≤ 0) → ps = [] := fun ps hp => by
        cases ps with
        | nil => rfl
        | cons p r => have := hp p (List.mem_cons_self ..); omega
      have h6 := h5 _ (fun p hp => by have := h1 p hp; omega)
      rw [h6] at h4
      exact ⟨h6, by simp only [sumV] at h4; omega⟩
    show (∀ p, p ∈ (if min n (A k - b k) = 0 then [] else [(k, min n (A k - b k))]) ++ P.parts A l _ _ → 1 ≤ p.2 ∧ p.2 ≤ n) ∧ 0 ≤ (P.fill A l _ _).2 ∧ (∀ i, i ∈ k :: l → (P.fill A l _ _).1 i ≤ A i ∧ ((P.fill A l _ _).1 i ≠ A i → (P.fill A l _ _).2 = 0 ∧ ∀ p, p ∈ (if min n (A k - b k) = 0 then [] else [(k, min n (A k - b k))]) ++ P.parts A l _ _ → p.1 = i ∨ R p.1 i))
    have hhead : ∀ p, p ∈ (if min n (A k - b k) = 0 then [] else [(k, min n (A k - b k))]) → p = (k, min n (A k - b k)) ∧ min n (A k - b k) ≠ 0 := fun p hp => by
      split at hp
      · simp at hp
      · rename_i e
        exact ⟨List.mem_singleton.1 hp, e⟩
    refine ⟨fun p hp => ?_, h2, fun i hi => ?_⟩
    · rcases List.mem_append.1 hp with hp | hp
      · obtain ⟨rfl, e⟩ := hhead p hp
        dsimp only
        omega
      · have := h1 p hp
        omega
    · rcases List.mem_cons.1 hi with rfl | hi
      · have hv : (P.fill A l (upd b i (b i + min n (A i - b i))) (n - min n (A i - b i))).1 i = b i + min n (A i - b i) := by
          rw [P.fill_other A hkl, upd_same]
        rw [hv]
        refine ⟨by omega, fun e => ?_⟩
        obtain ⟨h6, h7⟩ := hzero (by omega)
        refine ⟨h7, fun p hp => ?_⟩
        rw [h6, List.append_nil] at hp
        obtain ⟨rfl, _⟩ := hhead p hp
        exact .inl rfl
      · obtain ⟨h4, h5⟩ := h3 i hi
        refine ⟨h4, fun e => ⟨(h5 e).1, fun p hp => ?_⟩⟩
        rcases List.mem_append.1 hp with hp | hp
        · obtain ⟨rfl, _⟩ := hhead p hp
          exact .inr (hR.1 i hi)
        · exact (h5 e).2 p hp
/-- What is booked by the first k payments. -/
def bkd (x : LD) (k : Nat) : Nat → Int := P.untilTo x x.years k
theorem bkd_step {x : LD} (hx : Ok x) {k : Nat} (hk : k < x.pn) : bkd x (k + 1) = addL (bkd x k) (P.partsOf x k) := by
  have hy := hx.pyear k hk
  show (if x.pa k 1 ≤ x.years then (P.book x k (P.untilTo x x.years k)).1 else P.untilTo x x.years k) = _
  rw [if_pos (by omega)]
  exact (fill_add _ _ _ _).1
theorem until_all {x : LD} {z : Int} : ∀ k, (∀ j, j < k → x.pa j 1 ≤ z ∧ x.pa j 1 ≤ x.years) → P.untilTo x z k = bkd x k
  | 0, _ => rfl
  | k + 1, h => by
    have ih := until_all k fun j hj => h j (by omega)
    have h1 := h k (by omega)
    show (if x.pa k 1 ≤ z then (P.book x k (P.untilTo x z k)).1 else P.untilTo x z k) = if x.pa k 1 ≤ x.years then (P.book x k (bkd x k)).1 else bkd x k
    rw [if_pos h1.1, if_pos h1.2, ih]
theorem until_none {x : LD} {z : Int} {k : Nat} : ∀ d, (∀ j, k ≤ j → j < k + d → z < x.pa j 1) → P.untilTo x z (k + d) = P.untilTo x z k
  | 0, _ => rfl
  | d + 1, h => by
    have ih := until_none d fun j h1 h2 => h j h1 (by omega)
    rw [← ih]
    show (if x.pa (k + d) 1 ≤ z then (P.book x (k + d) (P.untilTo x z (k + d))).1 else P.untilTo x z (k + d)) = _
    rw [if_neg (by have := h (k + d) (by omega) (by omega); omega)]
/-- What is left at the end of a year before the next payment. -/
theorem left_now {x : LD} (hx : Ok x) {k : Nat} (hk : k ≤ x.pn) {z : Int} (h1 : ∀ j, j < k → x.pa j 1 ≤ z) (h2 : ∀ j, k ≤ j → j < x.pn → z < x.pa j 1) {i : Nat} (hi : i < x.ln) : P.left x i z = if x.lo i 1 ≤ z then P.asked x i - bkd x k i else 0 := by
  have e : P.booked x z = bkd x k := by
    obtain ⟨d, hd⟩ := Nat.le.dest hk
    have e1 : P.untilTo x z x.pn = P.untilTo x z k := by
      rw [← hd]
      exact until_none d fun j a b => h2 j a (by omega)
    exact e1.trans (until_all k fun j hj => ⟨h1 j hj, by have := hx.pyear j (by omega); omega⟩)
  rw [LoanSpec.P.left_eq hx hi, R.left_eq hx, e]
  by_cases q : x.lo i 1 ≤ z
  · rw [if_pos q, if_neg (by omega)]
  · rw [if_neg q, if_pos (by omega)]
/-- Loan and bushels of a part. -/
def pl (ps : List (Nat × Int)) (j : Nat) : Nat := (ps.getD j (0, 0)).1
def pv (ps : List (Nat × Int)) (j : Nat) : Int := (ps.getD j (0, 0)).2
theorem rowsP_at {ps : List (Nat × Int)} {j : Nat} (hj : j < ps.length) : rowsAt (rowsP ps) j 0 = (pl ps j : Int) ∧ rowsAt (rowsP ps) j 1 = pv ps j := by
  have e : (rowsP ps).getD j [] = [(pl ps j : Int), pv ps j] := by
    unfold rowsP pl pv
    simp [hj]
  unfold rowsAt
  rw [e]
  exact ⟨rfl, rfl⟩
theorem pl_mem {ps : List (Nat × Int)} {j : Nat} (hj : j < ps.length) : (pl ps j, pv ps j) ∈ ps := by
  unfold pl pv
  rw [List.getD_eq_getElem?_getD, List.getElem?_eq_getElem hj]
  exact List.getElem_mem _
/-- What is booked with the first j parts. -/
def bp (b : Nat → Int) (ps : List (Nat × Int)) (j : Nat) : Nat → Int := addL b (ps.take j)
theorem bp_step (b : Nat → Int) {ps : List (Nat × Int)} {j : Nat} (hj : j < ps.length) : bp b ps (j + 1) = upd (bp b ps j) (pl ps j) (bp b ps j (pl ps j) + pv ps j) := by
  unfold bp
  have e : ps.take (j + 1) = ps.take j ++ [(pl ps j, pv ps j)] := by
    rw [List.take_succ_eq_append_getElem hj]
    unfold pl pv
    rw [List.getD_eq_getElem?_getD, List.getElem?_eq_getElem hj]
    rfl
  rw [e, addL_snoc]
theorem bp_mono {b : Nat → Int} {ps : List (Nat × Int)} (h : ∀ p, p ∈ ps → 1 ≤ p.2) (i : Nat) : ∀ j, j ≤ ps.length → b i ≤ bp b ps j i
  | 0, _ => by unfold bp; simp [addL]
  | j + 1, hj => by
    have ih := bp_mono (b := b) h i j (by omega)
    have := h _ (pl_mem (show j < ps.length by omega))
    rw [bp_step b (by omega)]
    by_cases e : i = pl ps j
    · subst e; rw [upd_same]; dsimp only at this; omega
    · rw [upd_other _ _ e]; exact ih
theorem bp_later {b : Nat → Int} {ps : List (Nat × Int)} (h : ∀ p, p ∈ ps → 1 ≤ p.2) (i : Nat) : ∀ d j, j + d ≤ ps.length → bp b ps j i ≤ bp b ps (j + d) i
  | 0, _, _ => Int.le_refl _
  | d + 1, j, hj => by
    have ih := bp_later (b := b) h i d j (by omega)
    have := h _ (pl_mem (show j + d < ps.length by omega))
    show _ ≤ bp b ps (j + d + 1) i
    rw [bp_step b (by omega)]
    by_cases e : i = pl ps (j + d)
    · subst e; rw [upd_same]; dsimp only at this; omega
    · rw [upd_other _ _ e]; exact ih
theorem sumV_to : ∀ (ps : List (Nat × Int)) (j : Nat), j ≤ ps.length → sumV (ps.take j) = sumTo (pv ps) j
  | _, 0, _ => by simp [sumV, sumTo]
  | ps, j + 1, hj => by
    have ih := sumV_to ps j (by omega)
    have e : ps.take (j + 1) = ps.take j ++ [(pl ps j, pv ps j)] := by
      rw [List.take_succ_eq_append_getElem (by omega)]
      unfold pl pv
      rw [List.getD_eq_getElem?_getD, List.getElem?_eq_getElem (show j < ps.length by omega)]
      rfl
    rw [e, sumV_snoc, ih, sumTo_succ]
/-- What the law asks of a payment. -/
structure PayL (x : LD) (k : Nat) (ps : List (Nat × Int)) (o : Int) : Prop where
  ob : 0 ≤ o ∧ o ≤ x.pa k 2
  pr : ∀ j, j < ps.length → pl ps j < x.ln ∧ 1 ≤ pv ps j ∧ pv ps j ≤ 500 ∧ x.lo (pl ps j) 0 = x.pa k 0 ∧ x.lo (pl ps j) 1 ≤ x.pa k 1
  so : ∀ j, j + 1 < ps.length → Before x (pl ps j) (pl ps (j + 1))
  tt : o + sumTo (pv ps) ps.length = x.pa k 2
  en : bp (bkd x k) ps ps.length = bkd x (k + 1)
  bd : ∀ i, i < x.ln → ∀ j, j ≤ ps.length → 0 ≤ bp (bkd x k) ps j i ∧ bp (bkd x k) ps j i ≤ P.asked x i
  fu : ∀ i, i < x.ln → x.lo i 0 = x.pa k 0 → x.lo i 1 ≤ x.pa k 1 → (0 < o ∨ (0 < ps.length ∧ (x.lo i 1 < x.lo (pl ps (ps.length - 1)) 1 ∨ (x.lo (pl ps (ps.length - 1)) 1 = x.lo i 1 ∧ i < pl ps (ps.length - 1))))) → bkd x (k + 1) i = P.asked x i
theorem pay_law {x : LD} (hx : Ok x) {k : Nat} (hk : k < x.pn) : PayL x k (P.partsOf x k) (P.overOf x k) := by
  have hp := hx.psack k hk
  have hbd := P.until_bd hx x.years k (by omega)
  obtain ⟨h1, h2, h3⟩ := parts_full (A := P.asked x) (R := Before x) (P.mine x (x.pa k 0) (x.pa k 1)) (bkd x k) (x.pa k 2) (by omega) (fun i hi => (hbd i (P.mine_lt hx hi)).2) (P.mine_sorted _ _) (P.mine_nodup _ _)
  have h4 := fill_add (P.asked x) (P.mine x (x.pa k 0) (x.pa k 1)) (bkd x k) (x.pa k 2)
  have h5 := parts_in (P.asked x) (P.mine x (x.pa k 0) (x.pa k 1)) (bkd x k) (x.pa k 2)
  have h6 := parts_pair (P.asked x) (P.mine x (x.pa k 0) (x.pa k 1)) (bkd x k) (x.pa k 2) (P.mine_sorted _ _)
  have h7 : addL (bkd x k) (P.partsOf x k) = bkd x (k + 1) := (bkd_step hx hk).symm
  have h8 : (P.fill (P.asked x) (P.mine x (x.pa k 0) (x.pa k 1)) (bkd x k) (x.pa k 2)).1 = bkd x (k + 1) := h4.1.trans h7
  have h9 : P.parts (P.asked x) (P.mine x (x.pa k 0) (x.pa k 1)) (bkd x k) (x.pa k 2) = P.partsOf x k := rfl
  have h10 : (P.fill (P.asked x) (P.mine x (x.pa k 0) (x.pa k 1)) (bkd x k) (x.pa k 2)).2 = P.overOf x k := rfl
  rw [h8, h10] at h3
  rw [h9] at h1 h3 h5 h6
  rw [h10] at h2
  have hsum : sumV (P.partsOf x k) + P.overOf x k = x.pa k 2 := h4.2
  generalize P.partsOf x k = ps at *
  generalize P.overOf x k = o at *
  have hst := sumV_to ps ps.length (Nat.le_refl _)
  rw [List.take_length] at hst
  have hs0 : 0 ≤ sumTo (pv ps) ps.length := by
    have : ∀ j, j ≤ ps.length → 0 ≤ sumTo (pv ps) j := fun j => by
      induction j with
      | zero => exact fun _ => Int.le_refl _
      | succ j ih =>
        intro hj
        have := ih (by omega)
        have := h1 _ (pl_mem (show j < ps.length by omega))
        rw [sumTo_succ]
        dsimp only at this
        omega
    exact this _ (Nat.le_refl _)
  have hend : bp (bkd x k) ps ps.length = bkd x (k + 1) := by unfold bp; rw [List.take_length]; exact h7
  refine ⟨by omega, fun j hj => ?_, fun j hj => ?_, by omega, hend, fun i hi j hj => ?_, fun i hi hw hy hl => ?_⟩
  · have hm := pl_mem hj
    have q1 := h1 _ hm
    obtain ⟨q2, q3, q4⟩ := (P.mem_mine hx).1 (h5 _ hm)
    dsimp only at q1
    exact ⟨q2, q1.1, by omega, q3, q4⟩
  · have := List.pairwise_iff_getElem.1 h6 j (j + 1) (by omega) hj (by omega)
    unfold pl
    rw [List.getD_eq_getElem?_getD, List.getD_eq_getElem?_getD, List.getElem?_eq_getElem (show j < ps.length by omega), List.getElem?_eq_getElem hj]
    exact this
  · have q1 := bp_mono (b := bkd x k) (fun p hp => (h1 p hp).1) i j hj
    have q2 := bp_later (b := bkd x k) (fun p hp => (h1 p hp).1) i (ps.length - j) j (by omega)
    rw [show j + (ps.length - j) = ps.length by omega, hend] at q2
    have q3 := P.until_bd hx x.years (k + 1) (by omega) i hi
    have q4 := hbd i hi
    have q3 : 0 ≤ bkd x (k + 1) i ∧ bkd x (k + 1) i ≤ P.asked x i := q3
    have q4 : 0 ≤ bkd x k i ∧ bkd x k i ≤ P.asked x i := q4
    omega
  · refine Classical.byContradiction fun hne => ?_
    obtain ⟨q1, q2⟩ := (h3 i ((P.mem_mine hx).2 ⟨hi, hw, hy⟩)).2 hne
    rcases hl with hl | ⟨hl, hl2⟩
    · omega
    · have := q2 _ (pl_mem (show ps.length - 1 < ps.length by omega))
      dsimp only at this
      unfold Before at this
      rcases this with e | e
      · rw [e] at hl2; omega
      · omega
end Go.Proofs.YtbceepjjdfpfmaaGreat
