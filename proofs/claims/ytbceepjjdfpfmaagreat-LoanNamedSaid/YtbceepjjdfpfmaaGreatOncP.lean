/- Plain law of LoanOnce: what a payment is booked to, in its order. Walk of the closure of LoanOnce (38): what is left at the end of all years up to one. The ledger is right; its boxes are the closure's. -/
import Derived.Test.YtbceepjjdfpfmaaGreatRefC
import Derived.Test.YtbceepjjdfpfmaaGreatPaid
import Derived.Test.YtbceepjjdfpfmaaGreatApp
import Derived.Test.YtbceepjjdfpfmaaGreatMk
namespace Go.Proofs.YtbceepjjdfpfmaaGreat
open Go.RowKit HandSpec LoanSpec
set_option maxHeartbeats 2000000
set_option maxRecDepth 100000
/-- So much more is booked. -/
def addL : (Nat → Int) → List (Nat × Int) → Nat → Int
  | b, [] => b
  | b, p :: r => addL (upd b p.1 (b p.1 + p.2)) r
def sumV : List (Nat × Int) → Int
  | [] => 0
  | p :: r => p.2 + sumV r
theorem addL_snoc (p : Nat × Int) : ∀ (ps : List (Nat × Int)) (b : Nat → Int), addL b (ps ++ [p]) = upd (addL b ps) p.1 (addL b ps p.1 + p.2)
  | [], _ => rfl
  | _ :: r, _ => addL_snoc p r _
theorem sumV_snoc (p : Nat × Int) : ∀ ps : List (Nat × Int), sumV (ps ++ [p]) = sumV ps + p.2
  | [] => by simp [sumV]
  | q :: r => by
    have ih := sumV_snoc p r
    simp only [List.cons_append, sumV]
    omega
theorem fill_add (A : Nat → Int) : ∀ (l : List Nat) (b : Nat → Int) (n : Int), (P.fill A l b n).1 = addL b (P.parts A l b n) ∧ sumV (P.parts A l b n) + (P.fill A l b n).2 = n
  | [], b, n => ⟨rfl, by show 0 + n = n; omega⟩
  | i :: l, b, n => by
    obtain ⟨h1, h2⟩ := fill_add A l (upd b i (b i + min n (A i - b i))) (n - min n (A i - b i))
    show (P.fill A l _ _).1 = addL b ((if min n (A i - b i) = 0 then [] else [(i, min n (A i - b i))]) ++ P.parts A l _ _) ∧ sumV ((if min n (A i - b i) = 0 then [] else [(i, min n (A i - b i))]) ++ P.parts A l _ _) + (P.fill A l _ _).2 = n
    by_cases e : min n (A i - b i) = 0
    · rw [if_pos e]
      refine ⟨?_, ?_⟩
      · rw [h1, List.nil_append]
        congr 1
        rw [e]
        funext j
        by_cases q : j = i
        · subst q; rw [upd_same]; omega
        · rw [upd_other _ _ q]
      · exact h2.trans (by omega)
    · rw [if_neg e]
      refine ⟨by rw [h1]; rfl, ?_⟩
      show (min n (A i - b i) + sumV (P.parts A l (upd b i (b i + min n (A i - b i))) (n - min n (A i - b i)))) + (P.fill A l (upd b i (b i + min n (A i - b i))) (n - min n (A i - b i))).2 = n
      omega
theorem parts_in (A : Nat → Int) : ∀ (l : List Nat) (b : Nat → Int) (n : Int) (p : Nat × Int), p ∈ P.parts A l b n → p.1 ∈ l
  | [], _, _, _, h => by simp [P.parts] at h
  | i :: l, b, n, p, h => by
    have h : p ∈ (if min n (A i - b i) = 0 then [] else [(i, min n (A i - b i))]) ++ P.parts A l _ _ := h
    rcases List.mem_append.1 h with h | h
    · split at h
      · simp at h
      · rw [List.mem_singleton] at h
        subst h
        exact List.mem_cons_self ..
    · exact List.mem_cons_of_mem _ (parts_in A l _ _ p h)
theorem parts_pair {R : Nat → Nat → Prop} (A : Nat → Int) : ∀ (l : List Nat) (b : Nat → Int) (n : Int), l.Pairwise R → (P.parts A l b n).Pairwise (fun p q => R p.1 q.1)
  | [], _, _, _ => List.Pairwise.nil
  | i :: l, b, n, h => by
    rw [List.pairwise_cons] at h
    have ih := parts_pair A l (upd b i (b i + min n (A i - b i))) (n - min n (A i - b i)) h.2
    show ((if min n (A i - b i) = 0 then [] else [(i, min n (A i - b i))]) ++ P.parts A l _ _).Pairwise _
    split
    · exact ih
    · exact List.Pairwise.cons (fun p hp => h.1 _ (parts_in A l _ _ p hp)) ih
/-- Each part is of a bushel at least; who is not full is the last one that gets any, and nothing is over. -/
theorem parts_full {A : Nat → Int} {R : Nat → Nat → Prop} : ∀ (l : List Nat) (b : Nat → Int) (n : Int), 0 ≤ n → (∀ i, i ∈ l → b i ≤ A i) → l.Pairwise R → l.Pairwise (· ≠ ·) →
    (∀ p, p ∈ P.parts A l b n → 1 ≤ p.2 ∧ p.2 ≤ n) ∧ 0 ≤ (P.fill A l b n).2 ∧ (∀ i, i ∈ l → (P.fill A l b n).1 i ≤ A i ∧ ((P.fill A l b n).1 i ≠ A i → (P.fill A l b n).2 = 0 ∧ ∀ p, p ∈ P.parts A l b n → p.1 = i ∨ R p.1 i))
  | [], _, n, hn, _, _, _ => ⟨fun p hp => by simp [P.parts] at hp, hn, fun i hi => by simp at hi⟩
  | k :: l, b, n, hn, hb, hR, hne => by
    rw [List.pairwise_cons] at hR hne
    have hk := hb k (List.mem_cons_self ..)
    have hkl : k ∉ l := fun h => hne.1 k h rfl
    have hm : 0 ≤ min n (A k - b k) ∧ min n (A k - b k) ≤ n := by omega
    obtain ⟨h1, h2, h3⟩ := parts_full (A := A) (R := R) l (upd b k (b k + min n (A k - b k))) (n - min n (A k - b k)) (by omega) (fun i hi => by
      rw [upd_other _ _ (fun e => hkl (by rw [← e]; exact hi))]
      exact hb i (List.mem_cons_of_mem _ hi)) hR.2 hne.2
    have hzero : n - min n (A k - b k) = 0 → P.parts A l (upd b k (b k + min n (A k - b k))) (n - min n (A k - b k)) = [] ∧ (P.fill A l (upd b k (b k + min n (A k - b k))) (n - min n (A k - b k))).2 = 0 := fun e => by
      have h4 := (fill_add A l (upd b k (b k + min n (A k - b k))) (n - min n (A k - b k))).2
      have h5 : ∀ ps : List (Nat × Int), (∀ p, p ∈ ps → 1 ≤ p.2 ∧ p.2 ≤ 0) → ps = [] := fun ps hp => by
        cases ps with
        | nil => rfl
        | cons p r => have := hp p (List.mem_cons_self ..); omega
      have h6 := h5 _ (fun p hp => by have := h1 p hp; omega)
      rw [h6] at h4
      exact ⟨h6, by simp only [sumV] at h4; omega⟩
    show (∀ p, p ∈ (if min n (A k - b k) = 0 then [] else [(k, min n (A k - b k))]) ++ P.parts A l _ _ → 1 ≤ p.2 ∧ p.2 ≤ n) ∧ 0 ≤ (P.fill A l _ _).2 ∧ (∀ i, i ∈ k :: l → (P.fill A l _ _).1 i ≤ A i ∧ ((P.fill A l _ _).1 i ≠ A i → (P.fill A l _ _).2 = 0 ∧ ∀ p, p ∈ (if min n (A k - b k) = 0 then [] else [(k, min n (A k - b k))]) ++ P.parts A l _ _ → p.1 = i ∨ R p.1 i))
    have hhead : ∀ p, p ∈ (if min n (A k - b k) = 0 then [] else [(k, min n (A k - b k))]) → p = (k, min n (A k - b k)) ∧ min n (A k - b k) ≠ 0 := fun p hp => by
      split at hp
      · simp at hp
      · rename_i e
        exact ⟨List.mem_singleton.1 hp, e⟩
    refine ⟨fun p hp => ?_, h2, fun i hi => ?_⟩
    · rcases List.mem_append.1 hp with hp | hp
      · obtain ⟨rfl, e⟩ := hhead p hp
        dsimp only
        omega
      · have := h1 p hp
        omega
    · rcases List.mem_cons.1 hi with rfl | hi
      · have hv : (P.fill A l (upd b i (b i + min n (A i - b i))) (n - min n (A i - b i))).1 i = b i + min n (A i - b i) := by
          rw [P.fill_other A hkl, upd_same]
        rw [hv]
        refine ⟨by omega, fun e => ?_⟩
        obtain ⟨h6, h7⟩ := hzero (by omega)
        refine ⟨h7, fun p hp => ?_⟩
        rw [h6, List.append_nil] at hp
        obtain ⟨rfl, _⟩ := hhead p hp
        exact .inl rfl
      · obtain ⟨h4, h5⟩ := h3 i hi
        refine ⟨h4, fun e => ⟨(h5 e).1, fun p hp => ?_⟩⟩
        rcases List.mem_append.1 hp with hp | hp
        · obtain ⟨rfl, _⟩ := hhead p hp
          exact .inr (hR.1 i hi)
        · exact (h5 e).2 p hp
/-- What is booked by the first k payments. -/
def bkd (x : LD) (k : Nat) : Nat → Int := P.untilTo x x.years k
theorem bkd_step {x : LD} (hx : Ok x) {k : Nat} (hk : k < x.pn) : bkd x (k + 1) = addL (bkd x k) (P.partsOf x k) := by
  have hy := hx.pyear k hk
  show (if x.pa k 1 ≤ x.years then (P.book x k (P.untilTo x x.years k)).1 else P.untilTo x x.years k) = _
  rw [if_pos (by omega)]
  exact (fill_add _ _ _ _).1
theorem until_all {x : LD} {z : Int} : ∀ k, (∀ j, j < k → x.pa j 1 ≤ z ∧ x.pa j 1 ≤ x.years) → P.untilTo x z k = bkd x k
  | 0, _ => rfl
  | k + 1, h => by
    have ih := until_all k fun j hj => h j (by omega)
    have h1 := h k (by omega)
    show (if x.pa k 1 ≤ z then (P.book x k (P.untilTo x z k)).1 else P.untilTo x z k) = if x.pa k 1 ≤ x.years then (P.book x k (bkd x k)).1 else bkd x k
    rw [if_pos h1.1, if_pos h1.2, ih]
theorem until_none {x : LD} {z : Int} {k : Nat} : ∀ d, (∀ j, k ≤ j → j < k + d → z < x.pa j 1) → P.untilTo x z (k + d) = P.untilTo x z k
  | 0, _ => rfl
  | d + 1, h => by
    have ih := until_none d fun j h1 h2 => h j h1 (by omega)
    rw [← ih]
    show (if x.pa (k + d) 1 ≤ z then (P.book x (k + d) (P.untilTo x z (k + d))).1 else P.untilTo x z (k + d)) = _
    rw [if_neg (by have := h (k + d) (by omega) (by omega); omega)]
/-- What is left at the end of a year before the next payment. -/
theorem left_now {x : LD} (hx : Ok x) {k : Nat} (hk : k ≤ x.pn) {z : Int} (h1 : ∀ j, j < k → x.pa j 1 ≤ z) (h2 : ∀ j, k ≤ j → j < x.pn → z < x.pa j 1) {i : Nat} (hi : i < x.ln) : P.left x i z = if x.lo i 1 ≤ z then P.asked x i - bkd x k i else 0 := by
  have e : P.booked x z = bkd x k := by
    obtain ⟨d, hd⟩ := Nat.le.dest hk
    have e1 : P.untilTo x z x.pn = P.untilTo x z k := by
      rw [← hd]
      exact until_none d fun j a b => h2 j a (by omega)
    exact e1.trans (until_all k fun j hj => ⟨h1 j hj, by have := hx.pyear j (by omega); omega⟩)
  rw [LoanSpec.P.left_eq hx hi, R.left_eq hx, e]
  by_cases q : x.lo i 1 ≤ z
  · rw [if_pos q, if_neg (by omega)]
  · rw [if_neg q, if_pos (by omega)]
/-- Loan and bushels of a part. -/
def pl (ps : List (Nat × Int)) (j : Nat) : Nat := (ps.getD j (0, 0)).1
def pv (ps : List (Nat × Int)) (j : Nat) : Int := (ps.getD j (0, 0)).2
theorem rowsP_at {ps : List (Nat × Int)} {j : Nat} (hj : j < ps.length) : rowsAt (rowsP ps) j 0 = (pl ps j : Int) ∧ rowsAt (rowsP ps) j 1 = pv ps j := by
  have e : (rowsP ps).getD j [] = [(pl ps j : Int), pv ps j] := by
    unfold rowsP pl pv
    simp [hj]
  unfold rowsAt
  rw [e]
  exact ⟨rfl, rfl⟩
theorem pl_mem {ps : List (Nat × Int)} {j : Nat} (hj : j < ps.length) : (pl ps j, pv ps j) ∈ ps := by
  unfold pl pv
  rw [List.getD_eq_getElem?_getD, List.getElem?_eq_getElem hj]
  exact List.getElem_mem _
/-- What is booked with the first j parts. -/
def bp (b : Nat → Int) (ps : List (Nat × Int)) (j : Nat) : Nat → Int := addL b (ps.take j)
theorem bp_step (b : Nat → Int) {ps : List (Nat × Int)} {j : Nat} (hj : j < ps.length) : bp b ps (j + 1) = upd (bp b ps j) (pl ps j) (bp b ps j (pl ps j) + pv ps j) := by
  unfold bp
  have e : ps.take (j + 1) = ps.take j ++ [(pl ps j, pv ps j)] := by
    rw [List.take_succ_eq_append_getElem hj]
    unfold pl pv
    rw [List.getD_eq_getElem?_getD, List.getElem?_eq_getElem hj]
    rfl
  rw [e, addL_snoc]
theorem bp_mono {b : Nat → Int} {ps : List (Nat × Int)} (h : ∀ p, p ∈ ps → 1 ≤ p.2) (i : Nat) : ∀ j, j ≤ ps.length → b i ≤ bp b ps j i
  | 0, _ => by unfold bp; simp [addL]
  | j + 1, hj => by
    have ih := bp_mono (b := b) h i j (by omega)
    have := h _ (pl_mem (show j < ps.length by omega))
    rw [bp_step b (by omega)]
    by_cases e : i = pl ps j
    · subst e; rw [upd_same]; dsimp only at this; omega
    · rw [upd_other _ _ e]; exact ih
theorem bp_later {b : Nat → Int} {ps : List (Nat × Int)} (h : ∀ p, p ∈ ps → 1 ≤ p.2) (i : Nat) : ∀ d j, j + d ≤ ps.length → bp b ps j i ≤ bp b ps (j + d) i
  | 0, _, _ => Int.le_refl _
  | d + 1, j, hj => by
    have ih := bp_later (b := b) h i d j (by omega)
    have := h _ (pl_mem (show j + d < ps.length by omega))
    show _ ≤ bp b ps (j + d + 1) i
    rw [bp_step b (by omega)]
    by_cases e : i = pl ps (j + d)
    · subst e; rw [upd_same]; dsimp only at this; omega
    · rw [upd_other _ _ e]; exact ih
theorem sumV_to : ∀ (ps : List (Nat × Int)) (j : Nat), j ≤ ps.length → sumV (ps.take j) = sumTo (pv ps) j
  | _, 0, _ => by simp [sumV, sumTo]
  | ps, j + 1, hj => by
    have ih := sumV_to ps j (by omega)
    have e : ps.take (j + 1) = ps.take j ++ [(pl ps j, pv ps j)] := by
      rw [List.take_succ_eq_append_getElem (by omega)]
      unfold pl pv
      rw [List.getD_eq_getElem?_getD, List.getElem?_eq_getElem (show j < ps.length by omega)]
      rfl
    rw [e, sumV_snoc, ih, sumTo_succ]
/-- What the law asks of a payment. -/
structure PayL (x : LD) (k : Nat) (ps : List (Nat × Int)) (o : Int) : Prop where
  ob : 0 ≤ o ∧ o ≤ x.pa k 2
  pr : ∀ j, j < ps.length → pl ps j < x.ln ∧ 1 ≤ pv ps j ∧ pv ps j ≤ 500 ∧ x.lo (pl ps j) 0 = x.pa k 0 ∧ x.lo (pl ps j) 1 ≤ x.pa k 1
  so : ∀ j, j + 1 < ps.length → Before x (pl ps j) (pl ps (j + 1))
  tt : o + sumTo (pv ps) ps.length = x.pa k 2
  en : bp (bkd x k) ps ps.length = bkd x (k + 1)
  bd : ∀ i, i < x.ln → ∀ j, j ≤ ps.length → 0 ≤ bp (bkd x k) ps j i ∧ bp (bkd x k) ps j i ≤ P.asked x i
  fu : ∀ i, i < x.ln → x.lo i 0 = x.pa k 0 → x.lo i 1 ≤ x.pa k 1 → (0 < o ∨ (0 < ps.length ∧ (x.lo i 1 < x.lo (pl ps (ps.length - 1)) 1 ∨ (x.lo (pl ps (ps.length - 1)) 1 = x.lo i 1 ∧ i < pl ps (ps.length - 1))))) → bkd x (k + 1) i = P.asked x i
theorem pay_law {x : LD} (hx : Ok x) {k : Nat} (hk : k < x.pn) : PayL x k (P.partsOf x k) (P.overOf x k) := by
  have hp := hx.psack k hk
  have hbd := P.until_bd hx x.years k (by omega)
  obtain ⟨h1, h2, h3⟩ := parts_full (A := P.asked x) (R := Before x) (P.mine x (x.pa k 0) (x.pa k 1)) (bkd x k) (x.pa k 2) (by omega) (fun i hi => (hbd i (P.mine_lt hx hi)).2) (P.mine_sorted _ _) (P.mine_nodup _ _)
  have h4 := fill_add (P.asked x) (P.mine x (x.pa k 0) (x.pa k 1)) (bkd x k) (x.pa k 2)
  have h5 := parts_in (P.asked x) (P.mine x (x.pa k 0) (x.pa k 1)) (bkd x k) (x.pa k 2)
  have h6 := parts_pair (P.asked x) (P.mine x (x.pa k 0) (x.pa k 1)) (bkd x k) (x.pa k 2) (P.mine_sorted _ _)
  have h7 : addL (bkd x k) (P.partsOf x k) = bkd x (k + 1) := (bkd_step hx hk).symm
  have h8 : (P.fill (P.asked x) (P.mine x (x.pa k 0) (x.pa k 1)) (bkd x k) (x.pa k 2)).1 = bkd x (k + 1) := h4.1.trans h7
  have h9 : P.parts (P.asked x) (P.mine x (x.pa k 0) (x.pa k 1)) (bkd x k) (x.pa k 2) = P.partsOf x k := rfl
  have h10 : (P.fill (P.asked x) (P.mine x (x.pa k 0) (x.pa k 1)) (bkd x k) (x.pa k 2)).2 = P.overOf x k := rfl
  rw [h8, h10] at h3
  rw [h9] at h1 h3 h5 h6
  rw [h10] at h2
  have hsum : sumV (P.partsOf x k) + P.overOf x k = x.pa k 2 := h4.2
  generalize P.partsOf x k = ps at *
  generalize P.overOf x k = o at *
  have hst := sumV_to ps ps.length (Nat.le_refl _)
  rw [List.take_length] at hst
  have hs0 : 0 ≤ sumTo (pv ps) ps.length := by
    have : ∀ j, j ≤ ps.length → 0 ≤ sumTo (pv ps) j := fun j => by
      induction j with
      | zero => exact fun _ => Int.le_refl _
      | succ j ih =>
        intro hj
        have := ih (by omega)
        have := h1 _ (pl_mem (show j < ps.length by omega))
        rw [sumTo_succ]
        dsimp only at this
        omega
    exact this _ (Nat.le_refl _)
  have hend : bp (bkd x k) ps ps.length = bkd x (k + 1) := by unfold bp; rw [List.take_length]; exact h7
  refine ⟨by omega, fun j hj => ?_, fun j hj => ?_, by omega, hend, fun i hi j hj => ?_, fun i hi hw hy hl => ?_⟩
  · have hm := pl_mem hj
    have q1 := h1 _ hm
    obtain ⟨q2, q3, q4⟩ := (P.mem_mine hx).1 (h5 _ hm)
    dsimp only at q1
    exact ⟨q2, q1.1, by omega, q3, q4⟩
  · have := List.pairwise_iff_getElem.1 h6 j (j + 1) (by omega) hj (by omega)
    unfold pl
    rw [List.getD_eq_getElem?_getD, List.getD_eq_getElem?_getD, List.getElem?_eq_getElem (show j < ps.length by omega), List.getElem?_eq_getElem hj]
    exact this
  · have q1 := bp_mono (b := bkd x k) (fun p hp => (h1 p hp).1) i j hj
    have q2 := bp_later (b := bkd x k) (fun p hp => (h1 p hp).1) i (ps.length - j) j (by omega)
    rw [show j + (ps.length - j) = ps.length by omega, hend] at q2
    have q3 := P.until_bd hx x.years (k + 1) (by omega) i hi
    have q4 := hbd i hi
    have q3 : 0 ≤ bkd x (k + 1) i ∧ bkd x (k + 1) i ≤ P.asked x i := q3
    have q4 : 0 ≤ bkd x k i ∧ bkd x k i ≤ P.asked x i := q4
    omega
  · refine Classical.byContradiction fun hne => ?_
    obtain ⟨q1, q2⟩ := (h3 i ((P.mem_mine hx).2 ⟨hi, hw, hy⟩)).2 hne
    rcases hl with hl | ⟨hl, hl2⟩
    · omega
    · have := q2 _ (pl_mem (show ps.length - 1 < ps.length by omega))
      dsimp only at this
      unfold Before at this
      rcases this with e | e
      · rw [e] at hl2; omega
      · omega
end Go.Proofs.YtbceepjjdfpfmaaGreat
namespace Go.Proofs.YtbceepjjdfpfmaaGreat
open Go.RowKit HandSpec LoanSpec
set_option maxHeartbeats 4000000
set_option maxRecDepth 100000
theorem eL_at {x : LD} (hx : Ok x) {i : Nat} (hi : i < x.ln) : P.errL x (i : Int) = 0 := by
  unfold P.errL
  rw [if_pos (chk_of_ok hx), show inB (i : Int) 0 ((x.ln : Int) - 1) = true from decide_eq_true (by omega)]
  rfl
theorem eY_at {x : LD} (hx : Ok x) {i : Nat} (hi : i < x.ln) {y : Int} (h0 : 0 ≤ y) (h1 : y < x.years) : P.errY x (i : Int) y = 0 := by
  unfold P.errY
  rw [if_pos (eL_at hx hi), show inB y 0 (x.years - 1) = true from decide_eq_true (by omega)]
  rfl
theorem eW_at {x : LD} (hx : Ok x) {a y : Int} (ha0 : 0 ≤ a) (ha : a < x.folk) (h0 : 0 ≤ y) (h1 : y < x.years) : P.errW x a y = 0 := by
  unfold P.errW
  rw [if_pos (chk_of_ok hx), show inB a 0 (x.folk - 1) = true from decide_eq_true (by omega), show inB y 0 (x.years - 1) = true from decide_eq_true (by omega)]
  rfl
/-- The number in a cell. -/
def cellI (w : World) (g o : Nat) : Int := match w.cell? ⟨g, o, none⟩ with | some (.int _ z) => z | _ => 0
theorem cellI_one {w : World} {g : Nat} {t : TypeId} {a : Int} (h : Blk w g t #[.int .i64 a]) : cellI w g 0 = a := by unfold cellI; rw [h.cell]; rfl
theorem owes_sum {x : LD} (hx : Ok x) (a z : Int) : P.owes x a z = sumTo (fun i => if x.lo i 0 = a then P.left x i z else 0) x.ln := by
  rw [P.owes_eq hx]
  unfold R.owes
  exact sumTo_congr fun i hi => by rw [P.left_eq hx hi]
theorem overdue_le {x : LD} (hx : Ok x) (a z : Int) : 0 ≤ P.overdue x a z ∧ P.overdue x a z ≤ P.owes x a z := by
  rw [P.overdue_eq hx, P.owes_eq hx]
  unfold R.overdue R.owes
  have : ∀ k, k ≤ x.ln → 0 ≤ sumTo (fun i => if x.lo i 0 = a ∧ 0 ≤ P.due x i ∧ P.due x i ≤ z then R.left x i z else 0) k ∧ sumTo (fun i => if x.lo i 0 = a ∧ 0 ≤ P.due x i ∧ P.due x i ≤ z then R.left x i z else 0) k ≤ sumTo (fun i => if x.lo i 0 = a then R.left x i z else 0) k := fun k => by
    induction k with
    | zero => exact fun _ => ⟨Int.le_refl _, Int.le_refl _⟩
    | succ k ih =>
      intro hk
      have ih := ih (by omega)
      have h := (R.left_bd hx (show k < x.ln by omega) z).1
      rw [sumTo_succ, sumTo_succ]
      by_cases q : x.lo k 0 = a
      · rw [if_pos q]
        split <;> omega
      · rw [if_neg (fun h => q h.1), if_neg q]
        omega
  exact this x.ln (Nat.le_refl _)
theorem once38 {x : LD} {p : LA} {wC w : World} {N3 b4 b5 Gb k : Nat} {y u : Int} (hx : Ok x) (hm : Sm x) (hl : IsLA wC x p) (hb3 : Blk wC N3 27 (ledC x p)) (he : Ext wC w) (hb5 : Blk w b5 3 #[.int .i64 y]) (hb4 : Blk w b4 22 #[.slice (some ⟨Gb, 0, none⟩) x.ln x.ln]) (hA : ArrB w Gb 3 x.ln (bkd x k))
    (h5 : wC.heap.size ≤ b5) (hn4 : b4 ≠ b5) (hnG : Gb ≠ b5) (hy : 0 ≤ y) (hu : u ≤ x.years) (hk : k ≤ x.pn) (h1 : ∀ j, j < k → x.pa j 1 ≤ y) (h2 : ∀ j, k ≤ j → j < x.pn → u ≤ x.pa j 1) :
    Calls Tryz.prog 38 #[.int .i64 u, .pointer (some ⟨b5, 0, none⟩), .pointer (some ⟨N3, 0, none⟩), .pointer (some ⟨b4, 0, none⟩)] w fun e w' => e = .returned (.bool true) ∧ Ext wC w' ∧ Ch (fun b => b = b5) w w' ∧ Blk w' b5 3 #[.int .i64 (max y u)] := by
  obtain ⟨A1, c1, A2, c2, A3, c3, A4, c4, A5, c5⟩ := p
  unfold ledC at hb3
  dsimp only at hb3
  have HX := hid hx
  have HSM := hid hm
  have HL := hid hl
  have B3 := hid hb3
  have B4 := hid hb4
  have HA := hid hA
  have H5 := hid h5
  have H1 := hid h1
  have H2 := hid h2
  have hfk := hx.folk
  have hyr := hx.years
  have hlnb := hx.ln
  clear hx hm hl hb3 hb4 hA h5 h1 h2
  go_enter Tryz.func38, Tryz.ntmps38
  go_upto_region 1 with fail
  go_loopw [] (fun W => ∃ z : Int, y ≤ z ∧ z ≤ max y u ∧ Blk W b5 3 #[.int .i64 z] ∧ Hid (Ext wC W) ∧ Hid (Ch (fun b => b = b5) w W)) (fun W => (u - cellI W b5 0).toNat)
  case atStart => exact ⟨y, Int.le_refl _, by omega, hb5, hid he, hid (Ch.refl _ _)⟩
  case round =>
    clear he hb5
    obtain ⟨z, hz1, hz2, b5k, E, C5⟩ := hrel
    have HM := hid (cellI_one b5k)
    have k5 := b5k.cell
    have k5l := b5k.lt
    have k5f := b5k.frozen
    have k3 := (B3.out.ext E.out).cell
    have k3l := (B3.out.ext E.out).lt
    by_cases hlz : z < u
    · have hmx := hid (show ∀ i, i < x.ln → P.left x i z = if x.lo i 1 ≤ z then P.asked x i - bkd x k i else 0 from fun i hi => left_now HX.out hk (fun j hj => by have := H1.out j hj; omega) (fun j h1 h2 => by have := H2.out j h1 h2; omega) hi)
      have HB5 := hid b5k
      go_upto_region 4 with fail
      obtain ⟨W0, hW0⟩ : ∃ W : World, Hid (W = wr) := ⟨_, hid rfl⟩
      rw [← hW0.out] at HB5 E C5
      have F := hid (show Ext W0 wr by rw [hW0.out]; exact Ext.refl _)
      have B4w := hid (C5.out.blk B4.out (by show ¬ b4 = b5; exact hn4))
      have HAw := hid (HA.out.same (C5.out.block Gb HA.out.lt (by show ¬ Gb = b5; exact hnG)))
      clear k5 k5l k5f k3 k3l b5k
      go_loopw [25] (fun i W => ∃ a : Nat, (a : Int) ≤ x.folk ∧ i = .int .i64 (a : Int) ∧ Hid (Ext W0 W)) (fun i _ => (x.folk - intOf i).toNat)
      case atStart => exact ⟨0, by omega, rfl, F⟩
      case round =>
        clear F
        obtain ⟨a, ha, rfl, F⟩ := hrel
        have k5 := (HB5.out.ext F.out).cell
        have k5l := (HB5.out.ext F.out).lt
        have k5f := (HB5.out.ext F.out).frozen
        have k3 := (B3.out.ext (E.out.trans F.out)).cell
        have k3l := (B3.out.ext (E.out.trans F.out)).lt
        by_cases hla : (a : Int) < x.folk
        · go_upto_region 8 with fail
          obtain ⟨W1, hW1⟩ : ∃ W : World, Hid (W = wr) := ⟨_, hid rfl⟩
          rw [← hW1.out] at F
          have D := hid (show Ext W1 wr by rw [hW1.out]; exact Ext.refl _)
          clear k5 k5l k5f k3 k3l
          go_loopw [7, 31] (fun s i W => ∃ (j : Nat) (t : Int), j ≤ x.ln ∧ i = .int .i64 (j : Int) ∧ s = .int .i64 t ∧ Hid (t = sumTo (fun i => if x.lo i 0 = (a : Int) then P.left x i z else 0) j) ∧ Hid (Ext W1 W)) (fun _ i _ => x.ln - (intOf i).toNat)
          case atStart => exact ⟨0, 0, Nat.zero_le _, rfl, rfl, hid rfl, D⟩
          case round =>
            clear D
            obtain ⟨j, t, hj, rfl, rfl, ht, D⟩ := hrel
            have htb := HandSpec.P.sumTo_bd (f := fun i => if x.lo i 0 = (a : Int) then P.left x i z else 0) (B := 550) j fun i hi => by
              have h1 := P.left_eq HX.out (show i < x.ln by omega) z
              have h2 := R.left_bd HX.out (show i < x.ln by omega) z
              split <;> omega
            have htb2 : -5500 ≤ t ∧ t ≤ 5500 := by rw [ht.out]; omega
            clear htb
            have G := hid (F.out.trans D.out)
            have k5 := (HB5.out.ext G.out).cell
            have k5l := (HB5.out.ext G.out).lt
            have k3 := (B3.out.ext (E.out.trans G.out)).cell
            have k3l := (B3.out.ext (E.out.trans G.out)).lt
            by_cases hlj : j < x.ln
            · obtain ⟨bl, ol, rfl, hbl, l0, l1, l2⟩ := ((HL.out.ext (E.out.trans G.out)).r3).at3 hlj
              obtain ⟨y0, hy0⟩ : ∃ z, Hid (x.lo j 0 = z) := ⟨_, hid rfl⟩
              obtain ⟨y1, hy1⟩ : ∃ z, Hid (x.lo j 1 = z) := ⟨_, hid rfl⟩
              obtain ⟨y2, hy2⟩ : ∃ z, Hid (x.lo j 2 = z) := ⟨_, hid rfl⟩
              obtain ⟨va, hva⟩ : ∃ z, Hid (P.asked x j = z) := ⟨_, hid rfl⟩
              obtain ⟨vb, hvb⟩ : ∃ z, Hid (bkd x k j = z) := ⟨_, hid rfl⟩
              obtain ⟨vl, hvl⟩ : ∃ q, Hid (P.left x j z = q) := ⟨_, hid rfl⟩
              have hlv := hmx.out j hlj
              have hab := R.asked_nonneg HX.out hlj
              have hbb : 0 ≤ bkd x k j ∧ bkd x k j ≤ P.asked x j := P.until_bd HX.out x.years k hk j hlj
              have hst := hid (show sumTo (fun i => if x.lo i 0 = (a : Int) then P.left x i z else 0) (j + 1) = t + if y0 = (a : Int) then vl else 0 by rw [sumTo_succ, ← ht.out, hy0.out, hvl.out])
              have eL := hid (eL_at HX.out hlj)
              have eY := hid (eY_at HX.out hlj (y := z) (by omega) (by omega))
              rw [hy0.out] at l0
              rw [hy1.out] at l1 hlv
              rw [hy2.out] at l2
              rw [hvl.out, hva.out, hvb.out] at hlv
              rw [hva.out] at hab hbb
              rw [hvb.out] at hbb
              go_upto_region 10 with fail
              refine wp_later fun w4 hw4 => ?_
              obtain ⟨e4, b12⟩ := hw4.newB
              have B12 := hid b12
              have G := hid (G.out.trans e4)
              have D := hid (D.out.trans e4)
              clear hw4 e4 b12 k3 k3l k5 k5l hbl l0 l1 l2
              have k3 := (B3.out.ext (E.out.trans G.out)).cell
              have k3l := (B3.out.ext (E.out.trans G.out)).lt
              go_upto_region 11 with (go_at_call 39; refine (asked_ok (HL.out.ext (E.out.trans G.out)) HSM.out eL.out).mono ?_; rintro e wz ⟨rfl, he⟩; rw [hva.out]; have G := hid (G.out.trans he); have D := hid (D.out.trans he); have B12 := hid (B12.out.ext he); have k3 := (B3.out.ext (E.out.trans G.out)).cell; have k3l := (B3.out.ext (E.out.trans G.out)).lt; have k5 := (HB5.out.ext G.out).cell; have k5l := (HB5.out.ext G.out).lt; clear he)
              go_upto_region 12 with (go_at_call 36; refine (left_ok (HL.out.ext (E.out.trans G.out)) HSM.out eY.out).mono ?_; rintro e wz ⟨rfl, he⟩; rw [hvl.out]; have G := hid (G.out.trans he); have D := hid (D.out.trans he); have B12 := hid (B12.out.ext he); have k3 := (B3.out.ext (E.out.trans G.out)).cell; have k3l := (B3.out.ext (E.out.trans G.out)).lt; have k5 := (HB5.out.ext G.out).cell; have k5l := (HB5.out.ext G.out).lt; have k12 := B12.out.cell; have k12l := B12.out.lt; have k4 := (B4w.out.ext G.out).cell; have k4l := (B4w.out.ext G.out).lt; have kb := (HAw.out.ext G.out).cell hlj; have kbl := (HAw.out.ext G.out).lt; clear he)
              rw [hvb.out] at kb
              by_cases hyz : y1 ≤ z
              · rw [if_pos hyz] at hlv
                have tl : (vl != va - vb) = false := by rw [hlv]; simp
                have tg : ¬ z < y1 := by omega
                have tn : ¬ vl < 0 := by omega
                have HLV := hid hlv
                clear hlv
                by_cases hwho : y0 = (a : Int)
                · have tw : (y0 == (a : Int)) = true := by simpa using hwho
                  rw [if_pos hwho] at hst
                  clear hwho
                  go_wp2_with fail
                  go_roundw
                  case rel => exact ⟨j + 1, t + vl, by omega, by go_num, by rw [HLV.out], hid hst.out.symm, D⟩
                  case measure => simp [intOf]; omega
                · have tw : (y0 == (a : Int)) = false := by simpa using hwho
                  rw [if_neg hwho] at hst
                  clear hwho
                  go_wp2_with fail
                  go_roundw
                  case rel => exact ⟨j + 1, t, by omega, by go_num, rfl, hid (by rw [hst.out, Int.add_zero]), D⟩
                  case measure => simp [intOf]; omega
              · rw [if_neg hyz] at hlv
                have tl : (vl != 0) = false := by rw [hlv]; simp
                have tg : z < y1 := by omega
                have tn : ¬ vl < 0 := by omega
                have HLV := hid hlv
                clear hlv
                by_cases hwho : y0 = (a : Int)
                · have tw : (y0 == (a : Int)) = true := by simpa using hwho
                  rw [if_pos hwho] at hst
                  clear hwho
                  go_wp2_with fail
                  go_roundw
                  case rel => exact ⟨j + 1, t + vl, by omega, by go_num, by rw [HLV.out]; go_num, hid hst.out.symm, D⟩
                  case measure => simp [intOf]; omega
                · have tw : (y0 == (a : Int)) = false := by simpa using hwho
                  rw [if_neg hwho] at hst
                  clear hwho
                  go_wp2_with fail
                  go_roundw
                  case rel => exact ⟨j + 1, t, by omega, by go_num, rfl, hid (by rw [hst.out, Int.add_zero]), D⟩
                  case measure => simp [intOf]; omega
            · have hjl : j = x.ln := by omega
              obtain ⟨ov, hov⟩ : ∃ q, Hid (P.owes x (a : Int) z = q) := ⟨_, hid rfl⟩
              obtain ⟨od, hod⟩ : ∃ q, Hid (P.overdue x (a : Int) z = q) := ⟨_, hid rfl⟩
              have hsum := hid (show ov = t by rw [← hov.out, owes_sum HX.out, ht.out, hjl])
              have hle := overdue_le HX.out (a : Int) z
              rw [hov.out, hod.out] at hle
              have eW := hid (eW_at HX.out (a := (a : Int)) (y := z) (by omega) (by omega) (by omega) (by omega))
              have to1 : (ov != t) = false := by rw [hsum.out]; simp
              have to2 : ¬ od < 0 := by omega
              have to3 : ¬ ov < od := by omega
              clear hle hjl
              go_upto_region 18 with (go_at_call 25; refine (owes_ok (HL.out.ext (E.out.trans G.out)) HSM.out eW.out).mono ?_; rintro e wz ⟨rfl, he⟩; rw [hov.out]; have G := hid (G.out.trans he); have D := hid (D.out.trans he); have k3 := (B3.out.ext (E.out.trans G.out)).cell; have k3l := (B3.out.ext (E.out.trans G.out)).lt; have k5 := (HB5.out.ext G.out).cell; have k5l := (HB5.out.ext G.out).lt; clear he)
              go_wp2_with (go_at_call 26; refine (overdue_ok (HL.out.ext (E.out.trans G.out)) HSM.out eW.out).mono ?_; rintro e wz ⟨rfl, he⟩; rw [hod.out]; have D := hid (D.out.trans he); clear he)
              go_roundw
              case rel => exact ⟨a + 1, by omega, by go_num, hid (F.out.trans D.out)⟩
              case measure => simp [intOf]; omega
        · go_wp2_with fail
          go_roundw
          case rel => exact ⟨z + 1, by omega, by omega, (HB5.out.ext F.out).set_ 0 _, hid ((E.out.trans F.out).setCell _ H5.out), hid ((C5.out.step (Ch.ofExt F.out) (fun _ _ h => h.elim)).step (Ch.ofSet _ _ _ _) (fun _ _ h => h))⟩
          case measure =>
            have e1 := cellI_one ((HB5.out.ext F.out).set_ 0 (.int .i64 (z + 1)))
            rw [HM.out, e1]
            omega
    · go_wp2_with fail
      go_ret
      exact ⟨rfl, E.out, C5.out, by rw [show max y u = z by omega]; exact b5k⟩
end Go.Proofs.YtbceepjjdfpfmaaGreat
