/- Plain: the reference finds right what Settle and Groups reckon. -/
import Derived.Test.YtbceepjjdfpfmaaGreatRefH
import Derived.Test.YtbceepjjdfpfmaaGreatWay
namespace Go.Proofs.YtbceepjjdfpfmaaGreat
open Go.RowKit HandSpec LoanSpec
set_option maxHeartbeats 2000000
set_option maxRecDepth 100000
theorem getD_oldN {s : List Nat} {v i : Nat} (h : i < s.length) : (s ++ [v]).getD i 0 = s.getD i 0 := by
  rw [List.getD_eq_getElem?_getD, List.getElem?_append_left h, ← List.getD_eq_getElem?_getD]
theorem getD_endN (s : List Nat) (v : Nat) : (s ++ [v]).getD s.length 0 = v := by simp
theorem places_sum (f : Nat → Int) (q : Nat) : ∀ k, sumTo (fun j => f ((placesTo q k).getD j 0)) (placesTo q k).length = sumB f q k
  | 0 => rfl
  | k + 1 => by
    have ih := places_sum f q k
    simp only [placesTo, sumB]
    split
    · rw [List.length_append, List.length_singleton, sumTo_succ, getD_endN, ← ih]
      congr 1
      exact sumTo_congr fun j hj => by rw [getD_oldN hj]
    · exact ih
theorem sumB_more (f : Nat → Int) {q n : Nat} (h : ∀ i, q.testBit i = true → i < n) : ∀ d, sumB f q (n + d) = sumB f q n
  | 0 => rfl
  | d + 1 => by
    rw [← Nat.add_assoc]
    show (if q.testBit (n + d) = true then sumB f q (n + d) + f (n + d) else sumB f q (n + d)) = _
    rw [if_neg (fun e => by have := h _ e; omega), sumB_more f h d]
theorem places_times (q z : Nat) : ∀ k, timesTo (fun j => (((placesTo q k).getD j 0 : Nat) : Int)) (z : Int) (placesTo q k).length = if z < k ∧ q.testBit z = true then 1 else 0
  | 0 => rfl
  | k + 1 => by
    have ih := places_times q z k
    simp only [placesTo]
    split
    · rename_i hb
      rw [List.length_append, List.length_singleton]
      have e1 : timesTo (fun j => (((placesTo q k ++ [k]).getD j 0 : Nat) : Int)) (z : Int) (placesTo q k).length = if z < k ∧ q.testBit z = true then 1 else 0 := by
        rw [← ih]
        exact timesTo_same _ fun j hj => by rw [getD_oldN hj]
      show timesTo (fun j => (((placesTo q k ++ [k]).getD j 0 : Nat) : Int)) (z : Int) (placesTo q k).length + (if (((placesTo q k ++ [k]).getD (placesTo q k).length 0 : Nat) : Int) = (z : Int) then 1 else 0) = _
      rw [e1, getD_endN]
      by_cases e : k = z
      · subst e
        rw [if_neg (by omega), if_pos rfl, if_pos ⟨by omega, hb⟩]
      · by_cases h2 : z < k ∧ q.testBit z = true
        · rw [if_pos h2, if_neg (by omega), if_pos ⟨by omega, h2.2⟩]
        · rw [if_neg h2, if_neg (by omega), if_neg (fun h => h2 ⟨by omega, h.2⟩)]
    · rename_i hb
      rw [ih]
      by_cases h2 : z < k ∧ q.testBit z = true
      · rw [if_pos h2, if_pos ⟨by omega, h2.2⟩]
      · rw [if_neg h2, if_neg (fun h => h2 ⟨by
          have : z ≠ k := fun e => hb (e ▸ h.2)
          omega, h.2⟩)]
theorem places_rise : ∀ q : Nat, q < 128 → ∀ j : Nat, j < 7 → j + 1 < (places q).length → (places q).getD j 0 < (places q).getD (j + 1) 0 := by decide +kernel
/-- The table of these groups. -/
def grC (L : List Nat) (k : Nat) : Nat := (places (L.getD k 0)).length
def grG (L : List Nat) (k j : Nat) : Int := (((places (L.getD k 0)).getD j 0 : Nat) : Int)
theorem occS_cnt (L : List Nat) {z : Nat} (hz : z < 7) : ∀ k, k ≤ L.length → occS (grC L) (grG L) (z : Int) k = cntM (L.take k) z
  | 0, _ => by simp [occS, cntM]
  | k + 1, hk => by
    have ih := occS_cnt L hz k (by omega)
    rw [cntM_take L z k (by omega), ← ih]
    have := places_times (L.getD k 0) z 7
    show occS (grC L) (grG L) (z : Int) k + timesTo (grG L k) (z : Int) (grC L k) = _
    unfold grC grG
    unfold places
    rw [this]
    congr 1
    simp [hz]
theorem some_place : ∀ q : Nat, q < 128 → q ≠ 0 → 0 < (places q).length := fun q h1 h2 => (places_some q h1 h2).1
/-- What groups that are as many as can be show. -/
theorem show_ok {n : Nat} {m : Nat → Nat} {g : Nat → Nat → Int} (h0 : chkD n m g = 0) {L : List Nat} (hp : L.Perm (groupsM (netTo g n n) n)) :
    showE n m g L.length (grC L) (grG L) = 0 ∧ showV n m g L.length (grC L) (grG L) = (cntP (nzB (netTo g n n)) n : Int) - L.length := by
  have hd := (chkD_zero h0).1
  have hn := hd.hn
  have ht := totTo_net g n n (Nat.le_refl _)
  obtain ⟨f, hf⟩ : ∃ f, netTo g n n = f := ⟨_, rfl⟩
  rw [hf] at hp ht
  obtain ⟨h1, h2, h3, h4⟩ := groups_best hn.2 ht hp
  have hmem : ∀ k, k < L.length → L.getD k 0 ∈ L := fun k hk => by
    rw [List.getD_eq_getElem?_getD, List.getElem?_eq_getElem hk]
    exact List.getElem_mem _
  have hbit : ∀ k, k < L.length → ∀ i, (L.getD k 0).testBit i = true → i < n ∧ f i ≠ 0 := fun k hk i hi => by
    have := (h3 _ (hmem k hk)).2.2.1
    rw [← this, Nat.testBit_and, openM_bit] at hi
    simp at hi
    exact hi.2
  have hpl : ∀ k j, k < L.length → j < grC L k → ((places (L.getD k 0)).getD j 0) < n ∧ f ((places (L.getD k 0)).getD j 0) ≠ 0 := fun k j hk hj => by
    have h5 := h3 _ (hmem k hk)
    have h7 := places_seven _ h5.2.1
    have hj' : j < (places (L.getD k 0)).length := hj
    exact hbit k hk _ (places_mem _ h5.2.1 j (by omega) hj').1
  have e1 : outG n L.length (grC L) (grG L) = false := by
    rw [outG_eq]
    refine anyTo_false.2 fun k hk => anyTo_false.2 fun j hj => ?_
    have := (hpl k j hk hj).1
    have e : inB (grG L k j) 0 ((n : Int) - 1) = true := decide_eq_true (by unfold grG; omega)
    rw [e]
    rfl
  have e2 : offG L.length (grC L) (grG L) = false := by
    refine anyTo_false.2 fun k hk => ?_
    have h5 := h3 _ (hmem k hk)
    have h7 := places_seven _ h5.2.1
    have e : fallB (grG L k) (grC L k) = false := anyTo_false.2 fun j hj => by
      unfold grC at hj
      have := places_rise _ h5.2.1 j (by omega) (by omega)
      exact decide_eq_false (by unfold grG; omega)
    unfold ordB
    rw [e, show decide (0 < grC L k) = true from decide_eq_true (some_place _ h5.2.1 h5.1)]
    rfl
  have e3 : anyTo (badG f (grC L) (grG L)) L.length = false := by
    refine anyTo_false.2 fun k hk => ?_
    have h5 := h3 _ (hmem k hk)
    unfold badG
    rw [Bool.or_eq_false_iff]
    constructor
    · refine anyTo_false.2 fun j hj => ?_
      have := (hpl k j hk hj).2
      unfold grG
      rw [Int.toNat_natCast]
      simpa using this
    · have e : sumTo (fun j => f (grG L k j).toNat) (grC L k) = 0 := by
        have q1 := places_sum f (L.getD k 0) 7
        have q2 := sumB_more f (q := L.getD k 0) (n := n) (fun i hi => (hbit k hk i hi).1) (7 - n)
        rw [show n + (7 - n) = 7 by omega, h5.2.2.2] at q2
        rw [q2] at q1
        exact q1
      rw [e]
      rfl
  have e4 : anyTo (offT f (fun i => rowsAt (allR (grC L) (grG L) L.length) i 0) (allR (grC L) (grG L) L.length).length) n = false := by
    refine anyTo_false.2 fun i hi => ?_
    unfold offT
    rw [occS_eq, occS_cnt L (by omega) L.length (Nat.le_refl _), List.take_length, h4 i (by omega), openM_bit]
    by_cases h : f i = 0
    · simp [h]
    · simp [h, hi]
  have hE : showE n m g L.length (grC L) (grG L) = 0 := by
    unfold showE
    rw [if_neg (by rw [h0]; simp), if_neg (by rw [e1]; simp), if_neg (by rw [e2]; simp), hf, if_neg (by rw [e3]; simp), if_neg (by rw [e4]; simp)]
  refine ⟨hE, ?_⟩
  unfold showV
  rw [if_pos hE, many_cnt]
theorem netRow_out (g : Nat → Nat → Int) (k : Nat) (f : Nat → Int) {i : Nat} (hk : i ≠ k) : ∀ j, j ≤ i → netRow g k j f i = f i
  | 0, _ => rfl
  | j + 1, hj => by
    simp only [netRow]
    rw [upd_other _ _ hk, upd_other _ _ (by omega), netRow_out g k f hk j (by omega)]
theorem netTo_out (g : Nat → Nat → Int) (n : Nat) {i : Nat} : ∀ k, k ≤ n → n ≤ i → netTo g n k i = 0
  | 0, _, _ => rfl
  | k + 1, hk, hi => by
    simp only [netTo]
    rw [netRow_out g k _ (by omega) n hi, netTo_out g n k (by omega) hi]
/-- What Settle reckons is a settlement. -/
theorem sett_ok {n : Nat} {g : Nat → Nat → Int} (hd : DOk n g) {L : List Nat} (hp : L.Perm (groupsM (netTo g n n) n)) :
    settE n (settleM L (netTo g n n)).l.length (rowsAt (settleM L (netTo g n n)).l) = 0 ∧ settV n (settleM L (netTo g n n)).l.length (rowsAt (settleM L (netTo g n n)).l) (netTo g n n) = true ∧
      (settleM L (netTo g n n)).l.length + L.length = cntP (nzB (netTo g n n)) n := by
  have hn := hd.hn
  have ht := totTo_net g n n (Nat.le_refl _)
  have hB : ∀ i, -6000000 ≤ netTo g n n i ∧ netTo g n n i ≤ 6000000 := fun i => by
    rcases Nat.lt_or_ge i n with h | h
    · exact net_bd hd h
    · rw [netTo_out g n n (Nat.le_refl _) h]
      omega
  obtain ⟨h1, h2, h3⟩ := settle_ok hB hn.2 ht hp
  generalize settleM L (netTo g n n) = s at h1 h2 h3
  have e1 : anyTo (fun j => !(inB (rowsAt s.l j 0) 0 ((n : Int) - 1) && inB (rowsAt s.l j 1) 0 ((n : Int) - 1))) s.l.length = false := anyTo_false.2 fun j hj => by
    obtain ⟨p, q, a1, a2, a3, a4, a5, a6⟩ := h2.row j hj
    rw [a4, a5, show inB (p : Int) 0 ((n : Int) - 1) = true from decide_eq_true (by omega), show inB (q : Int) 0 ((n : Int) - 1) = true from decide_eq_true (by omega)]
    rfl
  have e2 : anyTo (fun j => rowsAt s.l j 0 == rowsAt s.l j 1) s.l.length = false := anyTo_false.2 fun j hj => by
    obtain ⟨p, q, a1, a2, a3, a4, a5, a6⟩ := h2.row j hj
    rw [a4, a5]
    simp
    omega
  have e3 : anyTo (fun j => !inB (rowsAt s.l j 2) 1 6000000) s.l.length = false := anyTo_false.2 fun j hj => by
    obtain ⟨p, q, a1, a2, a3, a4, a5, a6⟩ := h2.row j hj
    rw [show inB (rowsAt s.l j 2) 1 6000000 = true from decide_eq_true (by omega)]
    rfl
  have hE : settE n s.l.length (rowsAt s.l) = 0 := by
    unfold settE
    rw [e1, e2, e3]
    rfl
  refine ⟨hE, ?_, h1⟩
  unfold settV
  rw [hE, anyTo_false.2 fun i hi => ?_]
  · rfl
  · have := h2.bal i
    rw [h3 i hi] at this
    have e : payS (rowsAt s.l) (i : Int) s.l.length = netTo g n n i := by
      unfold payS
      rw [this]
      omega
    rw [e]
    simp
end Go.Proofs.YtbceepjjdfpfmaaGreat
