/- What a watch that is made with a truth is: plain law. No condition. -/
import Derived.Test.YtkhjmedfhobebaaGreatMathT
import Derived.Test.YtkhjmedfhobebaaGreatDoV
import Derived.Test.YtkhjmedfhobebaaGreatHeld
namespace Go.Proofs.YtkhjmedfhobebaaGreat
open Go.RowKit HandSpec
/-- Right spells. -/
def SpellsOk (hours hands : Int) (L : List (List Int)) : Prop := ∀ r ∈ L, ∃ a f t : Int, r = [a, f, t] ∧ 0 ≤ a ∧ a < hands ∧ 0 ≤ f ∧ f < t ∧ t ≤ hours
/-- Right bookings. -/
def BooksOk (hours : Int) (L : List (List Int)) : Prop := ∀ r ∈ L, ∃ a z : Int, r = [a, z] ∧ 0 ≤ a ∧ a ≤ hours ∧ z ≠ 0 ∧ -20 ≤ z ∧ z ≤ 20
/-- A hand has a spell between hours i and i + 1. -/
def hereL (H : List Int) (L : List (List Int)) (h i : Nat) : Bool := anyTo (fun q => hereB (h : Int) (fun k _ => ni H k) i (rowsAt L q 0) (rowsAt L q 1) (rowsAt L q 2)) L.length
/-- What booking q brings between hours i and i + 1. -/
def bkF (H : List Int) (M : List (List Int)) (i q : Nat) : Int := if ni H i < rowsAt M q 0 ∧ rowsAt M q 0 ≤ ni H (i+1) then rowsAt M q 1 else 0
/-- What it moves until hour i. -/
def bkA (H : List Int) (M : List (List Int)) (i q : Nat) : Int := if ni H 0 < rowsAt M q 0 ∧ rowsAt M q 0 ≤ ni H i then (if 0 ≤ rowsAt M q 1 then rowsAt M q 1 else - rowsAt M q 1) else 0
theorem books_at {hours : Int} {M : List (List Int)} (h : BooksOk hours M) {q : Nat} (hq : q < M.length) : (0 ≤ rowsAt M q 0 ∧ rowsAt M q 0 ≤ hours) ∧ rowsAt M q 1 ≠ 0 ∧ -20 ≤ rowsAt M q 1 ∧ rowsAt M q 1 ≤ 20 := by
  obtain ⟨a, z, e, h1, h2, h3, h4, h5⟩ := h _ (List.getElem_mem hq)
  have : M.getD q [] = [a, z] := by rw [List.getD_eq_getElem?_getD, List.getElem?_eq_getElem hq]; exact e
  unfold rowsAt
  rw [this]
  exact ⟨⟨h1, h2⟩, h3, h4, h5⟩
theorem spells_at {hours hands : Int} {L : List (List Int)} (h : SpellsOk hours hands L) {q : Nat} (hq : q < L.length) : (0 ≤ rowsAt L q 0 ∧ rowsAt L q 0 < hands) ∧ 0 ≤ rowsAt L q 1 ∧ rowsAt L q 1 < rowsAt L q 2 ∧ rowsAt L q 2 ≤ hours := by
  obtain ⟨a, f, t, e, h1, h2, h3, h4, h5⟩ := h _ (List.getElem_mem hq)
  have : L.getD q [] = [a, f, t] := by rw [List.getD_eq_getElem?_getD, List.getElem?_eq_getElem hq]; exact e
  unfold rowsAt
  rw [this]
  exact ⟨⟨h1, h2⟩, h3, h4, h5⟩
theorem bkA_bd {hours : Int} {H : List Int} {M : List (List Int)} (h : BooksOk hours M) (i : Nat) : ∀ j, j ≤ M.length → 0 ≤ sumTo (bkA H M i) j ∧ sumTo (bkA H M i) j ≤ 20 * j
  | 0, _ => by simp [sumTo]
  | j+1, hj => by
    obtain ⟨h1, h2⟩ := bkA_bd h (H := H) i j (by omega)
    obtain ⟨-, -, h4, h5⟩ := books_at h (show j < M.length by omega)
    simp only [sumTo]
    unfold bkA at h1 h2 ⊢
    split
    · split <;> omega
    · omega
theorem bk_step {H : List Int} {M : List (List Int)} {i : Nat} (h0 : ni H 0 ≤ ni H i) (h1 : ni H i ≤ ni H (i+1)) (q : Nat) : bkA H M (i+1) q = bkA H M i q + (if 0 ≤ bkF H M i q then bkF H M i q else - bkF H M i q) := by
  unfold bkA bkF
  by_cases a : ni H 0 < rowsAt M q 0 <;> by_cases b : rowsAt M q 0 ≤ ni H i <;> by_cases c : rowsAt M q 0 ≤ ni H (i+1) <;> by_cases z : 0 ≤ rowsAt M q 1
  all_goals
    have b' := b
    rw [← Int.not_lt] at b'
    simp_all
  all_goals omega
theorem bk_bound {H : List Int} {M : List (List Int)} {i : Nat} (h0 : ni H 0 ≤ ni H i) (h1 : ni H i ≤ ni H (i+1)) : ∀ j d, -(sumTo (bkA H M (i+1)) (j + d) - sumTo (bkA H M i) (j + d)) ≤ sumTo (bkF H M i) j ∧ sumTo (bkF H M i) j ≤ sumTo (bkA H M (i+1)) (j + d) - sumTo (bkA H M i) (j + d)
  | 0, 0 => by simp [sumTo]
  | 0, d+1 => by
    have ih := bk_bound (M := M) h0 h1 0 d
    have e := bk_step (M := M) h0 h1 d
    rw [Nat.zero_add] at ih ⊢
    simp only [sumTo] at ih ⊢
    split at e <;> omega
  | j+1, 0 => by
    have ih := bk_bound (M := M) h0 h1 j 0
    have e := bk_step (M := M) h0 h1 j
    simp only [sumTo, Nat.add_zero] at ih ⊢
    split at e <;> omega
  | j+1, d+1 => by
    have ih := bk_bound (M := M) h0 h1 (j+1) d
    have e := bk_step (M := M) h0 h1 (j + 1 + d)
    rw [← Nat.add_assoc]
    simp only [sumTo] at ih ⊢
    split at e <;> omega
/-- What has been made of a watch with k counts, with a truth. -/
structure MadeS (al : Int) (nh : Nat) (H : List Int) (M L C : List (List Int)) (s : List Int) (t : Nat → Nat → Int) (k : Nat) : Prop where
  cl : C.length = k
  sl : s.length = max 1 k
  row : ∀ i, i < k → ∃ lo hi : Int, C.getD i [] = [ni H i, lo, hi] ∧ 0 ≤ lo ∧ lo ≤ ni s i ∧ ni s i ≤ hi ∧ hi ≤ 500
  t0 : ∀ h i, 0 ≤ t h i ∧ t h i ≤ 20
  here : ∀ h i : Nat, i + 1 < k → h < nh → hereL H L h i = false → t h i = 0
  step : ∀ i, i + 1 < k → ∃ l : Int, (0 ≤ l ∧ l ≤ al * (ni H (i+1) - ni H i)) ∧ ni s (i+1) = ni s i + sumTo (bkF H M i) M.length - l - sumTo (fun h => t h i) nh
  bd : ∀ i, i < max 1 k → 100 - sumTo (bkA H M i) M.length ≤ ni s i ∧ ni s i ≤ 400 + sumTo (bkA H M i) M.length
namespace MadeS
variable {al : Int} {nh : Nat} {H : List Int} {M L C : List (List Int)} {s : List Int} {t : Nat → Nat → Int} {k : Nat}
theorem start (al : Int) (nh : Nat) (H : List Int) (M L : List (List Int)) {z : Int} (h1 : 250 ≤ z) (h2 : z ≤ 400) : MadeS al nh H M L [] [z] (fun _ _ => 0) 0 := by
  have e : sumTo (bkA H M 0) M.length = 0 := HandSpec.L.sumTo_zero fun q _ => by unfold bkA; rw [if_neg (by omega)]
  refine ⟨rfl, rfl, fun i hi => absurd hi (by omega), fun _ _ => by omega, fun _ i hi => absurd hi (by omega), fun i hi => absurd hi (by omega), fun i hi => ?_⟩
  obtain rfl : i = 0 := by omega
  rw [e]
  show 100 - 0 ≤ z ∧ z ≤ 400 + 0
  omega
theorem ni_left {s : List Int} (r : List Int) {i : Nat} (h : i < s.length) : ni (s ++ r) i = ni s i := by
  unfold ni
  rw [List.getD_eq_getElem?_getD, List.getD_eq_getElem?_getD, List.getElem?_append_left h]
theorem ni_last (s : List Int) (n : Int) : ni (s ++ [n]) s.length = n := by
  unfold ni
  rw [List.getD_eq_getElem?_getD, List.getElem?_append_right (Nat.le_refl _)]
  simp
theorem first (h : MadeS al nh H M L C s t 0) {lo hi : Int} (h1 : 0 ≤ lo) (h2 : lo ≤ ni s 0) (h3 : ni s 0 ≤ hi) (h4 : hi ≤ 500) : MadeS al nh H M L (C ++ [[ni H 0, lo, hi]]) s t 1 := by
  have hC : C = [] := List.length_eq_zero_iff.1 h.cl
  subst hC
  refine ⟨rfl, h.sl, fun i hi' => ?_, h.t0, fun _ i hi => absurd hi (by omega), fun i hi => absurd hi (by omega), h.bd⟩
  obtain rfl : i = 0 := by omega
  exact ⟨lo, hi, rfl, h1, h2, h3, h4⟩
theorem next {i : Nat} (h : MadeS al nh H M L C s t (i+1)) {u : Nat → Int} {l n lo hi : Int} (hu : ∀ h, 0 ≤ u h ∧ u h ≤ 20) (hh : ∀ h : Nat, h < nh → hereL H L h i = false → u h = 0) (hl : 0 ≤ l ∧ l ≤ al * (ni H (i+1) - ni H i))
    (hn : n = ni s i + sumTo (bkF H M i) M.length - l - sumTo u nh) (hb : 100 - sumTo (bkA H M (i+1)) M.length ≤ n ∧ n ≤ 400 + sumTo (bkA H M (i+1)) M.length) (h1 : 0 ≤ lo) (h2 : lo ≤ n) (h3 : n ≤ hi) (h4 : hi ≤ 500) :
    MadeS al nh H M L (C ++ [[ni H (i+1), lo, hi]]) (s ++ [n]) (fun h j => if j = i then u h else t h j) (i+2) := by
  have hs : s.length = i + 1 := by rw [h.sl]; omega
  have hlast : ni (s ++ [n]) (i+1) = n := by rw [← hs]; exact ni_last s n
  refine ⟨by simp [h.cl], by simp [hs], fun j hj => ?_, fun g j => ?_, fun g j hj hg hf => ?_, fun j hj => ?_, fun j hj => ?_⟩
  · rcases Nat.lt_or_eq_of_le (Nat.le_of_lt_succ hj) with q | q
    · obtain ⟨a, b, e, r⟩ := h.row j q
      refine ⟨a, b, ?_, by rw [ni_left _ (by omega)]; exact r⟩
      rw [← e, List.getD_eq_getElem?_getD, List.getD_eq_getElem?_getD, List.getElem?_append_left (by rw [h.cl]; exact q)]
    · subst q
      refine ⟨lo, hi, ?_, h1, by rw [hlast]; exact h2, by rw [hlast]; exact h3, h4⟩
      rw [List.getD_eq_getElem?_getD, ← h.cl, List.getElem?_append_right (Nat.le_refl _)]
      simp
  · split
    · exact hu g
    · exact h.t0 g j
  · split
    · next e => subst e; exact hh g hg hf
    · exact h.here g j (by omega) hg hf
  · by_cases e : j = i
    · subst e
      refine ⟨l, hl, ?_⟩
      rw [hlast, ni_left _ (by omega)]
      simp only [if_true]
      exact hn
    · obtain ⟨l', a, b⟩ := h.step j (by omega)
      refine ⟨l', a, ?_⟩
      rw [ni_left _ (by omega), ni_left _ (by omega)]
      simp only [if_neg e]
      exact b
  · rcases Nat.lt_or_ge j (i+1) with q | q
    · rw [ni_left _ (by omega)]
      exact h.bd j (by omega)
    · obtain rfl : j = i + 1 := by omega
      rw [hlast]; exact hb
/-- What somebody has taken until count k. -/
theorem took {i : Nat} (u : Nat → Int) (h : Nat) : sumTo (fun j => if j = i then u h else t h j) (i + 1) = sumTo (t h) i + u h := by
  simp only [sumTo, if_true]
  rw [HandSpec.L.sumTo_eq (g := t h) fun j hj => if_neg (by omega)]
/-- The watch that is made. -/
def wd (hours al : Int) (nh : Nat) (M L C : List (List Int)) : WD := { hours := hours, allow := al, hands := nh, cn := C.length, bn := M.length, sn := L.length, c := rowsAt C, b := rowsAt M, s := rowsAt L }
theorem at_ (h : MadeS al nh H M L C s t k) {i : Nat} (hi : i < k) : rowsAt C i 0 = ni H i ∧ (0 ≤ rowsAt C i 1 ∧ rowsAt C i 1 ≤ ni s i) ∧ ni s i ≤ rowsAt C i 2 ∧ rowsAt C i 2 ≤ 500 := by
  obtain ⟨a, b, e, r⟩ := h.row i hi
  unfold rowsAt
  rw [e]
  exact ⟨rfl, ⟨r.1, r.2.1⟩, r.2.2.1, r.2.2.2⟩
theorem inc {hours : Int} (hs : SortedI H H.length) (hd : H.Nodup) {i : Nat} (hi : i + 1 < H.length) (_hb : ∀ h, h ∈ H → 0 ≤ h ∧ h ≤ hours) : ni H i < ni H (i+1) := by
  have h1 := hs i (i+1) (by omega) hi
  have h2 : ni H i ≠ ni H (i+1) := by
    rw [ni_get H hi, ni_get H (show i < H.length by omega)]
    exact List.pairwise_iff_getElem.1 hd i (i+1) (by omega) hi (by omega)
  omega
theorem ok {hours : Int} (h : MadeS al nh H M L C s t k) (hk : H.length = k) (hk1 : 1 ≤ k ∧ k ≤ 8) (hs : SortedI H H.length) (hd : H.Nodup) (hb : ∀ h, h ∈ H → 0 ≤ h ∧ h ≤ hours) (hho : 12 ≤ hours ∧ hours ≤ 60) (hal : 0 ≤ al ∧ al ≤ 3) (hnh : 1 ≤ nh ∧ nh ≤ 6)
    (hM : M.length ≤ 5) (hMo : BooksOk hours M) (hL : L.length ≤ 12) (hLo : SpellsOk hours nh L) :
    Ok (wd hours al nh M L C) ∧ HandSpec.L.Truth (wd hours al nh M L C) (ni s) (fun h i => if h < nh then t h i else 0) := by
  have hcl : (wd hours al nh M L C).cn = k := h.cl
  have hnt : (wd hours al nh M L C).hands.toNat = nh := by show ((nh : Int)).toNat = nh; omega
  have hnb : ∀ i, i < k → 0 ≤ ni H i ∧ ni H i ≤ hours := fun i hi => hb _ (by rw [ni_get H (by omega)]; exact List.getElem_mem _)
  have hok : Ok (wd hours al nh M L C) := by
    refine ⟨?_, ?_, by show M.length ≤ 10; omega, hL, by show 1 ≤ hours ∧ hours ≤ 60; omega, by show 0 ≤ al ∧ al ≤ 20; omega, fun i hi => ?_, fun i hi => ?_, fun i hi => ?_, fun q hq => ?_, fun q hq => ?_, fun q hq => ?_, fun i hi => ?_, fun i hi => ?_, fun q hq => ?_, fun q hq => ?_, fun q hq => ?_⟩
    · show 1 ≤ (nh : Int) ∧ (nh : Int) ≤ 6; omega
    · rw [hcl]; exact hk1
    · rw [hcl] at hi
      have := h.at_ hi; have := hnb i hi
      show 0 ≤ rowsAt C i 0 ∧ rowsAt C i 0 ≤ hours; omega
    · rw [hcl] at hi
      have := h.at_ hi
      show 0 ≤ rowsAt C i 1 ∧ rowsAt C i 1 ≤ 500; omega
    · rw [hcl] at hi
      have := h.at_ hi
      show 0 ≤ rowsAt C i 2 ∧ rowsAt C i 2 ≤ 500; omega
    · exact (books_at hMo hq).1
    · have := (books_at hMo hq).2
      show -200 ≤ rowsAt M q 1 ∧ rowsAt M q 1 ≤ 200; omega
    · have := (spells_at hLo hq).1
      show 0 ≤ rowsAt L q 0 ∧ rowsAt L q 0 ≤ (nh : Int) - 1; omega
    · rw [hcl] at hi
      have := h.at_ hi
      show rowsAt C i 1 ≤ rowsAt C i 2; omega
    · rw [hcl] at hi
      have h1 := h.at_ (show i < k by omega); have h2 := h.at_ hi
      have := inc hs hd (show i + 1 < H.length by omega) hb
      show rowsAt C i 0 < rowsAt C (i+1) 0; omega
    · exact (books_at hMo hq).2.1
    · have := (spells_at hLo hq).2
      show (0 ≤ rowsAt L q 1 ∧ rowsAt L q 1 ≤ hours) ∧ (0 ≤ rowsAt L q 2 ∧ rowsAt L q 2 ≤ hours); omega
    · exact (spells_at hLo hq).2.2.1
  refine ⟨hok, ⟨fun i hi => ?_, fun h' i => ?_, fun h' i hi hf => ?_, fun i hi => ?_⟩⟩
  · rw [hcl] at hi
    have := h.at_ hi
    show rowsAt C i 1 ≤ ni s i ∧ ni s i ≤ rowsAt C i 2; omega
  · split
    · exact (h.t0 h' i).1
    · exact Int.le_refl _
  · rw [hcl] at hi
    split
    · next hlt =>
      refine h.here h' i hi hlt ?_
      have e0 := (h.at_ (show i < k by omega)).1
      have e1 := (h.at_ hi).1
      have : R.isat (wd hours al nh M L C) (h' : Int) i = hereL H L h' i := by
        show anyTo (fun q => decide (rowsAt L q 0 = (h' : Int)) && (decide (rowsAt L q 1 < rowsAt C (i+1) 0) && decide (rowsAt C i 0 < rowsAt L q 2))) L.length = _
        rw [e0, e1]
        rfl
      rw [← this]; exact hf
    · rfl
  · rw [hcl] at hi
    obtain ⟨l, h1, h2⟩ := h.step i hi
    have e0 := (h.at_ (show i < k by omega)).1
    have e1 := (h.at_ hi).1
    refine ⟨l, ?_, ?_⟩
    · show 0 ≤ l ∧ l ≤ al * (rowsAt C (i+1) 0 - rowsAt C i 0)
      rw [e0, e1]; exact h1
    · rw [hnt]
      have eb : R.booked (wd hours al nh M L C) i (i+1) = sumTo (bkF H M i) M.length := by
        show sumTo (R.bookf (wd hours al nh M L C) i (i+1)) M.length = _
        refine HandSpec.L.sumTo_eq fun q _ => ?_
        show (if rowsAt C i 0 < rowsAt M q 0 ∧ rowsAt M q 0 ≤ rowsAt C (i+1) 0 then rowsAt M q 1 else 0) = _
        rw [e0, e1]; rfl
      rw [eb, h2, HandSpec.L.sumTo_eq (f := fun h => if h < nh then t h i else 0) (g := fun h => t h i) fun h hh => if_pos hh]
end MadeS
end Go.Proofs.YtkhjmedfhobebaaGreat
