/- Plain: what groups reckons. Sets of farmers are numbers below 128. -/
import Derived.Test.YtbceepjjdfpfmaaGreatGrpA
namespace Go.Proofs.YtbceepjjdfpfmaaGreat
open Go.RowKit HandSpec
set_option maxHeartbeats 2000000
set_option maxRecDepth 100000
/-- Who of the first k is not even. -/
def openM (f : Nat → Int) : Nat → Nat
  | 0 => 0
  | k + 1 => if f k = 0 then openM f k else openM f k ||| 2 ^ k
theorem or_lt : ∀ k : Nat, k < 7 → ∀ s : Nat, s < 128 → s < 2 ^ k → s ||| 2 ^ k < 2 ^ (k + 1) := by decide +kernel
theorem or_pow : ∀ k : Nat, k < 7 → ∀ s : Nat, s < 128 → bits .or .i64 (s : Int) (wrap64 (2 ^ k)) = ((s ||| 2 ^ k : Nat) : Int) := by decide +kernel
theorem pow_mono7 : ∀ k : Nat, k ≤ 7 → 2 ^ k ≤ 128 := by decide +kernel
theorem openM_lt (f : Nat → Int) : ∀ k, k ≤ 7 → openM f k < 2 ^ k
  | 0, _ => by simp [openM]
  | k + 1, hk => by
    have ih := openM_lt f k (by omega)
    simp only [openM]
    split
    · rw [Nat.pow_succ]; omega
    · exact or_lt k (by omega) _ (Nat.lt_of_lt_of_le ih (pow_mono7 k (by omega))) ih
/-- The sum over a set's places below k. -/
def sumB (f : Nat → Int) (s : Nat) : Nat → Int
  | 0 => 0
  | k + 1 => if s.testBit k then sumB f s k + f k else sumB f s k
/-- The net at the place whose set is low, if it is below k. -/
def lowTo (f : Nat → Int) (low : Nat) : Nat → Int
  | 0 => 0
  | k + 1 => if low = 2 ^ k then lowTo f low k + f k else lowTo f low k
theorem low_bits : ∀ s : Nat, s < 128 → ∀ k : Nat, k < 7 → (s.testBit k = true ∧ (dif s (lowM s)).testBit k = false ∧ lowM s = 2 ^ k) ∨ (s.testBit k = true ∧ (dif s (lowM s)).testBit k = true ∧ lowM s ≠ 2 ^ k) ∨ (s.testBit k = false ∧ (dif s (lowM s)).testBit k = false ∧ lowM s ≠ 2 ^ k) := by decide +kernel
theorem low_lt : ∀ s : Nat, s < 128 → s ≠ 0 → dif s (lowM s) < s ∧ lowM s < 128 := by decide +kernel
theorem sumB_low (f : Nat → Int) {s : Nat} (hs : s < 128) : ∀ k, k ≤ 7 → sumB f s k = sumB f (dif s (lowM s)) k + lowTo f (lowM s) k
  | 0, _ => rfl
  | k + 1, hk => by
    have ih := sumB_low f hs k (by omega)
    simp only [sumB, lowTo]
    rcases low_bits s hs k (by omega) with ⟨h1, h2, h3⟩ | ⟨h1, h2, h3⟩ | ⟨h1, h2, h3⟩
    · rw [if_pos h1, if_neg (by rw [h2]; simp), if_pos h3]; omega
    · rw [if_pos h1, if_pos h2, if_neg h3]; omega
    · rw [if_neg (by rw [h1]; simp), if_neg (by rw [h2]; simp), if_neg h3]; omega
theorem sumB_bd {f : Nat → Int} {B : Int} (hf : ∀ i, -B ≤ f i ∧ f i ≤ B) (hB : 0 ≤ B) (s : Nat) : ∀ k : Nat, -((k : Int) * B) ≤ sumB f s k ∧ sumB f s k ≤ (k : Int) * B
  | 0 => by simp [sumB]
  | k + 1 => by
    have ih := sumB_bd hf hB s k
    have := hf k
    have e : ((k + 1 : Nat) : Int) * B = (k : Int) * B + B := by push_cast; rw [Int.add_mul, Int.one_mul]
    simp only [sumB]
    rw [e]
    split <;> omega
theorem lowTo_bd {f : Nat → Int} {B : Int} (hf : ∀ i, -B ≤ f i ∧ f i ≤ B) (hB : 0 ≤ B) (s : Nat) : ∀ k : Nat, -((k : Int) * B) ≤ lowTo f s k ∧ lowTo f s k ≤ (k : Int) * B
  | 0 => by simp [lowTo]
  | k + 1 => by
    have ih := lowTo_bd hf hB s k
    have := hf k
    have e : ((k + 1 : Nat) : Int) * B = (k : Int) * B + B := by push_cast; rw [Int.add_mul, Int.one_mul]
    simp only [lowTo]
    rw [e]
    split <;> omega
/-- How many parts the sets known so far have at most, and a last part of each. -/
structure StM where
  b : Nat → Option Int
  p : Nat → Option Int
/-- A part of a set is tried. -/
def tryS (f : Nat → Int) (n set sub : Nat) (st : StM) : StM :=
  match st.b (dif set sub) with
  | none => st
  | some v => if sumB f sub n = 0 ∧ (st.b set).getD 0 < v + 1 then ⟨putM st.b set (v + 1), putM st.p set (sub : Int)⟩ else st
/-- All parts of a set are tried, from sub on down. -/
def innerM (f : Nat → Int) (n set : Nat) : Nat → Nat → StM → StM
  | 0, _, st => st
  | k + 1, sub, st => if sub = 0 then st else innerM f n set k ((sub - 1) &&& set) (tryS f n set sub st)
theorem innerM_zero (f : Nat → Int) (n set k : Nat) (st : StM) : innerM f n set k 0 st = st := by cases k <;> rfl
/-- The sets up to s are known. -/
def outerM (f : Nat → Int) (n : Nat) : Nat → StM
  | 0 => ⟨putM (fun _ => none) 0 0, fun _ => none⟩
  | s + 1 => if dif (s + 1) (openM f n) ≠ 0 ∨ sumB f (s + 1) n ≠ 0 then outerM f n s else innerM f n (s + 1) 128 (s + 1) (outerM f n s)
/-- The parts that are taken off a set. -/
def grpM (p : Nat → Option Int) : Nat → Nat → List Nat
  | 0, _ => []
  | k + 1, s => if s = 0 then [] else ((p s).getD 0).toNat :: grpM p k (dif s ((p s).getD 0).toNat)
/-- The parts of all who are not even. -/
def groupsM (f : Nat → Int) (n : Nat) : List Nat := grpM (outerM f n (openM f n)).p 128 (openM f n)
/-- What is known of a set is right. -/
structure GoodM (f : Nat → Int) (n : Nat) (st : StM) : Prop where
  z : st.b 0 = some 0
  b : ∀ s v, st.b s = some v → 0 ≤ v ∧ v ≤ s ∧ s < 128
  p : ∀ s v, s ≠ 0 → st.b s = some v → ∃ q : Nat, st.p s = some (q : Int) ∧ q ≠ 0 ∧ q &&& s = q ∧ ∃ v', st.b (dif s q) = some v'
theorem sub_facts : ∀ s : Nat, s < 128 → ∀ q : Nat, q < 128 → q &&& s = q → q ≠ 0 → dif s q < s ∧ q ≤ s := by decide +kernel
theorem sub_next : ∀ s : Nat, s < 128 → ∀ q : Nat, q < 128 → q ≠ 0 → (q - 1) &&& s < q ∧ ((q - 1) &&& s) &&& s = (q - 1) &&& s := by decide +kernel
theorem dif_lt (s q : Nat) : dif s q ≤ s := Nat.sub_le _ _
theorem GoodM.tryS {f : Nat → Int} {n set sub : Nat} {st : StM} (h : GoodM f n st) (hs : set < 128) (h0 : set ≠ 0) (hq : sub &&& set = sub) (hq0 : sub ≠ 0) : GoodM f n (tryS f n set sub st) := by
  have hsub : sub ≤ set := by rw [← hq]; exact Nat.and_le_right
  have hd := (sub_facts set hs sub (by omega) hq hq0).1
  unfold YtbceepjjdfpfmaaGreat.tryS
  cases hv : st.b (dif set sub) with
  | none => exact h
  | some v =>
    dsimp only
    have hb := h.b _ _ hv
    split
    · refine ⟨?_, fun s u hu => ?_, fun s u hs0 hu => ?_⟩
      · show putM _ _ _ _ = _
        unfold putM
        rw [if_neg (fun e => h0 e.symm)]
        exact h.z
      · have hu : putM st.b set (v + 1) s = some u := hu
        unfold putM at hu
        by_cases e : s = set
        · rw [if_pos e] at hu
          cases hu
          omega
        · rw [if_neg e] at hu
          exact h.b s u hu
      · have hu : putM st.b set (v + 1) s = some u := hu
        unfold putM at hu
        have hkeep : ∀ t, (∃ v', st.b t = some v') → ∃ v', putM st.b set (v + 1) t = some v' := fun t ⟨v', ht⟩ => by
          unfold putM
          split
          · exact ⟨_, rfl⟩
          · exact ⟨v', ht⟩
        by_cases e : s = set
        · subst e
          exact ⟨sub, by show putM _ _ _ _ = _; unfold putM; rw [if_pos rfl], hq0, hq, hkeep _ ⟨v, hv⟩⟩
        · rw [if_neg e] at hu
          obtain ⟨q, h1, h2, h3, h4⟩ := h.p s u hs0 hu
          exact ⟨q, by show putM _ _ _ _ = _; unfold putM; rw [if_neg e]; exact h1, h2, h3, hkeep _ h4⟩
    · exact h
theorem tryS_keeps {f : Nat → Int} {n set sub : Nat} {st : StM} {t : Nat} (h : ∃ v, st.b t = some v) : ∃ v, (tryS f n set sub st).b t = some v := by
  unfold YtbceepjjdfpfmaaGreat.tryS
  split
  · exact h
  · split
    · show ∃ v, putM _ _ _ _ = _
      unfold putM
      split
      · exact ⟨_, rfl⟩
      · exact h
    · exact h
theorem innerM_good {f : Nat → Int} {n set : Nat} (hs : set < 128) (h0 : set ≠ 0) : ∀ (k sub : Nat) (st : StM), GoodM f n st → sub &&& set = sub → sub < 128 → GoodM f n (innerM f n set k sub st) ∧ ∀ t, (∃ v, st.b t = some v) → ∃ v, (innerM f n set k sub st).b t = some v
  | 0, _, st, h, _, _ => ⟨h, fun _ h => h⟩
  | k + 1, sub, st, h, hq, hl => by
    simp only [innerM]
    split
    · exact ⟨h, fun _ h => h⟩
    · rename_i hq0
      have hn := sub_next set hs sub hl hq0
      obtain ⟨g1, g2⟩ := innerM_good hs h0 k _ _ (h.tryS hs h0 hq hq0) hn.2 (by omega)
      exact ⟨g1, fun t ht => g2 t (tryS_keeps ht)⟩
theorem outerM_good (f : Nat → Int) (n : Nat) : ∀ s, s < 128 → GoodM f n (outerM f n s)
  | 0, _ => by
    refine ⟨rfl, fun s v h => ?_, fun s v h0 h => ?_⟩
    · have h : putM (fun _ => none) 0 0 s = some v := h
      unfold putM at h
      split at h
      · cases h; omega
      · cases h
    · have h : putM (fun _ => none) 0 0 s = some v := h
      unfold putM at h
      rw [if_neg h0] at h
      cases h
  | s + 1, hs => by
    have ih := outerM_good f n s (by omega)
    simp only [outerM]
    split
    · exact ih
    · exact (innerM_good hs (by omega) 128 (s + 1) _ ih (Nat.and_self _) hs).1
/-- The sum of the first k. -/
def totTo (f : Nat → Int) : Nat → Int
  | 0 => 0
  | k + 1 => totTo f k + f k
theorem totTo_upd (f : Nat → Int) (i : Nat) (z : Int) : ∀ n, totTo (upd f i z) n = totTo f n + if i < n then z - f i else 0
  | 0 => by simp [totTo]
  | k + 1 => by
    have ih := totTo_upd f i z k
    simp only [totTo]
    rw [ih]
    by_cases e : k = i
    · subst e
      rw [upd_same, if_neg (by omega), if_pos (by omega)]
      omega
    · rw [upd_other _ _ e]
      by_cases h : i < k
      · rw [if_pos h, if_pos (by omega)]; omega
      · rw [if_neg h, if_neg (by omega)]; omega
theorem totTo_net (g : Nat → Nat → Int) (n : Nat) : ∀ k, k ≤ n → totTo (netTo g n k) n = 0
  | 0, _ => by
    have : ∀ m, totTo (fun _ => 0) m = 0 := fun m => by
      induction m with
      | zero => rfl
      | succ m ih => simp only [totTo]; rw [ih]; rfl
    exact this n
  | k + 1, hk => by
    have ih := totTo_net g n k (by omega)
    have : ∀ j, j ≤ n → totTo (netRow g k j (netTo g n k)) n = 0 := fun j => by
      induction j with
      | zero => exact fun _ => ih
      | succ j ihj =>
        intro hj
        have := ihj (by omega)
        simp only [netRow]
        rw [totTo_upd, totTo_upd, if_pos (by omega), if_pos (by omega), this]
        omega
    exact this n (Nat.le_refl _)
theorem openM_bit (f : Nat → Int) : ∀ k i : Nat, (openM f k).testBit i = (decide (i < k) && !decide (f i = 0))
  | 0, i => by simp [openM]
  | k + 1, i => by
    have ih := openM_bit f k i
    simp only [openM]
    by_cases h0 : f k = 0
    · rw [if_pos h0, ih]
      by_cases e : i = k
      · subst e; simp [h0]
      · rw [show decide (i < k + 1) = decide (i < k) by rw [Bool.eq_iff_iff]; simp; omega]
    · rw [if_neg h0, Nat.testBit_or, ih, Nat.testBit_two_pow]
      by_cases e : i = k
      · subst e; simp [h0]
      · rw [show decide (i < k + 1) = decide (i < k) by rw [Bool.eq_iff_iff]; simp; omega]
        simp [show ¬ k = i from fun e' => e e'.symm]
theorem sumB_open (f : Nat → Int) (n : Nat) : ∀ k, k ≤ n → sumB f (openM f n) k = totTo f k
  | 0, _ => rfl
  | k + 1, hk => by
    have ih := sumB_open f n k (by omega)
    simp only [sumB, totTo]
    rw [openM_bit f n k, ih]
    by_cases h0 : f k = 0
    · simp [h0]
    · simp [h0, show k < n by omega]
theorem dif_self : ∀ s : Nat, s < 128 → dif s s = 0 := by decide +kernel
theorem outerM_open {f : Nat → Int} {n : Nat} (hn : n ≤ 7) (ht : totTo f n = 0) : ∃ v, (outerM f n (openM f n)).b (openM f n) = some v := by
  have hl : openM f n < 128 := Nat.lt_of_lt_of_le (openM_lt f n hn) (pow_mono7 n hn)
  have hs := sumB_open f n n (Nat.le_refl _)
  generalize ho : openM f n = o at *
  cases o with
  | zero => exact ⟨0, rfl⟩
  | succ s =>
    have hg := outerM_good f n s (by omega)
    simp only [outerM, ho]
    rw [if_neg (by rw [dif_self _ hl, hs, ht]; simp)]
    simp only [innerM]
    rw [if_neg (by omega)]
    refine (innerM_good hl (by omega) 127 _ _ (hg.tryS hl (by omega) (Nat.and_self _) (by omega)) (sub_next _ hl _ hl (by omega)).2 (by have := (sub_next _ hl _ hl (show s + 1 ≠ 0 by omega)).1; omega)).2 _ ?_
    have h0 : (outerM f n s).b (dif (s + 1) (s + 1)) = some 0 := by rw [dif_self _ hl]; exact hg.z
    by_cases hk : ∃ v, (outerM f n s).b (s + 1) = some v
    · exact tryS_keeps hk
    · have hnone : (outerM f n s).b (s + 1) = none := by
        cases e : (outerM f n s).b (s + 1) with
        | none => rfl
        | some v => exact absurd ⟨v, e⟩ hk
      unfold YtbceepjjdfpfmaaGreat.tryS
      rw [h0]
      dsimp only
      rw [if_pos ⟨by rw [hs, ht], by rw [hnone]; decide⟩]
      exact ⟨_, by show putM _ _ _ _ = _; unfold putM; rw [if_pos rfl]⟩
theorem places_less : ∀ s : Nat, s < 128 → ∀ q : Nat, q < 128 → q &&& s = q → q ≠ 0 → (places (dif s q)).length < (places s).length := by decide +kernel
theorem places_seven : ∀ s : Nat, s < 128 → (places s).length ≤ 7 := by decide +kernel
theorem places_some : ∀ s : Nat, s < 128 → s ≠ 0 → 0 < (places s).length ∧ (places s).getD 0 0 ≤ 6 := by decide +kernel
theorem grpM_ok {f : Nat → Int} {n : Nat} {st : StM} (h : GoodM f n st) : ∀ (k s : Nat), s ≤ k → s < 128 → (∃ v, st.b s = some v) → (∀ q, q ∈ grpM st.p k s → 0 < q ∧ q < 128) ∧ (grpM st.p k s).length ≤ (places s).length
  | 0, _, _, _, _ => ⟨fun q hq => by simp [grpM] at hq, by simp [grpM]⟩
  | k + 1, s, hk, hs, hv => by
    simp only [grpM]
    split
    · exact ⟨fun q hq => by simp at hq, by simp⟩
    · rename_i h0
      obtain ⟨v, hv⟩ := hv
      obtain ⟨q, h1, h2, h3, h4⟩ := h.p s v h0 hv
      have hqs := sub_facts s hs q (by have : q ≤ s := by rw [← h3]; exact Nat.and_le_right
                                       omega) h3 h2
      have e : ((st.p s).getD 0).toNat = q := by rw [h1]; rfl
      rw [e]
      obtain ⟨i1, i2⟩ := grpM_ok h k (dif s q) (by omega) (by omega) h4
      have := places_less s hs q (by omega) h3 h2
      refine ⟨fun u hu => ?_, by rw [List.length_cons]; omega⟩
      rcases List.mem_cons.1 hu with rfl | hu
      · omega
      · exact i1 u hu
end Go.Proofs.YtbceepjjdfpfmaaGreat
