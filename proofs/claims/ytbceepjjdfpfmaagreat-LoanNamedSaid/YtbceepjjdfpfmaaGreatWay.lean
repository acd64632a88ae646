/- Plain: into how many even groups the open ones can be put; what groups reckons is the most, and its parts are such groups. Plain: payments that settle put those who are open into even groups, no fewer than there are open ones less the payments. Plain: what Settle reckons settles all, with as many payments as there are open ones less the groups; no fewer can. Plain: the greatest number of groups, as the reference tries all ways, is the greatest number of even groups. -/
import Derived.Test.YtbceepjjdfpfmaaGreatSetM
namespace Go.Proofs.YtbceepjjdfpfmaaGreat
open Go.RowKit HandSpec
set_option maxHeartbeats 2000000
set_option maxRecDepth 100000
/-- The set of those of the first k that p picks. -/
def pickM (p : Nat → Bool) : Nat → Nat
  | 0 => 0
  | k + 1 => if p k then pickM p k ||| 2 ^ k else pickM p k
theorem pickM_bit (p : Nat → Bool) : ∀ k i : Nat, (pickM p k).testBit i = (decide (i < k) && p i)
  | 0, i => by simp [pickM]
  | k + 1, i => by
    have ih := pickM_bit p k i
    simp only [pickM]
    by_cases e : i = k
    · subst e
      split
      · rename_i h; rw [Nat.testBit_or, Nat.testBit_two_pow]; simp [h]
      · rename_i h; rw [ih]; simp [h]
    · have e' : ¬ k = i := fun q => e q.symm
      have hd : decide (i < k + 1) = decide (i < k) := by rw [Bool.eq_iff_iff]; simp; omega
      split
      · rw [Nat.testBit_or, ih, Nat.testBit_two_pow, hd]; simp [e']
      · rw [ih, hd]
theorem pickM_lt (p : Nat → Bool) : ∀ k, k ≤ 7 → pickM p k < 2 ^ k
  | 0, _ => by simp [pickM]
  | k + 1, hk => by
    have ih := pickM_lt p k (by omega)
    simp only [pickM]
    split
    · exact or_lt k (by omega) _ (Nat.lt_of_lt_of_le ih (pow_mono7 k (by omega))) ih
    · rw [Nat.pow_succ]; omega
theorem dif_bit : ∀ s : Nat, s < 128 → ∀ q : Nat, q < 128 → ∀ i : Nat, i < 7 → (dif s q).testBit i = (s.testBit i && !q.testBit i) := by decide +kernel
theorem bits_same {s q : Nat} (hs : s < 128) (hq : q < 128) (h : ∀ i, i < 7 → s.testBit i = q.testBit i) : s = q := by
  refine Nat.eq_of_testBit_eq fun i => ?_
  rcases Nat.lt_or_ge i 7 with hi | hi
  · exact h i hi
  · have : (2 : Nat) ^ 7 ≤ 2 ^ i := Nat.pow_le_pow_right (show 0 < 2 by omega) hi
    have e7 : (2 : Nat) ^ 7 = 128 := rfl
    rw [e7] at this
    rw [Nat.testBit_lt_two_pow (by omega), Nat.testBit_lt_two_pow (by omega)]
theorem sumB_sum (f : Nat → Int) (s : Nat) : ∀ n, sumB f s n = sumTo (fun i => if s.testBit i = true then f i else 0) n
  | 0 => rfl
  | n + 1 => by
    have ih := sumB_sum f s n
    simp only [sumB, sumTo]
    split <;> rw [ih]
    omega
theorem sumB_dif {f : Nat → Int} {s q : Nat} (hs : s < 128) (hq : q < 128) (h : q &&& s = q) : ∀ n, n ≤ 7 → sumB f s n = sumB f q n + sumB f (dif s q) n
  | 0, _ => rfl
  | n + 1, hn => by
    have ih := sumB_dif hs hq h n (by omega) (f := f)
    have hd := dif_bit s hs q hq n (by omega)
    have hb : q.testBit n = (q.testBit n && s.testBit n) := by rw [← Nat.testBit_and, h]
    simp only [sumB]
    rw [hd]
    cases h1 : s.testBit n <;> cases h2 : q.testBit n <;> rw [h1, h2] at hb <;> simp at hb ⊢ <;> omega
/-- Into k even groups a set can be put. -/
def WayS (f : Nat → Int) (n s k : Nat) : Prop := ∃ col : Nat → Nat, (∀ i, i < n → s.testBit i = true → col i < k) ∧ (∀ c, c < k → ∃ i, i < n ∧ s.testBit i = true ∧ col i = c) ∧
  ∀ c, c < k → sumTo (fun i => if s.testBit i = true ∧ col i = c then f i else 0) n = 0
theorem WayS.zero {f : Nat → Int} {n k : Nat} (h : WayS f n 0 k) : k = 0 := by
  obtain ⟨col, _, h2, _⟩ := h
  rcases Nat.eq_zero_or_pos k with e | e
  · exact e
  · obtain ⟨i, _, h, _⟩ := h2 0 e
    simp at h
theorem WayS.split {f : Nat → Int} {n s k : Nat} (hn : n ≤ 7) (hs : s < 128) (h : WayS f n s (k + 1)) : ∃ q, q ≠ 0 ∧ q < 128 ∧ q &&& s = q ∧ sumB f q n = 0 ∧ WayS f n (dif s q) k := by
  obtain ⟨col, h1, h2, h3⟩ := h
  have hbit := fun i => pickM_bit (fun i => s.testBit i && (col i == k)) n i
  have hl := Nat.lt_of_lt_of_le (pickM_lt (fun i => s.testBit i && (col i == k)) n hn) (pow_mono7 n hn)
  generalize pickM (fun i => s.testBit i && (col i == k)) n = q at hbit hl
  have hd := fun i hi => dif_bit s hs q hl i hi
  refine ⟨q, fun e => ?_, hl, ?_, ?_, col, fun i hi hb => ?_, fun c hc => ?_, fun c hc => ?_⟩
  · obtain ⟨i, hi, hb, hc⟩ := h2 k (Nat.lt_succ_self k)
    have := hbit i
    rw [e, hb, hc] at this
    simp [hi] at this
  · refine bits_same (Nat.lt_of_le_of_lt Nat.and_le_left hl) hl fun i _ => ?_
    rw [Nat.testBit_and, hbit i]
    cases s.testBit i <;> simp
  · rw [sumB_sum]
    refine Eq.trans (sumTo_congr fun i hi => ?_) (h3 k (Nat.lt_succ_self k))
    rw [hbit i]
    simp [hi]
  · rw [hd i (by omega), hbit i] at hb
    have hsb : s.testBit i = true := by revert hb; cases s.testBit i <;> simp
    have := h1 i hi hsb
    have hne : col i ≠ k := fun e => by rw [hsb, e] at hb; simp [hi] at hb
    omega
  · obtain ⟨i, hi, hb, he⟩ := h2 c (by omega)
    refine ⟨i, hi, ?_, he⟩
    rw [hd i (by omega), hbit i, hb, he]
    simp [hi]
    omega
  · refine Eq.trans (sumTo_congr fun i hi => ?_) (h3 c (by omega))
    have e : ((dif s q).testBit i = true ∧ col i = c) ↔ (s.testBit i = true ∧ col i = c) := by
      rw [hd i (by omega), hbit i]
      constructor
      · rintro ⟨a, b⟩
        exact ⟨by revert a; cases s.testBit i <;> simp, b⟩
      · rintro ⟨a, b⟩
        refine ⟨?_, b⟩
        rw [a, b]
        simp [hi]
        omega
    simp only [e]
theorem WayS.join {f : Nat → Int} {n s q k : Nat} (hn : n ≤ 7) (hs : s < 128) (hq : q < 128) (hq0 : ∃ i, i < n ∧ q.testBit i = true) (hqs : q &&& s = q) (h0 : sumB f q n = 0) (h : WayS f n (dif s q) k) : WayS f n s (k + 1) := by
  obtain ⟨col, h1, h2, h3⟩ := h
  have hd := fun i hi => dif_bit s hs q hq i hi
  have hsub : ∀ i, q.testBit i = true → s.testBit i = true := fun i hi => by
    rw [← hqs, Nat.testBit_and] at hi
    revert hi; cases s.testBit i <;> simp
  refine ⟨fun i => if q.testBit i = true then k else col i, fun i hi hb => ?_, fun c hc => ?_, fun c hc => ?_⟩
  · dsimp only
    split
    · omega
    · rename_i hnq
      have := h1 i hi (by rw [hd i (by omega), hb]; simpa using hnq)
      omega
  · by_cases e : c = k
    · subst e
      obtain ⟨i, hi, hb⟩ := hq0
      exact ⟨i, hi, hsub i hb, by dsimp only; rw [if_pos hb]⟩
    · obtain ⟨i, hi, hb, he⟩ := h2 c (by omega)
      rw [hd i (by omega)] at hb
      refine ⟨i, hi, by revert hb; cases s.testBit i <;> simp, ?_⟩
      dsimp only
      rw [if_neg (by revert hb; cases q.testBit i <;> simp)]
      exact he
  · by_cases e : c = k
    · subst e
      rw [sumB_sum] at h0
      refine Eq.trans (sumTo_congr fun i hi => ?_) h0
      by_cases hb : q.testBit i = true
      · rw [if_pos hb, if_pos ⟨hsub i hb, by dsimp only; rw [if_pos hb]⟩]
      · have e2 : ¬ (s.testBit i = true ∧ (if q.testBit i = true then c else col i) = c) := by
          rintro ⟨a, b⟩
          rw [if_neg hb] at b
          have := h1 i hi (by rw [hd i (by omega), a]; simpa using hb)
          omega
        exact (if_neg e2).trans (if_neg hb).symm
    · refine Eq.trans (sumTo_congr fun i hi => ?_) (h3 c (by omega))
      have e' : ((dif s q).testBit i = true ∧ col i = c) ↔ (s.testBit i = true ∧ (if q.testBit i = true then k else col i) = c) := by
        rw [hd i (by omega)]
        cases h1 : s.testBit i <;> cases h2 : q.testBit i <;> simp
        omega
      simp only [e']
/-- Between a part and the next one below there is none. -/
def gapB (s t : Nat) : Bool := t &&& s != t || (t == 0 || (List.range (t - ((t - 1) &&& s) - 1)).all fun d => ((t - 1) &&& s) + 1 + d &&& s != ((t - 1) &&& s) + 1 + d)
theorem gap_all : ((List.range 128).all fun s => (List.range 128).all fun t => gapB s t) = true := by decide +kernel
theorem sub_max (s : Nat) (hs : s < 128) (t : Nat) (ht : t < 128) (h1 : t &&& s = t) (h2 : t ≠ 0) (q : Nat) (h3 : q &&& s = q) (h4 : q < t) : q ≤ (t - 1) &&& s := by
  have h := List.all_eq_true.1 gap_all s (List.mem_range.2 hs)
  have h := List.all_eq_true.1 h t (List.mem_range.2 ht)
  unfold gapB at h
  rcases Nat.lt_or_ge ((t - 1) &&& s) q with e | e
  · rw [h1] at h
    simp only [bne_self_eq_false, Bool.false_or, Bool.or_eq_true, beq_iff_eq, h2, false_or] at h
    have h := List.all_eq_true.1 h (q - ((t - 1) &&& s) - 1) (List.mem_range.2 (by omega))
    rw [show ((t - 1) &&& s) + 1 + (q - ((t - 1) &&& s) - 1) = q by omega, h3] at h
    simp at h
  · exact e
theorem sub_sub (s : Nat) (hs : s < 128) (q : Nat) (hq : q < 128) (o : Nat) (h : s &&& o = s) : dif s q &&& o = dif s q := by
  have hl := dif_lt s q
  refine bits_same (Nat.lt_of_le_of_lt Nat.and_le_left (by omega)) (by omega) fun i hi => ?_
  rw [Nat.testBit_and, dif_bit s hs q hq i hi]
  have hb : s.testBit i = (s.testBit i && o.testBit i) := by rw [← Nat.testBit_and, h]
  cases h1 : s.testBit i <;> cases h2 : o.testBit i <;> rw [h1, h2] at hb <;> simp at hb ⊢
/-- What is known once the sets up to S are looked at. -/
structure BestM (f : Nat → Int) (n S : Nat) (st : StM) : Prop where
  z : st.b 0 = some 0
  sub : ∀ s v, st.b s = some v → s &&& openM f n = s ∧ sumB f s n = 0
  le : ∀ s v, st.b s = some v → 0 ≤ v ∧ s ≤ S
  p : ∀ s v, s ≠ 0 → st.b s = some v → ∃ q : Nat, st.p s = some (q : Int) ∧ q ≠ 0 ∧ q &&& s = q ∧ sumB f q n = 0 ∧ st.b (dif s q) = some (v - 1)
  all : ∀ s, s ≤ S → s &&& openM f n = s → sumB f s n = 0 → ∃ v, st.b s = some v ∧ ∀ k : Nat, WayS f n s k → (k : Int) ≤ v
/-- What is known while the parts of a set are tried, those above sub being done. -/
structure InM (f : Nat → Int) (n set : Nat) (st0 : StM) (sub : Nat) (st : StM) : Prop where
  b : ∀ t, t ≠ set → st.b t = st0.b t
  q : ∀ t, t ≠ set → st.p t = st0.p t
  own : st.b set = none ∨ ∃ (v : Int) (q : Nat), 0 ≤ v ∧ st.b set = some v ∧ st.p set = some (q : Int) ∧ q ≠ 0 ∧ q &&& set = q ∧ sumB f q n = 0 ∧ st0.b (dif set q) = some (v - 1)
  ge : ∀ q, sub < q → q < 128 → q &&& set = q → sumB f q n = 0 → ∀ v, st0.b (dif set q) = some v → ∃ v', st.b set = some v' ∧ v + 1 ≤ v'
theorem InM.step {f : Nat → Int} {n set : Nat} {st0 st : StM} {sub : Nat} (hs : set < 128) (hv : ∀ s v, st0.b s = some v → 0 ≤ v) (h : InM f n set st0 sub st) (h0 : sub ≠ 0) (hl : sub < 128) (hq : sub &&& set = sub) :
    InM f n set st0 ((sub - 1) &&& set) (tryS f n set sub st) := by
  have hd := (sub_facts set hs sub hl hq h0).1
  have hdn : dif set sub ≠ set := by omega
  have hb := h.b _ hdn
  have ge' : ∀ q, (sub - 1) &&& set < q → q < 128 → q &&& set = q → q = sub ∨ sub < q := fun q q1 q2 q3 => by
    rcases Nat.lt_or_ge q sub with e | e
    · have := sub_max set hs sub hl hq h0 q q3 e
      omega
    · omega
  unfold YtbceepjjdfpfmaaGreat.tryS
  cases hc : st.b (dif set sub) with
  | none =>
    dsimp only
    refine ⟨h.b, h.q, h.own, fun q q1 q2 q3 q4 v q5 => ?_⟩
    rcases ge' q q1 q2 q3 with e | e
    · subst e
      rw [← hb, hc] at q5
      cases q5
    · exact h.ge q e q2 q3 q4 v q5
  | some v0 =>
    have hc0 : st0.b (dif set sub) = some v0 := by rw [← hb]; exact hc
    have hv0 := hv _ _ hc0
    dsimp only
    split
    · rename_i hg
      refine ⟨fun t ht => ?_, fun t ht => ?_, .inr ⟨v0 + 1, sub, by omega, ?_, ?_, h0, hq, hg.1, by rw [show v0 + 1 - 1 = v0 by omega]; exact hc0⟩, fun q q1 q2 q3 q4 v q5 => ?_⟩
      · show putM _ _ _ _ = _
        unfold putM
        rw [if_neg ht]
        exact h.b t ht
      · show putM _ _ _ _ = _
        unfold putM
        rw [if_neg ht]
        exact h.q t ht
      · show putM _ _ _ _ = _
        unfold putM
        rw [if_pos rfl]
      · show putM _ _ _ _ = _
        unfold putM
        rw [if_pos rfl]
      · refine ⟨v0 + 1, by show putM _ _ _ _ = _; unfold putM; rw [if_pos rfl], ?_⟩
        rcases ge' q q1 q2 q3 with e | e
        · subst e
          rw [hc0] at q5
          cases q5
          exact Int.le_refl _
        · obtain ⟨v', e1, e2⟩ := h.ge q e q2 q3 q4 v q5
          have := hg.2
          rw [e1] at this
          simp at this
          omega
    · rename_i hg
      refine ⟨h.b, h.q, h.own, fun q q1 q2 q3 q4 v q5 => ?_⟩
      rcases ge' q q1 q2 q3 with e | e
      · subst e
        rw [hc0] at q5
        cases q5
        have hg2 : ¬ (st.b set).getD 0 < v0 + 1 := fun k => hg ⟨q4, k⟩
        cases hb2 : st.b set with
        | none => rw [hb2] at hg2; simp at hg2; omega
        | some w => rw [hb2] at hg2; simp at hg2; exact ⟨w, rfl, by omega⟩
      · exact h.ge q e q2 q3 q4 v q5
theorem inner_all {f : Nat → Int} {n set : Nat} {st0 : StM} (hs : set < 128) (hv : ∀ s v, st0.b s = some v → 0 ≤ v) : ∀ (k sub : Nat) (st : StM), sub ≤ k → sub < 128 → sub &&& set = sub → InM f n set st0 sub st → InM f n set st0 0 (innerM f n set k sub st)
  | 0, sub, st, h1, _, _, h => by
    obtain rfl : sub = 0 := by omega
    exact h
  | k + 1, sub, st, h1, h2, h3, h => by
    simp only [innerM]
    split
    · rename_i e
      subst e
      exact h
    · rename_i e
      have hn := sub_next set hs sub h2 e
      exact inner_all hs hv k _ _ (by omega) (by omega) hn.2 (h.step hs hv e h2 h3)
theorem dif_zero {s o : Nat} (h : dif s o = 0) : s &&& o = s := by
  unfold dif at h
  have : s &&& o ≤ s := Nat.and_le_left
  omega
theorem dif_of {s o : Nat} (h : s &&& o = s) : dif s o = 0 := by
  unfold dif
  rw [h]
  omega
theorem best_outer (f : Nat → Int) {n : Nat} (hn : n ≤ 7) : ∀ S, S < 128 → BestM f n S (outerM f n S)
  | 0, _ => by
    have hb : ∀ s v, (outerM f n 0).b s = some v → s = 0 ∧ v = 0 := fun s v h => by
      have h : putM (fun _ => none) 0 0 s = some v := h
      unfold putM at h
      split at h
      · rename_i e; cases h; exact ⟨e, rfl⟩
      · cases h
    refine ⟨rfl, fun s v h => ?_, fun s v h => ?_, fun s v h0 h => absurd (hb s v h).1 h0, fun s hs _ _ => ⟨0, ?_, fun k hk => ?_⟩⟩
    · obtain ⟨rfl, _⟩ := hb s v h
      refine ⟨Nat.zero_and _, ?_⟩
      rw [sumB_sum]
      exact Eq.trans (sumTo_congr fun i _ => by simp) (sumTo_zero n)
    · obtain ⟨rfl, rfl⟩ := hb s v h
      exact ⟨Int.le_refl _, Nat.le_refl _⟩
    · obtain rfl : s = 0 := by omega
      rfl
    · obtain rfl : s = 0 := by omega
      rw [hk.zero]
      exact Int.le_refl _
  | S + 1, hS => by
    have ih := best_outer f hn S (by omega)
    have ho : openM f n < 128 := Nat.lt_of_lt_of_le (openM_lt f n hn) (pow_mono7 n hn)
    simp only [outerM]
    split
    · rename_i hc
      refine ⟨ih.z, ih.sub, fun s v h => ⟨(ih.le s v h).1, by have := (ih.le s v h).2; omega⟩, ih.p, fun s h1 h2 h3 => ?_⟩
      rcases Nat.lt_or_ge s (S + 1) with e | e
      · exact ih.all s (by omega) h2 h3
      · obtain rfl : s = S + 1 := by omega
        rcases hc with hc | hc
        · exact absurd (dif_of h2) hc
        · exact absurd h3 hc
    · rename_i hc
      have hc1 : (S + 1) &&& openM f n = S + 1 := dif_zero (Classical.byContradiction fun e => hc (.inl e))
      have hc2 : sumB f (S + 1) n = 0 := Classical.byContradiction fun e => hc (.inr e)
      have hfree : ∀ v, (outerM f n S).b (S + 1) ≠ some v := fun v h => by have := (ih.le _ _ h).2; omega
      have hnone : (outerM f n S).b (S + 1) = none := by
        cases e : (outerM f n S).b (S + 1) with
        | none => rfl
        | some v => exact absurd e (hfree v)
      have h := inner_all hS (fun s v h => (ih.le s v h).1) 128 (S + 1) (outerM f n S) (by omega) hS (Nat.and_self _)
        (InM.mk (f := f) (n := n) (fun _ _ => rfl) (fun _ _ => rfl) (.inl hnone) fun q q1 q2 q3 _ _ _ => by
          have : q ≤ S + 1 := by rw [← q3]; exact Nat.and_le_right
          omega)
      generalize innerM f n (S + 1) 128 (S + 1) (outerM f n S) = st at h
      generalize outerM f n S = st0 at ih h hfree hnone
      have hdlt : ∀ q, q < 128 → q &&& (S + 1) = q → q ≠ 0 → dif (S + 1) q < S + 1 := fun q h1 h2 h3 => (sub_facts (S + 1) hS q h1 h2 h3).1
      have hq128 : ∀ {q : Nat}, q &&& (S + 1) = q → q < 128 := fun {q} e => by
        have : q ≤ S + 1 := by rw [← e]; exact Nat.and_le_right
        omega
      refine ⟨by rw [h.b 0 (by omega)]; exact ih.z, fun s v hb => ?_, fun s v hb => ?_, fun s v h0 hb => ?_, fun s h1 h2 h3 => ?_⟩
      · by_cases e : s = S + 1
        · subst e; exact ⟨hc1, hc2⟩
        · rw [h.b s e] at hb; exact ih.sub s v hb
      · by_cases e : s = S + 1
        · subst e
          rcases h.own with h' | ⟨v', q, h0, h', _⟩
          · rw [h'] at hb; cases hb
          · rw [h'] at hb; cases hb; exact ⟨h0, Nat.le_refl _⟩
        · rw [h.b s e] at hb
          have := ih.le s v hb
          exact ⟨this.1, by omega⟩
      · by_cases e : s = S + 1
        · subst e
          rcases h.own with h' | ⟨v', q, _, h', h1, h2, h3, h4, h5⟩
          · rw [h'] at hb; cases hb
          · rw [h'] at hb
            cases hb
            refine ⟨q, h1, h2, h3, h4, ?_⟩
            rw [h.b _ (by have := hdlt q (hq128 h3) h3 h2; omega)]
            exact h5
        · rw [h.b s e] at hb
          obtain ⟨q, h1, h2, h3, h4, h5⟩ := ih.p s v h0 hb
          refine ⟨q, by rw [h.q s e]; exact h1, h2, h3, h4, ?_⟩
          rw [h.b _ fun e' => hfree _ (e' ▸ h5)]
          exact h5
      · by_cases e : s = S + 1
        · subst e
          have h0 := h.ge (S + 1) (by omega) hS (Nat.and_self _) h3 0 (by rw [dif_self _ hS]; exact ih.z)
          obtain ⟨v, hv, _⟩ := h0
          refine ⟨v, hv, fun k hk => ?_⟩
          cases k with
          | zero =>
            rcases h.own with h' | ⟨v', q, h0, h', _⟩
            · rw [h'] at hv; cases hv
            · rw [h'] at hv; cases hv; exact_mod_cast h0
          | succ k =>
            obtain ⟨q, q1, q2, q3, q4, q5⟩ := hk.split hn hS
            have hlt := hdlt q q2 q3 q1
            have hsum := sumB_dif (f := f) hS q2 q3 n hn
            obtain ⟨v1, e1, e2⟩ := ih.all (dif (S + 1) q) (by omega) (sub_sub (S + 1) hS q q2 _ hc1) (by omega)
            have := e2 k q5
            obtain ⟨v2, e3, e4⟩ := h.ge q (by omega) q2 q3 q4 v1 e1
            rw [e3] at hv
            cases hv
            push_cast
            omega
        · obtain ⟨v, h4, h5⟩ := ih.all s (by omega) h2 h3
          exact ⟨v, by rw [h.b s e]; exact h4, h5⟩
/-- In how many sets of a list a place lies. -/
def cntM : List Nat → Nat → Nat
  | [], _ => 0
  | q :: l, i => (if q.testBit i = true then 1 else 0) + cntM l i
theorem cntM_perm {l l' : List Nat} (h : l.Perm l') (i : Nat) : cntM l i = cntM l' i := by
  induction h with
  | nil => rfl
  | cons _ _ ih => simp only [cntM]; omega
  | swap => simp only [cntM]; omega
  | trans _ _ h1 h2 => exact h1.trans h2
theorem some_bit {q : Nat} (h0 : q ≠ 0) (hq : q < 128) : ∃ i, i < 7 ∧ q.testBit i = true := Classical.byContradiction fun h =>
  h0 (bits_same hq (by omega) fun i hi => by
    cases e : q.testBit i
    · simp
    · exact absurd ⟨i, hi, e⟩ h)
/-- The parts that are taken off a set: as many as there can be at most, each even, each place in one of them. -/
theorem grpM_best {f : Nat → Int} {n S : Nat} {st : StM} (hn : n ≤ 7) (h : BestM f n S st) : ∀ (k s : Nat) (v : Int), s ≤ k → s < 128 → st.b s = some v →
    ((grpM st.p k s).length : Int) = v ∧ WayS f n s (grpM st.p k s).length ∧ (∀ q, q ∈ grpM st.p k s → q ≠ 0 ∧ q < 128 ∧ q &&& s = q ∧ sumB f q n = 0) ∧ ∀ i, i < 7 → cntM (grpM st.p k s) i = if s.testBit i = true then 1 else 0
  | 0, s, v, hk, hs, hb => by
    obtain rfl : s = 0 := by omega
    rw [h.z] at hb
    cases hb
    exact ⟨rfl, ⟨fun _ => 0, fun i _ hi => by simp at hi, fun c hc => by simp [grpM] at hc, fun c hc => by simp [grpM] at hc⟩, fun q hq => by simp [grpM] at hq, fun i _ => by simp [grpM, cntM]⟩
  | k + 1, s, v, hk, hs, hb => by
    have hon := openM_lt f n hn
    have ho : openM f n < 128 := Nat.lt_of_lt_of_le hon (pow_mono7 n hn)
    simp only [grpM]
    split
    · rename_i e
      subst e
      rw [h.z] at hb
      cases hb
      exact ⟨rfl, ⟨fun _ => 0, fun i _ hi => by simp at hi, fun c hc => by simp at hc, fun c hc => by simp at hc⟩, fun q hq => by simp at hq, fun i _ => by simp [cntM]⟩
    · rename_i h0
      obtain ⟨q, h1, h2, h3, h4, h5⟩ := h.p s v h0 hb
      have hq : q < 128 := by
        have : q ≤ s := by rw [← h3]; exact Nat.and_le_right
        omega
      have hqs := sub_facts s hs q hq h3 h2
      have e : ((st.p s).getD 0).toNat = q := by rw [h1]; rfl
      rw [e]
      obtain ⟨i1, i2, i3, i4⟩ := grpM_best hn h k (dif s q) (v - 1) (by omega) (by omega) h5
      have hd := dif_sub s hs q hq
      refine ⟨by rw [List.length_cons]; push_cast; omega, ?_, fun u hu => ?_, fun i hi => ?_⟩
      · rw [List.length_cons]
        refine i2.join hn hs hq ?_ h3 h4
        obtain ⟨i, hi, hb'⟩ := some_bit h2 hq
        refine ⟨i, ?_, hb'⟩
        have hsub := (h.sub s v hb).1
        have : (openM f n).testBit i = true := by
          have h6 : s.testBit i = true := by rw [← h3, Nat.testBit_and] at hb'; revert hb'; cases s.testBit i <;> simp
          rw [← hsub, Nat.testBit_and] at h6
          revert h6; cases (openM f n).testBit i <;> simp
        rw [openM_bit] at this
        simp at this
        exact this.1
      · rcases List.mem_cons.1 hu with rfl | hu
        · exact ⟨h2, hq, h3, h4⟩
        · obtain ⟨j1, j2, j3, j4⟩ := i3 u hu
          exact ⟨j1, j2, by rw [← j3, Nat.and_assoc, hd], j4⟩
      · simp only [cntM]
        rw [i4 i hi, dif_bit s hs q hq i hi]
        have hb' : q.testBit i = (q.testBit i && s.testBit i) := by rw [← Nat.testBit_and, h3]
        cases h1 : s.testBit i <;> cases h2 : q.testBit i <;> rw [h1, h2] at hb' <;> simp at hb' ⊢
/-- What groups reckons: as many groups as there can be. -/
theorem groups_best {f : Nat → Int} {n : Nat} (hn : n ≤ 7) (ht : totTo f n = 0) {L : List Nat} (hp : L.Perm (groupsM f n)) :
    WayS f n (openM f n) L.length ∧ (∀ k, WayS f n (openM f n) k → k ≤ L.length) ∧ (∀ q, q ∈ L → q ≠ 0 ∧ q < 128 ∧ q &&& openM f n = q ∧ sumB f q n = 0) ∧ ∀ i, i < 7 → cntM L i = if (openM f n).testBit i = true then 1 else 0 := by
  have ho : openM f n < 128 := Nat.lt_of_lt_of_le (openM_lt f n hn) (pow_mono7 n hn)
  have hB := best_outer f hn (openM f n) ho
  obtain ⟨v, hv, hv2⟩ := hB.all (openM f n) (Nat.le_refl _) (Nat.and_self _) (by rw [sumB_open f n n (Nat.le_refl _), ht])
  obtain ⟨h1, h2, h3, h4⟩ := grpM_best hn hB 128 (openM f n) v (by omega) ho hv
  have hl := hp.length_eq
  refine ⟨by rw [hl]; exact h2, fun k hk => ?_, fun q hq => h3 q (hp.mem_iff.1 hq), fun i hi => by rw [cntM_perm hp]; exact h4 i hi⟩
  have := hv2 k hk
  rw [hl]
  have h1 : ((groupsM f n).length : Int) = v := h1
  omega
end Go.Proofs.YtbceepjjdfpfmaaGreat
namespace Go.Proofs.YtbceepjjdfpfmaaGreat
open Go.RowKit HandSpec
set_option maxHeartbeats 2000000
set_option maxRecDepth 100000
/-- How many of the first n p holds for. -/
def cntP (p : Nat → Bool) : Nat → Nat
  | 0 => 0
  | k + 1 => cntP p k + if p k = true then 1 else 0
theorem cntP_congr {p q : Nat → Bool} : ∀ {n : Nat}, (∀ i, i < n → p i = q i) → cntP p n = cntP q n
  | 0, _ => rfl
  | n + 1, h => by simp only [cntP]; rw [cntP_congr fun i hi => h i (by omega), h n (by omega)]
theorem cntP_two {p q r : Nat → Bool} : ∀ {n : Nat}, (∀ i, i < n → p i = true → q i = true ∨ r i = true) → cntP p n ≤ cntP q n + cntP r n
  | 0, _ => Nat.le_refl _
  | n + 1, h => by
    have ih := cntP_two (n := n) fun i hi => h i (by omega)
    have := h n (by omega)
    simp only [cntP]
    by_cases hp : p n = true
    · rw [if_pos hp]
      rcases this hp with e | e
      · rw [if_pos e]; omega
      · rw [if_pos e]; omega
    · rw [if_neg hp]
      omega
theorem cntP_one {p q : Nat → Bool} (e : Nat) : ∀ {n : Nat}, (∀ i, i < n → p i = true → i ≠ e → q i = true) → cntP p n ≤ cntP q n + 1 ∧ (n ≤ e → cntP p n ≤ cntP q n)
  | 0, _ => ⟨Nat.zero_le _, fun _ => Nat.le_refl _⟩
  | n + 1, h => by
    obtain ⟨ih1, ih2⟩ := cntP_one e (n := n) fun i hi => h i (by omega)
    have := h n (by omega)
    simp only [cntP]
    by_cases hp : p n = true
    · by_cases he : n = e
      · refine ⟨?_, fun h => by omega⟩
        have := ih2 (by omega)
        simp only [hp, if_true]
        split <;> omega
      · have hq := this hp he
        simp only [hp, hq, if_true]
        exact ⟨by omega, fun h => by have := ih2 (by omega); omega⟩
    · rw [if_neg hp]
      refine ⟨by omega, fun h => ?_⟩
      have := ih2 (by omega)
      omega
theorem cntP_not (p : Nat → Bool) : ∀ n, cntP p n + cntP (fun i => !p i) n = n
  | 0 => rfl
  | n + 1 => by
    have ih := cntP_not p n
    simp only [cntP]
    by_cases h : p n = true
    · rw [if_pos h, if_neg (by rw [h]; simp)]; omega
    · rw [if_neg h, if_pos (by simpa using h)]; omega
theorem cntP_le {p : Nat → Bool} {r : Nat} : ∀ {n : Nat}, r ≤ n → cntP p r ≤ cntP p n
  | 0, h => by
    obtain rfl : r = 0 := by omega
    exact Nat.le_refl _
  | n + 1, h => by
    by_cases e : r = n + 1
    · subst e; exact Nat.le_refl _
    · have := cntP_le (p := p) (r := r) (n := n) (by omega)
      simp only [cntP]
      omega
theorem cntP_lt {p : Nat → Bool} {r n : Nat} (h : r < n) (hp : p r = true) : cntP p r < cntP p n := by
  have := cntP_le (p := p) (r := r + 1) (n := n) h
  simp only [cntP, hp, if_true] at this
  omega
theorem cntP_at {p : Nat → Bool} : ∀ {n c : Nat}, c < cntP p n → ∃ r, r < n ∧ p r = true ∧ cntP p r = c
  | 0, c, h => by simp [cntP] at h
  | n + 1, c, h => by
    simp only [cntP] at h
    by_cases e : c < cntP p n
    · obtain ⟨r, h1, h2, h3⟩ := cntP_at e
      exact ⟨r, by omega, h2, h3⟩
    · by_cases hp : p n = true
      · rw [if_pos hp] at h
        exact ⟨n, by omega, hp, by omega⟩
      · rw [if_neg hp] at h
        omega
theorem cntP_inj {p : Nat → Bool} {r t : Nat} (hr : p r = true) (ht : p t = true) (h : cntP p r = cntP p t) : r = t := by
  rcases Nat.lt_trichotomy r t with e | e | e
  · have := cntP_lt e hr
    omega
  · exact e
  · have := cntP_lt e ht
    omega
theorem sum_swap (F : Nat → Nat → Int) (m : Nat) : ∀ n, sumTo (fun a => sumTo (fun i => F a i) m) n = sumTo (fun i => sumTo (fun a => F a i) n) m
  | 0 => by simp only [sumTo]; exact (sumTo_zero m).symm
  | n + 1 => by
    have ih := sum_swap F m n
    simp only [sumTo]
    rw [ih, ← sumTo_add]
/-- The sum over those where p holds of something that is z at b alone. -/
theorem sum_at (p : Nat → Prop) [DecidablePred p] (b : Nat) (z : Int) : ∀ n, sumTo (fun i => if p i then (if b = i then z else 0) else 0) n = if b < n ∧ p b then z else 0
  | 0 => by simp [sumTo]
  | n + 1 => by
    have ih := sum_at p b z n
    simp only [sumTo]
    rw [ih]
    by_cases e : b = n
    · subst e
      by_cases hp : p b
      · simp [hp]
      · simp [hp]
    · by_cases hb : b < n
      · have h2 : b < n + 1 := by omega
        simp [e, hb, h2]
      · have h2 : ¬ b < n + 1 := by omega
        simp [e, hb, h2]
/-- The group in which one is, once j payments have joined people. -/
def labM (a b : Nat → Nat) : Nat → Nat → Nat
  | 0, i => i
  | j + 1, i => if labM a b j i = labM a b j (b j) then labM a b j (a j) else labM a b j i
theorem labM_lt {a b : Nat → Nat} {n : Nat} : ∀ {m : Nat}, (∀ j, j < m → a j < n ∧ b j < n) → ∀ i, i < n → labM a b m i < n
  | 0, _, i, hi => hi
  | m + 1, h, i, hi => by
    have ih := labM_lt (m := m) fun j hj => h j (by omega)
    simp only [labM]
    split
    · exact ih _ (h m (by omega)).1
    · exact ih i hi
theorem labM_idem {a b : Nat → Nat} : ∀ (m i : Nat), labM a b m (labM a b m i) = labM a b m i
  | 0, _ => rfl
  | m + 1, i => by
    have ih := labM_idem (a := a) (b := b) m
    have hst : ∀ i, labM a b (m + 1) i = if labM a b m i = labM a b m (b m) then labM a b m (a m) else labM a b m i := fun _ => rfl
    by_cases h : labM a b m i = labM a b m (b m)
    · have e : labM a b (m + 1) i = labM a b m (a m) := by rw [hst, if_pos h]
      rw [e, hst]
      split
      · rfl
      · exact ih _
    · have e : labM a b (m + 1) i = labM a b m i := by rw [hst, if_neg h]
      rw [e, hst, if_neg (by rw [ih]; exact h), ih]
theorem labM_joined {a b : Nat → Nat} : ∀ (m j : Nat), j < m → labM a b m (a j) = labM a b m (b j)
  | 0, _, h => by omega
  | m + 1, j, h => by
    simp only [labM]
    by_cases e : j = m
    · subst e
      rw [if_pos rfl]
      split <;> rfl
    · have ih := labM_joined (a := a) (b := b) m j (by omega)
      rw [ih]
theorem labM_roots {a b : Nat → Nat} {n : Nat} : ∀ m, n ≤ cntP (fun i => labM a b m i == i) n + m
  | 0 => by
    have : ∀ k, cntP (fun i => labM a b 0 i == i) k = k := fun k => by
      induction k with
      | zero => rfl
      | succ k ih => simp only [cntP, ih]; simp [labM]
    rw [this]
    omega
  | m + 1 => by
    have ih := labM_roots (a := a) (b := b) (n := n) m
    have := (cntP_one (p := fun i => labM a b m i == i) (q := fun i => labM a b (m + 1) i == i) (labM a b m (b m)) (n := n) fun i _ hp he => by
      have hp : labM a b m i = i := by simpa using hp
      simp only [labM, beq_iff_eq]
      rw [hp, if_neg he]).1
    omega
/-- Payments that settle: as many even groups as there are open ones less the payments, or more. -/
theorem merge_way {f : Nat → Int} {n m : Nat} {a b : Nat → Nat} {z : Nat → Int} (h : ∀ j, j < m → a j < n ∧ b j < n)
    (hf : ∀ i, i < n → f i = sumTo (fun j => (if b j = i then z j else 0) - (if a j = i then z j else 0)) m) :
    ∃ k, WayS f n (openM f n) k ∧ cntP (fun i => decide (f i ≠ 0)) n ≤ k + m := by
  have hlt := labM_lt h
  have hid := labM_idem (a := a) (b := b) m
  have hjo := labM_joined (a := a) (b := b) m
  have hro := labM_roots (a := a) (b := b) (n := n) m
  generalize labM a b m = lab at hlt hid hjo hro
  have hz : ∀ r, sumTo (fun i => if lab i = r then f i else 0) n = 0 := fun r => by
    have e1 : sumTo (fun i => if lab i = r then f i else 0) n = sumTo (fun i => sumTo (fun j => (if lab i = r then (if b j = i then z j else 0) else 0) + -(if lab i = r then (if a j = i then z j else 0) else 0)) m) n := sumTo_congr fun i hi => by
      by_cases hr : lab i = r
      · rw [if_pos hr, hf i hi]
        exact sumTo_congr fun j _ => by rw [if_pos hr, if_pos hr]; omega
      · rw [if_neg hr]
        exact (Eq.trans (sumTo_congr fun j _ => by rw [if_neg hr, if_neg hr]; rfl) (sumTo_zero m)).symm
    rw [e1, sum_swap]
    refine Eq.trans (sumTo_congr fun j hj => ?_) (sumTo_zero m)
    rw [sumTo_add, sum_at (fun i => lab i = r)]
    have e2 : sumTo (fun i => -(if lab i = r then (if a j = i then z j else 0) else 0)) n = sumTo (fun i => if lab i = r then (if a j = i then -(z j) else 0) else 0) n := sumTo_congr fun i _ => by split <;> (try split) <;> omega
    rw [e2, sum_at (fun i => lab i = r), hjo j hj]
    have := h j hj
    simp only [this.1, this.2, true_and]
    split <;> omega
  have hG : ∀ r, (fun r => (lab r == r) && anyTo (fun i => decide (f i ≠ 0) && (lab i == r)) n) r = true ↔ lab r = r ∧ ∃ i, i < n ∧ f i ≠ 0 ∧ lab i = r := fun r => by
    simp [anyTo_true]
  generalize hGe : (fun r => (lab r == r) && anyTo (fun i => decide (f i ≠ 0) && (lab i == r)) n) = G at hG
  have hGl : ∀ i, i < n → f i ≠ 0 → G (lab i) = true := fun i hi h0 => (hG _).2 ⟨hid i, i, hi, h0, rfl⟩
  have hob : ∀ i, i < n → ((openM f n).testBit i = true ↔ f i ≠ 0) := fun i hi => by rw [openM_bit]; simp [hi]
  refine ⟨cntP G n, ⟨fun i => cntP G (lab i), fun i hi hb => ?_, fun c hc => ?_, fun c hc => ?_⟩, ?_⟩
  · exact cntP_lt (hlt i hi) (hGl i hi ((hob i hi).1 hb))
  · obtain ⟨r, h1, h2, h3⟩ := cntP_at hc
    obtain ⟨h4, i, h5, h6, h7⟩ := (hG r).1 h2
    exact ⟨i, h5, (hob i h5).2 h6, by dsimp only; rw [h7]; exact h3⟩
  · obtain ⟨r, h1, h2, h3⟩ := cntP_at hc
    refine Eq.trans (sumTo_congr fun i hi => ?_) (hz r)
    by_cases h0 : f i = 0
    · rw [h0]; simp
    · have e : ((openM f n).testBit i = true ∧ cntP G (lab i) = c) ↔ lab i = r := by
        constructor
        · rintro ⟨_, e⟩
          exact cntP_inj (hGl i hi h0) h2 (e.trans h3.symm)
        · intro e
          exact ⟨(hob i hi).2 h0, by rw [e]; exact h3⟩
      simp only [e]
  · have h1 := cntP_two (p := fun i => lab i == i) (q := G) (r := fun i => !decide (f i ≠ 0)) (n := n) fun i hi hp => by
      by_cases h0 : f i = 0
      · exact .inr (by simp [h0])
      · exact .inl ((hG i).2 ⟨by simpa using hp, i, hi, h0, by simpa using hp⟩)
    have h2 := cntP_not (fun i => decide (f i ≠ 0)) n
    omega
end Go.Proofs.YtbceepjjdfpfmaaGreat
namespace Go.Proofs.YtbceepjjdfpfmaaGreat
open Go.RowKit HandSpec
set_option maxHeartbeats 2000000
set_option maxRecDepth 100000
theorem payM_spec {a b : Nat} (hab : a ≠ b) (s : SS) : (payM a b s = s ∧ (s.f a = 0 ∨ s.f b = 0 ∨ (0 < s.f a ∧ 0 < s.f b) ∨ (s.f a < 0 ∧ s.f b < 0))) ∨
    ∃ (p q : Nat) (z : Int), ((p = a ∧ q = b) ∨ (p = b ∧ q = a)) ∧ 0 < z ∧ (z = -(s.f p) ∨ z = s.f q) ∧ z ≤ -(s.f p) ∧ z ≤ s.f q ∧ (payM a b s).l = s.l ++ [[(p : Int), (q : Int), z]] ∧
      ∀ i, (payM a b s).f i = if i = p then s.f p + z else if i = q then s.f q - z else s.f i := by
  have hba : b ≠ a := fun e => hab e.symm
  by_cases h : amtM s.f a b = 0 ∨ decide (0 < s.f a) = decide (0 < s.f b)
  · refine .inl ⟨by unfold payM; rw [if_pos h], ?_⟩
    rcases h with h | h
    · unfold amtM at h
      omega
    · have : (0 < s.f a) ↔ (0 < s.f b) := by simpa using h
      omega
  · have h0 : amtM s.f a b ≠ 0 := fun e => h (.inl e)
    have h1 : ¬ ((0 < s.f a) ↔ (0 < s.f b)) := fun e => h (.inr (by simp [e]))
    have hA : amtM s.f a b = min (max (s.f a) (-(s.f a))) (max (s.f b) (-(s.f b))) := rfl
    by_cases hp : 0 < s.f a
    · refine .inr ⟨b, a, amtM s.f a b, .inr ⟨rfl, rfl⟩, by omega, by omega, by omega, by omega, by unfold payM; rw [if_neg h, if_pos hp], fun i => ?_⟩
      unfold payM
      rw [if_neg h, if_pos hp]
      dsimp only
      by_cases e : i = a
      · subst e
        rw [upd_same, upd_other _ _ hab, if_neg hab, if_pos rfl]
      · rw [upd_other _ _ e, if_neg e]
        unfold upd
        rfl
    · refine .inr ⟨a, b, amtM s.f a b, .inl ⟨rfl, rfl⟩, by omega, by omega, by omega, by omega, by unfold payM; rw [if_neg h, if_neg hp], fun i => ?_⟩
      unfold payM
      rw [if_neg h, if_neg hp]
      dsimp only
      by_cases e : i = b
      · subst e
        rw [upd_same, upd_other _ _ hba, if_neg hba, if_pos rfl]
      · rw [upd_other _ _ e, if_neg e]
        unfold upd
        rfl
/-- Who is not even. -/
def nzB (f : Nat → Int) (i : Nat) : Bool := decide (f i ≠ 0)
theorem nzB_yes {f : Nat → Int} {i : Nat} : nzB f i = true ↔ f i ≠ 0 := by unfold nzB; simp
theorem cntP_sub {p q : Nat → Bool} {e : Nat} : ∀ {n : Nat}, (∀ i, i < n → p i = true → q i = true) → cntP p n ≤ cntP q n ∧ (e < n → q e = true → p e = false → cntP p n + 1 ≤ cntP q n)
  | 0, _ => ⟨Nat.le_refl _, fun h => by omega⟩
  | n + 1, h => by
    obtain ⟨i1, i2⟩ := cntP_sub (e := e) (n := n) fun i hi => h i (by omega)
    have hn := h n (by omega)
    simp only [cntP]
    refine ⟨by split <;> split <;> first | omega | (rename_i a b; exact absurd (hn a) b), fun he hq hp => ?_⟩
    by_cases e' : e = n
    · subst e'
      rw [if_neg (by rw [hp]; simp), if_pos hq]
      omega
    · have := i2 (by omega) hq hp
      split <;> split <;> first | omega | (rename_i a b; exact absurd (hn a) b)
theorem cntP_sub2 {p q : Nat → Bool} {n e d : Nat} (h : ∀ i, i < n → p i = true → q i = true) (he : e < n) (hd : d < n) (hne : e ≠ d) (h1 : q e = true) (h2 : p e = false) (h3 : q d = true) (h4 : p d = false) : cntP p n + 2 ≤ cntP q n := by
  have a1 := (cntP_sub (p := p) (q := fun i => q i && !(i == e)) (e := d) (n := n) fun i hi hp => by
    have : i ≠ e := fun k => by rw [k, h2] at hp; cases hp
    simp [h i hi hp, this]).2 hd (by simp [h3]; omega) h4
  have a2 := (cntP_sub (p := fun i => q i && !(i == e)) (q := q) (e := e) (n := n) fun i _ hp => by
    revert hp; cases q i <;> simp).2 he h1 (by simp)
  omega
/-- A group while its nets are set against each other. -/
structure GrI (n : Nat) (g : Nat → Bool) (s0 s : SS) : Prop where
  out : ∀ i, g i = false → s.f i = s0.f i
  sum : sumTo (fun i => if g i = true then s.f i else 0) n = 0
  cnt : s.l.length + cntP (nzB s.f) n ≤ s0.l.length + cntP (nzB s0.f) n
  less : (∀ i, i < n → g i = true → s.f i = 0) → s.l.length + cntP (nzB s.f) n + 1 ≤ s0.l.length + cntP (nzB s0.f) n
theorem GrI.refl {n : Nat} {g : Nat → Bool} {s : SS} (h : sumTo (fun i => if g i = true then s.f i else 0) n = 0) {i : Nat} (hi : i < n) (hg : g i = true) (h0 : s.f i ≠ 0) : GrI n g s s :=
  ⟨fun _ _ => rfl, h, Nat.le_refl _, fun k => absurd (k i hi hg) h0⟩
theorem GrI.pay {n : Nat} {g : Nat → Bool} {s0 s : SS} (h : GrI n g s0 s) {a b : Nat} (hab : a ≠ b) (ha : a < n) (hb : b < n) (hga : g a = true) (hgb : g b = true) : GrI n g s0 (payM a b s) := by
  rcases payM_spec hab s with ⟨e, _⟩ | ⟨p, q, z, hpq, z0, z1, z2, z3, hl, hf⟩
  · rw [e]; exact h
  · have hp : p < n ∧ g p = true ∧ q < n ∧ g q = true ∧ p ≠ q := by
      rcases hpq with ⟨rfl, rfl⟩ | ⟨rfl, rfl⟩
      · exact ⟨ha, hga, hb, hgb, hab⟩
      · exact ⟨hb, hgb, ha, hga, fun e => hab e.symm⟩
    obtain ⟨p1, p2, p3, p4, p5⟩ := hp
    generalize payM a b s = s' at hl hf
    have hfp : s'.f p = s.f p + z := by rw [hf, if_pos rfl]
    have hfq : s'.f q = s.f q - z := by rw [hf, if_neg (fun e => p5 e.symm), if_pos rfl]
    have hsub : ∀ i, i < n → nzB s'.f i = true → nzB s.f i = true := fun i _ hi => by
      rw [nzB_yes] at hi ⊢
      rw [hf] at hi
      split at hi
      · rename_i e; subst e; omega
      · split at hi
        · rename_i e; subst e; omega
        · exact hi
    have q1 : nzB s.f p = true := nzB_yes.2 (by omega)
    have q2 : nzB s.f q = true := nzB_yes.2 (by omega)
    have c1 : cntP (nzB s'.f) n + 1 ≤ cntP (nzB s.f) n := by
      rcases z1 with e | e
      · exact (cntP_sub (e := p) hsub).2 p1 q1 (by unfold nzB; simp; omega)
      · exact (cntP_sub (e := q) hsub).2 p3 q2 (by unfold nzB; simp; omega)
    have hlen : s'.l.length = s.l.length + 1 := by rw [hl]; simp
    refine ⟨fun i hi => ?_, ?_, by have := h.cnt; omega, fun hz => ?_⟩
    · rw [hf, if_neg (fun e => by rw [e, p2] at hi; cases hi), if_neg (fun e => by rw [e, p4] at hi; cases hi)]
      exact h.out i hi
    · have e1 : sumTo (fun i => if g i = true then s'.f i else 0) n = sumTo (fun i => (if g i = true then s.f i else 0) + ((if g i = true then (if p = i then z else 0) else 0) + (if g i = true then (if q = i then -z else 0) else 0))) n := sumTo_congr fun i _ => by
        by_cases hg : g i = true
        · rw [if_pos hg, if_pos hg, if_pos hg, if_pos hg, hf]
          by_cases e : i = p
          · subst e
            rw [if_pos rfl, if_pos rfl, if_neg (show ¬ q = i from fun e => p5 e.symm)]
            omega
          · rw [if_neg e, if_neg (show ¬ p = i from fun k => e k.symm)]
            by_cases e' : i = q
            · subst e'
              rw [if_pos rfl, if_pos rfl]
              omega
            · rw [if_neg e', if_neg (show ¬ q = i from fun k => e' k.symm)]
              omega
        · rw [if_neg hg, if_neg hg, if_neg hg, if_neg hg]
          rfl
      rw [e1, sumTo_add, sumTo_add, h.sum, sum_at (fun i => g i = true), sum_at (fun i => g i = true), if_pos ⟨p1, p2⟩, if_pos ⟨p3, p4⟩]
      omega
    · have c2 := cntP_sub2 hsub p1 p3 p5 q1 (by have := hz p p1 p2; unfold nzB; simp [this]) q2 (by have := hz q p3 p4; unfold nzB; simp [this])
      have := h.cnt
      omega
theorem GrI.pay_out {s : SS} {a b i : Nat} (hab : a ≠ b) (ha : i ≠ a) (hb : i ≠ b) : (payM a b s).f i = s.f i := by
  rcases payM_spec hab s with ⟨e, _⟩ | ⟨p, q, z, hpq, _, _, _, _, _, hf⟩
  · rw [e]
  · rw [hf]
    rcases hpq with ⟨rfl, rfl⟩ | ⟨rfl, rfl⟩
    · rw [if_neg ha, if_neg hb]
    · rw [if_neg hb, if_neg ha]
/-- The members of a group, in their order. -/
structure MemG (n : Nat) (g : Nat → Bool) (l : Nat → Nat) (m : Nat) : Prop where
  mem : ∀ j, j < m → l j < n ∧ g (l j) = true
  inj : ∀ i j, i < m → j < m → l i = l j → i = j
  all : ∀ i, i < n → g i = true → ∃ j, j < m ∧ l j = i
theorem GrI.in_ {n : Nat} {g : Nat → Bool} {l : Nat → Nat} {m i : Nat} (hm : MemG n g l m) (hi : i < m) {s0 s : SS} (h : GrI n g s0 s) : ∀ j, i + 1 + j ≤ m → GrI n g s0 (inM l i j s) ∧
    ((inM l i j s).f (l i) = 0 ∨ (0 < (inM l i j s).f (l i) ∧ ∀ t, t < j → 0 ≤ (inM l i j s).f (l (i + 1 + t))) ∨ ((inM l i j s).f (l i) < 0 ∧ ∀ t, t < j → (inM l i j s).f (l (i + 1 + t)) ≤ 0)) ∧
    ∀ t, t < i → (inM l i j s).f (l t) = s.f (l t)
  | 0, _ => ⟨h, by
      show s.f (l i) = 0 ∨ _
      rcases Int.lt_trichotomy (s.f (l i)) 0 with e | e | e
      · exact .inr (.inr ⟨e, fun t ht => by omega⟩)
      · exact .inl e
      · exact .inr (.inl ⟨e, fun t ht => by omega⟩), fun _ _ => rfl⟩
  | j + 1, hj => by
    obtain ⟨h1, h2, h3⟩ := GrI.in_ hm hi h j (by omega)
    have hne : l i ≠ l (i + 1 + j) := fun e => by have := hm.inj _ _ hi (by omega) e; omega
    have ma := hm.mem i hi
    have mb := hm.mem (i + 1 + j) (by omega)
    show GrI n g s0 (payM (l i) (l (i + 1 + j)) (inM l i j s)) ∧ ((payM (l i) (l (i + 1 + j)) (inM l i j s)).f (l i) = 0 ∨ (0 < (payM (l i) (l (i + 1 + j)) (inM l i j s)).f (l i) ∧ ∀ t, t < j + 1 → 0 ≤ (payM (l i) (l (i + 1 + j)) (inM l i j s)).f (l (i + 1 + t))) ∨ ((payM (l i) (l (i + 1 + j)) (inM l i j s)).f (l i) < 0 ∧ ∀ t, t < j + 1 → (payM (l i) (l (i + 1 + j)) (inM l i j s)).f (l (i + 1 + t)) ≤ 0)) ∧ ∀ t, t < i → (payM (l i) (l (i + 1 + j)) (inM l i j s)).f (l t) = s.f (l t)
    generalize inM l i j s = s1 at h1 h2 h3
    have hout := fun t (ht : t < m) (e1 : t ≠ i) (e2 : t ≠ i + 1 + j) => GrI.pay_out (s := s1) hne (i := l t) (fun e => e1 (hm.inj _ _ ht hi e)) (fun e => e2 (hm.inj _ _ ht (by omega) e))
    refine ⟨h1.pay hne ma.1 mb.1 ma.2 mb.2, ?_, fun t ht => by rw [hout t (by omega) (by omega) (by omega)]; exact h3 t ht⟩
    have hold : ∀ t, t < j → (payM (l i) (l (i + 1 + j)) s1).f (l (i + 1 + t)) = s1.f (l (i + 1 + t)) := fun t ht => hout _ (by omega) (by omega) (by omega)
    have hend : ∀ t, t < j + 1 → t < j ∨ t = j := fun t ht => by omega
    rcases payM_spec hne s1 with ⟨e, h4⟩ | ⟨p, q, z, hpq, z0, z1, z2, z3, _, hf⟩
    · rw [e]
      rcases h2 with h2 | ⟨h2, h5⟩ | ⟨h2, h5⟩
      · exact .inl h2
      · refine .inr (.inl ⟨h2, fun t ht => ?_⟩)
        rcases hend t ht with k | rfl
        · exact h5 t k
        · omega
      · refine .inr (.inr ⟨h2, fun t ht => ?_⟩)
        rcases hend t ht with k | rfl
        · exact h5 t k
        · omega
    · have hne' : l (i + 1 + j) ≠ l i := fun e => hne e.symm
      rcases hpq with ⟨rfl, rfl⟩ | ⟨rfl, rfl⟩
      · have fa : (payM (l i) (l (i + 1 + j)) s1).f (l i) = s1.f (l i) + z := by rw [hf, if_pos rfl]
        have fb : (payM (l i) (l (i + 1 + j)) s1).f (l (i + 1 + j)) = s1.f (l (i + 1 + j)) - z := by rw [hf, if_neg hne', if_pos rfl]
        rcases z1 with e | e
        · exact .inl (by omega)
        · by_cases h0 : s1.f (l i) + z = 0
          · exact .inl (by omega)
          · refine .inr (.inr ⟨by omega, fun t ht => ?_⟩)
            rcases hend t ht with k | rfl
            · rw [hold t k]
              rcases h2 with h2 | ⟨h2, h5⟩ | ⟨h2, h5⟩
              · omega
              · omega
              · exact h5 t k
            · omega
      · have fa : (payM (l i) (l (i + 1 + j)) s1).f (l i) = s1.f (l i) - z := by rw [hf, if_neg hne, if_pos rfl]
        have fb : (payM (l i) (l (i + 1 + j)) s1).f (l (i + 1 + j)) = s1.f (l (i + 1 + j)) + z := by rw [hf, if_pos rfl]
        rcases z1 with e | e
        · by_cases h0 : s1.f (l i) - z = 0
          · exact .inl (by omega)
          · refine .inr (.inl ⟨by omega, fun t ht => ?_⟩)
            rcases hend t ht with k | rfl
            · rw [hold t k]
              rcases h2 with h2 | ⟨h2, h5⟩ | ⟨h2, h5⟩
              · omega
              · exact h5 t k
              · omega
            · omega
        · exact .inl (by omega)
theorem sum_zero_pos {h : Nat → Int} : ∀ {n : Nat}, (∀ i, i < n → 0 ≤ h i) → sumTo h n = 0 → ∀ i, i < n → h i = 0
  | 0, _, _, i, hi => by omega
  | n + 1, h0, hs, i, hi => by
    have hn : 0 ≤ sumTo h n := by
      have : ∀ k, k ≤ n → 0 ≤ sumTo h k := fun k => by
        induction k with
        | zero => exact fun _ => Int.le_refl _
        | succ k ih => intro hk; have := ih (by omega); have := h0 k (by omega); simp only [sumTo]; omega
      exact this n (Nat.le_refl _)
    simp only [sumTo] at hs
    have := h0 n (by omega)
    by_cases e : i = n
    · subst e; omega
    · exact sum_zero_pos (n := n) (h := h) (fun i hi => h0 i (by omega)) (by omega) i (by omega)
theorem GrI.out_ {n : Nat} {g : Nat → Bool} {l : Nat → Nat} {m : Nat} (hm : MemG n g l m) {s : SS} (h : GrI n g s s) : ∀ i, i ≤ m → GrI n g s (outM l m i s) ∧ ∀ t, t < i → (outM l m i s).f (l t) = 0
  | 0, _ => ⟨h, fun t ht => by omega⟩
  | i + 1, hi => by
    obtain ⟨h1, h2⟩ := GrI.out_ hm h i (by omega)
    show GrI n g s (inM l i (m - (i + 1)) (outM l m i s)) ∧ ∀ t, t < i + 1 → (inM l i (m - (i + 1)) (outM l m i s)).f (l t) = 0
    obtain ⟨h3, h4, h5⟩ := GrI.in_ hm (show i < m by omega) h1 (m - (i + 1)) (by omega)
    generalize inM l i (m - (i + 1)) (outM l m i s) = s2 at h3 h4 h5
    refine ⟨h3, fun t ht => ?_⟩
    have hz : ∀ t, t < i → s2.f (l t) = 0 := fun t ht => by rw [h5 t ht]; exact h2 t ht
    by_cases e : t = i
    · subst e
      have ma := hm.mem t (by omega)
      rcases h4 with h4 | ⟨h4, h6⟩ | ⟨h4, h6⟩
      · exact h4
      · have := sum_zero_pos (h := fun i => if g i = true then s2.f i else 0) (n := n) (fun i hi => by
          by_cases hg : g i = true
          · rw [if_pos hg]
            obtain ⟨j, hj, rfl⟩ := hm.all i hi hg
            rcases Nat.lt_trichotomy j t with k | k | k
            · rw [hz j k]; exact Int.le_refl _
            · subst k; omega
            · have := h6 (j - (t + 1)) (by omega)
              rwa [show t + 1 + (j - (t + 1)) = j by omega] at this
          · rw [if_neg hg]; exact Int.le_refl _) h3.sum (l t) ma.1
        rw [if_pos ma.2] at this
        exact this
      · have hs : sumTo (fun i => if g i = true then -(s2.f i) else 0) n = 0 := by
          have e1 : sumTo (fun i => (if g i = true then -(s2.f i) else 0) + (if g i = true then s2.f i else 0)) n = 0 := Eq.trans (sumTo_congr fun i _ => by split <;> omega) (sumTo_zero n)
          rw [sumTo_add, h3.sum] at e1
          omega
        have := sum_zero_pos (h := fun i => if g i = true then -(s2.f i) else 0) (n := n) (fun i hi => by
          by_cases hg : g i = true
          · rw [if_pos hg]
            obtain ⟨j, hj, rfl⟩ := hm.all i hi hg
            rcases Nat.lt_trichotomy j t with k | k | k
            · rw [hz j k]; exact Int.le_refl _
            · subst k; omega
            · have := h6 (j - (t + 1)) (by omega)
              rw [show t + 1 + (j - (t + 1)) = j by omega] at this
              omega
          · rw [if_neg hg]; exact Int.le_refl _) hs (l t) ma.1
        rw [if_pos ma.2] at this
        omega
    · exact hz t (by omega)
theorem places_mem : ∀ q : Nat, q < 128 → ∀ j : Nat, j < 7 → j < (places q).length → q.testBit ((places q).getD j 0) = true ∧ (places q).getD j 0 < 7 := by decide +kernel
theorem places_inj : ∀ q : Nat, q < 128 → ∀ i : Nat, i < 7 → ∀ j : Nat, j < 7 → (i < (places q).length ∧ j < (places q).length ∧ (places q).getD i 0 = (places q).getD j 0) → i = j := by decide +kernel
theorem places_all : ∀ q : Nat, q < 128 → ∀ i : Nat, i < 7 → q.testBit i = true → ∃ j : Nat, j < (places q).length ∧ (places q).getD j 0 = i := by decide +kernel
theorem places_memG {n q : Nat} (hn : n ≤ 7) (hq : q < 128) (hb : ∀ i, q.testBit i = true → i < n) : MemG n (fun i => q.testBit i) (fun j => (places q).getD j 0) (places q).length := by
  have h7 := places_seven q hq
  refine ⟨fun j hj => ?_, fun i j hi hj e => places_inj q hq i (by omega) j (by omega) ⟨hi, hj, e⟩, fun i hi hg => places_all q hq i (by omega) hg⟩
  have := places_mem q hq j (by omega) hj
  exact ⟨hb _ this.1, this.1⟩
theorem cntM_take (L : List Nat) (i k : Nat) (hk : k < L.length) : cntM (L.take (k + 1)) i = cntM (L.take k) i + (if (L.getD k 0).testBit i = true then 1 else 0) := by
  induction L generalizing k with
  | nil => simp at hk
  | cons q l ih =>
    cases k with
    | zero => simp [cntM]
    | succ k =>
      have := ih k (by simpa using hk)
      simp only [List.take_succ_cons, cntM, List.getD_cons_succ]
      omega
theorem cntM_take_le (L : List Nat) (i k : Nat) : cntM (L.take k) i ≤ cntM L i := by
  induction L generalizing k with
  | nil => simp [cntM]
  | cons q l ih =>
    cases k with
    | zero => simp [cntM]
    | succ k =>
      have := ih k
      simp only [List.take_succ_cons, cntM]
      omega
/-- The first k groups are settled. -/
structure SetI (f : Nat → Int) (n : Nat) (L : List Nat) (k : Nat) (s : SS) : Prop where
  z : ∀ i, i < n → cntM (L.take k) i ≠ 0 → s.f i = 0
  o : ∀ i, i < n → cntM (L.take k) i = 0 → s.f i = f i
  cnt : s.l.length + cntP (nzB s.f) n + k ≤ cntP (nzB f) n
theorem set_ok {f : Nat → Int} {n : Nat} (hn : n ≤ 7) {L : List Nat} (h3 : ∀ q, q ∈ L → q ≠ 0 ∧ q < 128 ∧ q &&& openM f n = q ∧ sumB f q n = 0) (h4 : ∀ i, i < 7 → cntM L i = if (openM f n).testBit i = true then 1 else 0) :
    ∀ k, k ≤ L.length → SetI f n L k (setM L ⟨f, []⟩ k)
  | 0, _ => ⟨fun i _ h => by simp [cntM] at h, fun i _ _ => rfl, by show 0 + cntP (nzB f) n + 0 ≤ _; omega⟩
  | k + 1, hk => by
    have ih := set_ok hn h3 h4 k (by omega)
    have hm : L.getD k 0 ∈ L := by rw [List.getD_eq_getElem?_getD, List.getElem?_eq_getElem (by omega)]; exact List.getElem_mem _
    have ht := fun i => cntM_take L i k (by omega)
    show SetI f n L (k + 1) (outM (fun j => (places (L.getD k 0)).getD j 0) (places (L.getD k 0)).length (places (L.getD k 0)).length (setM L ⟨f, []⟩ k))
    generalize setM L ⟨f, []⟩ k = s at ih
    obtain ⟨q0, q1, q2, q3⟩ := h3 _ hm
    generalize L.getD k 0 = q at hm ht q0 q1 q2 q3
    have hopen : ∀ i, q.testBit i = true → i < n ∧ f i ≠ 0 := fun i hi => by
      rw [← q2, Nat.testBit_and, openM_bit] at hi
      simp at hi
      exact hi.2
    have hfree : ∀ i, q.testBit i = true → cntM (L.take k) i = 0 := fun i hi => by
      have := hopen i hi
      have h5 := cntM_take_le L i (k + 1)
      rw [ht i, if_pos hi, h4 i (by omega)] at h5
      split at h5 <;> omega
    have hG := places_memG hn q1 fun i hi => (hopen i hi).1
    obtain ⟨i0, hi0, hb0⟩ := some_bit q0 q1
    have hsum : sumTo (fun i => if q.testBit i = true then s.f i else 0) n = 0 := by
      rw [sumB_sum] at q3
      refine Eq.trans (sumTo_congr fun i hi => ?_) q3
      by_cases e : q.testBit i = true
      · rw [if_pos e, if_pos e, ih.o i hi (hfree i e)]
      · rw [if_neg e, if_neg e]
    have hgr : GrI n (fun i => q.testBit i) s s := GrI.refl hsum (hopen i0 hb0).1 hb0 (by rw [ih.o i0 (hopen i0 hb0).1 (hfree i0 hb0)]; exact (hopen i0 hb0).2)
    obtain ⟨g1, g2⟩ := GrI.out_ hG hgr (places q).length (Nat.le_refl _)
    generalize outM (fun j => (places q).getD j 0) (places q).length (places q).length s = s' at g1 g2
    have hz : ∀ i, i < n → q.testBit i = true → s'.f i = 0 := fun i hi hb => by
      obtain ⟨j, hj, rfl⟩ := hG.all i hi hb
      exact g2 j hj
    refine ⟨fun i hi h => ?_, fun i hi h => ?_, ?_⟩
    · by_cases hb : q.testBit i = true
      · exact hz i hi hb
      · rw [ht i, if_neg hb] at h
        rw [g1.out i (by simpa using hb)]
        exact ih.z i hi (by omega)
    · rw [ht i] at h
      by_cases hb : q.testBit i = true
      · rw [if_pos hb] at h; omega
      · rw [g1.out i (by simpa using hb)]
        exact ih.o i hi (by omega)
    · have := g1.less hz
      have := ih.cnt
      omega
/-- What payments do: each is of some bushels, from one to another one; they change the nets so. -/
structure PayI (f : Nat → Int) (n : Nat) (B : Int) (s : SS) : Prop where
  row : ∀ j, j < s.l.length → ∃ p q : Nat, p < n ∧ q < n ∧ p ≠ q ∧ rowsAt s.l j 0 = (p : Int) ∧ rowsAt s.l j 1 = (q : Int) ∧ 1 ≤ rowsAt s.l j 2 ∧ rowsAt s.l j 2 ≤ B
  bal : ∀ i : Nat, sumTo (fun j => (if rowsAt s.l j 1 = (i : Int) then rowsAt s.l j 2 else 0) - (if rowsAt s.l j 0 = (i : Int) then rowsAt s.l j 2 else 0)) s.l.length = f i - s.f i
  bd : ∀ i, -B ≤ s.f i ∧ s.f i ≤ B
theorem PayI.pay {f : Nat → Int} {n : Nat} {B : Int} {s : SS} (h : PayI f n B s) {a b : Nat} (hab : a ≠ b) (ha : a < n) (hb : b < n) : PayI f n B (payM a b s) := by
  rcases payM_spec hab s with ⟨e, _⟩ | ⟨p, q, z, hpq, z0, z1, z2, z3, hl, hf⟩
  · rw [e]; exact h
  · have hp : p < n ∧ q < n ∧ p ≠ q := by
      rcases hpq with ⟨rfl, rfl⟩ | ⟨rfl, rfl⟩
      · exact ⟨ha, hb, hab⟩
      · exact ⟨hb, ha, fun e => hab e.symm⟩
    obtain ⟨p1, p3, p5⟩ := hp
    generalize payM a b s = s' at hl hf
    have hlen : s'.l.length = s.l.length + 1 := by rw [hl]; simp
    have hat : ∀ j c, j < s.l.length → rowsAt s'.l j c = rowsAt s.l j c := fun j c hj => by
      rw [hl]
      unfold rowsAt
      have : (s.l ++ [[(p : Int), (q : Int), z]]).getD j [] = s.l.getD j [] := by rw [List.getD_eq_getElem?_getD, List.getElem?_append_left hj, ← List.getD_eq_getElem?_getD]
      rw [this]
    have hnew : rowsAt s'.l s.l.length 0 = (p : Int) ∧ rowsAt s'.l s.l.length 1 = (q : Int) ∧ rowsAt s'.l s.l.length 2 = z := by
      rw [hl]
      unfold rowsAt
      have : (s.l ++ [[(p : Int), (q : Int), z]]).getD s.l.length [] = [(p : Int), (q : Int), z] := by simp
      rw [this]
      exact ⟨rfl, rfl, rfl⟩
    have hbp := h.bd p
    have hbq := h.bd q
    refine ⟨fun j hj => ?_, fun i => ?_, fun i => ?_⟩
    · by_cases e : j < s.l.length
      · rw [hat j 0 e, hat j 1 e, hat j 2 e]
        exact h.row j e
      · obtain rfl : j = s.l.length := by omega
        rw [hnew.1, hnew.2.1, hnew.2.2]
        exact ⟨p, q, p1, p3, p5, rfl, rfl, by omega, by omega⟩
    · rw [hlen, sumTo_succ, hnew.1, hnew.2.1, hnew.2.2]
      have e1 : sumTo (fun j => (if rowsAt s'.l j 1 = (i : Int) then rowsAt s'.l j 2 else 0) - (if rowsAt s'.l j 0 = (i : Int) then rowsAt s'.l j 2 else 0)) s.l.length = f i - s.f i := by
        rw [← h.bal i]
        exact sumTo_congr fun j hj => by rw [hat j 0 hj, hat j 1 hj, hat j 2 hj]
      rw [e1, hf]
      by_cases e : i = p
      · subst e
        rw [if_pos rfl, if_neg (by omega), if_pos rfl]
        omega
      · rw [if_neg e]
        by_cases e' : i = q
        · subst e'
          rw [if_pos rfl, if_pos rfl, if_neg (by omega)]
          omega
        · rw [if_neg e', if_neg (by omega), if_neg (by omega)]
          omega
    · have := h.bd i
      rw [hf]
      split
      · omega
      · split <;> omega
theorem PayI.in_ {f : Nat → Int} {n : Nat} {B : Int} {g : Nat → Bool} {l : Nat → Nat} {m i : Nat} (hm : MemG n g l m) (hi : i < m) {s : SS} (h : PayI f n B s) : ∀ j, i + 1 + j ≤ m → PayI f n B (inM l i j s)
  | 0, _ => h
  | j + 1, hj => (PayI.in_ hm hi h j (by omega)).pay (fun e => by have := hm.inj _ _ hi (by omega) e; omega) (hm.mem _ hi).1 (hm.mem _ (by omega)).1
theorem PayI.out_ {f : Nat → Int} {n : Nat} {B : Int} {g : Nat → Bool} {l : Nat → Nat} {m : Nat} (hm : MemG n g l m) {s : SS} (h : PayI f n B s) : ∀ i, i ≤ m → PayI f n B (outM l m i s)
  | 0, _ => h
  | i + 1, hi => (PayI.out_ hm h i (by omega)).in_ hm (by omega) _ (by omega)
theorem pay_ok {f : Nat → Int} {n : Nat} {B : Int} (hB : ∀ i, -B ≤ f i ∧ f i ≤ B) (hn : n ≤ 7) {L : List Nat} (h3 : ∀ q, q ∈ L → q ≠ 0 ∧ q < 128 ∧ q &&& openM f n = q ∧ sumB f q n = 0) :
    ∀ k, k ≤ L.length → PayI f n B (setM L ⟨f, []⟩ k)
  | 0, _ => ⟨fun j hj => by simp [setM] at hj, fun i => by show (0 : Int) = f i - f i; omega, hB⟩
  | k + 1, hk => by
    have hm : L.getD k 0 ∈ L := by rw [List.getD_eq_getElem?_getD, List.getElem?_eq_getElem (by omega)]; exact List.getElem_mem _
    obtain ⟨q0, q1, q2, q3⟩ := h3 _ hm
    refine (pay_ok hB hn h3 k (by omega)).out_ (places_memG hn q1 fun i hi => ?_) _ (Nat.le_refl _)
    rw [← q2, Nat.testBit_and, openM_bit] at hi
    simp at hi
    exact hi.2.1
/-- What Settle reckons: it settles all, with as many payments as there are open ones less the groups. -/
theorem settle_ok {f : Nat → Int} {n : Nat} {B : Int} (hB : ∀ i, -B ≤ f i ∧ f i ≤ B) (hn : n ≤ 7) (ht : totTo f n = 0) {L : List Nat} (hp : L.Perm (groupsM f n)) :
    (settleM L f).l.length + L.length = cntP (nzB f) n ∧ PayI f n B (settleM L f) ∧ ∀ i, i < n → (settleM L f).f i = 0 := by
  obtain ⟨h1, h2, h3, h4⟩ := groups_best hn ht hp
  have hs := set_ok hn h3 h4 L.length (Nat.le_refl _)
  have hq := pay_ok hB hn h3 L.length (Nat.le_refl _)
  have hs : SetI f n L L.length (settleM L f) := hs
  have hq : PayI f n B (settleM L f) := hq
  generalize settleM L f = s at hs hq
  have hz : ∀ i, i < n → s.f i = 0 := fun i hi => by
    by_cases e : f i = 0
    · rw [hs.o i hi (by rw [List.take_length, h4 i (by omega), openM_bit]; simp [e])]
      exact e
    · exact hs.z i hi (by rw [List.take_length, h4 i (by omega), openM_bit]; simp [e, hi])
  refine ⟨?_, hq, hz⟩
  have hge : cntP (nzB f) n ≤ L.length + s.l.length := by
    obtain ⟨k, k1, k2⟩ := merge_way (f := f) (n := n) (m := s.l.length) (a := fun j => (rowsAt s.l j 0).toNat) (b := fun j => (rowsAt s.l j 1).toNat) (z := fun j => rowsAt s.l j 2) (fun j hj => by
      obtain ⟨p, q, a1, a2, _, a3, a4, _⟩ := hq.row j hj
      rw [a3, a4]
      simp [a1, a2]) (fun i hi => by
      have := hq.bal i
      rw [hz i hi] at this
      rw [Int.sub_zero] at this
      rw [← this]
      refine sumTo_congr fun j hj => ?_
      obtain ⟨p, q, a1, a2, _, a3, a4, _⟩ := hq.row j hj
      rw [a3, a4]
      simp only [Int.toNat_natCast]
      have e1 : ((q : Int) = (i : Int)) ↔ q = i := by omega
      have e2 : ((p : Int) = (i : Int)) ↔ p = i := by omega
      simp only [e1, e2])
    have := h2 k k1
    have k2 : cntP (nzB f) n ≤ k + s.l.length := k2
    omega
  have := hs.cnt
  omega
end Go.Proofs.YtbceepjjdfpfmaaGreat
namespace Go.Proofs.YtbceepjjdfpfmaaGreat
open Go.RowKit HandSpec
set_option maxHeartbeats 2000000
set_option maxRecDepth 100000
def maxTo (F : Nat → Int) (b : Int) : Nat → Int
  | 0 => b
  | j + 1 => max (maxTo F b j) (F j)
/-- The greatest number of groups, the last k people being left to be put into some. -/
def mostM (f : Nat → Int) (n : Nat) : Nat → List Int → Int
  | 0, s => if anyTo (fun i => s.getD i 0 != 0) s.length then -1 else (s.length : Int)
  | k + 1, s => if f (n - (k + 1)) = 0 then mostM f n k s else
      maxTo (fun j => mostM f n k (s.set j (s.getD j 0 + f (n - (k + 1))))) (mostM f n k (s ++ [f (n - (k + 1))])) s.length
theorem maxTo_is (F : Nat → Int) (b : Int) : ∀ m, maxTo F b m = b ∨ ∃ j, j < m ∧ maxTo F b m = F j
  | 0 => .inl rfl
  | m + 1 => by
    simp only [maxTo]
    rcases Int.le_total (maxTo F b m) (F m) with h | h
    · rw [Int.max_eq_right h]; exact .inr ⟨m, Nat.lt_succ_self m, rfl⟩
    · rw [Int.max_eq_left h]
      rcases maxTo_is F b m with e | ⟨j, hj, e⟩
      · exact .inl e
      · exact .inr ⟨j, by omega, e⟩
theorem maxTo_ge (F : Nat → Int) (b : Int) : ∀ m, b ≤ maxTo F b m ∧ ∀ j, j < m → F j ≤ maxTo F b m
  | 0 => ⟨Int.le_refl _, fun j hj => by omega⟩
  | m + 1 => by
    obtain ⟨h1, h2⟩ := maxTo_ge F b m
    simp only [maxTo]
    refine ⟨by omega, fun j hj => ?_⟩
    by_cases e : j = m
    · subst e; omega
    · have := h2 j (by omega); omega
/-- What those from n less k on bring to a group. -/
def sumR (f : Nat → Int) (n : Nat) (col : Nat → Nat) (c k : Nat) : Int := sumTo (fun i => if n - k ≤ i ∧ f i ≠ 0 ∧ col i = c then f i else 0) n
theorem sumR_zero (f : Nat → Int) (n : Nat) (col : Nat → Nat) (c : Nat) : sumR f n col c 0 = 0 :=
  Eq.trans (sumTo_congr fun i hi => by rw [if_neg (by omega)]) (sumTo_zero n)
theorem sumR_step (f : Nat → Int) {n k : Nat} (hk : k + 1 ≤ n) (col : Nat → Nat) (c : Nat) : sumR f n col c (k + 1) = sumR f n col c k + if f (n - (k + 1)) ≠ 0 ∧ col (n - (k + 1)) = c then f (n - (k + 1)) else 0 := by
  have h := sum_at (fun i => f i ≠ 0 ∧ col i = c) (n - (k + 1)) (f (n - (k + 1))) n
  have e : (if n - (k + 1) < n ∧ (f (n - (k + 1)) ≠ 0 ∧ col (n - (k + 1)) = c) then f (n - (k + 1)) else 0) = if f (n - (k + 1)) ≠ 0 ∧ col (n - (k + 1)) = c then f (n - (k + 1)) else 0 := by
    by_cases q : f (n - (k + 1)) ≠ 0 ∧ col (n - (k + 1)) = c
    · rw [if_pos q, if_pos ⟨by omega, q⟩]
    · rw [if_neg q, if_neg (fun h => q h.2)]
  rw [← e, ← h]
  unfold sumR
  rw [← sumTo_add]
  refine sumTo_congr fun i hi => ?_
  by_cases q : f i ≠ 0 ∧ col i = c
  · rw [if_pos q]
    by_cases e1 : n - (k + 1) = i
    · rw [if_pos e1, if_pos ⟨by omega, q⟩, if_neg (by omega), e1]; omega
    · rw [if_neg e1]
      by_cases e2 : n - k ≤ i
      · rw [if_pos ⟨by omega, q⟩, if_pos ⟨e2, q⟩]; omega
      · rw [if_neg (by omega), if_neg (by omega)]; rfl
  · rw [if_neg q, if_neg (fun h => q h.2), if_neg (fun h => q h.2)]; rfl
theorem sumR_same {f : Nat → Int} {n k : Nat} {col col' : Nat → Nat} (h : ∀ i, n - k ≤ i → i < n → col i = col' i) (c : Nat) : sumR f n col c k = sumR f n col' c k :=
  sumTo_congr fun i hi => by
    by_cases q : n - k ≤ i
    · rw [h i q hi]
    · rw [if_neg (fun h => q h.1), if_neg (fun h => q h.1)]
/-- A number of groups that is told is one of groups that there are. -/
theorem most_some {f : Nat → Int} {n : Nat} : ∀ (k : Nat) (s : List Int) (r : Nat), k ≤ n → mostM f n k s = (r : Int) → s.length ≤ r ∧ ∃ col : Nat → Nat, (∀ i, n - k ≤ i → i < n → f i ≠ 0 → col i < r) ∧
    (∀ c, s.length ≤ c → c < r → ∃ i, n - k ≤ i ∧ i < n ∧ f i ≠ 0 ∧ col i = c) ∧ ∀ c, c < r → s.getD c 0 + sumR f n col c k = 0
  | 0, s, r, _, h => by
    simp only [mostM] at h
    split at h
    · omega
    · rename_i ha
      have ha := anyTo_false.1 (by simpa using ha)
      obtain rfl : s.length = r := by omega
      refine ⟨Nat.le_refl _, fun _ => 0, fun i h1 h2 => by omega, fun c h1 h2 => by omega, fun c hc => ?_⟩
      rw [sumR_zero]
      have := ha c hc
      simp at this
      rw [List.getD_eq_getElem?_getD, List.getElem?_eq_getElem hc]
      simpa [hc] using this
  | k + 1, s, r, hk, h => by
    simp only [mostM] at h
    split at h
    · rename_i h0
      obtain ⟨h1, col, h2, h3, h4⟩ := most_some k s r (by omega) h
      refine ⟨h1, col, fun i i1 i2 i3 => h2 i (by
        have : i ≠ n - (k + 1) := fun e => i3 (e ▸ h0)
        omega) i2 i3, fun c c1 c2 => ?_, fun c hc => ?_⟩
      · obtain ⟨i, i1, i2⟩ := h3 c c1 c2
        exact ⟨i, by omega, i2⟩
      · rw [sumR_step f hk, if_neg (fun q => q.1 h0)]
        have := h4 c hc
        omega
    · rename_i h0
      have key : ∀ (s' : List Int) (d : Nat), mostM f n k s' = (r : Int) → s.length ≤ s'.length → s'.length ≤ s.length + 1 → d < s'.length → (s'.length = s.length + 1 → d = s.length) → (∀ c, s'.getD c 0 = s.getD c 0 + if d = c then f (n - (k + 1)) else 0) →
          s.length ≤ r ∧ ∃ col : Nat → Nat, (∀ i, n - (k + 1) ≤ i → i < n → f i ≠ 0 → col i < r) ∧
            (∀ c, s.length ≤ c → c < r → ∃ i, n - (k + 1) ≤ i ∧ i < n ∧ f i ≠ 0 ∧ col i = c) ∧ ∀ c, c < r → s.getD c 0 + sumR f n col c (k + 1) = 0 := fun s' d hs' l1 l2 ld l3 hg => by
        obtain ⟨h1, col, h2, h3, h4⟩ := most_some k s' r (by omega) hs'
        have hsame : ∀ i, n - k ≤ i → i < n → col i = (fun i => if i = n - (k + 1) then d else col i) i := fun i i1 i2 => by
          dsimp only
          rw [if_neg (by omega)]
        refine ⟨by omega, fun i => if i = n - (k + 1) then d else col i, fun i i1 i2 i3 => ?_, fun c c1 c2 => ?_, fun c hc => ?_⟩
        · dsimp only
          split
          · omega
          · exact h2 i (by omega) i2 i3
        · by_cases e : s'.length ≤ c
          · obtain ⟨i, i1, i2, i3, i4⟩ := h3 c e c2
            exact ⟨i, by omega, i2, i3, by rw [← hsame i i1 i2]; exact i4⟩
          · exact ⟨n - (k + 1), Nat.le_refl _, by omega, h0, by dsimp only; rw [if_pos rfl]; omega⟩
        · rw [sumR_step f hk, ← sumR_same hsame]
          have := h4 c hc
          rw [hg c] at this
          rw [if_pos rfl]
          by_cases e : d = c
          · rw [if_pos e] at this
            rw [if_pos ⟨h0, e⟩]
            omega
          · rw [if_neg e] at this
            rw [if_neg (fun q => e q.2)]
            omega
      rcases maxTo_is (fun j => mostM f n k (s.set j (s.getD j 0 + f (n - (k + 1))))) (mostM f n k (s ++ [f (n - (k + 1))])) s.length with e | ⟨j, hj, e⟩
      · rw [e] at h
        refine key _ s.length h (by simp) (by simp) (by simp) (fun _ => rfl) fun c => ?_
        rcases Nat.lt_trichotomy c s.length with q | q | q
        · rw [if_neg (by omega), List.getD_eq_getElem?_getD, List.getElem?_append_left q, ← List.getD_eq_getElem?_getD]; omega
        · subst q; simp
        · rw [if_neg (by omega), List.getD_eq_getElem?_getD, List.getD_eq_getElem?_getD, List.getElem?_eq_none (by simp; omega), List.getElem?_eq_none (by omega)]; rfl
      · rw [e] at h
        refine key _ j h (by simp) (by simp) (by simpa using hj) (fun q => by simp at q) fun c => ?_
        rw [List.getD_eq_getElem?_getD, List.getElem?_set]
        by_cases q : j = c
        · subst q
          rw [if_pos rfl, if_pos hj, if_pos rfl]
          rfl
        · rw [if_neg q, if_neg q, ← List.getD_eq_getElem?_getD]
          omega
/-- No fewer groups are told than there are. -/
theorem most_ge {f : Nat → Int} {n K : Nat} {col : Nat → Nat} (hc : ∀ i, i < n → f i ≠ 0 → col i < K) : ∀ (k : Nat) (s : List Int) (g : List Nat), k ≤ n → g.length = s.length →
    g.length = cntP (fun c => g.contains c) K → (∀ i j, i < g.length → j < g.length → g.getD i 0 = g.getD j 0 → i = j) → (∀ j, j < g.length → g.getD j 0 < K ∧ s.getD j 0 + sumR f n col (g.getD j 0) k = 0) →
    (∀ c, c < K → g.contains c = false → sumR f n col c k = 0 ∧ ∃ i, n - k ≤ i ∧ i < n ∧ f i ≠ 0 ∧ col i = c) → (K : Int) ≤ mostM f n k s
  | 0, s, g, _, hl, hn, hi, hs, ho => by
    simp only [mostM]
    rw [if_neg]
    · have : ∀ m, m ≤ K → cntP (fun c => g.contains c) m = m := fun m => by
        induction m with
        | zero => exact fun _ => rfl
        | succ m ih =>
          intro hm
          simp only [cntP]
          rw [ih (by omega)]
          by_cases e : g.contains m = true
          · rw [if_pos e]
          · obtain ⟨_, i, h1, h2, _⟩ := ho m (by omega) (by simpa using e)
            omega
      rw [this K (Nat.le_refl _)] at hn
      omega
    · rw [Bool.not_eq_true, anyTo_false]
      intro j hj
      have := (hs j (by omega)).2
      rw [sumR_zero] at this
      simp
      rw [List.getD_eq_getElem?_getD] at this
      simpa using this
  | k + 1, s, g, hk, hl, hn, hi, hs, ho => by
    simp only [mostM]
    split
    · rename_i h0
      have e : ∀ c, sumR f n col c (k + 1) = sumR f n col c k := fun c => by rw [sumR_step f hk, if_neg (fun q => q.1 h0)]; omega
      refine most_ge hc k s g (by omega) hl hn hi (fun j hj => by rw [← e]; exact hs j hj) fun c h1 h2 => ?_
      obtain ⟨h3, i, i1, i2, i3, i4⟩ := ho c h1 h2
      exact ⟨by rw [← e]; exact h3, i, by
        have : i ≠ n - (k + 1) := fun e => i3 (e ▸ h0)
        omega, i2, i3, i4⟩
    · rename_i h0
      have hst := fun c => sumR_step f hk col c
      obtain ⟨m1, m2⟩ := maxTo_ge (fun j => mostM f n k (s.set j (s.getD j 0 + f (n - (k + 1))))) (mostM f n k (s ++ [f (n - (k + 1))])) s.length
      have hp := hc (n - (k + 1)) (by omega) h0
      generalize hd : col (n - (k + 1)) = d at hp hst
      cases hg : g.contains d
      · refine Int.le_trans (most_ge hc k (s ++ [f (n - (k + 1))]) (g ++ [d]) (by omega) (by simp [hl]) ?_ ?_ ?_ ?_) m1
        · have hsub := cntP_sub (p := fun c => g.contains c) (q := fun c => (g ++ [d]).contains c) (e := d) (n := K) fun c _ h => by
            simp only [List.contains_iff_mem, List.mem_append] at h ⊢
            exact .inl h
          have h1 := hsub.2 hp (by simp) hg
          have h2 := (cntP_one (p := fun c => (g ++ [d]).contains c) (q := fun c => g.contains c) d (n := K) fun c _ h hne => by
            simp only [List.contains_iff_mem, List.mem_append, List.mem_singleton] at h ⊢
            rcases h with h | h
            · exact h
            · exact absurd h hne).1
          rw [List.length_append, List.length_singleton]
          omega
        · have hnew : ∀ i, i < g.length → g.getD i 0 ≠ d := fun i hi e => by
            have : d ∈ g := by
              rw [← e, List.getD_eq_getElem?_getD, List.getElem?_eq_getElem hi]
              exact List.getElem_mem _
            rw [← List.contains_iff_mem, hg] at this
            cases this
          have hat : ∀ i, i < g.length → (g ++ [d]).getD i 0 = g.getD i 0 := fun i hi => by rw [List.getD_eq_getElem?_getD, List.getElem?_append_left hi, ← List.getD_eq_getElem?_getD]
          have hend : (g ++ [d]).getD g.length 0 = d := by simp
          intro i j h1 h2 e
          rw [List.length_append, List.length_singleton] at h1 h2
          by_cases e1 : i < g.length
          · rw [hat i e1] at e
            by_cases e2 : j < g.length
            · rw [hat j e2] at e
              exact hi i j e1 e2 e
            · obtain rfl : j = g.length := by omega
              rw [hend] at e
              exact absurd e (hnew i e1)
          · obtain rfl : i = g.length := by omega
            rw [hend] at e
            by_cases e2 : j < g.length
            · rw [hat j e2] at e
              exact absurd e.symm (hnew j e2)
            · omega
        · intro j hj
          rw [List.length_append, List.length_singleton] at hj
          by_cases e : j < g.length
          · have h1 := hs j e
            have hnew : g.getD j 0 ≠ d := fun e' => by
              have : d ∈ g := by
                rw [← e', List.getD_eq_getElem?_getD, List.getElem?_eq_getElem e]
                exact List.getElem_mem _
              rw [← List.contains_iff_mem, hg] at this
              cases this
            have e1 : (g ++ [d]).getD j 0 = g.getD j 0 := by rw [List.getD_eq_getElem?_getD, List.getElem?_append_left e, ← List.getD_eq_getElem?_getD]
            have e2 : (s ++ [f (n - (k + 1))]).getD j 0 = s.getD j 0 := by rw [List.getD_eq_getElem?_getD, List.getElem?_append_left (by omega), ← List.getD_eq_getElem?_getD]
            rw [e1, e2]
            refine ⟨h1.1, ?_⟩
            have := h1.2
            rw [hst, if_neg (fun q => hnew q.2.symm)] at this
            omega
          · obtain rfl : j = g.length := by omega
            have e1 : (g ++ [d]).getD g.length 0 = d := by simp
            have e2 : (s ++ [f (n - (k + 1))]).getD g.length 0 = f (n - (k + 1)) := by rw [hl]; simp
            rw [e1, e2]
            refine ⟨hp, ?_⟩
            have := (ho d hp hg).1
            rw [hst, if_pos ⟨h0, rfl⟩] at this
            omega
        · intro c h1 h2
          have hcd : c ≠ d := fun e => by rw [e] at h2; simp at h2
          have h3 : g.contains c = false := by
            cases e : g.contains c
            · rfl
            · rw [List.contains_iff_mem] at e
              have : c ∈ g ++ [d] := List.mem_append.2 (.inl e)
              rw [← List.contains_iff_mem, h2] at this
              cases this
          obtain ⟨h4, i, i1, i2, i3, i4⟩ := ho c h1 h3
          rw [hst, if_neg (fun q => hcd q.2.symm)] at h4
          exact ⟨by omega, i, by
            have : i ≠ n - (k + 1) := fun e => hcd (by rw [← i4, e, hd])
            omega, i2, i3, i4⟩
      · have hm : d ∈ g := by rw [← List.contains_iff_mem]; exact hg
        obtain ⟨j, hj, hjd⟩ := List.mem_iff_getElem.1 hm
        have hjd : g.getD j 0 = d := by rw [List.getD_eq_getElem?_getD, List.getElem?_eq_getElem hj]; exact hjd
        refine Int.le_trans (most_ge hc k (s.set j (s.getD j 0 + f (n - (k + 1)))) g (by omega) (by simp [hl]) hn hi ?_ ?_) (m2 j (by omega))
        · intro t ht
          have h1 := hs t ht
          refine ⟨h1.1, ?_⟩
          have h2 := h1.2
          rw [hst] at h2
          rw [List.getD_eq_getElem?_getD, List.getElem?_set]
          by_cases e : j = t
          · subst e
            rw [if_pos rfl, if_pos (by omega)]
            rw [if_pos ⟨h0, hjd.symm⟩] at h2
            show s.getD j 0 + f (n - (k + 1)) + _ = 0
            omega
          · rw [if_neg e, ← List.getD_eq_getElem?_getD]
            rw [if_neg (fun q => e (hi j t hj ht (by rw [hjd, q.2])))] at h2
            omega
        · intro c h1 h2
          obtain ⟨h4, i, i1, i2, i3, i4⟩ := ho c h1 h2
          have hcd : c ≠ d := fun e => by rw [e, hg] at h2; cases h2
          rw [hst, if_neg (fun q => hcd q.2.symm)] at h4
          exact ⟨by omega, i, by
            have : i ≠ n - (k + 1) := fun e => hcd (by rw [← i4, e, hd])
            omega, i2, i3, i4⟩
theorem most_low {f : Nat → Int} {n : Nat} : ∀ (k : Nat) (s : List Int), -1 ≤ mostM f n k s
  | 0, s => by
    simp only [mostM]
    split <;> omega
  | k + 1, s => by
    simp only [mostM]
    split
    · exact most_low k s
    · have := (maxTo_ge (fun j => mostM f n k (s.set j (s.getD j 0 + f (n - (k + 1))))) (mostM f n k (s ++ [f (n - (k + 1))])) s.length).1
      have := most_low (f := f) (n := n) k (s ++ [f (n - (k + 1))])
      omega
/-- What the reference tells is the greatest number of even groups. -/
theorem most_eq {f : Nat → Int} {n K : Nat} (hw : WayS f n (openM f n) K) (hmax : ∀ k, WayS f n (openM f n) k → k ≤ K) : mostM f n n [] = (K : Int) := by
  have hob : ∀ i, i < n → ((openM f n).testBit i = true ↔ f i ≠ 0) := fun i hi => by rw [openM_bit]; simp [hi]
  have hsum : ∀ (col : Nat → Nat) c, sumR f n col c n = sumTo (fun i => if (openM f n).testBit i = true ∧ col i = c then f i else 0) n := fun col c => sumTo_congr fun i hi => by
    by_cases h0 : f i = 0
    · rw [h0]; simp
    · by_cases e : col i = c
      · rw [if_pos ⟨by omega, h0, e⟩, if_pos ⟨(hob i hi).2 h0, e⟩]
      · rw [if_neg (fun q => e q.2.2), if_neg (fun q => e q.2)]
  have hge : (K : Int) ≤ mostM f n n [] := by
    obtain ⟨col, h1, h2, h3⟩ := hw
    refine most_ge (col := col) (fun i hi h0 => h1 i hi ((hob i hi).2 h0)) n [] [] (Nat.le_refl _) rfl ?_ (fun i j hi => by simp at hi) (fun j hj => by simp at hj) fun c hc _ => ?_
    · have : ∀ m, cntP (fun c => ([] : List Nat).contains c) m = 0 := fun m => by
        induction m with
        | zero => rfl
        | succ m ih => simp only [cntP, ih]; simp
      rw [this]; rfl
    · rw [hsum]
      obtain ⟨i, hi, hb, he⟩ := h2 c hc
      exact ⟨h3 c hc, i, by omega, hi, (hob i hi).1 hb, he⟩
  obtain ⟨r, hr⟩ : ∃ r : Nat, mostM f n n [] = (r : Int) := ⟨(mostM f n n []).toNat, by omega⟩
  obtain ⟨_, col, h2, h3, h4⟩ := most_some n [] r (Nat.le_refl _) hr
  have := hmax r ⟨col, fun i hi hb => h2 i (by omega) hi ((hob i hi).1 hb), fun c hc => by
    obtain ⟨i, _, i2, i3, i4⟩ := h3 c (by simp) hc
    exact ⟨i, i2, (hob i i2).2 i3, i4⟩, fun c hc => by
    have := h4 c hc
    rw [hsum] at this
    simpa using this⟩
  omega
end Go.Proofs.YtbceepjjdfpfmaaGreat
