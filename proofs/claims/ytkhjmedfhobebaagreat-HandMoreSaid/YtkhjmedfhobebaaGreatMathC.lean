/- The stretches that the program proves a hand's least by are a right proof: plain law. The watch is right. -/
import Derived.Test.YtkhjmedfhobebaaGreatRefP
import Derived.Test.YtkhjmedfhobebaaGreatMathL
namespace HandSpec
namespace L
open R P
variable {x : WD} {m : Nat}
/-- What a plan at an end says. -/
def LinkAt (x : WD) (m : Nat) (B : Nat → Plan) (e : Nat) (p : Plan) : Prop :=
 (p.st = (0, 0) ∧ p.rest = e - 1 ∧ p.sum = (B (e - 1)).sum) ∨
 (okS x m e p.st = true ∧ (p.st.1 < p.st.2 ∧ p.st.2 < x.cn) ∧ spot x m (e - 1) = true ∧ p.rest = fst x m p.st ∧ p.sum = (B (fst x m p.st)).sum + P.gap x p.st.1 p.st.2)
theorem link_fold {B : Nat → Plan} {e : Nat} (he : 0 < e) (hsp : spot x m (e - 1) = true) : ∀ (l : List (Nat × Nat)) (b : Nat → Plan), (∀ s, s ∈ l → s.1 < s.2 ∧ s.2 < x.cn) → (∀ j, j ≠ e → b j = B j) → LinkAt x m B e (b e) → LinkAt x m B e (l.foldl (stepP x m e) b e)
 | [], _, _, _, h => h
 | s :: l, b, hl, hb, h => by
  rw [List.foldl_cons]
  refine link_fold he hsp l _ (fun t ht => hl t (List.mem_cons_of_mem _ ht)) (fun j hj => by rw [stepP_other hj]; exact hb j hj) ?_
  unfold stepP
  split
  ·next hc =>
   rw [Bool.and_eq_true] at hc
   rw [updP_same]
   have hne : fst x m s ≠ e := by have := okS_first hc.1 he; omega
   exact .inr ⟨hc.1, hl s (List.mem_cons_self ..), hsp, rfl, by show _ + _ = _; rw [hb _ hne]⟩
  ·exact h
theorem link {k : Nat} (hk : 0 < k) (hkc : k ≤ x.cn - 1) : LinkAt x m (best x m) k (best x m k) := by
 obtain ⟨e, rfl⟩ : ∃ e, k = e + 1 := ⟨k - 1, by omega⟩
 have hB : ∀ j, j ≤ e → bestTo x m e j = best x m j := fun j hj => by rw [best_at (by omega), bestTo_other e hj]
 have key : LinkAt x m (bestTo x m e) (e+1) (bestTo x m (e+1) (e+1)) := by
  show LinkAt x m _ _ (roundP x m (bestTo x m e) (e+1) (e+1))
  have h0 : LinkAt x m (bestTo x m e) (e+1) (initP (bestTo x m e) (e+1) (e+1)) := by
   unfold initP
   rw [updP_same]
   exact .inl ⟨rfl, rfl, rfl⟩
  unfold roundP
  split
  ·next hsp => exact link_fold (Nat.succ_pos e) hsp _ _ (fun s hs => mem_stretches.1 hs) (fun j hj => init_other _ hj) h0
  ·exact h0
 rw [best_at hkc]
 rcases key with ⟨h1, h2, h3⟩ | ⟨h1, h2, h3, h4, h5⟩
 ·refine .inl ⟨h1, h2, ?_⟩
  rw [h3, show e + 1 - 1 = e by omega, hB e (Nat.le_refl _)]
 ·refine .inr ⟨h1, h2, h3, h4, ?_⟩
  have := okS_first h1 (Nat.succ_pos e)
  rw [h5, hB _ (by omega)]
def gsum (x : WD) : List (Nat × Nat) → Int
 | [] => 0
 | s :: l => P.gap x s.1 s.2 + gsum x l
theorem gsum_perm {l l' : List (Nat × Nat)} (h : l.Perm l') : gsum x l = gsum x l' := by
 induction h with
 | nil => rfl
 | cons a _ ih => simp only [gsum, ih]
 | swap a b l => simp only [gsum]; omega
 | trans _ _ h1 h2 => exact h1.trans h2
/-- A stretch of a proof. -/
def Good1 (x : WD) (m : Nat) (s : Nat × Nat) : Prop := (s.1 < s.2 ∧ s.2 < x.cn) ∧ ∃ k, 0 < k ∧ okS x m k s = true
theorem chain_ok : ∀ (f e : Nat), e ≤ f → e ≤ x.cn - 1 → (∀ s, s ∈ chain (best x m) f e → Good1 x m s ∧ lst x m s + 1 ≤ e) ∧ (chain (best x m) f e).Pairwise (fun s t => lst x m t < fst x m s) ∧ gsum x (chain (best x m) f e) = bs x m e
 | 0, e, h, _ => by
  obtain rfl : e = 0 := by omega
  refine ⟨fun s hs => by simp [chain] at hs, by simp [chain], ?_⟩
  rw [bs_zero]; rfl
 | f+1, e, h, hc => by
  unfold chain
  by_cases h0 : e = 0
  ·subst h0
   rw [if_pos rfl]
   exact ⟨fun s hs => by simp at hs, List.Pairwise.nil, by rw [bs_zero]; rfl⟩
  ·rw [if_neg h0]
   rcases link (x := x) (m := m) (k := e) (by omega) hc with ⟨h1, h2, h3⟩ | ⟨h1, h2, h3, h4, h5⟩
   ·rw [if_pos h1, h2, List.nil_append]
    obtain ⟨g1, g2, g3⟩ := chain_ok f (e - 1) (by omega) (by omega)
    refine ⟨fun s hs => ?_, g2, by rw [g3]; exact h3.symm⟩
    have := g1 s hs
    exact ⟨this.1, by omega⟩
   ·have hne : (best x m e).st ≠ (0, 0) := fun h => by rw [h] at h2; simp at h2
    have hf := okS_first h1 (by omega)
    rw [if_neg hne, h4]
    obtain ⟨g1, g2, g3⟩ := chain_ok f (fst x m (best x m e).st) (by omega) (by omega)
    have hl : lst x m (best x m e).st + 1 = e := by
     have := h1
     simp only [okS, Bool.and_eq_true, decide_eq_true_eq] at this
     exact this.1.1
    refine ⟨fun s hs => ?_, ?_, ?_⟩
    ·rcases List.mem_append.1 hs with hs | hs
     ·obtain rfl : s = (best x m e).st := by simpa using hs
      exact ⟨⟨h2, e, by omega, h1⟩, by omega⟩
     ·have := g1 s hs
      exact ⟨this.1, by omega⟩
    ·rw [List.singleton_append, List.pairwise_cons]
     refine ⟨fun t ht => ?_, g2⟩
     have := (g1 t ht).2
     omega
    ·rw [List.singleton_append]
     simp only [gsum]
     rw [g3]
     have : bs x m e = bs x m (fst x m (best x m e).st) + P.gap x (best x m e).st.1 (best x m e).st.2 := h5
     omega
theorem firstTo_le {own : Nat → Bool} {a : Nat} {b : Int} {d : Nat} : ∀ {k : Nat}, d < k → own (a + d) = true → firstTo own a b k ≤ (a + d : Nat)
 | k+1, hd, ho => by
  unfold firstTo
  rcases Nat.lt_or_eq_of_le (Nat.le_of_lt_succ hd) with h' | h'
  ·have := firstTo_le (b := b) h' ho
   split <;> omega
  ·subst h'
   rw [ho, if_pos rfl]; omega
theorem in_range {s : Nat × Nat} {i : Nat} (h1 : s.1 ≤ i) (h2 : i < s.2) (ho : spot x m i = true) : fst x m s ≤ i ∧ (i : Int) ≤ lst x m s := by
 have a := firstTo_le (own := spot x m) (a := s.1) (b := (s.2 : Int)) (d := i - s.1) (k := s.2 - s.1) (by omega) (by rw [show s.1 + (i - s.1) = i by omega]; exact ho)
 have b := lastTo_ge (own := spot x m) (a := s.1) (d := i - s.1) (k := s.2 - s.1) (by omega) (by rw [show s.1 + (i - s.1) = i by omega]; exact ho)
 have c := fst_cast x m s
 have d : lst x m s = lastTo (spot x m) s.1 (s.2 - s.1) := rfl
 omega
theorem good1_le {s : Nat × Nat} (h : Good1 x m s) : (fst x m s : Int) ≤ lst x m s := by
 obtain ⟨_, k, hk, hok⟩ := h
 have h1 := okS_first hok hk
 simp only [okS, Bool.and_eq_true, decide_eq_true_eq] at hok
 have := hok.1.1
 omega
/-- Two stretches of a proof have no interval of the hands in common. -/
def Off (x : WD) (m : Nat) (s t : Nat × Nat) : Prop := lst x m t < fst x m s ∨ lst x m s < fst x m t
theorem proof_ok (l' : List (Nat × Nat)) (hp : l'.Perm (P.proof x m)) : (∀ s, s ∈ l' → Good1 x m s) ∧ l'.Pairwise (Off x m) ∧ gsum x l' = P.proved x m := by
 unfold P.proof P.proved at *
 by_cases hn : noOwn x m = true
 ·rw [if_pos hn] at hp ⊢
  obtain rfl := List.perm_nil.1 hp
  exact ⟨fun s hs => by simp at hs, List.Pairwise.nil, rfl⟩
 ·rw [if_neg hn] at hp ⊢
  obtain ⟨h1, h2, h3⟩ := chain_ok (x := x) (m := m) x.cn (x.cn - 1) (by omega) (Nat.le_refl _)
  refine ⟨fun s hs => (h1 s (hp.mem_iff.1 hs)).1, ?_, (gsum_perm hp).trans h3⟩
  refine (List.Perm.pairwise_iff (fun {a b} h => Or.symm h) hp).2 (h2.imp fun h => Or.inl h)
theorem gsum_take : ∀ (l : List (Nat × Nat)) (n : Nat), n ≤ l.length → sumTo (fun k => P.gap x (nth l k).1 (nth l k).2) n = gsum x (l.take n)
 | l, 0, _ => by simp [sumTo, gsum]
 | l, n+1, h => by
  have hg : ∀ a b : List (Nat × Nat), gsum x (a ++ b) = gsum x a + gsum x b := by
   intro a b
   induction a with
   | nil => simp [gsum]
   | cons s a ih => simp only [List.cons_append, gsum, ih]; omega
  simp only [sumTo]
  rw [gsum_take l n (by omega), List.take_succ_eq_append_getElem (by omega), hg, nth_get l (by omega)]
  simp [gsum]
/-- **The program's proof is right, and proves its sum.** -/
theorem proves_ok (_hx : Ok x) (hc : P.chk x = 0) {h : Nat} {l' : List (Nat × Nat)} (hp : l'.Perm (P.proof x (2 ^ h))) {g : Nat → Nat → Int} (hg : ∀ k, k < l'.length → g k 0 = ((nth l' k).1 : Int) ∧ g k 1 = ((nth l' k).2 : Int)) :
  provesE x h g l'.length = 0 ∧ provesV x h g l'.length = P.proved x (2 ^ h) := by
 obtain ⟨h1, h2, h3⟩ := proof_ok l' hp
 have hmem : ∀ k, k < l'.length → nth l' k ∈ l' := fun k hk => by rw [nth_get l' hk]; exact List.getElem_mem hk
 have e1 : errTo (pvE x h g) l'.length = 0 := errTo_no fun k hk => by
  obtain ⟨⟨a1, a2⟩, q, hq, hok⟩ := h1 _ (hmem k hk)
  obtain ⟨g0, g1⟩ := hg k hk
  simp only [okS, Bool.and_eq_true, decide_eq_true_eq] at hok
  unfold pvE
  rw [g0, g1]
  have hs : strE x ((nth l' k).1 : Int) ((nth l' k).2 : Int) = 0 := by
   rw [strE_right hc]
   unfold right
   have b1 : offB ((nth l' k).1 : Int) 0 (x.cn - 1) = false := by unfold offB; simp; omega
   have b2 : offB ((nth l' k).2 : Int) 0 (x.cn - 1) = false := by unfold offB; simp; omega
   rw [b1, b2]
   simp; omega
  rw [if_neg (by rw [hs]; simp), Int.toNat_natCast, Int.toNat_natCast, if_neg (by omega), hok.1.2, Nat.xor_self]
  simp
 have e2 : dup (spot x (2 ^ h)) g l'.length = false := by
  unfold dup
  rw [anyTo_false]
  intro k hk
  rw [anyTo_false]
  intro i _
  cases hb : (spot x (2 ^ h) i && (cov g k i && anyTo (fun j => cov g j i) k))
  ·rfl
  ·exfalso
   simp only [Bool.and_eq_true, anyTo_true] at hb
   obtain ⟨ho, hck, j, hjk, hcj⟩ := hb
   obtain ⟨g0, g1⟩ := hg k hk
   obtain ⟨q0, q1⟩ := hg j (by omega)
   simp only [cov, Bool.and_eq_true, decide_eq_true_eq] at hck hcj
   rw [g0, g1] at hck
   rw [q0, q1] at hcj
   have rk := in_range (s := nth l' k) (by omega) (by omega) ho
   have rj := in_range (s := nth l' j) (by omega) (by omega) ho
   have hoff : Off x (2 ^ h) (nth l' j) (nth l' k) := by
    have := List.pairwise_iff_getElem.1 h2 j k (by omega) hk hjk
    rw [← nth_get l' (by omega), ← nth_get l' hk] at this
    exact this
   rcases hoff with ho | ho <;> omega
 have e3 : provesE x h g l'.length = 0 := by unfold provesE; rw [e1, e2]; simp
 refine ⟨e3, ?_⟩
 unfold provesV
 rw [if_pos e3, ← h3, show l' = l'.take l'.length from (List.take_length).symm, ← gsum_take _ _ (Nat.le_refl _), List.take_length]
 refine sumTo_congr fun k hk => ?_
 obtain ⟨g0, g1⟩ := hg k hk
 unfold pvG
 rw [g0, g1, Int.toNat_natCast, Int.toNat_natCast]
/-- No stretch is there twice. -/
theorem proof_ne {l' : List (Nat × Nat)} (hp : l'.Perm (P.proof x m)) {j k : Nat} (hjk : j < k) (hk : k < l'.length) : nth l' j ≠ nth l' k := by
 obtain ⟨h1, h2, _⟩ := proof_ok l' hp
 intro e
 have hoff := List.pairwise_iff_getElem.1 h2 j k (by omega) hk hjk
 rw [← nth_get l' (by omega), ← nth_get l' hk, e] at hoff
 have := good1_le (h1 _ (by rw [nth_get l' hk]; exact List.getElem_mem hk) : Good1 x m (nth l' k))
 rcases hoff with h | h <;> omega
theorem there_empty (x : WD) (a b : Nat) : (there x a b).isEmpty = !met x (whole x) a b := by
 rw [Bool.eq_iff_iff, Bool.not_eq_true', met_false, List.isEmpty_iff]
 unfold there
 rw [List.filter_eq_nil_iff]
 constructor
 ·intro h i h1 h2
  unfold can
  rw [anyTo_false]
  intro k hk
  rw [whole_bit, decide_eq_true hk, Bool.true_and, is_one]
  cases hb : isat x k i
  ·rfl
  ·exact absurd (is_true.2 ⟨i, h1, h2, hb⟩) (h k (List.mem_range.2 hk))
 ·intro h k hk hi
  obtain ⟨i, h1, h2, h3⟩ := is_true.1 hi
  have := h i h1 h2
  unfold can at this
  rw [anyTo_false] at this
  have h4 := this k (List.mem_range.1 hk)
  rw [whole_bit, decide_eq_true (List.mem_range.1 hk), Bool.true_and, is_one, h3] at h4
  cases h4
/-- A watch clashes just if it has no truth. -/
theorem clash_iff (hx : Ok x) : (R.clashes x).isSome = !fwOk x (whole x) := by
 cases hw : fwOk x (whole x)
 ·rw [Bool.not_false]
  cases hc : R.clashes x with
  | some s => rfl
  | none =>
   exfalso
   unfold R.clashes at hc
   rw [List.find?_eq_none] at hc
   have : fwOk x (whole x) = true := (fwOk_iff hx _).2 fun i j hij hj => by
    have h1 := hc (i, j) (mem_stretches.2 ⟨hij, hj⟩)
    unfold clashB at h1
    simp only [Bool.or_eq_true, Bool.and_eq_true, decide_eq_true_eq, there_empty, Bool.not_eq_true'] at h1
    refine ⟨?_, fun hm => ?_⟩
    ·rcases Int.lt_or_le (x.c i 2 + booked x i j) (x.c j 1) with h2 | h2
     ·exact absurd (.inl h2) h1
     ·exact h2
    ·rcases Int.lt_or_le 0 (R.gap x i j) with h2 | h2
     ·exact absurd (.inr ⟨h2, hm⟩) h1
     ·exact h2
   rw [hw] at this; cases this
 ·rw [Bool.not_true]
  cases hc : R.clashes x with
  | none => rfl
  | some s =>
   exfalso
   unfold R.clashes at hc
   have h1 := List.find?_some hc
   have h2 := mem_stretches.1 (List.mem_of_find?_eq_some hc)
   obtain ⟨h3, h4⟩ := (fwOk_iff hx _).1 hw s.1 s.2 h2.1 h2.2
   unfold clashB at h1
   simp only [Bool.or_eq_true, Bool.and_eq_true, decide_eq_true_eq, there_empty, Bool.not_eq_true'] at h1
   rcases h1 with h1 | ⟨h1, h5⟩
   ·omega
   ·have := h4 h5; omega
theorem proved_eq (hx : Ok x) (hw : fwOk x (whole x) = true) (hm : m < 2 ^ x.hands.toNat) : P.proved x m = taken x m := by
 rw [taken_eq hx hw hm]
 unfold P.proved
 split
 ·next hn =>
  have hno : ∀ i, i + 1 < x.cn → spot x m i = false := fun i hi => by
   unfold noOwn at hn
   rw [Bool.not_eq_true', anyTo_false] at hn
   exact hn i (by have := hx.cn; omega)
  have h1 := bs_none hno (x.cn - 1) (Nat.le_refl _)
  have h2 := bs_nonneg (x := x) (m := m) (Nat.le_refl (x.cn - 1))
  omega
 ·rfl
end L
end HandSpec
