/- The fewest hands, those that must and that can have taken something, stretches that are apart, and how many sacks a count can have: plain law. The watch is right, and has a truth where it is said. -/
import Derived.Test.YtkhjmedfhobebaaGreatDoK
import Derived.Test.YtkhjmedfhobebaaGreatMathL
import Derived.Test.YtkhjmedfhobebaaGreatRefP
namespace HandSpec
/-! Lists that are shorter, or as long and first. -/
def lexB : List Nat → List Nat → Bool
 | a :: a1, b :: b1 => if a ≠ b then decide (a < b) else lexB a1 b1
 | _, _ => false
def aheadB (a b : List Nat) : Bool := if a.length ≠ b.length then decide (a.length < b.length) else lexB a b
theorem lexB_irrefl : ∀ a : List Nat, lexB a a = false
 | [] => rfl
 | a :: a1 => by unfold lexB; rw [if_neg (by simp)]; exact lexB_irrefl a1
theorem lexB_trans : ∀ {a b c : List Nat}, a.length = b.length → b.length = c.length → lexB a b = true → lexB b c = true → lexB a c = true
 | a :: a1, b :: b1, c :: c1, h1, h2, h3, h4 => by
  unfold lexB at h3 h4 ⊢
  by_cases e1 : a = b
  ·subst e1
   rw [if_neg (by simp)] at h3
   by_cases e2 : a = c
   ·subst e2
    rw [if_neg (by simp)] at h4 ⊢
    exact lexB_trans (by simpa using h1) (by simpa using h2) h3 h4
   ·rw [if_pos e2] at h4 ⊢; exact h4
  ·rw [if_pos e1] at h3
   simp only [decide_eq_true_eq] at h3
   by_cases e2 : b = c
   ·subst e2
    rw [if_pos e1]; simpa using h3
   ·rw [if_pos e2] at h4
    simp only [decide_eq_true_eq] at h4
    rw [if_pos (by omega)]; simp; omega
 | [], _, _, _, _, h3, _ => by simp [lexB] at h3
 | _ :: _, [], _, _, _, h3, _ => by simp [lexB] at h3
 | _ :: _, _ :: _, [], _, h2, _, _ => by simp at h2
theorem lexB_total : ∀ {a b : List Nat}, a.length = b.length → lexB a b = false → lexB b a = false → a = b
 | [], [], _, _, _ => rfl
 | a :: a1, b :: b1, h, h1, h2 => by
  unfold lexB at h1 h2
  by_cases e : a = b
  ·subst e
   rw [if_neg (by simp)] at h1 h2
   rw [lexB_total (by simpa using h) h1 h2]
  ·rw [if_pos e] at h1
   rw [if_pos (Ne.symm e)] at h2
   simp only [decide_eq_false_iff_not] at h1 h2
   omega
 | [], _ :: _, h, _, _ => by simp at h
 | _ :: _, [], h, _, _ => by simp at h
theorem ahead_trans {a b c : List Nat} (h1 : aheadB a b = true) (h2 : aheadB b c = true) : aheadB a c = true := by
 unfold aheadB at *
 by_cases e1 : a.length = b.length <;> by_cases e2 : b.length = c.length
 ·rw [if_neg (by simpa using e1)] at h1
  rw [if_neg (by simpa using e2)] at h2
  rw [if_neg (by simpa using e1.trans e2)]
  exact lexB_trans e1 e2 h1 h2
 ·rw [if_pos e2] at h2
  simp only [decide_eq_true_eq] at h2
  rw [if_pos (by omega)]; simp; omega
 ·rw [if_pos e1] at h1
  simp only [decide_eq_true_eq] at h1
  rw [if_pos (by omega)]; simp; omega
 ·rw [if_pos e1] at h1
  rw [if_pos e2] at h2
  simp only [decide_eq_true_eq] at h1 h2
  rw [if_pos (by omega)]; simp; omega
theorem ahead_total {a b : List Nat} (h1 : aheadB a b = false) (h2 : aheadB b a = false) : a = b := by
 unfold aheadB at *
 by_cases e : a.length = b.length
 ·rw [if_neg (by simpa using e)] at h1
  rw [if_neg (by simpa using e.symm)] at h2
  exact lexB_total e h1 h2
 ·rw [if_pos e] at h1
  rw [if_pos (Ne.symm e)] at h2
  simp only [decide_eq_false_iff_not] at h1 h2
  omega
namespace R
/-- The fewest hands by the first k sets. -/
def few (x : WD) : Nat → List Nat
 | 0 => ones 62 (whole x)
 | k+1 => if fwOk x k && aheadB (ones 62 k) (few x k) then ones 62 k else few x k
def fewest (x : WD) : List Nat := few x (whole x + 1)
def mustTo (x : WD) (n : Nat) : List Nat := (List.range n).filter fun h => !fwOk x (whole x - 2 ^ h)
def must (x : WD) : List Nat := mustTo x x.hands.toNat
theorem few_spec (x : WD) : ∀ k, (few x k = ones 62 (whole x) ∨ ∃ m, m < k ∧ fwOk x m = true ∧ few x k = ones 62 m) ∧ ∀ m, m < k → fwOk x m = true → aheadB (ones 62 m) (few x k) = false
 | 0 => ⟨.inl rfl, fun m hm => absurd hm (by omega)⟩
 | k+1 => by
  obtain ⟨h1, h2⟩ := few_spec x k
  unfold few
  by_cases hc : (fwOk x k && aheadB (ones 62 k) (few x k)) = true
  ·rw [if_pos hc]
   rw [Bool.and_eq_true] at hc
   refine ⟨.inr ⟨k, by omega, hc.1, rfl⟩, fun m hm hf => ?_⟩
   rcases Nat.lt_or_eq_of_le (Nat.le_of_lt_succ hm) with h | h
   ·cases ha : aheadB (ones 62 m) (ones 62 k)
    ·rfl
    ·have := ahead_trans ha hc.2
     rw [h2 m h hf] at this; cases this
   ·subst h
    unfold aheadB
    rw [if_neg (by simp), lexB_irrefl]
  ·rw [if_neg hc]
   refine ⟨?_, fun m hm hf => ?_⟩
   ·rcases h1 with h1 | ⟨m, hm, h3, h4⟩
    ·exact .inl h1
    ·exact .inr ⟨m, by omega, h3, h4⟩
   ·rcases Nat.lt_or_eq_of_le (Nat.le_of_lt_succ hm) with h | h
    ·exact h2 m h hf
    ·subst h
     cases ha : aheadB (ones 62 m) (few x m)
     ·rfl
     ·exact absurd (by rw [hf, ha]; rfl) hc
end R
namespace F
open R P L
variable {x : WD}
theorem smallest_in (x : WD) : ∀ (d : Nat) (s : Nat × Nat), s.2 - s.1 = d → s ∈ R.short x → ∃ t, t ∈ P.smallest x ∧ s.1 ≤ t.1 ∧ t.2 ≤ s.2 := by
 intro d
 induction d using Nat.strongRecOn with
 | _ d ih =>
  intro s hd hs
  by_cases hq : smQ (R.short x) s = true
  ·exact ⟨s, List.mem_filter.2 ⟨hs, hq⟩, Nat.le_refl _, Nat.le_refl _⟩
  ·unfold smQ at hq
   rw [Bool.not_eq_true', Bool.not_eq_false, List.any_eq_true] at hq
   obtain ⟨u, hu, hc⟩ := hq
   simp only [innerB, Bool.and_eq_true, decide_eq_true_eq] at hc
   replace hc : u ≠ s ∧ s.1 ≤ u.1 ∧ u.2 ≤ s.2 := ⟨hc.1.1, hc.1.2, hc.2⟩
   have h1 := (mem_short.1 hs).1
   have h2 := (mem_short.1 hu).1
   have hlt : u.2 - u.1 < d := by
    rcases Nat.lt_or_ge (u.2 - u.1) d with h | h
    ·exact h
    ·exfalso
     exact hc.1 (Prod.ext (by omega) (by omega))
   obtain ⟨t, ht, a1, a2⟩ := ih (u.2 - u.1) hlt u rfl hu
   exact ⟨t, ht, by omega, by omega⟩
/-- Some hands explain a watch just if one of them is there in each smallest stretch. -/
theorem left_fw (hx : Ok x) (hw : fwOk x (whole x) = true) (m : Nat) : (left x m).isEmpty = fwOk x m := by
 have hT := (fwOk_iff hx (whole x)).1 hw
 rw [Bool.eq_iff_iff, List.isEmpty_iff, fwOk_iff hx m]
 unfold left
 rw [List.filter_eq_nil_iff]
 constructor
 ·intro h i j hij hj
  refine ⟨(hT i j hij hj).1, fun hm => ?_⟩
  rcases Int.lt_or_le 0 (R.gap x i j) with hg | hg
  ·exfalso
   obtain ⟨t, ht, a1, a2⟩ := smallest_in x _ (i, j) rfl (mem_short.2 ⟨⟨hij, hj⟩, hg⟩)
   have hts := (mem_short.1 (List.mem_filter.1 ht).1).1
   refine h t ht ?_
   unfold lfQ
   have h1 : met x m t.1 t.2 = false := met_false.2 fun k h1 h2 => met_false.1 hm k (by simp at a1; omega) (by simp at a2; omega)
   rw [met_th hx hts.1 hts.2] at h1
   rw [h1]; rfl
  ·exact hg
 ·intro h s hs hq
  have hss := mem_short.1 (List.mem_filter.1 hs).1
  unfold lfQ at hq
  rw [← met_th hx hss.1.1 hss.1.2, Bool.not_eq_true'] at hq
  have := (h s.1 s.2 hss.1.1 hss.1.2).2 hq
  omega
theorem must_eq (hx : Ok x) (hw : fwOk x (whole x) = true) : P.must x = R.must x := by
 unfold P.must R.must P.mustTo R.mustTo
 refine List.filter_congr fun h _ => ?_
 rw [left_fw hx hw]
 rfl
/-! Lists of hands, and sets of hands. -/
theorem ones_sorted (n m : Nat) : (ones n m).Pairwise (· < ·) := by
 unfold ones
 exact List.Pairwise.filter _ List.pairwise_lt_range
theorem mem_ones {n m i : Nat} : i ∈ ones n m ↔ i < n ∧ m.testBit i = true := by unfold ones; simp
theorem set_bit (l : List Nat) (h : Nat) : (P.set l).testBit h = decide (h ∈ l) := by
 unfold P.set
 rw [orTo_bit, Bool.eq_iff_iff, anyTo_true, decide_eq_true_eq]
 constructor
 ·rintro ⟨k, hk, hb⟩
  unfold setF at hb
  rw [Nat.testBit_two_pow, decide_eq_true_eq, List.getD_eq_getElem?_getD, List.getElem?_eq_getElem hk] at hb
  rw [← hb]
  exact List.getElem_mem hk
 ·intro hm
  obtain ⟨k, hk, rfl⟩ := List.getElem_of_mem hm
  refine ⟨k, hk, ?_⟩
  unfold setF
  rw [Nat.testBit_two_pow, decide_eq_true_eq, List.getD_eq_getElem?_getD, List.getElem?_eq_getElem hk]
  rfl
theorem sorted_ext : ∀ {a b : List Nat}, a.Pairwise (· < ·) → b.Pairwise (· < ·) → (∀ i, i ∈ a ↔ i ∈ b) → a = b
 | [], [], _, _, _ => rfl
 | [], b :: b1, _, _, h => by have := (h b).2 (List.mem_cons_self ..); simp at this
 | a :: a1, [], _, _, h => by have := (h a).1 (List.mem_cons_self ..); simp at this
 | a :: a1, b :: b1, ha, hb, h => by
  rw [List.pairwise_cons] at ha hb
  have e : a = b := by
   have h1 := (h a).1 (List.mem_cons_self ..)
   have h2 := (h b).2 (List.mem_cons_self ..)
   rcases List.mem_cons.1 h1 with h1 | h1
   ·exact h1
   ·rcases List.mem_cons.1 h2 with h2 | h2
    ·exact h2.symm
    ·have := hb.1 a h1
     have := ha.1 b h2
     omega
  subst e
  rw [sorted_ext ha.2 hb.2 fun i => ?_]
  constructor
  ·intro hi
   have := ha.1 i hi
   rcases List.mem_cons.1 ((h i).1 (List.mem_cons_of_mem _ hi)) with h1 | h1
   ·omega
   ·exact h1
  ·intro hi
   have := hb.1 i hi
   rcases List.mem_cons.1 ((h i).2 (List.mem_cons_of_mem _ hi)) with h1 | h1
   ·omega
   ·exact h1
/-- An increasing list of hands. -/
def Inc (n a : Nat) (l : List Nat) : Prop := l.Pairwise (· < ·) ∧ ∀ i, i ∈ l → a ≤ i ∧ i < n
theorem ones_set {n : Nat} (hn : n ≤ 62) {l : List Nat} (h : Inc n 0 l) : ones 62 (P.set l) = l :=
 sorted_ext (ones_sorted _ _) h.1 fun i => by
  rw [mem_ones, set_bit, decide_eq_true_eq]
  exact ⟨fun h => h.2, fun hi => ⟨by have := (h.2 i hi).2; omega, hi⟩⟩
theorem set_ones {m n : Nat} (h : m < 2 ^ n) (hn : n ≤ 62) : P.set (ones 62 m) = m := by
 refine Nat.eq_of_testBit_eq fun i => ?_
 rw [set_bit, Bool.eq_iff_iff, decide_eq_true_eq, mem_ones]
 refine ⟨fun h => h.2, fun hb => ⟨?_, hb⟩⟩
 rcases Nat.lt_or_ge i 62 with h1 | h1
 ·exact h1
 ·have := Nat.testBit_lt_two_pow (Nat.lt_of_lt_of_le h (Nat.pow_le_pow_right (n := 2) (by omega) (show n ≤ i by omega)))
  rw [this] at hb; cases hb
/-- What pick finds: the first list in lexicographic order. -/
theorem pick_some {holds : List Nat → Bool} {n : Nat} : ∀ {r : Nat} {l : List Nat} {a : Nat} {out : List Nat}, P.pick holds n r l a = some out →
  ∃ t, out = l ++ t ∧ t.length = r ∧ Inc n a t ∧ holds out = true ∧ ∀ t', t'.length = r → Inc n a t' → holds (l ++ t') = true → lexB t' t = false
 | 0, l, a, out, h => by
  unfold P.pick at h
  split at h
  ·next hh =>
   obtain rfl := Option.some.inj h
   exact ⟨[], by simp, rfl, ⟨List.Pairwise.nil, fun i hi => by simp at hi⟩, hh, fun t' ht' _ _ => by
    obtain rfl := List.eq_nil_of_length_eq_zero ht'
    rfl⟩
  ·cases h
 | r+1, l, a, out, h => by
  unfold P.pick at h
  rw [List.findSome?_eq_some_iff] at h
  obtain ⟨l1, d, l2, hl, hp, hno⟩ := h
  have hdl : l1.length < n - a := by
   have := congrArg List.length hl
   simp at this; omega
  have hd : d = l1.length := by
   have h1 : (List.range (n - a))[l1.length]? = some d := by rw [hl]; simp
   rw [List.getElem?_range hdl] at h1
   exact (Option.some.inj h1).symm
  have hmem : ∀ e, e < d → e ∈ l1 := by
   intro e he
   have h1 : (List.range (n - a))[e]? = some e := List.getElem?_range (by omega)
   rw [hl, List.getElem?_append_left (by omega)] at h1
   exact List.mem_of_getElem? h1
  obtain ⟨t, h1, h2, h3, h4, h5⟩ := pick_some hp
  refine ⟨(a + d) :: t, by rw [h1]; simp, by simp [h2], ⟨?_, ?_⟩, h4, ?_⟩
  ·rw [List.pairwise_cons]
   exact ⟨fun i hi => by have := (h3.2 i hi).1; omega, h3.1⟩
  ·intro i hi
   rcases List.mem_cons.1 hi with rfl | hi
   ·omega
   ·have := h3.2 i hi; omega
  ·intro t' ht' hi' hh'
   match t', ht' with
   | e :: t', ht' =>
    have hb := hi'.2 e (List.mem_cons_self ..)
    have hpw := List.pairwise_cons.1 hi'.1
    have hinc : Inc n (e + 1) t' := ⟨hpw.2, fun i hi => ⟨by have := hpw.1 i hi; omega, (hi'.2 i (List.mem_cons_of_mem _ hi)).2⟩⟩
    unfold lexB
    by_cases he : e = a + d
    ·subst he
     rw [if_neg (by simp)]
     exact h5 t' (by simpa using ht') hinc (by simpa using hh')
    ·rw [if_pos he, decide_eq_false_iff_not]
     intro hlt
     have hno' := hno (e - a) (hmem _ (by omega))
     rw [show a + (e - a) = e by omega] at hno'
     have := pick_none' hno' t' (by simpa using ht') hinc
     rw [show l ++ [e] ++ t' = l ++ e :: t' by simp] at this
     rw [hh'] at this; cases this
where
 pick_none' {holds : List Nat → Bool} {n : Nat} : ∀ {r : Nat} {l : List Nat} {a : Nat}, P.pick holds n r l a = none → ∀ t', t'.length = r → Inc n a t' → holds (l ++ t') = false
 | 0, l, a, h, t', ht', _ => by
  obtain rfl := List.eq_nil_of_length_eq_zero ht'
  unfold P.pick at h
  cases hh : holds l
  ·simp [hh]
  ·rw [hh] at h; simp at h
 | r+1, l, a, h, t', ht', hi' => by
  unfold P.pick at h
  rw [List.findSome?_eq_none_iff] at h
  match t', ht' with
  | e :: t', ht' =>
   have hb := hi'.2 e (List.mem_cons_self ..)
   have hpw := List.pairwise_cons.1 hi'.1
   have h1 := h (e - a) (List.mem_range.2 (by omega))
   rw [show a + (e - a) = e by omega] at h1
   have := pick_none' h1 t' (by simpa using ht') ⟨hpw.2, fun i hi => ⟨by have := hpw.1 i hi; omega, (hi'.2 i (List.mem_cons_of_mem _ hi)).2⟩⟩
   rw [show l ++ [e] ++ t' = l ++ e :: t' by simp] at this
   exact this
theorem pick_none_all {holds : List Nat → Bool} {n r : Nat} {l : List Nat} {a : Nat} (h : P.pick holds n r l a = none) (t' : List Nat) (ht : t'.length = r) (hi : Inc n a t') : holds (l ++ t') = false := pick_some.pick_none' h t' ht hi
theorem inc_ones {m n : Nat} (h : m < 2 ^ n) (_hn : n ≤ 62) : Inc n 0 (ones 62 m) := by
 refine ⟨ones_sorted _ _, fun i hi => ⟨by omega, ?_⟩⟩
 have hb := (mem_ones.1 hi).2
 rcases Nat.lt_or_ge i n with h1 | h1
 ·exact h1
 ·have := Nat.testBit_lt_two_pow (Nat.lt_of_lt_of_le h (Nat.pow_le_pow_right (n := 2) (by omega) h1))
  rw [this] at hb; cases hb
theorem inc_len {n : Nat} : ∀ {l : List Nat} {a : Nat}, Inc n a l → l = [] ∨ l.length + a ≤ n
 | [], _, _ => .inl rfl
 | e :: t, a, h => by
  have hb := h.2 e (List.mem_cons_self ..)
  have hpw := List.pairwise_cons.1 h.1
  rcases inc_len (l := t) (a := e + 1) ⟨hpw.2, fun i hi => ⟨by have := hpw.1 i hi; omega, (h.2 i (List.mem_cons_of_mem _ hi)).2⟩⟩ with h1 | h1
  ·subst h1; right; simp; omega
  ·right; simp; omega
theorem inc_length {n : Nat} {l : List Nat} (h : Inc n 0 l) : l.length ≤ n := by
 rcases inc_len h with h | h
 ·subst h; simp
 ·omega
theorem set_lt {n : Nat} {l : List Nat} (h : Inc n 0 l) : P.set l < 2 ^ n := orTo_lt (n := n) _ fun k hk => by
 unfold setF
 rw [List.getD_eq_getElem?_getD, List.getElem?_eq_getElem hk]
 exact Nat.pow_lt_pow_right (by omega) (h.2 _ (List.getElem_mem hk)).2
/-- **The fewest hands are those that the reference finds.** -/
theorem fewest_eq (hx : Ok x) (hw : fwOk x (whole x) = true) : P.fewest x = R.fewest x := by
 have hhd := hx.hands
 have hW : whole x < 2 ^ x.hands.toNat := by have := Nat.two_pow_pos x.hands.toNat; unfold whole; omega
 have hH : x.hands.toNat ≤ 62 := by omega
 obtain ⟨r1, r2⟩ := few_spec x (whole x + 1)
 -- the reference's answer is a set that explains the watch
 obtain ⟨m, hmW, hmf, hme⟩ : ∃ m, m ≤ whole x ∧ fwOk x m = true ∧ R.fewest x = ones 62 m := by
  rcases r1 with r1 | ⟨m, h1, h2, h3⟩
  ·exact ⟨whole x, Nat.le_refl _, hw, r1⟩
  ·exact ⟨m, by omega, h2, h3⟩
 have hinc := inc_ones (n := x.hands.toNat) (Nat.lt_of_le_of_lt hmW hW) hH
 have hset := set_ones (n := x.hands.toNat) (Nat.lt_of_le_of_lt hmW hW) hH
 have hholds : ∀ l, holdsF x l = fwOk x (P.set l) := fun l => left_fw hx hw _
 unfold P.fewest
 cases hf : (List.range (x.hands.toNat + 1)).findSome? fun m => P.pick (holdsF x) x.hands.toNat m [] 0 with
 | none =>
  exfalso
  rw [List.findSome?_eq_none_iff] at hf
  have h1 := hf (ones 62 m).length (List.mem_range.2 (by have := inc_length hinc; omega))
  have := pick_none_all h1 (ones 62 m) rfl hinc
  rw [List.nil_append, hholds, hset, hmf] at this
  cases this
 | some out =>
  rw [List.findSome?_eq_some_iff] at hf
  obtain ⟨l1, d, l2, hl, hp, hno⟩ := hf
  have hdl : l1.length < x.hands.toNat + 1 := by
   have := congrArg List.length hl
   simp at this; omega
  have hd : d = l1.length := by
   have h1 : (List.range (x.hands.toNat + 1))[l1.length]? = some d := by rw [hl]; simp
   rw [List.getElem?_range hdl] at h1
   exact (Option.some.inj h1).symm
  have hmem : ∀ e, e < d → e ∈ l1 := by
   intro e he
   have h1 : (List.range (x.hands.toNat + 1))[e]? = some e := List.getElem?_range (by omega)
   rw [hl, List.getElem?_append_left (by omega)] at h1
   exact List.mem_of_getElem? h1
  obtain ⟨t, h1, h2, h3, h4, h5⟩ := pick_some hp
  rw [List.nil_append] at h1
  subst h1
  show out = R.fewest x
  rw [hme]
  refine ahead_total ?_ ?_
  ·have h6 := r2 (P.set out) (by have := set_lt h3; unfold whole; omega) (by rw [← hholds]; exact h4)
   rw [ones_set hH h3] at h6
   rw [← hme]; exact h6
  ·cases ha : aheadB (ones 62 m) out
   ·rfl
   ·exfalso
    unfold aheadB at ha
    by_cases e : (ones 62 m).length = out.length
    ·rw [if_neg (by simpa using e)] at ha
     have := h5 (ones 62 m) (by omega) hinc (by rw [List.nil_append, hholds, hset]; exact hmf)
     rw [ha] at this; cases this
    ·rw [if_pos e] at ha
     simp only [decide_eq_true_eq] at ha
     have h6 := hno _ (hmem (ones 62 m).length (by omega))
     have := pick_none_all h6 (ones 62 m) rfl hinc
     rw [List.nil_append, hholds, hset, hmf] at this
     cases this
end F
end HandSpec
namespace HandSpec
/-- A watch with the counts from one on. -/
def suf (x : WD) (k : Nat) : WD := { x with cn := x.cn - k, c := fun i j => x.c (k + i) j }
/-- A watch in which one count has a number of sacks. -/
def setc (x : WD) (k : Nat) (s : Int) : WD := { x with c := fun i j => if i = k ∧ j ≠ 0 then s else x.c i j }
theorem setc_hour (x : WD) (k : Nat) (s : Int) (i : Nat) : (setc x k s).c i 0 = x.c i 0 := by simp [setc]
theorem setc_at (x : WD) (k : Nat) (s : Int) {j : Nat} (hj : j ≠ 0) : (setc x k s).c k j = s := by simp [setc, hj]
theorem setc_ne (x : WD) {k i : Nat} (s : Int) (j : Nat) (hi : i ≠ k) : (setc x k s).c i j = x.c i j := by simp [setc, hi]
theorem suf_ok {x : WD} (h : Ok x) {k : Nat} (hk : k < x.cn) : Ok (suf x k) where
 hands := h.hands
 cn := by have := h.cn; show 1 ≤ x.cn - k ∧ x.cn - k ≤ 8; omega
 bn := h.bn
 sn := h.sn
 hours := h.hours
 allow := h.allow
 hour := fun i (hi : i < x.cn - k) => h.hour (k + i) (by omega)
 lo := fun i (hi : i < x.cn - k) => h.lo (k + i) (by omega)
 hi := fun i (hi : i < x.cn - k) => h.hi (k + i) (by omega)
 bhour := h.bhour
 bsack := h.bsack
 shand := h.shand
 le := fun i (hi : i < x.cn - k) => h.le (k + i) (by omega)
 inc := fun i (hi : i + 1 < x.cn - k) => h.inc (k + i) (by omega)
 bnz := h.bnz
 shour := h.shour
 sord := h.sord
theorem setc_ok {x : WD} (h : Ok x) (k : Nat) {s : Int} (hs : 0 ≤ s ∧ s ≤ 500) : Ok (setc x k s) where
 hands := h.hands
 cn := h.cn
 bn := h.bn
 sn := h.sn
 hours := h.hours
 allow := h.allow
 hour := fun i hi => by rw [setc_hour]; exact h.hour i hi
 lo := fun i hi => by
  by_cases e : i = k
  ·subst e; rw [setc_at x i s (by omega)]; exact hs
  ·rw [setc_ne x s 1 e]; exact h.lo i hi
 hi := fun i hi => by
  by_cases e : i = k
  ·subst e; rw [setc_at x i s (by omega)]; exact hs
  ·rw [setc_ne x s 2 e]; exact h.hi i hi
 bhour := h.bhour
 bsack := h.bsack
 shand := h.shand
 le := fun i hi => by
  by_cases e : i = k
  ·subst e; rw [setc_at x i s (by omega), setc_at x i s (by omega)]; exact Int.le_refl _
  ·rw [setc_ne x s 1 e, setc_ne x s 2 e]; exact h.le i hi
 inc := fun i hi => by rw [setc_hour, setc_hour]; exact h.inc i hi
 bnz := h.bnz
 shour := h.shour
 sord := h.sord
namespace R
theorem booked_setc (x : WD) (k : Nat) (s : Int) (a b : Nat) : booked (setc x k s) a b = booked x a b := by
 unfold booked bookf
 simp only [setc_hour]
 rfl
theorem al_setc (x : WD) (k : Nat) (s : Int) (a b : Nat) : al (setc x k s) a b = al x a b := by
 unfold al hours
 rw [setc_hour, setc_hour]; rfl
theorem can_setc (x : WD) (k : Nat) (s : Int) (m i : Nat) : can (setc x k s) m i = can x m i := by
 unfold can R.is isat isf
 simp only [setc_hour]
 rfl
theorem met_setc (x : WD) (k : Nat) (s : Int) (m a b : Nat) : met (setc x k s) m a b = met x m a b := by
 unfold met
 simp only [can_setc]
theorem booked_suf (x : WD) (k a b : Nat) : booked (suf x k) a b = booked x (k + a) (k + b) := rfl
theorem al_suf (x : WD) (k a b : Nat) : al (suf x k) a b = al x (k + a) (k + b) := rfl
theorem can_suf (x : WD) (k m i : Nat) : can (suf x k) m i = can x m (k + i) := by
 unfold can
 simp only [is_one]
 rfl
theorem met_suf (x : WD) (k m a b : Nat) : met (suf x k) m a b = met x m (k + a) (k + b) := by
 unfold met
 rw [show k + b - (k + a) = b - a by omega]
 simp only [can_suf, Nat.add_assoc]
/-- There is a truth from a count on, in which this one has a number of sacks. -/
def behind (x : WD) (k : Nat) (s : Int) : Bool := fwOk (setc (suf x k) 0 s) (whole x)
theorem behind_iff {x : WD} (hx : Ok x) (hw : fwOk x (whole x) = true) {k : Nat} (hk : k < x.cn) {s : Int} (hs : 0 ≤ s ∧ s ≤ 500) :
  behind x k s = true ↔ ∀ j, k < j → j < x.cn → x.c j 1 ≤ s + booked x k j ∧ (met x (whole x) k j = false → s + booked x k j - al x k j - x.c j 2 ≤ 0) := by
 have hT := (fwOk_iff hx (whole x)).1 hw
 unfold behind
 rw [fwOk_iff (setc_ok (suf_ok hx hk) 0 hs)]
 simp only [gap_al, booked_setc, al_setc, met_setc, booked_suf, al_suf, met_suf]
 constructor
 ·intro h j hj hjn
  have h1 := h 0 (j - k) (by omega) (show j - k < x.cn - k by omega)
  rw [setc_at _ 0 s (show (1 : Nat) ≠ 0 by omega), setc_at _ 0 s (show (2 : Nat) ≠ 0 by omega), setc_ne _ s 1 (show j - k ≠ 0 by omega), setc_ne _ s 2 (show j - k ≠ 0 by omega)] at h1
  have e : k + (j - k) = j := by omega
  have e1 : (suf x k).c (j - k) 1 = x.c j 1 := by show x.c (k + (j - k)) 1 = _; rw [e]
  have e2 : (suf x k).c (j - k) 2 = x.c j 2 := by show x.c (k + (j - k)) 2 = _; rw [e]
  rw [e1, e2, e, Nat.add_zero] at h1
  exact h1
 ·intro h i j hij hj
  have hj' : j < x.cn - k := hj
  rw [setc_ne _ s 1 (show j ≠ 0 by omega), setc_ne _ s 2 (show j ≠ 0 by omega)]
  have e1 : (suf x k).c j 1 = x.c (k + j) 1 := rfl
  have e2 : (suf x k).c j 2 = x.c (k + j) 2 := rfl
  rw [e1, e2]
  by_cases hi : i = 0
  ·subst hi
   rw [setc_at _ 0 s (show (1 : Nat) ≠ 0 by omega), setc_at _ 0 s (show (2 : Nat) ≠ 0 by omega)]
   exact h (k + j) (by omega) (by omega)
  ·rw [setc_ne _ s 1 hi, setc_ne _ s 2 hi]
   have := hT (k + i) (k + j) (by omega) (by omega)
   rw [gap_al] at this
   exact this
/-- The least that can lie there at a count, by it and what comes behind it. -/
def lowTo (x : WD) (k : Nat) : Nat → Int
 | 0 => x.c k 1
 | j+1 => if k < j then max (lowTo x k j) (x.c j 1 - booked x k j) else lowTo x k j
def low (x : WD) (k : Nat) : Int := lowTo x k x.cn
theorem lowTo_base (x : WD) (k : Nat) : ∀ n, x.c k 1 ≤ lowTo x k n
 | 0 => Int.le_refl _
 | n+1 => by
  have := lowTo_base x k n
  unfold lowTo
  split <;> omega
theorem lowTo_ge (x : WD) {k j : Nat} (hk : k < j) : ∀ {n}, j < n → x.c j 1 - booked x k j ≤ lowTo x k n
 | n+1, h => by
  unfold lowTo
  rcases Nat.lt_or_eq_of_le (Nat.le_of_lt_succ h) with h | h
  ·have := lowTo_ge x hk h
   split <;> omega
  ·subst h; rw [if_pos hk]; omega
theorem lowTo_at (x : WD) (k : Nat) : ∀ n, lowTo x k n = x.c k 1 ∨ ∃ j, k < j ∧ j < n ∧ lowTo x k n = x.c j 1 - booked x k j
 | 0 => .inl rfl
 | n+1 => by
  have ih := lowTo_at x k n
  unfold lowTo
  split
  ·next hc =>
   by_cases h : lowTo x k n ≤ x.c n 1 - booked x k n
   ·exact .inr ⟨n, hc, by omega, by omega⟩
   ·rw [show max (lowTo x k n) (x.c n 1 - booked x k n) = lowTo x k n by omega]
    rcases ih with h1 | ⟨j, h1, h2, h3⟩
    ·exact .inl h1
    ·exact .inr ⟨j, h1, by omega, h3⟩
  ·rcases ih with h1 | ⟨j, h1, h2, h3⟩
   ·exact .inl h1
   ·exact .inr ⟨j, h1, by omega, h3⟩
theorem low_bd {x : WD} (hx : Ok x) (hw : fwOk x (whole x) = true) {k : Nat} (hk : k < x.cn) : x.c k 1 ≤ low x k ∧ low x k ≤ x.c k 2 := by
 have hT := (fwOk_iff hx (whole x)).1 hw
 refine ⟨lowTo_base x k _, ?_⟩
 unfold low
 rcases lowTo_at x k x.cn with h | ⟨j, h1, h2, h3⟩
 ·rw [h]; exact hx.le k hk
 ·have := (hT k j h1 h2).1
  omega
/-- The reference's search finds this least. -/
theorem behind_eq {x : WD} (hx : Ok x) (hw : fwOk x (whole x) = true) {k : Nat} (hk : k < x.cn) {s : Int} (h1 : x.c k 1 ≤ s) (h2 : s ≤ low x k) : behind x k s = decide (s = low x k) := by
 have hT := (fwOk_iff hx (whole x)).1 hw
 obtain ⟨b1, b2⟩ := low_bd hx hw hk
 have a1 := hx.lo k hk
 have a2 := hx.hi k hk
 rw [Bool.eq_iff_iff, decide_eq_true_eq, behind_iff hx hw hk ⟨by omega, by omega⟩]
 constructor
 ·intro h
  have : low x k ≤ s := by
   unfold low
   rcases lowTo_at x k x.cn with q | ⟨j, q1, q2, q3⟩
   ·omega
   ·have := (h j q1 q2).1; omega
  omega
 ·intro h j hj hjn
  refine ⟨?_, fun hm => ?_⟩
  ·have := lowTo_ge x hj hjn
   have e : low x k = lowTo x k x.cn := rfl
   omega
  ·have hal := al_nonneg hx (Nat.le_of_lt hj) hjn
   rw [h]
   unfold low
   rcases lowTo_at x k x.cn with q | ⟨i, q1, q2, q3⟩
   ·have := (hT k j hj hjn).2 hm
    rw [gap_al] at this
    omega
   ·rcases Nat.lt_trichotomy i j with c | c | c
    ·have := (hT i j c hjn).2 (met_false.2 fun q a b => met_false.1 hm q (by omega) b)
     rw [gap_al] at this
     have e1 := booked_add hx (Nat.le_of_lt q1) (Nat.le_of_lt c) hjn
     have e2 := al_add x k i j
     have e3 := al_nonneg hx (Nat.le_of_lt q1) q2
     omega
    ·subst c
     have := hx.le i hjn
     omega
    ·have := (hT j i c q2).1
     have e1 := booked_add hx (Nat.le_of_lt hj) (Nat.le_of_lt c) q2
     omega
/-- A hand can have taken something in one of the first intervals. -/
def canQ (x : WD) (i : Nat) : Bool := decide (1 ≤ (fw x (whole x) i).2 + booked x i (i+1) - low x (i+1))
def canTo (x : WD) (n h : Nat) : Bool := anyTo (fun i => canQ x i && R.is x i (i+1) (h : Int)) n
def canL (x : WD) (n : Nat) : List Nat := (List.range n).filter (canTo x (x.cn - 1))
def can' (x : WD) : List Nat := canL x x.hands.toNat
theorem canL_succ (x : WD) (n : Nat) : canL x (n+1) = canL x n ++ if canTo x (x.cn - 1) n then [n] else [] := by
 unfold canL
 rw [List.range_succ, List.filter_append]
 by_cases h : canTo x (x.cn - 1) n <;> simp [h]
theorem canL_length (x : WD) (n : Nat) : (canL x n).length ≤ n := Nat.le_trans (List.length_filter_le _ _) (by simp)
end R
namespace P
/-- The most and the least round an interval, by the first counts. -/
def hiTo (x : WD) (i : Nat) : Nat → Int
 | 0 => x.c i 2
 | j+1 => if j < i then min (hiTo x i j) (x.c j 2 + books x j i) else hiTo x i j
def loTo (x : WD) (i : Nat) : Nat → Int
 | 0 => x.c (i+1) 1
 | j+1 => if i + 1 < j then max (loTo x i j) (x.c j 1 - books x (i+1) j) else loTo x i j
def slack (x : WD) (i : Nat) : Int := hiTo x i x.cn + sm x i - loTo x i x.cn
def canM (x : WD) : Nat → Nat
 | 0 => 0
 | k+1 => if 0 < slack x k then canM x k ||| th x k (k+1) else canM x k
def can (x : WD) : List Nat := ones 62 (canM x (x.cn - 1))
theorem hiTo_le (x : WD) (i : Nat) : ∀ n, hiTo x i n ≤ x.c i 2
 | 0 => Int.le_refl _
 | n+1 => by
  have := hiTo_le x i n
  unfold hiTo
  split <;> omega
theorem hiTo_ge (x : WD) {i j : Nat} (hj : j < i) : ∀ {n}, j < n → hiTo x i n ≤ x.c j 2 + books x j i
 | n+1, h => by
  unfold hiTo
  rcases Nat.lt_or_eq_of_le (Nat.le_of_lt_succ h) with h | h
  ·have := hiTo_ge x hj h
   split <;> omega
  ·subst h; rw [if_pos hj]; omega
theorem hiTo_at (x : WD) (i : Nat) : ∀ n, hiTo x i n = x.c i 2 ∨ ∃ j, j < i ∧ j < n ∧ hiTo x i n = x.c j 2 + books x j i
 | 0 => .inl rfl
 | n+1 => by
  have ih := hiTo_at x i n
  unfold hiTo
  split
  ·next hc =>
   by_cases h : x.c n 2 + books x n i ≤ hiTo x i n
   ·exact .inr ⟨n, hc, by omega, by omega⟩
   ·rw [show min (hiTo x i n) (x.c n 2 + books x n i) = hiTo x i n by omega]
    rcases ih with h1 | ⟨j, h1, h2, h3⟩
    ·exact .inl h1
    ·exact .inr ⟨j, h1, by omega, h3⟩
  ·rcases ih with h1 | ⟨j, h1, h2, h3⟩
   ·exact .inl h1
   ·exact .inr ⟨j, h1, by omega, h3⟩
theorem hi_fw {x : WD} (hx : Ok x) (m : Nat) {i : Nat} (hi : i < x.cn) : hiTo x i x.cn = (R.fw x m i).2 := by
 obtain ⟨h1, j, h2, h3⟩ := R.fw_hi hx m i hi
 refine Int.le_antisymm ?_ ?_
 ·rw [h3]
  rcases Nat.lt_or_eq_of_le h2 with h | rfl
  ·have := hiTo_ge x h (n := x.cn) (by omega)
   rw [books_eq hx (Nat.le_of_lt h) hi] at this
   exact this
  ·rw [R.booked_self, Int.add_zero]; exact hiTo_le x j _
 ·rcases hiTo_at x i x.cn with h | ⟨k, a1, a2, a3⟩
  ·have := h1 i (Nat.le_refl _)
   rw [R.booked_self] at this
   omega
  ·rw [a3, books_eq hx (Nat.le_of_lt a1) hi]
   exact h1 k (Nat.le_of_lt a1)
theorem lo_low {x : WD} (hx : Ok x) {i : Nat} : ∀ n, n ≤ x.cn → loTo x i n = R.lowTo x (i+1) n
 | 0, _ => rfl
 | n+1, h => by
  unfold loTo R.lowTo
  rw [lo_low hx n (by omega)]
  by_cases hc : i + 1 < n
  ·rw [if_pos hc, if_pos hc, books_eq hx (Nat.le_of_lt hc) (by omega)]
  ·rw [if_neg hc, if_neg hc]
theorem slack_eq {x : WD} (hx : Ok x) {i : Nat} (hi : i + 1 < x.cn) : slack x i = (R.fw x (R.whole x) i).2 + R.booked x i (i+1) - R.low x (i+1) := by
 unfold slack R.low
 rw [hi_fw hx (R.whole x) (show i < x.cn by omega), lo_low hx x.cn (Nat.le_refl _)]
 unfold sm
 rw [if_pos hi]
theorem canM_lt {x : WD} (hx : Ok x) : ∀ k, canM x k < 2 ^ x.hands.toNat
 | 0 => Nat.two_pow_pos _
 | k+1 => by
  unfold canM
  split
  ·exact Nat.or_lt_two_pow (canM_lt hx k) (th_lt' hx k (k+1))
  ·exact canM_lt hx k
theorem canM_bit {x : WD} (hx : Ok x) (h : Nat) : ∀ k, k ≤ x.cn - 1 → (canM x k).testBit h = R.canTo x k h
 | 0, _ => by simp [canM, R.canTo, anyTo]
 | k+1, hk => by
  have ih := canM_bit hx h k (by omega)
  have e := slack_eq hx (i := k) (by omega)
  have hb := th_bit hx (a := k) (b := k+1) (by omega) (by omega) h
  have e2 : R.canTo x (k+1) h = (R.canTo x k h || (R.canQ x k && R.is x k (k+1) (h : Int))) := rfl
  rw [e2]
  unfold canM R.canQ
  rw [← e]
  by_cases hc : 0 < slack x k
  ·rw [if_pos hc, Nat.testBit_or, ih, hb, decide_eq_true (show 1 ≤ slack x k by omega), Bool.true_and]
  ·rw [if_neg hc, ih, decide_eq_false (show ¬ 1 ≤ slack x k by omega), Bool.false_and, Bool.or_false]
theorem books_bd {x : WD} (hx : Ok x) (a b : Nat) (hb : b < x.cn) : -16000 ≤ books x a b ∧ books x a b ≤ 16000 := books_bound hx a (b - a) (by have := hx.cn; omega)
theorem hiTo_bd {x : WD} (hx : Ok x) {i : Nat} (hi : i < x.cn) {n : Nat} (_hn : n ≤ x.cn) : -16000 ≤ hiTo x i n ∧ hiTo x i n ≤ 500 := by
 have h1 := hiTo_le x i n
 have h2 := hx.hi i hi
 rcases hiTo_at x i n with h | ⟨j, a, b, h⟩
 ·omega
 ·have h3 := hx.hi j (by omega)
  have h4 := books_bd hx j i hi
  omega
theorem loTo_bd {x : WD} (hx : Ok x) {i : Nat} (hi : i + 1 < x.cn) : ∀ n, n ≤ x.cn → 0 ≤ loTo x i n ∧ loTo x i n ≤ 16500
 | 0, _ => by have := hx.lo (i+1) hi; unfold loTo; omega
 | n+1, hn => by
  have ih := loTo_bd hx hi n (by omega)
  have h3 := hx.lo n (by omega)
  have h4 := books_bd hx (i+1) n (by omega)
  unfold loTo
  split <;> omega
theorem canM_lt64 {x : WD} (hx : Ok x) (k : Nat) : canM x k < 64 := by
 have hhd := hx.hands
 exact Nat.lt_of_lt_of_le (canM_lt hx k) (Nat.pow_le_pow_right (n := 2) (by omega) (show x.hands.toNat ≤ 6 by omega))
/-- **Those that can have taken something are those that the reference finds.** -/
theorem can_eq {x : WD} (hx : Ok x) : can x = R.can' x := by
 have hhd := hx.hands
 unfold can R.can' R.canL
 rw [ones_of (k := 62) (N := x.hands.toNat) (Nat.lt_of_lt_of_le (canM_lt hx _) (Nat.pow_le_pow_right (by omega) (by omega))) (canM_lt hx _)]
 unfold ones
 exact List.filter_congr fun h _ => canM_bit hx h _ (Nat.le_refl _)
end P
end HandSpec
namespace HandSpec
namespace P
/-- No hand is there in two of some stretches of a list. -/
def apOk (x : WD) (l : List (Nat × Nat)) : Nat → List Nat → Bool
 | _, [] => true
 | m, i :: t => if m &&& th x (nth l i).1 (nth l i).2 ≠ 0 then false else apOk x l (m ||| th x (nth l i).1 (nth l i).2) t
def apartI (x : WD) (l : List (Nat × Nat)) : List Nat := ((List.range l.length).findSome? fun j => pick (apOk x l 0) l.length (l.length - j) [] 0).getD []
def apart (x : WD) : List (Nat × Nat) := (apartI x (smallest x)).map (nth (smallest x))
theorem apOk_iff {x : WD} {l : List (Nat × Nat)} : ∀ {s : List Nat} {m : Nat}, apOk x l m s = true ↔ (∀ i, i ∈ s → m &&& th x (nth l i).1 (nth l i).2 = 0) ∧ s.Pairwise fun i j => th x (nth l i).1 (nth l i).2 &&& th x (nth l j).1 (nth l j).2 = 0
 | [], m => by simp [apOk]
 | i :: t, m => by
  unfold apOk
  by_cases h : m &&& th x (nth l i).1 (nth l i).2 = 0
  ·rw [if_neg (by simpa using h), apOk_iff (s := t), List.pairwise_cons]
   constructor
   ·rintro ⟨h1, h2⟩
    have h3 : ∀ j, j ∈ t → m &&& th x (nth l j).1 (nth l j).2 = 0 ∧ th x (nth l i).1 (nth l i).2 &&& th x (nth l j).1 (nth l j).2 = 0 := fun j hj => by
     have := h1 j hj
     rw [Nat.and_or_distrib_right] at this
     exact Nat.or_eq_zero_iff.1 this
    refine ⟨fun j hj => ?_, fun j hj => (h3 j hj).2, h2⟩
    rcases List.mem_cons.1 hj with rfl | hj
    ·exact h
    ·exact (h3 j hj).1
   ·rintro ⟨h1, h2, h3⟩
    refine ⟨fun j hj => ?_, h3⟩
    rw [Nat.and_or_distrib_right]
    exact Nat.or_eq_zero_iff.2 ⟨h1 j (List.mem_cons_of_mem _ hj), h2 j hj⟩
  ·rw [if_pos h]
   constructor
   ·intro q; cases q
   ·rintro ⟨h1, -⟩
    exact absurd (h1 i (List.mem_cons_self ..)) h
end P
namespace R
/-- In how many of some stretches of a list a hand is there. -/
def apF (x : WD) (l : List (Nat × Nat)) (s : List Nat) (h k : Nat) : Bool := R.is x (nth l (s.getD k 0)).1 (nth l (s.getD k 0)).2 (h : Int)
def apQ (x : WD) (l : List (Nat × Nat)) (s : List Nat) (h : Nat) : Bool := decide (1 < cntTo (apF x l s h) s.length)
def apOk (x : WD) (l : List (Nat × Nat)) (s : List Nat) : Bool := !anyTo (apQ x l s) x.hands.toNat
/-- The second list has more, or as many and is first. -/
def apB (b s : List Nat) : Bool := decide (b.length < s.length) || (decide (s.length = b.length) && aheadB s b)
def ap (x : WD) (l : List (Nat × Nat)) : Nat → List Nat
 | 0 => []
 | k+1 => if apOk x l (ones 62 k) && apB (ap x l k) (ones 62 k) then ones 62 k else ap x l k
def apart (x : WD) : List (Nat × Nat) := (ap x (smallest x) (2 ^ (smallest x).length)).map (nth (smallest x))
theorem apB_irrefl (s : List Nat) : apB s s = false := by
 unfold apB aheadB
 rw [if_neg (by simp), lexB_irrefl]
 simp
theorem apB_iff {b s : List Nat} : apB b s = true ↔ b.length < s.length ∨ (s.length = b.length ∧ aheadB s b = true) := by
 unfold apB
 rw [Bool.or_eq_true, Bool.and_eq_true, decide_eq_true_eq, decide_eq_true_eq]
theorem apB_trans {a b c : List Nat} (h1 : apB a b = true) (h2 : apB b c = true) : apB a c = true := by
 rw [apB_iff] at *
 rcases h1 with h1 | ⟨h1, h3⟩ <;> rcases h2 with h2 | ⟨h2, h4⟩
 ·exact .inl (by omega)
 ·exact .inl (by omega)
 ·exact .inl (by omega)
 ·exact .inr ⟨by omega, ahead_trans h4 h3⟩
theorem ap_spec (x : WD) (l : List (Nat × Nat)) : ∀ k, (ap x l k = [] ∨ ∃ m, m < k ∧ apOk x l (ones 62 m) = true ∧ ap x l k = ones 62 m) ∧ ∀ m, m < k → apOk x l (ones 62 m) = true → apB (ap x l k) (ones 62 m) = false
 | 0 => ⟨.inl rfl, fun m hm => absurd hm (by omega)⟩
 | k+1 => by
  obtain ⟨h1, h2⟩ := ap_spec x l k
  unfold ap
  by_cases hc : (apOk x l (ones 62 k) && apB (ap x l k) (ones 62 k)) = true
  ·rw [if_pos hc]
   rw [Bool.and_eq_true] at hc
   refine ⟨.inr ⟨k, by omega, hc.1, rfl⟩, fun m hm hf => ?_⟩
   rcases Nat.lt_or_eq_of_le (Nat.le_of_lt_succ hm) with h | h
   ·cases ha : apB (ones 62 k) (ones 62 m)
    ·rfl
    ·have := apB_trans hc.2 ha
     rw [h2 m h hf] at this; cases this
   ·subst h; exact apB_irrefl _
  ·rw [if_neg hc]
   refine ⟨?_, fun m hm hf => ?_⟩
   ·rcases h1 with h1 | ⟨m, hm, h3, h4⟩
    ·exact .inl h1
    ·exact .inr ⟨m, by omega, h3, h4⟩
   ·rcases Nat.lt_or_eq_of_le (Nat.le_of_lt_succ hm) with h | h
    ·exact h2 m h hf
    ·subst h
     cases ha : apB (ap x l m) (ones 62 m)
     ·rfl
     ·exact absurd (by rw [hf, ha]; rfl) hc
theorem ap_length (x : WD) (l : List (Nat × Nat)) (k : Nat) : (ap x l k).length ≤ 62 := by
 rcases (ap_spec x l k).1 with h | ⟨m, _, _, h⟩
 ·rw [h]; simp
 ·rw [h]; exact ones_length _ _
end R
theorem stretches_len {n : Nat} (h : n ≤ 8) : (stretches n).length ≤ 28 := by
 have : ∀ n, n < 9 → (stretches n).length ≤ 28 := by decide
 exact this n (by omega)
theorem short_len {x : WD} (hx : Ok x) : (R.short x).length ≤ 28 := Nat.le_trans (List.length_filter_le _ _) (stretches_len hx.cn.2)
theorem smallest_len {x : WD} (hx : Ok x) : (R.smallest x).length ≤ 28 := Nat.le_trans (R.smallTo_length _ _) (short_len hx)
namespace F
open R P L
variable {x : WD}
theorem th_disj (hx : Ok x) {a b c d : Nat} (h1 : a < b) (h2 : b < x.cn) (h3 : c < d) (h4 : d < x.cn) : th x a b &&& th x c d = 0 ↔ ∀ h : Nat, h < x.hands.toNat → ¬ (R.is x a b h = true ∧ R.is x c d h = true) := by
 constructor
 ·intro h k _ hk
  have := congrArg (·.testBit k) h
  simp only [Nat.testBit_and, Nat.zero_testBit, th_bit hx h1 h2, th_bit hx h3 h4] at this
  rw [hk.1, hk.2] at this; cases this
 ·intro h
  refine Nat.eq_of_testBit_eq fun k => ?_
  rw [Nat.testBit_and, Nat.zero_testBit]
  rcases Nat.lt_or_ge k x.hands.toNat with hk | hk
  ·rw [th_bit hx h1 h2, th_bit hx h3 h4]
   have := h k hk
   cases e : R.is x a b k
   ·rfl
   ·cases e2 : R.is x c d k
    ·rfl
    ·exact absurd ⟨e, e2⟩ this
  ·rw [Nat.testBit_lt_two_pow (Nat.lt_of_lt_of_le (th_lt' hx a b) (Nat.pow_le_pow_right (by omega) hk))]; rfl
/-- Both ways to see whether stretches are apart agree. -/
theorem apOk_eq (hx : Ok x) {l : List (Nat × Nat)} (hl : ∀ s, s ∈ l → s.1 < s.2 ∧ s.2 < x.cn) {s : List Nat} (hs : ∀ i, i ∈ s → i < l.length) : P.apOk x l 0 s = R.apOk x l s := by
 have hn : ∀ k, k < s.length → (nth l (s.getD k 0)).1 < (nth l (s.getD k 0)).2 ∧ (nth l (s.getD k 0)).2 < x.cn := fun k hk => by
  have h1 := hs s[k] (List.getElem_mem hk)
  rw [List.getD_eq_getElem?_getD, List.getElem?_eq_getElem hk]
  simp only [Option.getD_some]
  rw [nth_get l h1]
  exact hl _ (List.getElem_mem h1)
 rw [Bool.eq_iff_iff, P.apOk_iff]
 unfold R.apOk
 rw [Bool.not_eq_true', anyTo_false, List.pairwise_iff_getElem]
 constructor
 ·rintro ⟨-, h⟩ q hq
  unfold apQ
  rw [decide_eq_false_iff_not, cntTo_two]
  rintro ⟨k, hk, e1, j, hj, e2⟩
  have h1 := h j k (by omega) hk hj
  have g1 := hn j (by omega)
  have g2 := hn k hk
  unfold apF at e1 e2
  rw [List.getD_eq_getElem?_getD, List.getElem?_eq_getElem hk] at e1 g2
  rw [List.getD_eq_getElem?_getD, List.getElem?_eq_getElem (show j < s.length by omega)] at e2 g1
  exact (th_disj hx g1.1 g1.2 g2.1 g2.2).1 h1 q hq ⟨e2, e1⟩
 ·intro h
  refine ⟨fun i _ => Nat.zero_and _, fun j k hj hk hjk => ?_⟩
  have g1 := hn j hj
  have g2 := hn k hk
  rw [List.getD_eq_getElem?_getD, List.getElem?_eq_getElem hk] at g2
  rw [List.getD_eq_getElem?_getD, List.getElem?_eq_getElem hj] at g1
  refine (th_disj hx g1.1 g1.2 g2.1 g2.2).2 fun q hq hc => ?_
  have := h q hq
  unfold apQ at this
  rw [decide_eq_false_iff_not, cntTo_two] at this
  refine this ⟨k, hk, ?_, j, hjk, ?_⟩
  ·unfold apF
   rw [List.getD_eq_getElem?_getD, List.getElem?_eq_getElem hk]
   exact hc.2
  ·unfold apF
   rw [List.getD_eq_getElem?_getD, List.getElem?_eq_getElem hj]
   exact hc.1
theorem apI_eq (hx : Ok x) {l : List (Nat × Nat)} (hl : ∀ s, s ∈ l → s.1 < s.2 ∧ s.2 < x.cn) (hn : l.length ≤ 62) : P.apartI x l = R.ap x l (2 ^ l.length) := by
 obtain ⟨r1, r2⟩ := ap_spec x l (2 ^ l.length)
 have hP : ∀ s : List Nat, Inc l.length 0 s → P.apOk x l 0 s = R.apOk x l s := fun s hs => apOk_eq hx hl fun i hi => (hs.2 i hi).2
 unfold P.apartI
 cases hf : (List.range l.length).findSome? fun j => P.pick (P.apOk x l 0) l.length (l.length - j) [] 0 with
 | none =>
  rw [List.findSome?_eq_none_iff] at hf
  rcases r1 with r1 | ⟨m, h1, h2, h3⟩
  ·rw [r1]; rfl
  ·have hinc := inc_ones h1 hn
   have hle := inc_length hinc
   rcases Nat.eq_zero_or_pos (ones 62 m).length with h0 | h0
   ·rw [h3, List.eq_nil_of_length_eq_zero h0]; rfl
   ·exfalso
    have h4 := hf (l.length - (ones 62 m).length) (List.mem_range.2 (by omega))
    rw [show l.length - (l.length - (ones 62 m).length) = (ones 62 m).length by omega] at h4
    have := pick_none_all h4 (ones 62 m) rfl hinc
    rw [List.nil_append, hP _ hinc, h2] at this
    cases this
 | some out =>
  rw [List.findSome?_eq_some_iff] at hf
  obtain ⟨l1, d, l2, hl', hp, hno⟩ := hf
  have hdl : l1.length < l.length := by
   have := congrArg List.length hl'
   simp at this; omega
  have hd : d = l1.length := by
   have h1 : (List.range l.length)[l1.length]? = some d := by rw [hl']; simp
   rw [List.getElem?_range hdl] at h1
   exact (Option.some.inj h1).symm
  have hmem : ∀ e, e < d → e ∈ l1 := by
   intro e he
   have h1 : (List.range l.length)[e]? = some e := List.getElem?_range (by omega)
   rw [hl', List.getElem?_append_left (by omega)] at h1
   exact List.mem_of_getElem? h1
  obtain ⟨t, h1, h2, h3, h4, h5⟩ := pick_some hp
  rw [List.nil_append] at h1
  subst h1
  show out = _
  have h6 := r2 (P.set out) (set_lt h3) (by rw [ones_set hn h3, ← hP _ h3]; exact h4)
  rw [ones_set hn h3] at h6
  rcases r1 with r1 | ⟨m, q1, q2, q3⟩
  ·exfalso
   rw [r1] at h6
   have : apB [] out = true := apB_iff.2 (.inl (by show 0 < out.length; omega))
   rw [h6] at this; cases this
  ·have hinc := inc_ones q1 hn
   have hle := inc_length hinc
   rw [q3] at h6 ⊢
   have h7 : (ones 62 m).length ≤ out.length := by
    rcases Nat.lt_or_ge out.length (ones 62 m).length with h | h
    ·exfalso
     have h8 := hno (l.length - (ones 62 m).length) (hmem _ (by omega))
     rw [show l.length - (l.length - (ones 62 m).length) = (ones 62 m).length by omega] at h8
     have := pick_none_all h8 (ones 62 m) rfl hinc
     rw [List.nil_append, hP _ hinc, q2] at this
     cases this
    ·exact h
   have h8 : out.length = (ones 62 m).length := by
    rcases Nat.lt_or_ge (ones 62 m).length out.length with h | h
    ·exfalso
     have : apB (ones 62 m) out = true := apB_iff.2 (.inl h)
     rw [h6] at this; cases this
    ·omega
   refine ahead_total ?_ ?_
   ·cases ha : aheadB out (ones 62 m)
    ·rfl
    ·have : apB (ones 62 m) out = true := apB_iff.2 (.inr ⟨h8, ha⟩)
     rw [h6] at this; cases this
   ·unfold aheadB
    rw [if_neg (by simpa using h8.symm)]
    exact h5 (ones 62 m) (by omega) hinc (by rw [List.nil_append, hP _ hinc]; exact q2)
theorem apart_eq (hx : Ok x) (hs : P.smallest x = R.smallest x) : P.apart x = R.apart x := by
 unfold P.apart R.apart
 rw [hs, apI_eq hx (fun s h => ?_) (Nat.le_trans (smallest_len hx) (by omega))]
 rw [← hs] at h
 exact (mem_short.1 (List.mem_filter.1 h).1).1
end F
end HandSpec
namespace HandSpec
theorem stretches_nodup {n : Nat} (h : n ≤ 8) : (stretches n).Pairwise (· ≠ ·) := by
 have : ∀ n, n < 9 → (stretches n).Pairwise (· ≠ ·) := by decide
 exact this n (by omega)
theorem short_ne {x : WD} (hx : Ok x) {i k : Nat} (hi : i < (R.short x).length) (hk : k < (R.short x).length) (h : k ≠ i) : nth (R.short x) k ≠ nth (R.short x) i := by
 have hp : (R.short x).Pairwise (· ≠ ·) := List.Pairwise.filter _ (stretches_nodup hx.cn.2)
 rw [List.pairwise_iff_getElem] at hp
 rw [nth_get _ hi, nth_get _ hk]
 rcases Nat.lt_or_gt_of_ne h with h | h
 ·exact hp k i hk hi h
 ·exact (hp i k hi hk h).symm
theorem filter_nth {l : List (Nat × Nat)} {p : Nat → Bool} {q : Nat × Nat → Bool} (h : ∀ i, i < l.length → p i = q (nth l i)) : ((List.range l.length).filter p).map (nth l) = l.filter q := by
 have e : l = (List.range l.length).map (nth l) := by
  refine List.ext_getElem (by simp) fun i h1 h2 => ?_
  simp [nth_get l h1]
 have e2 : l.filter q = ((List.range l.length).map (nth l)).filter q := by rw [← e]
 rw [e2, List.filter_map]
 congr 1
 exact List.filter_congr fun i hi => h i (List.mem_range.1 hi)
theorem inner_eq {x : WD} (hx : Ok x) {i k : Nat} (hi : i < (R.short x).length) (hk : k < (R.short x).length) : R.inner (R.short x) i k = P.innerB (nth (R.short x) i) (nth (R.short x) k) := by
 unfold R.inner P.innerB
 by_cases e : k = i
 ·subst e; simp
 ·rw [decide_eq_true e, decide_eq_true (short_ne hx hi hk e), Bool.eq_iff_iff]
  simp
theorem smallest_eq {x : WD} (hx : Ok x) : P.smallest x = R.smallest x := by
 unfold P.smallest R.smallest R.smallTo
 refine (filter_nth fun i hi => ?_).symm
 unfold R.isSm P.smQ
 rw [Bool.eq_iff_iff, Bool.not_eq_true', Bool.not_eq_true', anyTo_false, List.any_eq_false]
 constructor
 ·intro h u hu
  obtain ⟨k, hk, rfl⟩ := List.getElem_of_mem hu
  rw [← nth_get _ hk, ← inner_eq hx hi hk, h k hk]
  simp
 ·intro h k hk
  rw [inner_eq hx hi hk]
  have := h (nth (R.short x) k) (by rw [nth_get _ hk]; exact List.getElem_mem hk)
  simpa using this
end HandSpec
namespace HandSpec
namespace R
/-- There is a truth in which a count has a number of sacks. -/
def fixed (x : WD) (k : Nat) (s : Int) : Bool := fwOk (setc x k s) (whole x)
theorem fixed_iff {x : WD} (hx : Ok x) (hw : fwOk x (whole x) = true) {k : Nat} (hk : k < x.cn) {s : Int} (hs : 0 ≤ s ∧ s ≤ 500) :
  fixed x k s = true ↔ (∀ j, k < j → j < x.cn → x.c j 1 ≤ s + booked x k j ∧ (met x (whole x) k j = false → s + booked x k j - al x k j - x.c j 2 ≤ 0)) ∧
   ∀ i, i < k → s ≤ x.c i 2 + booked x i k ∧ (met x (whole x) i k = false → x.c i 1 + booked x i k - al x i k - s ≤ 0) := by
 have hT := (fwOk_iff hx (whole x)).1 hw
 unfold fixed
 rw [fwOk_iff (setc_ok hx k hs)]
 simp only [gap_al, booked_setc, al_setc, met_setc]
 constructor
 ·intro h
  refine ⟨fun j hj hjn => ?_, fun i hi => ?_⟩
  ·have h1 := h k j hj hjn
   rw [setc_at x k s (show (1 : Nat) ≠ 0 by omega), setc_at x k s (show (2 : Nat) ≠ 0 by omega), setc_ne x s 1 (show j ≠ k by omega), setc_ne x s 2 (show j ≠ k by omega)] at h1
   exact h1
  ·have h1 := h i k hi hk
   rw [setc_at x k s (show (1 : Nat) ≠ 0 by omega), setc_at x k s (show (2 : Nat) ≠ 0 by omega), setc_ne x s 1 (show i ≠ k by omega), setc_ne x s 2 (show i ≠ k by omega)] at h1
   exact h1
 ·rintro ⟨h1, h2⟩ i j hij hj
  have hj' : j < x.cn := hj
  by_cases hi : i = k
  ·subst hi
   rw [setc_at x i s (show (1 : Nat) ≠ 0 by omega), setc_at x i s (show (2 : Nat) ≠ 0 by omega), setc_ne x s 1 (show j ≠ i by omega), setc_ne x s 2 (show j ≠ i by omega)]
   exact h1 j hij hj'
  ·rw [setc_ne x s 1 hi, setc_ne x s 2 hi]
   by_cases hjk : j = k
   ·subst hjk
    rw [setc_at x j s (show (1 : Nat) ≠ 0 by omega), setc_at x j s (show (2 : Nat) ≠ 0 by omega)]
    exact h2 i hij
   ·rw [setc_ne x s 1 hjk, setc_ne x s 2 hjk]
    have := hT i j hij hj'
    rw [gap_al] at this
    exact this
end R
namespace P
/-- The least and the greatest number of sacks of a count, by the first counts. -/
def wLo (x : WD) (k : Nat) : Nat → Int
 | 0 => x.c k 1
 | i+1 => if i < k then (if th x i k = 0 then max (wLo x k i) (x.c i 1 + books x i k - x.allow * (x.c k 0 - x.c i 0)) else wLo x k i)
  else if k < i then max (wLo x k i) (x.c i 1 - books x k i) else wLo x k i
def wHi (x : WD) (k : Nat) : Nat → Int
 | 0 => x.c k 2
 | i+1 => if i < k then min (wHi x k i) (x.c i 2 + books x i k)
  else if k < i then (if th x k i = 0 then min (wHi x k i) (x.c i 2 - books x k i + x.allow * (x.c i 0 - x.c k 0)) else wHi x k i) else wHi x k i
theorem th_met {x : WD} (hx : Ok x) {a b : Nat} (hab : a < b) (hb : b < x.cn) : th x a b = 0 ↔ R.met x (R.whole x) a b = false := by
 rw [R.met_th hx hab hb, decide_eq_false_iff_not]
 have h := th_lt' hx a b
 have e : th x a b &&& R.whole x = th x a b := by
  unfold R.whole
  rw [Nat.and_two_pow_sub_one_eq_mod, Nat.mod_eq_of_lt h]
 rw [e]
 omega
/-- The bounds hold all that the counts ask. -/
theorem wLo_le {x : WD} (hx : Ok x) {k : Nat} (hk : k < x.cn) (s : Int) : ∀ n, n ≤ x.cn → (wLo x k n ≤ s ↔ x.c k 1 ≤ s ∧ (∀ i, i < n → i < k → R.met x (R.whole x) i k = false → x.c i 1 + R.booked x i k - R.al x i k ≤ s) ∧ ∀ j, j < n → k < j → x.c j 1 - R.booked x k j ≤ s)
 | 0, _ => ⟨fun h => ⟨h, fun i hi => absurd hi (by omega), fun i hi => absurd hi (by omega)⟩, fun h => h.1⟩
 | n+1, hn => by
  have ih := wLo_le hx hk s n (by omega)
  have stepA : ∀ {Q : Nat → Prop}, (∀ i, i < n + 1 → Q i) ↔ (∀ i, i < n → Q i) ∧ Q n := fun {Q} => ⟨fun h => ⟨fun i hi => h i (by omega), h n (by omega)⟩, fun h i hi => by
   rcases Nat.lt_or_eq_of_le (Nat.le_of_lt_succ hi) with q | q
   ·exact h.1 i q
   ·rw [q]; exact h.2⟩
  rw [stepA, stepA]
  unfold wLo
  rcases Nat.lt_trichotomy n k with c | c | c
  ·rw [if_pos c]
   have e : x.c n 1 + books x n k - x.allow * (x.c k 0 - x.c n 0) = x.c n 1 + R.booked x n k - R.al x n k := by rw [books_eq hx (Nat.le_of_lt c) hk]; rfl
   have hm := th_met hx c hk
   rw [e]
   by_cases ht : th x n k = 0
   ·rw [if_pos ht]
    have hm' := hm.1 ht
    constructor
    ·intro h
     obtain ⟨a1, a2, a3⟩ := ih.1 (by omega)
     exact ⟨a1, ⟨a2, fun _ _ => by omega⟩, a3, fun h => absurd h (by omega)⟩
    ·rintro ⟨a1, ⟨a2, a4⟩, a3, -⟩
     have := ih.2 ⟨a1, a2, a3⟩
     have := a4 c hm'
     omega
   ·rw [if_neg ht]
    constructor
    ·intro h
     obtain ⟨a1, a2, a3⟩ := ih.1 h
     exact ⟨a1, ⟨a2, fun _ hq => absurd (hm.2 hq) ht⟩, a3, fun h => absurd h (by omega)⟩
    ·rintro ⟨a1, ⟨a2, -⟩, a3, -⟩
     exact ih.2 ⟨a1, a2, a3⟩
  ·rw [if_neg (by omega), if_neg (by omega)]
   constructor
   ·intro h
    obtain ⟨a1, a2, a3⟩ := ih.1 h
    exact ⟨a1, ⟨a2, fun h => absurd h (by omega)⟩, a3, fun h => absurd h (by omega)⟩
   ·rintro ⟨a1, ⟨a2, -⟩, a3, -⟩
    exact ih.2 ⟨a1, a2, a3⟩
  ·rw [if_neg (by omega), if_pos c, books_eq hx (Nat.le_of_lt c) (by omega)]
   constructor
   ·intro h
    obtain ⟨a1, a2, a3⟩ := ih.1 (by omega)
    exact ⟨a1, ⟨a2, fun h => absurd h (by omega)⟩, a3, fun _ => by omega⟩
   ·rintro ⟨a1, ⟨a2, -⟩, a3, a4⟩
    have := ih.2 ⟨a1, a2, a3⟩
    have := a4 c
    omega
theorem le_wHi {x : WD} (hx : Ok x) {k : Nat} (hk : k < x.cn) (s : Int) : ∀ n, n ≤ x.cn → (s ≤ wHi x k n ↔ s ≤ x.c k 2 ∧ (∀ i, i < n → i < k → s ≤ x.c i 2 + R.booked x i k) ∧ ∀ j, j < n → k < j → R.met x (R.whole x) k j = false → s ≤ x.c j 2 - R.booked x k j + R.al x k j)
 | 0, _ => ⟨fun h => ⟨h, fun i hi => absurd hi (by omega), fun i hi => absurd hi (by omega)⟩, fun h => h.1⟩
 | n+1, hn => by
  have ih := le_wHi hx hk s n (by omega)
  have stepA : ∀ {Q : Nat → Prop}, (∀ i, i < n + 1 → Q i) ↔ (∀ i, i < n → Q i) ∧ Q n := fun {Q} => ⟨fun h => ⟨fun i hi => h i (by omega), h n (by omega)⟩, fun h i hi => by
   rcases Nat.lt_or_eq_of_le (Nat.le_of_lt_succ hi) with q | q
   ·exact h.1 i q
   ·rw [q]; exact h.2⟩
  rw [stepA, stepA]
  unfold wHi
  rcases Nat.lt_trichotomy n k with c | c | c
  ·rw [if_pos c, books_eq hx (Nat.le_of_lt c) hk]
   constructor
   ·intro h
    obtain ⟨a1, a2, a3⟩ := ih.1 (by omega)
    exact ⟨a1, ⟨a2, fun _ => by omega⟩, a3, fun h => absurd h (by omega)⟩
   ·rintro ⟨a1, ⟨a2, a4⟩, a3, -⟩
    have := ih.2 ⟨a1, a2, a3⟩
    have := a4 c
    omega
  ·rw [if_neg (by omega), if_neg (by omega)]
   constructor
   ·intro h
    obtain ⟨a1, a2, a3⟩ := ih.1 h
    exact ⟨a1, ⟨a2, fun h => absurd h (by omega)⟩, a3, fun h => absurd h (by omega)⟩
   ·rintro ⟨a1, ⟨a2, -⟩, a3, -⟩
    exact ih.2 ⟨a1, a2, a3⟩
  ·rw [if_neg (by omega), if_pos c]
   have e : x.c n 2 - books x k n + x.allow * (x.c n 0 - x.c k 0) = x.c n 2 - R.booked x k n + R.al x k n := by rw [books_eq hx (Nat.le_of_lt c) (by omega)]; rfl
   have hm := th_met hx c (show n < x.cn by omega)
   rw [e]
   by_cases ht : th x k n = 0
   ·rw [if_pos ht]
    have hm' := hm.1 ht
    constructor
    ·intro h
     obtain ⟨a1, a2, a3⟩ := ih.1 (by omega)
     exact ⟨a1, ⟨a2, fun h => absurd h (by omega)⟩, a3, fun _ _ => by omega⟩
    ·rintro ⟨a1, ⟨a2, -⟩, a3, a4⟩
     have := ih.2 ⟨a1, a2, a3⟩
     have := a4 c hm'
     omega
   ·rw [if_neg ht]
    constructor
    ·intro h
     obtain ⟨a1, a2, a3⟩ := ih.1 h
     exact ⟨a1, ⟨a2, fun h => absurd h (by omega)⟩, a3, fun _ hq => absurd (hm.2 hq) ht⟩
    ·rintro ⟨a1, ⟨a2, -⟩, a3, -⟩
     exact ih.2 ⟨a1, a2, a3⟩
def lo (x : WD) (k : Nat) : Int := wLo x k x.cn
def hi (x : WD) (k : Nat) : Int := wHi x k x.cn
/-- **A count can have just the numbers within the bounds.** -/
theorem fixed_eq {x : WD} (hx : Ok x) (hw : R.fwOk x (R.whole x) = true) {k : Nat} (hk : k < x.cn) {s : Int} (h1 : x.c k 1 ≤ s) (h2 : s ≤ x.c k 2) : R.fixed x k s = decide (lo x k ≤ s ∧ s ≤ hi x k) := by
 have a1 := hx.lo k hk
 have a2 := hx.hi k hk
 rw [Bool.eq_iff_iff, decide_eq_true_eq, R.fixed_iff hx hw hk ⟨by omega, by omega⟩]
 unfold lo hi
 rw [wLo_le hx hk s x.cn (Nat.le_refl _), le_wHi hx hk s x.cn (Nat.le_refl _)]
 constructor
 ·rintro ⟨p, q⟩
  exact ⟨⟨h1, fun i hi hik hm => by have := (q i hik).2 hm; omega, fun j hj hkj => by have := (p j hkj hj).1; omega⟩, h2, fun i hi hik => (q i hik).1, fun j hj hkj hm => by have := (p j hkj hj).2 hm; omega⟩
 ·rintro ⟨⟨-, p1, p2⟩, -, q1, q2⟩
  exact ⟨fun j hkj hj => ⟨by have := p2 j hj hkj; omega, fun hm => by have := q2 j hj hkj hm; omega⟩, fun i hik => ⟨q1 i (by omega) hik, fun hm => by have := p1 i (by omega) hik hm; omega⟩⟩
theorem lo_bd {x : WD} (hx : Ok x) (hw : R.fwOk x (R.whole x) = true) {k : Nat} (hk : k < x.cn) : x.c k 1 ≤ lo x k ∧ lo x k ≤ hi x k ∧ hi x k ≤ x.c k 2 := by
 have hT := (R.fwOk_iff hx (R.whole x)).1 hw
 have b1 := (wLo_le hx hk (lo x k) x.cn (Nat.le_refl _)).1 (Int.le_refl _)
 have b2 := (le_wHi hx hk (hi x k) x.cn (Nat.le_refl _)).1 (Int.le_refl _)
 refine ⟨b1.1, ?_, b2.1⟩
 have key : ∀ s, lo x k ≤ s ↔ _ := fun s => wLo_le hx hk s x.cn (Nat.le_refl _)
 refine (le_wHi hx hk (lo x k) x.cn (Nat.le_refl _)).2 ⟨?_, fun i hi hik => ?_, fun j hj hkj hm => ?_⟩
 ·refine (key _).2 ⟨hx.le k hk, fun i hi hik hm => ?_, fun j hj hkj => ?_⟩
  ·have := (hT i k hik hk).2 hm
   rw [R.gap_al] at this; omega
  ·have := (hT k j hkj hj).1; omega
 ·refine (key _).2 ⟨(hT i k hik hk).1, fun q hq hqk hm => ?_, fun j hj hkj => ?_⟩
  ·rcases Nat.lt_trichotomy q i with c | c | c
   ·have := (hT q i c hi).2 (R.met_false.2 fun z a b => R.met_false.1 hm z a (by omega))
    rw [R.gap_al] at this
    have e1 := R.booked_add hx (Nat.le_of_lt c) (Nat.le_of_lt hik) hk
    have e2 := R.al_add x q i k
    have e3 := R.al_nonneg hx (Nat.le_of_lt hik) hk
    omega
   ·subst c
    have := hx.le q hi
    have e3 := R.al_nonneg hx (Nat.le_of_lt hik) hk
    omega
   ·have := (hT i q c hq).1
    have e1 := R.booked_add hx (Nat.le_of_lt c) (Nat.le_of_lt hqk) hk
    have e3 := R.al_nonneg hx (Nat.le_of_lt hqk) hk
    omega
  ·have := (hT i j (by omega) hj).1
   have e1 := R.booked_add hx (Nat.le_of_lt hik) (Nat.le_of_lt hkj) hj
   omega
 ·refine (key _).2 ⟨?_, fun q hq hqk hm' => ?_, fun i hi hki => ?_⟩
  ·have := (hT k j hkj hj).2 hm
   rw [R.gap_al] at this; omega
  ·have := (hT q j (by omega) hj).2 (R.met_false.2 fun z a b => by
    rcases Nat.lt_or_ge z k with h | h
    ·exact R.met_false.1 hm' z a h
    ·exact R.met_false.1 hm z h b)
   rw [R.gap_al] at this
   have e1 := R.booked_add hx (Nat.le_of_lt hqk) (Nat.le_of_lt hkj) hj
   have e2 := R.al_add x q k j
   omega
  ·rcases Nat.lt_trichotomy i j with c | c | c
   ·have := (hT i j c hj).2 (R.met_false.2 fun z a b => R.met_false.1 hm z (by omega) b)
    rw [R.gap_al] at this
    have e1 := R.booked_add hx (Nat.le_of_lt hki) (Nat.le_of_lt c) hj
    have e2 := R.al_add x k i j
    have e3 := R.al_nonneg hx (Nat.le_of_lt hki) hi
    omega
   ·subst c
    have := hx.le i hj
    have e3 := R.al_nonneg hx (Nat.le_of_lt hkj) hj
    omega
   ·have := (hT j i c hi).1
    have e1 := R.booked_add hx (Nat.le_of_lt hkj) (Nat.le_of_lt c) hi
    have e3 := R.al_nonneg hx (Nat.le_of_lt hkj) hj
    omega
end P
end HandSpec
