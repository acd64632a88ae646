/- Truths of a watch: what hands have taken is no less than the least; a greater allowance and more spells. Plain law. The watch is right. -/
import Derived.Test.YtkhjmedfhobebaaGreatMathN
import Derived.Test.YtkhjmedfhobebaaGreatMathC
namespace HandSpec
namespace L
open R P
variable {x y : WD} {m : Nat}
/-- Sacks at counts, and what each hand has taken in each interval. -/
structure Truth (x : WD) (s : Nat → Int) (t : Nat → Nat → Int) : Prop where
  box : ∀ i, i < x.cn → x.c i 1 ≤ s i ∧ s i ≤ x.c i 2
  pos : ∀ h i, 0 ≤ t h i
  here : ∀ h i : Nat, i + 1 < x.cn → isat x (h : Int) i = false → t h i = 0
  step : ∀ i, i + 1 < x.cn → ∃ l, (0 ≤ l ∧ l ≤ al x i (i+1)) ∧ s (i+1) = s i + booked x i (i+1) - l - sumTo (fun h => t h i) x.hands.toNat
theorem sumTo_le {f g : Nat → Int} : ∀ {n : Nat}, (∀ k, k < n → f k ≤ g k) → sumTo f n ≤ sumTo g n
  | 0, _ => Int.le_refl _
  | n+1, h => by
    have h1 := sumTo_le (n := n) fun k hk => h k (by omega)
    have h2 := h n (by omega)
    simp only [sumTo]; omega
theorem sumTo_eq {f g : Nat → Int} {n : Nat} (h : ∀ k, k < n → f k = g k) : sumTo f n = sumTo g n :=
  Int.le_antisymm (sumTo_le fun k hk => Int.le_of_eq (h k hk)) (sumTo_le fun k hk => Int.le_of_eq (h k hk).symm)
theorem sumTo_zero {f : Nat → Int} : ∀ {n : Nat}, (∀ k, k < n → f k = 0) → sumTo f n = 0
  | 0, _ => rfl
  | n+1, h => by
    simp only [sumTo]; rw [sumTo_zero fun k hk => h k (by omega), h n (by omega)]; rfl
theorem sumTo_pos {f : Nat → Int} {n : Nat} (h : ∀ k, k < n → 0 ≤ f k) : 0 ≤ sumTo f n := by
  have := sumTo_le (f := fun _ => 0) (n := n) h
  rw [sumTo_zero fun _ _ => rfl] at this
  exact this
theorem sumTo_one {f : Nat → Int} {j : Nat} : ∀ {n : Nat}, j < n → (∀ k, k < n → k ≠ j → f k = 0) → sumTo f n = f j
  | n+1, hj, h => by
    simp only [sumTo]
    by_cases e : j = n
    · subst e
      rw [sumTo_zero fun k hk => h k (by omega) (by omega)]; omega
    · rw [sumTo_one (by omega) fun k hk => h k (by omega), h n (by omega) (fun q => e q.symm)]; omega
theorem sumTo_ge {f : Nat → Int} {j n : Nat} (hj : j < n) (h : ∀ k, k < n → 0 ≤ f k) : f j ≤ sumTo f n := by
  have h1 := sumTo_le (f := fun k => if k = j then f j else 0) (g := f) (n := n) fun k hk => by
    split
    · next e => subst e; exact Int.le_refl _
    · exact h k hk
  rw [sumTo_one (f := fun k => if k = j then f j else 0) hj fun k _ e => if_neg e] at h1
  simpa using h1
theorem sumTo_swap (f : Nat → Nat → Int) (n : Nat) : ∀ m, sumTo (fun i => sumTo (fun j => f i j) n) m = sumTo (fun j => sumTo (fun i => f i j) m) n
  | 0 => (sumTo_zero fun _ _ => rfl).symm
  | m+1 => by
    simp only [sumTo]
    rw [sumTo_swap f n m]
    have : ∀ (a b : Nat → Int) (n : Nat), sumTo a n + sumTo b n = sumTo (fun k => a k + b k) n := fun a b n => by
      induction n with
      | zero => rfl
      | succ n ih => simp only [sumTo]; omega
    exact this _ _ _
theorem can_isat {x : WD} {m i : Nat} : R.can x m i = true ↔ ∃ h, h < x.hands.toNat ∧ m.testBit h = true ∧ isat x (h : Int) i = true := by
  unfold R.can
  rw [anyTo_true]
  simp only [Bool.and_eq_true, is_one]
theorem can_isat_no {x : WD} {m i h : Nat} (hc : R.can x m i = false) (hh : h < x.hands.toNat) (hb : m.testBit h = true) : isat x (h : Int) i = false := by
  cases hi : isat x (h : Int) i
  · rfl
  · exact absurd (can_isat.2 ⟨h, hh, hb, hi⟩) (by rw [hc]; exact Bool.false_ne_true)
theorem truth_path {s : Nat → Int} {t : Nat → Nat → Int} (hx : Ok x) (T : Truth x s t) (hm : m < 2 ^ x.hands.toNat) :
    Path x m (x.cn - 1) s (fun i => sumTo (fun h => if m.testBit h then t h i else 0) x.hands.toNat) where
  box i hi := T.box i (by have := hx.cn; omega)
  pos i _ := sumTo_pos fun h _ => by
    split
    · exact T.pos h i
    · exact Int.le_refl _
  none i hi hc := by
    obtain ⟨l, hl, hs⟩ := T.step i (by omega)
    have h0 : sumTo (fun h => t h i) x.hands.toNat = 0 := sumTo_zero fun h hh => T.here h i (by omega) (can_isat_no hc hh (by rw [whole_bit]; exact decide_eq_true hh))
    omega
  mine i hi ho := by
    obtain ⟨l, hl, hs⟩ := T.step i (by omega)
    have h0 : sumTo (fun h => t h i) x.hands.toNat = sumTo (fun h => if m.testBit h then t h i else 0) x.hands.toNat := sumTo_eq fun h hh => by
      cases hb : m.testBit h
      · rw [if_neg Bool.false_ne_true]
        exact T.here h i (by omega) (can_isat_no ho hh (by rw [other_bit hm, hb, decide_eq_true hh]; rfl))
      · rw [if_pos rfl]
    omega
/-- There is a way, so that the watch has a truth. -/
theorem path_fw (hx : Ok x) {p c : Nat → Int} (hp : Path x m (x.cn - 1) p c) (hd : ∀ i, i < x.cn - 1 → p (i+1) ≤ p i + booked x i (i+1)) : fwOk x (whole x) = true := by
  refine (fwOk_iff hx _).2 fun i j hij hj => ?_
  have key : ∀ d, i + d < x.cn → p (i + d) ≤ p i + booked x i (i + d) ∧ (met x (whole x) i (i + d) = false → p i + booked x i (i + d) - al x i (i + d) - p (i + d) ≤ 0) := by
    intro d
    induction d with
    | zero => intro _; rw [Nat.add_zero, booked_self, al_self]; exact ⟨by omega, fun _ => by omega⟩
    | succ d ih =>
      intro h
      obtain ⟨h1, h2⟩ := ih (by omega)
      have h3 := hd (i + d) (by omega)
      have e1 := booked_add hx (show i ≤ i + d by omega) (show i + d ≤ i + d + 1 by omega) (by omega)
      have e2 := al_add x i (i + d) (i + d + 1)
      rw [← Nat.add_assoc]
      refine ⟨by omega, fun hmm => ?_⟩
      have h4 := h2 (met_false.2 fun q a b => met_false.1 hmm q a (by omega))
      have h5 := hp.none (i + d) (by omega) (met_false.1 hmm (i + d) (by omega) (by omega))
      omega
  obtain ⟨h1, h2⟩ := key (j - i) (by omega)
  rw [show i + (j - i) = j by omega] at h1 h2
  have b1 := hp.box i (by omega)
  have b2 := hp.box j (by omega)
  refine ⟨by omega, fun hmm => ?_⟩
  have := h2 hmm
  rw [gap_al]; omega
theorem truth_down {s : Nat → Int} {t : Nat → Nat → Int} (T : Truth x s t) {i : Nat} (hi : i + 1 < x.cn) : s (i+1) ≤ s i + booked x i (i+1) := by
  obtain ⟨l, hl, hs⟩ := T.step i hi
  have := sumTo_pos (f := fun h => t h i) (n := x.hands.toNat) fun h _ => T.pos h i
  omega
theorem truth_fw (hx : Ok x) {s : Nat → Int} {t : Nat → Nat → Int} (T : Truth x s t) : fwOk x (whole x) = true :=
  path_fw hx (m := 0) (truth_path hx T (Nat.two_pow_pos _)) fun _ hi => truth_down T (by omega)
theorem truth_told (hx : Ok x) (hc : P.chk x = 0) {s : Nat → Int} {t : Nat → Nat → Int} (T : Truth x s t) : P.toldE x false = 0 := by
  have := clash_iff hx
  rw [truth_fw hx T] at this
  unfold P.toldE
  rw [if_neg (by omega), if_neg Bool.false_ne_true, this]
  rfl
/-- What some hands must have taken is no more than any way has. -/
theorem proved_le (hx : Ok x) (hw : fwOk x (whole x) = true) (hm : m < 2 ^ x.hands.toNat) {p c : Nat → Int} (hp : Path x m (x.cn - 1) p c) : P.proved x m ≤ sumTo c (x.cn - 1) := by
  rw [proved_eq hx hw hm, taken_eq hx hw hm]
  exact weak hx hm hp _ (Nat.le_refl _)
theorem proved_path (hx : Ok x) (hw : fwOk x (whole x) = true) (hm : m < 2 ^ x.hands.toNat) : ∃ p c, Path x m (x.cn - 1) p c ∧ sumTo c (x.cn - 1) = P.proved x m := by
  have hk : x.cn - 1 < x.cn := by have := hx.cn; omega
  have h1 := taken_le hx hw hm
  have hgood := (Good.bestTo hx m (x.cn - 1)) (x.cn - 1) (Nat.le_refl _)
  have hb : bs x m (x.cn - 1) ≤ 20000 * ((x.cn - 1 : Nat) : Int) := hgood.1.2
  have hcn := hx.cn
  have hlt : taken x m < never := by unfold never; omega
  obtain ⟨q, hq, he⟩ := tmin_at hlt
  have he' : taken x m = tk x m (x.cn - 1) q := he
  obtain ⟨p, c, hp, -, hsum⟩ := path (x := x) (m := m) (x.cn - 1) hk q hq (by rw [← he']; exact hlt)
  exact ⟨p, c, hp, by rw [hsum, ← he', proved_eq hx hw hm]⟩
theorem proved_nonneg (hx : Ok x) (hw : fwOk x (whole x) = true) (hm : m < 2 ^ x.hands.toNat) : 0 ≤ P.proved x m := by
  rw [proved_eq hx hw hm, taken_eq hx hw hm]
  exact bs_nonneg (Nat.le_refl _)
theorem bit_lt {h : Nat} (hh : h < x.hands.toNat) : 2 ^ h < 2 ^ x.hands.toNat := Nat.pow_lt_pow_right (by omega) hh
theorem whole_lt (x : WD) : whole x < 2 ^ x.hands.toNat := by have := Nat.two_pow_pos x.hands.toNat; unfold whole; omega
/-- No hand has taken less than its least. -/
theorem least_truth (hx : Ok x) {s : Nat → Int} {t : Nat → Nat → Int} (T : Truth x s t) {h : Nat} (hh : h < x.hands.toNat) : P.proved x (2 ^ h) ≤ sumTo (t h) (x.cn - 1) := by
  have h1 := proved_le hx (truth_fw hx T) (bit_lt hh) (truth_path hx T (bit_lt hh))
  rw [sumTo_eq (g := t h) fun i _ => by
    rw [sumTo_one hh fun k _ hk => if_neg (by rw [Nat.testBit_two_pow]; simpa using fun e => hk e.symm), if_pos (by rw [Nat.testBit_two_pow]; simp)]] at h1
  exact h1
theorem missing_truth (hx : Ok x) {s : Nat → Int} {t : Nat → Nat → Int} (T : Truth x s t) : P.proved x (whole x) ≤ sumTo (fun h => sumTo (t h) (x.cn - 1)) x.hands.toNat := by
  have h1 := proved_le hx (truth_fw hx T) (whole_lt x) (truth_path hx T (whole_lt x))
  rw [sumTo_swap (fun h i => t h i)]
  rw [sumTo_eq (g := fun i => sumTo (fun h => t h i) x.hands.toNat) fun i _ => sumTo_eq fun h hh => if_pos (by rw [whole_bit]; exact decide_eq_true hh)] at h1
  exact h1
/-- What the hands must have taken, each alone, is no more than what is missing. -/
theorem least_missing (hx : Ok x) (hw : fwOk x (whole x) = true) : sumTo (fun h => P.proved x (2 ^ h)) x.hands.toNat ≤ P.proved x (whole x) := by
  obtain ⟨p, c, hp, hsum⟩ := proved_path hx hw (whole_lt x)
  rw [← hsum]
  have hP : ∀ h, h < x.hands.toNat → Path x (2 ^ h) (x.cn - 1) p (fun i => if oth x (2 ^ h) i = true ∨ can x (whole x) i = false then 0 else c i) := fun h hh => ⟨hp.box, fun i hi => by
      split
      · exact Int.le_refl _
      · exact hp.pos i hi, hp.none, fun i hi ho => by
      by_cases hc : can x (whole x) i = false
      · rw [if_pos (.inr hc)]; exact hp.none i hi hc
      · rw [if_neg (by rw [ho]; simp; simpa using hc)]
        refine hp.mine i hi ?_
        unfold oth R.can
        rw [Nat.sub_self]
        exact anyTo_false.2 fun k _ => by simp⟩
  have h1 : sumTo (fun h => P.proved x (2 ^ h)) x.hands.toNat ≤ sumTo (fun h => sumTo (fun i => if oth x (2 ^ h) i = true ∨ can x (whole x) i = false then 0 else c i) (x.cn - 1)) x.hands.toNat :=
    sumTo_le fun h hh => proved_le hx hw (bit_lt hh) (hP h hh)
  rw [sumTo_swap (fun h i => if oth x (2 ^ h) i = true ∨ can x (whole x) i = false then 0 else c i)] at h1
  refine Int.le_trans h1 (sumTo_le fun i hi => ?_)
  have hci := hp.pos i hi
  cases hc : can x (whole x) i
  · rw [sumTo_zero fun h _ => if_pos (.inr rfl)]; exact hci
  · obtain ⟨h0, hh0, -, hat⟩ := can_isat.1 hc
    rw [sumTo_one hh0 fun k hk hne => if_pos (.inl (can_isat.2 ⟨h0, hh0, by rw [other_bit (bit_lt hk), decide_eq_true hh0, Nat.testBit_two_pow]; simpa using hne, hat⟩))]
    split
    · exact hci
    · exact Int.le_refl _
/-- A hand's least is more than nothing just if nothing can be without it. -/
theorem least_zero (hx : Ok x) (hw : fwOk x (whole x) = true) (hm : m < 2 ^ x.hands.toNat) : P.proved x m ≤ 0 ↔ fwOk x (whole x - m) = true := by
  rw [proved_eq hx hw hm, taken_eq hx hw hm]
  have hT := (fwOk_iff hx (whole x)).1 hw
  constructor
  · intro h0
    refine (fwOk_iff hx _).2 fun i j hij hj => ⟨(hT i j hij hj).1, fun hmm => ?_⟩
    rcases Int.lt_or_le 0 (R.gap x i j) with hg | hg
    · exfalso
      rcases some_or (x := x) (m := m) i j with ⟨k, k1, k2, k3⟩ | hno
      · obtain ⟨d, hd1, hd2, hd3⟩ : ∃ d, d < j - i ∧ spot x m (i + d) = true ∧ ∀ q, d < q → q < j - i → spot x m (i + q) = false := by
          have hge := lastTo_ge (own := spot x m) (a := i) (k := j - i) (d := k - i) (by omega) (by rw [show i + (k - i) = k by omega]; exact k3)
          obtain ⟨d, h1, -, h3, h4⟩ := lastTo_at (own := spot x m) (a := i) (k := j - i) rfl (by omega)
          exact ⟨d, h1, h3, h4⟩
        have hl : lst x m (i, j) + 1 = ((i + d + 1 : Nat) : Int) := by
          have hge := lastTo_ge (own := spot x m) (a := i) (k := j - i) hd1 hd2
          obtain ⟨d', h1, h2, h3, h4⟩ := lastTo_at (own := spot x m) (a := i) (k := j - i) rfl (by omega)
          have : d' = d := by
            rcases Nat.lt_trichotomy d' d with c | c | c
            · have := h4 d c hd1; rw [hd2] at this; cases this
            · exact c
            · have := hd3 d' c h1; rw [h3] at this; cases this
          subst this
          show lastTo (spot x m) i (j - i) + 1 = _
          omega
        have hok := okS_mk hx hm hij hj hl hmm hg
        have h1 := bs_get (x := x) (m := m) (e := i + d) (by omega) hd2 hok ⟨hij, hj⟩
        rw [P.gap_eq hx (by omega) hj] at h1
        have h2 := bs_mono (x := x) (m := m) (show i + d + 1 ≤ x.cn - 1 by omega) (Nat.le_refl _)
        have hf : fst x m (i, j) ≤ x.cn - 1 := by
          obtain ⟨f, f1, f2, f3, f4⟩ := least (p := spot x m) (a := i) (b := j) ⟨k, k1, k2, k3⟩
          rw [fst_some f1 f2 f3 f4]; omega
        have h3 := bs_nonneg (x := x) (m := m) hf
        dsimp only at h1
        omega
      · have : met x (whole x) i j = false := met_false.2 fun k h1 h2 => (can_whole hm k).2 ⟨met_false.1 hmm k h1 h2, by rw [← spot_can hx (by omega)]; exact hno k h1 h2⟩
        have := (hT i j hij hj).2 this
        omega
    · exact hg
  · intro hf
    have hT' := (fwOk_iff hx _).1 hf
    have : ∀ e, e ≤ x.cn - 1 → bs x m e ≤ 0 := by
      intro e
      induction e with
      | zero => intro _; rw [bs_zero]; exact Int.le_refl _
      | succ e ih =>
        intro he
        refine bs_le he (ih (by omega)) fun s h1 h2 _ hok => ?_
        obtain ⟨a, b⟩ := s
        obtain ⟨-, h4, h5⟩ := okS_get hx hm h1 h2 hok
        have := (hT' a b h1 h2).2 h4
        dsimp only at h5
        omega
    exact this _ (Nat.le_refl _)
theorem truth_down' (hx : Ok x) {s : Nat → Int} {t : Nat → Nat → Int} (T : Truth x s t) {i : Nat} : ∀ d, i + d < x.cn → s (i + d) ≤ s i + booked x i (i + d)
  | 0, _ => by rw [Nat.add_zero, booked_self]; omega
  | d+1, h => by
    have h1 := truth_down' hx T (i := i) d (by omega)
    have h2 := truth_down T (show i + d + 1 < x.cn by omega)
    have e1 := booked_add hx (show i ≤ i + d by omega) (show i + d ≤ i + d + 1 by omega) (by omega)
    rw [← Nat.add_assoc]; omega
theorem truth_hi {s : Nat → Int} {t : Nat → Nat → Int} (T : Truth x s t) : ∀ i, i < x.cn → s i ≤ (fw x (whole x) i).2
  | 0, h => (T.box 0 h).2
  | i+1, h => by
    have h1 := truth_hi T i (by omega)
    have h2 := truth_down T h
    have h3 := (T.box (i+1) h).2
    show s (i+1) ≤ min _ _
    omega
theorem truth_low (hx : Ok x) {s : Nat → Int} {t : Nat → Nat → Int} (T : Truth x s t) {k : Nat} (hk : k < x.cn) : low x k ≤ s k := by
  unfold low
  rcases lowTo_at x k x.cn with h | ⟨j, h1, h2, h3⟩
  · rw [h]; exact (T.box k hk).1
  · have h4 := truth_down' hx T (i := k) (j - k) (by omega)
    rw [show k + (j - k) = j by omega] at h4
    have h5 := (T.box j h2).1
    omega
theorem mem_can' {h : Nat} : h ∈ can' x ↔ h < x.hands.toNat ∧ ∃ i, i < x.cn - 1 ∧ canQ x i = true ∧ isat x (h : Int) i = true := by
  unfold can' canL
  rw [List.mem_filter, List.mem_range]
  unfold canTo
  rw [anyTo_true]
  simp only [Bool.and_eq_true, is_one]
theorem took_can (hx : Ok x) {s : Nat → Int} {t : Nat → Nat → Int} (T : Truth x s t) {h : Nat} (hh : h < x.hands.toNat) (ht : 0 < sumTo (t h) (x.cn - 1)) : h ∈ can' x := by
  refine Classical.byContradiction fun hno => ?_
  have : sumTo (t h) (x.cn - 1) = 0 := sumTo_zero fun i hi => by
    have h0 := T.pos h i
    rcases Int.lt_or_le 0 (t h i) with h1 | h1
    · exfalso
      refine hno (mem_can'.2 ⟨hh, i, hi, ?_, ?_⟩)
      · obtain ⟨l, hl, hs⟩ := T.step i (by omega)
        have h2 := sumTo_ge (f := fun h => t h i) hh fun k _ => T.pos k i
        have h3 := truth_hi T i (by omega)
        have h4 := truth_low hx T (show i + 1 < x.cn by omega)
        unfold canQ
        refine decide_eq_true ?_
        omega
      · cases hi' : isat x (h : Int) i
        · have := T.here h i (by omega) hi'; omega
        · rfl
    · omega
  omega
theorem must_can (hx : Ok x) {s : Nat → Int} {t : Nat → Nat → Int} (T : Truth x s t) {h : Nat} (hh : h < x.hands.toNat) (ht : 0 < P.proved x (2 ^ h)) : h ∈ can' x := by
  refine Classical.byContradiction fun hno => ?_
  have hp := truth_path hx T (bit_lt hh)
  have := proved_le hx (truth_fw hx T) (bit_lt hh) (p := s) (c := fun _ => 0) ⟨hp.box, fun _ _ => Int.le_refl _, hp.none, fun i hi ho => by
    cases hat : isat x (h : Int) i
    · refine hp.none i hi ((can_whole (bit_lt hh) i).2 ⟨ho, ?_⟩)
      unfold R.can
      refine anyTo_false.2 fun k _ => ?_
      rw [Nat.testBit_two_pow]
      by_cases e : h = k
      · subst e; rw [is_one, hat]; simp
      · simp [e]
    · have hq : canQ x i = false := by
        cases hq : canQ x i
        · rfl
        · exact absurd (mem_can'.2 ⟨hh, i, hi, hq, hat⟩) hno
      unfold canQ at hq
      rw [decide_eq_false_iff_not] at hq
      have h3 := truth_hi T i (by omega)
      have h4 := truth_low hx T (show i + 1 < x.cn by omega)
      have h5 := al_nonneg hx (show i ≤ i + 1 by omega) (by omega)
      omega⟩
  rw [sumTo_zero fun _ _ => rfl] at this
  omega
theorem mem_must (hx : Ok x) (hw : fwOk x (whole x) = true) {h : Nat} : h ∈ R.must x ↔ h < x.hands.toNat ∧ 0 < P.proved x (2 ^ h) := by
  unfold R.must R.mustTo
  rw [List.mem_filter, List.mem_range]
  refine and_congr_right fun hh => ?_
  have := least_zero hx hw (bit_lt hh)
  rw [Bool.not_eq_true', ← Bool.not_eq_true, ← this]
  omega
theorem must_len (hx : Ok x) {s : Nat → Int} {t : Nat → Nat → Int} (T : Truth x s t) : (R.must x).length ≤ (can' x).length := by
  have hw := truth_fw hx T
  unfold R.must R.mustTo can' canL
  rw [← List.countP_eq_length_filter, ← List.countP_eq_length_filter]
  refine List.countP_mono_left fun h hh hp => ?_
  have h1 : h ∈ R.must x := by unfold R.must R.mustTo; exact List.mem_filter.2 ⟨hh, hp⟩
  have h2 := must_can hx T ((mem_must hx hw).1 h1).1 ((mem_must hx hw).1 h1).2
  unfold can' canL at h2
  exact (List.mem_filter.1 h2).2
theorem isat_setc (k : Nat) (s : Int) (h : Int) (i : Nat) : isat (setc x k s) h i = isat x h i := by
  unfold isat isf
  simp only [setc_hour]
  rfl
/-- A truth's number of sacks is one that a count can have. -/
theorem within_truth (hx : Ok x) {s : Nat → Int} {t : Nat → Nat → Int} (T : Truth x s t) {k : Nat} (hk : k < x.cn) : P.lo x k ≤ s k ∧ s k ≤ P.hi x k := by
  obtain ⟨h1, h2⟩ := T.box k hk
  have a1 := hx.lo k hk
  have a2 := hx.hi k hk
  have hs : 0 ≤ s k ∧ s k ≤ 500 := by omega
  have T' : Truth (setc x k (s k)) s t := ⟨fun i hi => by
      by_cases e : i = k
      · subst e; rw [setc_at x i _ (by omega), setc_at x i _ (by omega)]; omega
      · rw [setc_ne x _ 1 e, setc_ne x _ 2 e]; exact T.box i hi, T.pos, fun h i hi ha => T.here h i hi (by rw [← ha, isat_setc]), fun i hi => by
      obtain ⟨l, hl, he⟩ := T.step i hi
      exact ⟨l, by rw [al_setc]; exact hl, by rw [booked_setc]; exact he⟩⟩
  have hf := truth_fw (setc_ok hx k hs) T'
  have he := P.fixed_eq hx (truth_fw hx T) hk h1 h2
  have : R.fixed x k (s k) = true := hf
  rw [this] at he
  exact of_decide_eq_true he.symm
/-- More is allowed, or more spells are there. -/
structure More (x y : WD) : Prop where
  cn : y.cn = x.cn
  c : ∀ i j, y.c i j = x.c i j
  hands : y.hands = x.hands
  booked : ∀ a b, R.booked y a b = R.booked x a b
  al : ∀ a b, a ≤ b → b < x.cn → al x a b ≤ al y a b
  at_ : ∀ h i, isat x h i = true → isat y h i = true
namespace More
theorem can (M : More x y) {i : Nat} (h : R.can y m i = false) : R.can x m i = false := by
  cases hc : R.can x m i
  · rfl
  · obtain ⟨k, h1, h2, h3⟩ := can_isat.1 hc
    rw [can_isat.2 ⟨k, by rw [M.hands]; exact h1, h2, M.at_ _ _ h3⟩] at h
    cases h
theorem whole (M : More x y) : R.whole y = R.whole x := by unfold R.whole; rw [M.hands]
theorem fw (M : More x y) (hx : Ok x) (hy : Ok y) (h : fwOk x m = true) : fwOk y m = true := by
  refine (fwOk_iff hy m).2 fun i j hij hj => ?_
  have hj' : j < x.cn := by rw [← M.cn]; exact hj
  obtain ⟨h1, h2⟩ := (fwOk_iff hx m).1 h i j hij hj'
  have h3 := M.al i j (by omega) hj'
  rw [gap_al] at h2 ⊢
  rw [M.c, M.c, M.c, M.c, M.booked]
  refine ⟨h1, fun hm => ?_⟩
  have := h2 (met_false.2 fun k a b => M.can (met_false.1 hm k a b))
  omega
theorem path (M : More x y) {p c : Nat → Int} (hp : Path x m (x.cn - 1) p c) : Path y m (y.cn - 1) p c := by
  rw [M.cn]
  refine ⟨fun i hi => by rw [M.c, M.c]; exact hp.box i hi, hp.pos, fun i hi hc => ?_, fun i hi ho => ?_⟩
  · rw [M.whole] at hc
    have h1 := hp.none i hi (M.can hc)
    have h3 := M.al i (i+1) (by omega) (by omega)
    rw [M.booked]; omega
  · unfold oth at ho
    rw [M.whole] at ho
    have h1 := hp.mine i hi (M.can ho)
    have h3 := M.al i (i+1) (by omega) (by omega)
    rw [M.booked]; omega
theorem proved (M : More x y) (hx : Ok x) (hy : Ok y) (hw : fwOk x (R.whole x) = true) (hm : m < 2 ^ x.hands.toNat) : P.proved y m ≤ P.proved x m := by
  obtain ⟨p, c, hp, hs⟩ := proved_path hx hw hm
  rw [← hs]
  have := proved_le hy (by rw [M.whole]; exact M.fw hx hy hw) (by rw [M.hands]; exact hm) (M.path hp)
  rw [M.cn] at this
  exact this
theorem fewest (M : More x y) (hx : Ok x) (hy : Ok y) (hw : fwOk x (R.whole x) = true) : (P.fewest y).length ≤ (P.fewest x).length := by
  rw [F.fewest_eq hx hw, F.fewest_eq hy (by rw [M.whole]; exact M.fw hx hy hw)]
  obtain ⟨m0, hm0, hf, he⟩ : ∃ m0, m0 < R.whole x + 1 ∧ fwOk x m0 = true ∧ R.fewest x = ones 62 m0 := by
    rcases (few_spec x (R.whole x + 1)).1 with h | ⟨q, h1, h2, h3⟩
    · exact ⟨R.whole x, by omega, hw, h⟩
    · exact ⟨q, h1, h2, h3⟩
  have h1 := (few_spec y (R.whole y + 1)).2 m0 (by rw [M.whole]; exact hm0) (M.fw hx hy hf)
  rw [he]
  unfold aheadB at h1
  show (few y (R.whole y + 1)).length ≤ _
  split at h1
  · next hne => rw [decide_eq_false_iff_not] at h1; omega
  · next hne => omega
end More
end L
/-- The error is none, if all is right. -/
theorem chk_of {x : WD} (h : Ok x) : P.chk x = 0 := by
  have a := h.hands
  have b := h.cn
  have c := h.bn
  have d := h.sn
  have e := h.hours
  have f := h.allow
  have h1 : P.mny x = false := by simp [P.mny, inB]; omega
  have h2 : P.rng x = false := by simp [P.rng, inB]; omega
  have h3 : anyTo (fun k => !P.cOk x k) x.cn = false := anyTo_false.2 fun k hk => by
    have := h.hour k hk; have := h.lo k hk; have := h.hi k hk
    simp [P.cOk, inB]; omega
  have h4 : anyTo (fun k => !P.bOk x k) x.bn = false := anyTo_false.2 fun k hk => by
    have := h.bhour k hk; have := h.bsack k hk; have := h.bnz k hk
    simp [P.bOk, inB]; omega
  have h5 : anyTo (fun k => !P.sOk x k) x.sn = false := anyTo_false.2 fun k hk => by
    have := h.shour k hk
    simp [P.sOk, inB]; omega
  have h6 : anyTo (fun k => !P.hOk x k) x.sn = false := anyTo_false.2 fun k hk => by
    have := h.shand k hk
    rw [P.hOk, Go.IntWalk.wrap64_in _ (by omega)]
    simp [inB]; omega
  have h7 : anyTo (fun k => decide (x.c (k+1) 0 < x.c k 0)) (x.cn - 1) = false := anyTo_false.2 fun k hk => by
    have := h.inc k (by omega)
    exact decide_eq_false (by omega)
  have h8 : anyTo (fun k => x.c (k+1) 0 == x.c k 0) (x.cn - 1) = false := anyTo_false.2 fun k hk => by
    have := h.inc k (by omega)
    rw [beq_eq_false_iff_ne]; omega
  have h9 : anyTo (fun k => !P.lhOk x k) x.cn = false := anyTo_false.2 fun k hk => by
    have := h.le k hk
    simp [P.lhOk]; omega
  have h10 : anyTo (fun k => !P.ftOk x k) x.sn = false := anyTo_false.2 fun k hk => by
    have := h.sord k hk
    simp [P.ftOk]; omega
  simp [P.chk, h1, h2, h3, h4, h5, h6, h7, h8, h9, h10]
end HandSpec
