/- What the law of proofs asks: plain law. No condition. -/
import Derived.Test.YtkhjmedfhobebaaGreatTrueP
import Derived.Test.YtkhjmedfhobebaaGreatRefP
namespace HandSpec
namespace L
open R P Go Go.Proofs.YtkhjmedfhobebaaGreat
variable {x : WD}
/-- No other of the first n hands is there. -/
def aloneTo (x : WD) (h : Nat) (s : Nat × Nat) : Nat → Bool
  | 0 => true
  | n+1 => aloneTo x h s n && (decide ((n : Int) = h) || !R.is x s.1 s.2 n)
theorem aloneTo_iff {h : Nat} {s : Nat × Nat} : ∀ {n : Nat}, aloneTo x h s n = true ↔ ∀ y, y < n → y ≠ h → R.is x s.1 s.2 y = false
  | 0 => by simp [aloneTo]
  | n+1 => by
    unfold aloneTo
    rw [Bool.and_eq_true, aloneTo_iff (n := n)]
    constructor
    · rintro ⟨h1, h2⟩ y hy hne
      rcases Nat.lt_or_eq_of_le (Nat.le_of_lt_succ hy) with h3 | h3
      · exact h1 y h3 hne
      · subst h3
        rw [show decide ((y : Int) = h) = false from decide_eq_false (by omega)] at h2
        simpa using h2
    · intro h1
      refine ⟨fun y hy => h1 y (by omega), ?_⟩
      by_cases e : n = h
      · subst e; simp
      · rw [h1 n (by omega) e]; simp
/-- A stretch proves something of a hand alone. -/
def goodB (x : WD) (h : Nat) (s : Nat × Nat) : Bool := decide (0 < R.gap x s.1 s.2) && aloneTo x h s x.hands.toNat
theorem th_alone (hx : Ok x) {h a b : Nat} (_hh : h < x.hands.toNat) (hab : a < b) (hb : b < x.cn) : decide (th x a b ^^^ (th x a b &&& 2 ^ h) ≠ 0) = !aloneTo x h (a, b) x.hands.toNat := by
  rw [Bool.eq_iff_iff, decide_eq_true_iff, Bool.not_eq_true', ← Bool.not_eq_true, aloneTo_iff]
  refine not_congr ?_
  have hbit : ∀ y, (th x a b ^^^ (th x a b &&& 2 ^ h)).testBit y = (R.is x a b y && !decide (h = y)) := fun y => by
    rw [Nat.testBit_xor, Nat.testBit_and, th_bit hx hab hb, Nat.testBit_two_pow]
    cases R.is x a b y <;> simp
  constructor
  · intro h0 y _ hne
    have := hbit y
    rw [h0, Nat.zero_testBit, show decide (h = y) = false from decide_eq_false fun e => hne e.symm] at this
    simpa using this.symm
  · intro h0
    apply Nat.eq_of_testBit_eq
    intro y
    rw [hbit, Nat.zero_testBit]
    by_cases e : h = y
    · simp [e]
    · rcases Nat.lt_or_ge y x.hands.toNat with hy | hy
      · rw [h0 y hy fun e' => e e'.symm]; rfl
      · have : (th x a b).testBit y = false := Nat.testBit_lt_two_pow (Nat.lt_of_lt_of_le (th_lt' hx a b) (Nat.pow_le_pow_right (by omega) hy))
        rw [th_bit hx hab hb] at this
        rw [this]; rfl
/-- The list of pairs, as the program reads it. -/
def gT (T : List (Nat × Nat)) : Nat → Nat → Int := rowsAt (rows2 T)
theorem gT0 {T : List (Nat × Nat)} {k : Nat} (h : k < T.length) : gT T k 0 = ((nth T k).1 : Int) := by unfold gT rowsAt; rw [rowsAt_nth T h]; rfl
theorem gT1 {T : List (Nat × Nat)} {k : Nat} (h : k < T.length) : gT T k 1 = ((nth T k).2 : Int) := by unfold gT rowsAt; rw [rowsAt_nth T h]; rfl
/-- All are stretches of the watch. -/
def Strs (x : WD) (T : List (Nat × Nat)) : Prop := ∀ k, k < T.length → (nth T k).1 < (nth T k).2 ∧ (nth T k).2 < x.cn
theorem pvE_eq (hx : Ok x) {h : Nat} (hh : h < x.hands.toNat) {T : List (Nat × Nat)} (hT : Strs x T) {k : Nat} (hk : k < T.length) : pvE x h (gT T) k = if goodB x h (nth T k) then 0 else 8 := by
  obtain ⟨h1, h2⟩ := hT k hk
  have hs : strE x ((nth T k).1 : Int) ((nth T k).2 : Int) = 0 := by
    have e1 : inB ((nth T k).1 : Int) 0 ((x.cn : Int) - 1) = true := by simp [inB]; omega
    have e2 : inB ((nth T k).2 : Int) 0 ((x.cn : Int) - 1) = true := by simp [inB]; omega
    unfold strE
    rw [if_neg (fun h => h (chk_of hx)), e1, e2, if_neg (by simp), if_neg (by omega)]
  have ht := th_alone hx hh h1 h2
  unfold pvE goodB
  rw [gT0 hk, gT1 hk, hs, if_neg (by simp)]
  simp only [Int.toNat_natCast]
  rw [P.gap_eq hx (by omega) h2]
  by_cases hg : R.gap x (nth T k).1 (nth T k).2 ≤ 0
  · rw [if_pos hg, show decide (0 < R.gap x (nth T k).1 (nth T k).2) = false from decide_eq_false (by omega)]; rfl
  · rw [if_neg hg, show decide (0 < R.gap x (nth T k).1 (nth T k).2) = true from decide_eq_true (by omega), Bool.true_and]
    cases ha : aloneTo x h (nth T k) x.hands.toNat
    · rw [show aloneTo x h ((nth T k).1, (nth T k).2) x.hands.toNat = aloneTo x h (nth T k) x.hands.toNat from rfl, ha] at ht
      rw [if_pos (of_decide_eq_true ht)]; rfl
    · rw [show aloneTo x h ((nth T k).1, (nth T k).2) x.hands.toNat = aloneTo x h (nth T k) x.hands.toNat from rfl, ha] at ht
      rw [if_neg (of_decide_eq_false ht)]; rfl
theorem errTo_two {f : Nat → Int} {q : Nat → Bool} : ∀ {n : Nat}, (∀ k, k < n → f k = if q k then 0 else 8) → errTo f n = if anyTo (fun k => !q k) n then 8 else 0
  | 0, _ => rfl
  | n+1, h => by
    unfold errTo
    rw [errTo_two (n := n) fun k hk => h k (by omega), h n (by omega)]
    rw [show anyTo (fun k => !q k) (n+1) = (anyTo (fun k => !q k) n || !q n) from rfl]
    cases anyTo (fun k => !q k) n <;> cases q n <;> simp
/-- How often an interval of the hand is in the first n stretches. -/
def useF (x : WD) (h : Nat) (T : List (Nat × Nat)) (i q : Nat) : Bool := R.is x i (i+1) h && (decide ((nth T q).1 ≤ i) && decide (i < (nth T q).2))
def usedTo (x : WD) (h : Nat) (T : List (Nat × Nat)) (n i : Nat) : Int := sumTo (fun q => if useF x h T i q then 1 else 0) n
theorem cnt_pos {p : Nat → Bool} : ∀ {n : Nat}, 0 ≤ sumTo (fun q => if p q then (1 : Int) else 0) n ∧ (0 < sumTo (fun q => if p q then (1 : Int) else 0) n ↔ ∃ j, j < n ∧ p j = true)
  | 0 => by simp [sumTo]
  | n+1 => by
    obtain ⟨h1, h2⟩ := cnt_pos (p := p) (n := n)
    simp only [sumTo]
    cases hp : p n
    · refine ⟨by simpa using h1, ?_⟩
      simp only [Bool.false_eq_true, if_false, Int.add_zero]
      rw [h2]
      constructor
      · rintro ⟨j, hj, hpj⟩; exact ⟨j, by omega, hpj⟩
      · rintro ⟨j, hj, hpj⟩
        refine ⟨j, ?_, hpj⟩
        rcases Nat.lt_or_eq_of_le (Nat.le_of_lt_succ hj) with h3 | h3
        · exact h3
        · subst h3; rw [hp] at hpj; cases hpj
    · simp only [if_true]
      exact ⟨by omega, fun _ => ⟨n, by omega, hp⟩, fun _ => by omega⟩
theorem cnt_two {p : Nat → Bool} : ∀ {n : Nat}, 1 < sumTo (fun q => if p q then (1 : Int) else 0) n ↔ ∃ k, k < n ∧ p k = true ∧ ∃ j, j < k ∧ p j = true
  | 0 => by simp [sumTo]
  | n+1 => by
    have ih := cnt_two (p := p) (n := n)
    obtain ⟨h1, h2⟩ := cnt_pos (p := p) (n := n)
    simp only [sumTo]
    cases hp : p n
    · simp only [Bool.false_eq_true, if_false, Int.add_zero]
      rw [ih]
      constructor
      · rintro ⟨k, hk, hpk⟩; exact ⟨k, by omega, hpk⟩
      · rintro ⟨k, hk, hpk, hj⟩
        rcases Nat.lt_or_eq_of_le (Nat.le_of_lt_succ hk) with h3 | h3
        · exact ⟨k, h3, hpk, hj⟩
        · subst h3; rw [hp] at hpk; cases hpk
    · simp only [if_true]
      constructor
      · intro h
        exact ⟨n, by omega, hp, h2.1 (by omega)⟩
      · rintro ⟨k, hk, hpk, j, hj, hpj⟩
        have := h2.2 ⟨j, by omega, hpj⟩
        omega
/-- Some interval of the hand is in two of them. -/
def twiceB (x : WD) (h : Nat) (T : List (Nat × Nat)) : Bool := anyTo (fun i => decide (1 < usedTo x h T T.length i)) x.cn
theorem spot_is (hx : Ok x) {h i : Nat} (hi : i + 1 < x.cn) : spot x (2 ^ h) i = R.is x i (i+1) h := by
  unfold spot
  rw [show decide (i + 1 < x.cn) = true from decide_eq_true hi, Bool.true_and, ← th_bit hx (by omega) hi h]
  rw [Bool.eq_iff_iff, decide_eq_true_iff]
  constructor
  · intro h0
    cases hb : (th x i (i+1)).testBit h with
    | true => rfl
    | false =>
      exfalso
      apply h0
      apply Nat.eq_of_testBit_eq
      intro y
      rw [Nat.testBit_and, Nat.testBit_two_pow, Nat.zero_testBit]
      by_cases e : h = y
      · subst e; rw [hb]; rfl
      · simp [e]
  · intro hb h0
    have : (th x i (i+1) &&& 2 ^ h).testBit h = true := by rw [Nat.testBit_and, hb, Nat.testBit_two_pow]; simp
    rw [h0, Nat.zero_testBit] at this
    cases this
theorem dup_eq (hx : Ok x) {h : Nat} {T : List (Nat × Nat)} (hT : Strs x T) : dup (spot x (2 ^ h)) (gT T) T.length = twiceB x h T := by
  have hc8 := hx.cn
  unfold dup twiceB
  rw [Bool.eq_iff_iff, anyTo_true, anyTo_true]
  constructor
  · rintro ⟨k, hk, h1⟩
    rw [anyTo_true] at h1
    obtain ⟨i, hi, h1⟩ := h1
    simp only [Bool.and_eq_true, anyTo_true] at h1
    obtain ⟨ho, hck, j, hj, hcj⟩ := h1
    unfold cov at hck hcj
    rw [gT0 hk, gT1 hk] at hck
    rw [gT0 (by omega), gT1 (by omega)] at hcj
    simp only [Bool.and_eq_true, decide_eq_true_iff] at hck hcj
    have hb := hT k hk
    have his : R.is x i (i+1) h = true := by rw [← spot_is hx (by omega)]; exact ho
    refine ⟨i, by omega, decide_eq_true ?_⟩
    unfold usedTo
    rw [cnt_two]
    refine ⟨k, hk, ?_, j, hj, ?_⟩
    · unfold useF; rw [his, decide_eq_true (show (nth T k).1 ≤ i by omega), decide_eq_true (show i < (nth T k).2 by omega)]; rfl
    · unfold useF; rw [his, decide_eq_true (show (nth T j).1 ≤ i by omega), decide_eq_true (show i < (nth T j).2 by omega)]; rfl
  · rintro ⟨i, hi, h1⟩
    have h1 := of_decide_eq_true h1
    unfold usedTo at h1
    rw [cnt_two] at h1
    obtain ⟨k, hk, hpk, j, hj, hpj⟩ := h1
    unfold useF at hpk hpj
    simp only [Bool.and_eq_true, decide_eq_true_iff] at hpk hpj
    have hb := hT k hk
    refine ⟨k, hk, ?_⟩
    rw [anyTo_true]
    refine ⟨i, by omega, ?_⟩
    simp only [Bool.and_eq_true, anyTo_true]
    refine ⟨by rw [spot_is hx (by omega)]; exact hpk.1, ?_, j, hj, ?_⟩
    · unfold cov
      rw [gT0 hk, gT1 hk]
      simp only [Bool.and_eq_true, decide_eq_true_iff]
      omega
    · unfold cov
      rw [gT0 (by omega), gT1 (by omega)]
      simp only [Bool.and_eq_true, decide_eq_true_iff]
      omega
/-- All of them prove something. -/
def holdsTo (x : WD) (h : Nat) (T : List (Nat × Nat)) (n : Nat) : Bool := !anyTo (fun k => !goodB x h (nth T k)) n
def sumG (x : WD) (T : List (Nat × Nat)) (n : Nat) : Int := sumTo (fun k => R.gap x (nth T k).1 (nth T k).2) n
theorem provesE_eq (hx : Ok x) {h : Nat} (hh : h < x.hands.toNat) {T : List (Nat × Nat)} (hT : Strs x T) : provesE x h (gT T) T.length = if holdsTo x h T T.length then (if twiceB x h T then 5 else 0) else 8 := by
  unfold provesE holdsTo
  rw [errTo_two fun k hk => pvE_eq hx hh hT hk, dup_eq hx hT]
  cases anyTo (fun k => !goodB x h (nth T k)) T.length <;> simp
theorem provesV_eq (hx : Ok x) {h : Nat} (hh : h < x.hands.toNat) {T : List (Nat × Nat)} (hT : Strs x T) : provesV x h (gT T) T.length = if holdsTo x h T T.length && !twiceB x h T then sumG x T T.length else 0 := by
  unfold provesV
  rw [provesE_eq hx hh hT]
  have hs : sumTo (pvG x (gT T)) T.length = sumG x T T.length := sumTo_congr fun k hk => by
    obtain ⟨h1, h2⟩ := hT k hk
    unfold pvG
    rw [gT0 hk, gT1 hk]
    simp only [Int.toNat_natCast]
    exact P.gap_eq hx (by omega) h2
  rw [hs]
  cases holdsTo x h T T.length <;> cases twiceB x h T <;> simp
/-- Along a stretch a hand alone takes what is missing. -/
theorem along (hx : Ok x) {m : Nat} (hm : m < 2 ^ x.hands.toNat) {p c : Nat → Int} (hp : Path x m (x.cn - 1) p c) {a b : Nat} (hb : b < x.cn) (hmet : met x (whole x - m) a b = false) :
    ∀ t, a ≤ t → t ≤ b → p a + booked x a t - al x a t - p t ≤ sumTo (fun i => if R.can x m i && (decide (a ≤ i) && decide (i < b)) then c i else 0) t := by
  intro t
  induction t with
  | zero =>
    intro h1 _
    obtain rfl : a = 0 := by omega
    rw [booked_self, al_self]; simp [sumTo]
  | succ t ih =>
    intro g1 g2
    simp only [sumTo]
    rcases Nat.lt_or_eq_of_le g1 with g | g
    · have h4 := ih (by omega) (by omega)
      rw [booked_add hx (show a ≤ t by omega) (show t ≤ t+1 by omega) (by omega), al_add x a t (t+1)]
      have hoth := met_false.1 hmet t (by omega) (by omega)
      rw [decide_eq_true (show a ≤ t by omega), decide_eq_true (show t < b by omega), Bool.and_self, Bool.and_true]
      cases hc : R.can x m t
      · have := hp.none t (by omega) ((can_whole hm t).2 ⟨hoth, hc⟩)
        simp only [Bool.false_eq_true, if_false]
        omega
      · have := hp.mine t (by omega) hoth
        simp only [if_true]
        omega
    · have h0 : ∀ n, 0 ≤ sumTo (fun i => if R.can x m i && (decide (a ≤ i) && decide (i < b)) then c i else 0) n ∨ x.cn - 1 < n := fun n => by
        induction n with
        | zero => left; simp [sumTo]
        | succ n ihn =>
          rcases Nat.lt_or_ge n (x.cn - 1) with hn | hn
          · left
            have := hp.pos n hn
            rcases ihn with h | h
            · simp only [sumTo]; split <;> omega
            · omega
          · right; omega
      have h1 := h0 (t+1)
      simp only [sumTo] at h1
      rw [← g, booked_self, al_self]
      omega
theorem sum_nonneg {f : Nat → Int} : ∀ {n : Nat}, (∀ i, i < n → 0 ≤ f i) → 0 ≤ sumTo f n
  | 0, _ => by simp [sumTo]
  | n+1, h => by
    have h1 := sum_nonneg (n := n) fun i hi => h i (by omega)
    have h2 := h n (by omega)
    simp only [sumTo]; omega
theorem sum_mono {f : Nat → Int} {n : Nat} : ∀ {m : Nat}, n ≤ m → (∀ i, i < m → 0 ≤ f i) → sumTo f n ≤ sumTo f m
  | 0, h, _ => by obtain rfl : n = 0 := by omega
                  exact Int.le_refl _
  | m+1, h, hf => by
    rcases Nat.lt_or_eq_of_le h with h1 | h1
    · have h2 := sum_mono (n := n) (m := m) (by omega) fun i hi => hf i (by omega)
      have h3 := hf m (by omega)
      simp only [sumTo]; omega
    · rw [h1]; exact Int.le_refl _
theorem sum_le {f g : Nat → Int} : ∀ {n : Nat}, (∀ i, i < n → f i ≤ g i) → sumTo f n ≤ sumTo g n
  | 0, _ => by simp [sumTo]
  | n+1, h => by
    have h1 := sum_le (n := n) fun i hi => h i (by omega)
    have h2 := h n (by omega)
    simp only [sumTo]; omega
theorem bit_can (hx : Ok x) {h i : Nat} (_hh : h < x.hands.toNat) (hi : i + 1 < x.cn) : R.can x (2 ^ h) i = R.is x i (i+1) h := by
  rw [← spot_can hx hi, spot_is hx hi]
theorem gap_cost (hx : Ok x) {h : Nat} (hh : h < x.hands.toNat) {p c : Nat → Int} (hp : Path x (2 ^ h) (x.cn - 1) p c) {T : List (Nat × Nat)} (hT : Strs x T) {q : Nat} (hq : q < T.length) (hg : goodB x h (nth T q) = true) :
    R.gap x (nth T q).1 (nth T q).2 ≤ sumTo (fun i => (if useF x h T i q then 1 else 0) * c i) (x.cn - 1) := by
  obtain ⟨hab, hb⟩ := hT q hq
  have hm : 2 ^ h < 2 ^ x.hands.toNat := bit_lt hh
  unfold goodB at hg
  rw [Bool.and_eq_true, aloneTo_iff] at hg
  have hmet : met x (whole x - 2 ^ h) (nth T q).1 (nth T q).2 = false := met_false.2 fun i h1 h2 => by
    cases hc : R.can x (whole x - 2 ^ h) i with
    | false => rfl
    | true =>
      obtain ⟨y, hy, hb', hi⟩ := can_isat.1 hc
      rw [other_bit hm, Bool.and_eq_true, Nat.testBit_two_pow] at hb'
      have := hg.2 y hy fun e => by subst e; simp at hb'
      rw [Bool.eq_false_iff] at this
      exact absurd (is_true.2 ⟨i, h1, h2, hi⟩) this
  have hk := along hx hm hp hb hmet (nth T q).2 (by omega) (Nat.le_refl _)
  have hcn : (nth T q).2 ≤ x.cn - 1 := by omega
  have hpos : ∀ i, i < x.cn - 1 → 0 ≤ (if R.can x (2 ^ h) i && (decide ((nth T q).1 ≤ i) && decide (i < (nth T q).2)) then c i else 0) := fun i hi => by
    have := hp.pos i hi
    split <;> omega
  have h2 := sum_mono hcn hpos
  have h3 : sumTo (fun i => if R.can x (2 ^ h) i && (decide ((nth T q).1 ≤ i) && decide (i < (nth T q).2)) then c i else 0) (x.cn - 1) = sumTo (fun i => (if useF x h T i q then 1 else 0) * c i) (x.cn - 1) := sumTo_congr fun i hi => by
    rw [bit_can hx hh (by omega)]
    unfold useF
    cases (R.is x i (i+1) h && (decide ((nth T q).1 ≤ i) && decide (i < (nth T q).2))) <;> simp
  have b1 := (hp.box (nth T q).1 (by omega)).1
  have b2 := (hp.box (nth T q).2 (by omega)).2
  rw [h3] at h2
  rw [gap_al]
  omega
theorem sumG_le (hx : Ok x) (hw : fwOk x (whole x) = true) {h : Nat} (hh : h < x.hands.toNat) {T : List (Nat × Nat)} (hT : Strs x T) (hg : holdsTo x h T T.length = true) (h2 : twiceB x h T = false) : sumG x T T.length ≤ P.proved x (2 ^ h) := by
  obtain ⟨p, c, hp, hsum⟩ := proved_path hx hw (bit_lt hh)
  have hg' : ∀ q, q < T.length → goodB x h (nth T q) = true := fun q hq => by
    unfold holdsTo at hg
    have := anyTo_false.1 (show anyTo (fun k => !goodB x h (nth T k)) T.length = false by simpa using hg) q hq
    simpa using this
  have key : ∀ n, n ≤ T.length → sumG x T n ≤ sumTo (fun i => usedTo x h T n i * c i) (x.cn - 1) := by
    intro n
    induction n with
    | zero =>
      intro _
      show (0 : Int) ≤ _
      refine sum_nonneg fun i _ => ?_
      simp [usedTo, sumTo]
    | succ n ih =>
      intro hn
      have h3 := ih (by omega)
      have h4 := gap_cost hx hh hp hT (show n < T.length by omega) (hg' n (by omega))
      have h5 : sumTo (fun i => usedTo x h T (n+1) i * c i) (x.cn - 1) = sumTo (fun i => usedTo x h T n i * c i) (x.cn - 1) + sumTo (fun i => (if useF x h T i n then 1 else 0) * c i) (x.cn - 1) := by
        rw [← sumTo_add]
        refine sumTo_congr fun i _ => ?_
        show (usedTo x h T n i + (if useF x h T i n then 1 else 0)) * c i = _
        rw [Int.add_mul]
      rw [h5]
      show sumG x T n + R.gap x (nth T n).1 (nth T n).2 ≤ _
      omega
  rw [← hsum]
  refine Int.le_trans (key T.length (Nat.le_refl _)) (sum_le fun i hi => ?_)
  have h3 := anyTo_false.1 h2 i (by omega)
  have h4 := of_decide_eq_false h3
  have h5 : 0 ≤ usedTo x h T T.length i := cnt_pos.1
  have h6 := hp.pos i hi
  have h7 := Int.mul_le_mul_of_nonneg_right (show usedTo x h T T.length i ≤ 1 by omega) h6
  omega
/-- What is told to prove it does. -/
theorem proof_good (hx : Ok x) {h : Nat} (hh : h < x.hands.toNat) {l : List (Nat × Nat)} (hl : l.Perm (P.proof x (2 ^ h))) : Strs x l ∧ holdsTo x h l l.length = true ∧ twiceB x h l = false ∧ sumG x l l.length = P.proved x (2 ^ h) := by
  obtain ⟨g1, g2, g3⟩ := proof_ok l hl
  have hm : 2 ^ h < 2 ^ x.hands.toNat := bit_lt hh
  have hS : Strs x l := fun k hk => by rw [nth_get l hk]; exact (g1 _ (List.getElem_mem hk)).1
  refine ⟨hS, ?_, ?_, ?_⟩
  · unfold holdsTo
    rw [Bool.not_eq_true', anyTo_false]
    intro k hk
    obtain ⟨⟨h1, h2⟩, e, -, hok⟩ := g1 (nth l k) (by rw [nth_get l hk]; exact List.getElem_mem hk)
    obtain ⟨-, hmet, hgap⟩ := okS_get hx hm h1 h2 hok
    show (!goodB x h (nth l k)) = false
    unfold goodB
    rw [decide_eq_true hgap, Bool.true_and, aloneTo_iff.2, Bool.not_true]
    intro y hy hne
    cases hi : R.is x (nth l k).1 (nth l k).2 y with
    | false => rfl
    | true =>
      obtain ⟨i, i1, i2, i3⟩ := is_true.1 hi
      have hc := met_false.1 hmet i i1 i2
      have := can_isat_no hc hy (by rw [other_bit hm, decide_eq_true hy, Nat.testBit_two_pow]; simp; omega)
      rw [this] at i3; cases i3
  · unfold twiceB
    rw [anyTo_false]
    intro i hi
    refine decide_eq_false fun h1 => ?_
    unfold usedTo at h1
    rw [cnt_two] at h1
    obtain ⟨k, hk, hpk, j, hj, hpj⟩ := h1
    unfold useF at hpk hpj
    simp only [Bool.and_eq_true, decide_eq_true_iff] at hpk hpj
    have hb := hS k hk
    have ho : spot x (2 ^ h) i = true := by rw [spot_is hx (by omega)]; exact hpk.1
    obtain ⟨a1, a2⟩ := in_range hpk.2.1 hpk.2.2 ho
    obtain ⟨a3, a4⟩ := in_range hpj.2.1 hpj.2.2 ho
    have hoff := List.pairwise_iff_getElem.1 g2 j k (by omega) hk hj
    rw [← nth_get l (by omega), ← nth_get l hk] at hoff
    unfold Off at hoff
    omega
  · rw [← g3]
    have := gsum_take (x := x) l l.length (Nat.le_refl _)
    rw [List.take_length] at this
    rw [← this]
    exact sumTo_congr fun k hk => by
      obtain ⟨h1, h2⟩ := hS k hk
      exact (P.gap_eq hx (by omega) h2).symm
end L
end HandSpec
