/- One count more: plain law; contracts of what its law calls. No condition. -/
import Derived.Test.YtkhjmedfhobebaaGreatTrueP
import Derived.Test.YtkhjmedfhobebaaGreatRefZ
import Derived.Test.YtkhjmedfhobebaaGreatNameW
import Derived.Test.YtkhjmedfhobebaaGreatDel
import Derived.Test.YtkhjmedfhobebaaGreatDoU
namespace HandSpec
namespace L
open R P
variable {x y : WD} {i m : Nat}
/-- Where a count lies behind the new one. -/
def upN (i a : Nat) : Nat := if a < i then a else a + 1
theorem upN_lt {i a : Nat} (h : a < i) : upN i a = a := if_pos h
theorem upN_ge {i a : Nat} (h : i ≤ a) : upN i a = a + 1 := if_neg (by omega)
theorem upN_mono {i a b : Nat} (h : a < b) : upN i a < upN i b := by unfold upN; split <;> split <;> omega
theorem upN_le (i a : Nat) : a ≤ upN i a ∧ upN i a ≤ a + 1 := by unfold upN; split <;> omega
/-- y is x with one count more, number i. -/
structure Ins (x y : WD) (i : Nat) : Prop where
  cn : y.cn = x.cn + 1
  le : i ≤ x.cn
  c : ∀ a j, a < x.cn → y.c (upN i a) j = x.c a j
  hands : y.hands = x.hands
  allow : y.allow = x.allow
  bn : y.bn = x.bn
  b : ∀ a j, y.b a j = x.b a j
  sn : y.sn = x.sn
  s : ∀ a j, y.s a j = x.s a j
namespace Ins
theorem booked (I : Ins x y i) {a b : Nat} (ha : a < x.cn) (hb : b < x.cn) : R.booked y (upN i a) (upN i b) = R.booked x a b := by
  unfold R.booked
  rw [I.bn]
  refine sumTo_congr fun k _ => ?_
  unfold bookf
  rw [I.c a 0 ha, I.c b 0 hb, I.b, I.b]
theorem al (I : Ins x y i) {a b : Nat} (ha : a < x.cn) (hb : b < x.cn) : R.al y (upN i a) (upN i b) = R.al x a b := by
  unfold R.al R.hours
  rw [I.c a 0 ha, I.c b 0 hb, I.allow]
theorem gap (I : Ins x y i) {a b : Nat} (ha : a < x.cn) (hb : b < x.cn) : R.gap y (upN i a) (upN i b) = R.gap x a b := by
  rw [gap_al, gap_al, I.booked ha hb, I.al ha hb, I.c a 1 ha, I.c b 2 hb]
theorem whole (I : Ins x y i) : R.whole y = R.whole x := by unfold R.whole; rw [I.hands]
/-- The interval of x in which one of y lies. -/
def dn (i k : Nat) : Nat := if k < i then k else k - 1
theorem isat_same (I : Ins x y i) {a : Nat} (ha : a + 1 < x.cn) (hne : a + 1 ≠ i) (h : Int) : isat y h (upN i a) = isat x h a := by
  unfold isat
  rw [I.sn]
  have e : upN i a + 1 = upN i (a + 1) := by unfold upN; split <;> split <;> omega
  congr 1
  funext k
  unfold isf
  rw [e, I.c (a+1) 0 ha, I.c a 0 (by omega), I.s, I.s, I.s]
theorem isat_l (I : Ins x y i) (hy : Ok y) {a : Nat} (ha : a + 1 < x.cn) (he : a + 1 = i) {h : Int} (hi : isat y h a = true) : isat x h a = true := by
  unfold isat at hi ⊢
  rw [anyTo_true] at hi ⊢
  obtain ⟨k, hk, hf⟩ := hi
  refine ⟨k, by rw [← I.sn]; exact hk, ?_⟩
  unfold isf at hf ⊢
  have h1 := I.c a 0 (by omega)
  rw [upN_lt (by omega)] at h1
  have h2 := I.c (a+1) 0 ha
  rw [upN_ge (by omega)] at h2
  have h3 := hy.inc (a+1) (by rw [I.cn]; omega)
  rw [I.s, I.s, I.s, h1] at hf
  simp only [Bool.and_eq_true, decide_eq_true_iff] at hf ⊢
  exact ⟨hf.1, by omega, hf.2.2⟩
theorem isat_r (I : Ins x y i) (hy : Ok y) {a : Nat} (ha : a + 1 < x.cn) (he : a + 1 = i) {h : Int} (hi : isat y h (a + 1) = true) : isat x h a = true := by
  unfold isat at hi ⊢
  rw [anyTo_true] at hi ⊢
  obtain ⟨k, hk, hf⟩ := hi
  refine ⟨k, by rw [← I.sn]; exact hk, ?_⟩
  unfold isf at hf ⊢
  have h1 := I.c a 0 (by omega)
  rw [upN_lt (by omega)] at h1
  have h2 := I.c (a+1) 0 ha
  rw [upN_ge (by omega)] at h2
  have h3 := hy.inc a (by rw [I.cn]; omega)
  rw [I.s, I.s, I.s, h2] at hf
  simp only [Bool.and_eq_true, decide_eq_true_iff] at hf ⊢
  exact ⟨hf.1, hf.2.1, by omega⟩
theorem can_same (I : Ins x y i) {a : Nat} (ha : a + 1 < x.cn) (hne : a + 1 ≠ i) (M : Nat) : R.can y M (upN i a) = R.can x M a := by
  rw [Bool.eq_iff_iff, can_isat, can_isat, I.hands]
  simp only [I.isat_same ha hne]
theorem can_l (I : Ins x y i) (hy : Ok y) {a : Nat} (ha : a + 1 < x.cn) (he : a + 1 = i) {M : Nat} (h : R.can x M a = false) : R.can y M a = false := by
  cases hc : R.can y M a
  · rfl
  · obtain ⟨k, h1, h2, h3⟩ := can_isat.1 hc
    rw [can_isat.2 ⟨k, by rw [← I.hands]; exact h1, h2, I.isat_l hy ha he h3⟩] at h
    cases h
theorem can_r (I : Ins x y i) (hy : Ok y) {a : Nat} (ha : a + 1 < x.cn) (he : a + 1 = i) {M : Nat} (h : R.can x M a = false) : R.can y M (a + 1) = false := by
  cases hc : R.can y M (a + 1)
  · rfl
  · obtain ⟨k, h1, h2, h3⟩ := can_isat.1 hc
    rw [can_isat.2 ⟨k, by rw [← I.hands]; exact h1, h2, I.isat_r hy ha he h3⟩] at h
    cases h
/-- What is taken in the intervals of x, by those of y. -/
def cost (i : Nat) (c : Nat → Int) (a : Nat) : Int := if a + 1 = i then c a + c (a + 1) else c (upN i a)
theorem cost_sum (i : Nat) {c : Nat → Int} : ∀ {n : Nat}, (∀ k, k < upN i n → 0 ≤ c k) → sumTo (cost i c) n ≤ sumTo c (upN i n)
  | 0, h => by
    simp only [sumTo]
    exact sumTo_pos h
  | n+1, h => by
    have hm := upN_mono (i := i) (show n < n + 1 by omega)
    have ih := cost_sum i (n := n) fun k hk => h k (by omega)
    simp only [sumTo]
    unfold cost at ih ⊢
    by_cases e : n + 1 = i
    · rw [if_pos e, upN_ge (by omega)]
      rw [upN_lt (by omega)] at ih
      simp only [sumTo]
      omega
    · rw [if_neg e, show upN i (n+1) = upN i n + 1 by unfold upN; split <;> split <;> omega]
      simp only [sumTo]
      omega
theorem path (I : Ins x y i) (hx : Ok x) (hy : Ok y) {p c : Nat → Int} (hp : Path y m (y.cn - 1) p c) : Path x m (x.cn - 1) (fun a => p (upN i a)) (cost i c) ∧ sumTo (cost i c) (x.cn - 1) ≤ sumTo c (y.cn - 1) := by
  have hcn := hx.cn
  have hcy := I.cn
  have hsp : ∀ a, a + 1 < x.cn → (a + 1 ≠ i ∧ upN i (a + 1) = upN i a + 1 ∧ upN i a + 1 ≤ y.cn - 1) ∨ (a + 1 = i ∧ upN i a = a ∧ upN i (a + 1) = a + 1 + 1 ∧ a + 1 + 1 ≤ y.cn - 1) := fun a ha => by
    unfold upN
    split <;> split <;> omega
  refine ⟨⟨fun a ha => ?_, fun a ha => ?_, fun a ha hc => ?_, fun a ha ho => ?_⟩, ?_⟩
  · have h1 := hp.box (upN i a) (by have := upN_le i a; omega)
    rw [I.c a 1 (by omega), I.c a 2 (by omega)] at h1
    exact h1
  · unfold cost
    rcases hsp a (by omega) with ⟨h1, -, h3⟩ | ⟨h1, -, -, h4⟩
    · rw [if_neg h1]; exact hp.pos _ (by omega)
    · rw [if_pos h1]
      have := hp.pos a (by omega)
      have := hp.pos (a+1) (by omega)
      omega
  · rw [← I.booked (show a < x.cn by omega) (show a + 1 < x.cn by omega), ← I.al (show a < x.cn by omega) (show a + 1 < x.cn by omega)]
    rcases hsp a (by omega) with ⟨h1, h2, h3⟩ | ⟨h1, h2, h3, h4⟩
    · rw [h2]
      refine hp.none _ (by omega) ?_
      rw [I.whole, I.can_same (by omega) h1]; exact hc
    · rw [h2, h3]
      have a1 := hp.none a (by omega) (by rw [I.whole]; exact I.can_l hy (by omega) h1 hc)
      have a2 := hp.none (a+1) (by omega) (by rw [I.whole]; exact I.can_r hy (by omega) h1 hc)
      rw [booked_add hy (show a ≤ a + 1 by omega) (show a + 1 ≤ a + 1 + 1 by omega) (by omega), al_add y a (a+1) (a+1+1)]
      omega
  · rw [← I.booked (show a < x.cn by omega) (show a + 1 < x.cn by omega), ← I.al (show a < x.cn by omega) (show a + 1 < x.cn by omega)]
    unfold oth at ho
    unfold cost
    rcases hsp a (by omega) with ⟨h1, h2, h3⟩ | ⟨h1, h2, h3, h4⟩
    · rw [h2, if_neg h1]
      refine hp.mine _ (by omega) ?_
      unfold oth
      rw [I.whole, I.can_same (by omega) h1]; exact ho
    · rw [h2, h3, if_pos h1]
      have a1 := hp.mine a (by omega) (by unfold oth; rw [I.whole]; exact I.can_l hy (by omega) h1 ho)
      have a2 := hp.mine (a+1) (by omega) (by unfold oth; rw [I.whole]; exact I.can_r hy (by omega) h1 ho)
      rw [booked_add hy (show a ≤ a + 1 by omega) (show a + 1 ≤ a + 1 + 1 by omega) (by omega), al_add y a (a+1) (a+1+1)]
      omega
  · have hu := upN_le i (x.cn - 1)
    refine Int.le_trans (cost_sum i fun k hk => hp.pos k (by omega)) ?_
    have key : ∀ d, upN i (x.cn - 1) + d ≤ y.cn - 1 → sumTo c (upN i (x.cn - 1)) ≤ sumTo c (upN i (x.cn - 1) + d) := by
      intro d
      induction d with
      | zero => intro _; exact Int.le_refl _
      | succ d ih =>
        intro hd
        have h1 := ih (by omega)
        have h2 := hp.pos (upN i (x.cn - 1) + d) (by omega)
        rw [← Nat.add_assoc]
        simp only [sumTo]
        omega
    have := key (y.cn - 1 - upN i (x.cn - 1)) (by omega)
    rwa [show upN i (x.cn - 1) + (y.cn - 1 - upN i (x.cn - 1)) = y.cn - 1 by omega] at this
/-- Each least is no less. -/
theorem proved (I : Ins x y i) (hx : Ok x) (hy : Ok y) (hw : fwOk x (R.whole x) = true) (hwy : fwOk y (R.whole y) = true) (hm : m < 2 ^ x.hands.toNat) : P.proved x m ≤ P.proved y m := by
  obtain ⟨p, c, hp, hs⟩ := proved_path hy hwy (m := m) (by rw [I.hands]; exact hm)
  obtain ⟨h1, h2⟩ := I.path hx hy hp
  have := proved_le hx hw hm h1
  omega
theorem must (I : Ins x y i) (hx : Ok x) (hy : Ok y) (hw : fwOk x (R.whole x) = true) (hwy : fwOk y (R.whole y) = true) {h : Nat} (hh : h ∈ P.must x) : h ∈ P.must y := by
  rw [F.must_eq hx hw, mem_must hx hw] at hh
  rw [F.must_eq hy hwy, mem_must hy hwy]
  have := I.proved hx hy hw hwy (bit_lt hh.1)
  exact ⟨by rw [I.hands]; exact hh.1, by omega⟩
theorem short (I : Ins x y i) {a b : Nat} (h : (a, b) ∈ R.short x) : (upN i a, upN i b) ∈ R.short y := by
  rw [mem_short] at h ⊢
  obtain ⟨⟨h1, h2⟩, h3⟩ := h
  have h1 : a < b := h1
  have h2 : b < x.cn := h2
  have hu := upN_le i b
  have hcy := I.cn
  exact ⟨⟨upN_mono h1, show upN i b < y.cn by omega⟩, by
    show 0 < R.gap y (upN i a) (upN i b)
    rw [I.gap (by omega) h2]; exact h3⟩
theorem hi_le (I : Ins x y i) (hx : Ok x) (hy : Ok y) {a : Nat} (ha : a < x.cn) : (fw y (R.whole y) (upN i a)).2 ≤ (fw x (R.whole x) a).2 := by
  obtain ⟨-, j, hj, e⟩ := fw_hi hx (R.whole x) a ha
  have hcy := I.cn
  have hu := upN_le i a
  have h1 := (fw_hi hy (R.whole y) (upN i a) (by omega)).1 (upN i j) (by
    rcases Nat.lt_or_eq_of_le hj with h | h
    · exact Nat.le_of_lt (upN_mono h)
    · rw [h]; exact Nat.le_refl _)
  rw [I.c j 2 (by omega), I.booked (by omega) ha] at h1
  omega
theorem low_le (I : Ins x y i) {a : Nat} (ha : a < x.cn) : R.low x a ≤ R.low y (upN i a) := by
  have hcy := I.cn
  unfold R.low
  rcases lowTo_at x a x.cn with h | ⟨j, h1, h2, h3⟩
  · rw [h, ← I.c a 1 ha]
    exact lowTo_base y _ _
  · have hu := upN_le i j
    have := lowTo_ge y (k := upN i a) (j := upN i j) (upN_mono h1) (n := y.cn) (by omega)
    rw [I.c j 1 h2, I.booked ha h2] at this
    omega
end Ins
/-- What must lie there later, less what is booked, must lie there. -/
theorem low_next (hy : Ok y) {b : Nat} (hb : b + 1 < y.cn) : R.low y (b + 1) - R.booked y b (b + 1) ≤ R.low y b := by
  unfold R.low
  rcases lowTo_at y (b+1) y.cn with h | ⟨j, h1, h2, h3⟩
  · rw [h]; exact lowTo_ge y (show b < b + 1 by omega) hb
  · have := lowTo_ge y (show b < j by omega) h2
    have := booked_add hy (show b ≤ b + 1 by omega) (show b + 1 ≤ j by omega) h2
    omega
theorem hi_next (hy : Ok y) {b : Nat} (hb : b + 1 < y.cn) (M : Nat) : (fw y M (b + 1)).2 ≤ (fw y M b).2 + R.booked y b (b + 1) := by
  obtain ⟨-, j, hj, e⟩ := fw_hi hy M b (by omega)
  have h1 := (fw_hi hy M (b+1) hb).1 j (by omega)
  have := booked_add hy (show j ≤ b by omega) (show b ≤ b + 1 by omega) hb
  omega
namespace Ins
/-- A count between two others lets nobody be one who can have that was not. -/
theorem can (I : Ins x y i) (hx : Ok x) (hy : Ok y) (h0 : 0 < i) (hn : i < x.cn) {h : Nat} (hh : h ∈ P.can y) : h ∈ P.can x := by
  rw [P.can_eq hy, mem_can'] at hh
  rw [P.can_eq hx, mem_can']
  obtain ⟨h1, k, hk, hq, hat⟩ := hh
  have hcy := I.cn
  have hcn := hx.cn
  refine ⟨by rw [← I.hands]; exact h1, ?_⟩
  unfold canQ at hq
  have hq := of_decide_eq_true hq
  by_cases hs : k + 1 = i ∨ k = i
  · have ha : i - 1 + 1 < x.cn := by omega
    have e1 := I.hi_le hx hy (show i - 1 < x.cn by omega)
    have e2 := I.low_le ha
    have e3 := I.booked (show i - 1 < x.cn by omega) ha
    rw [upN_lt (by omega)] at e1 e3
    rw [show upN i (i - 1 + 1) = i + 1 by rw [upN_ge (by omega)]; omega] at e2 e3
    have e4 := booked_add hy (show i - 1 ≤ i by omega) (show i ≤ i + 1 by omega) (by omega)
    have e5 := low_next hy (show i + 1 < y.cn by omega)
    have e6 := hi_next hy (show i - 1 + 1 < y.cn by omega) (R.whole y)
    rw [show i - 1 + 1 = i by omega] at e6 e2 e3 ha
    refine ⟨i - 1, by omega, ?_, ?_⟩
    · unfold canQ
      refine decide_eq_true ?_
      rw [show i - 1 + 1 = i by omega]
      rcases hs with rfl | rfl
      · simp only [Nat.add_sub_cancel] at *
        omega
      · omega
    · rcases hs with rfl | rfl
      · exact I.isat_l hy (by simpa using ha) (by simp) (by simpa using hat)
      · refine I.isat_r hy (a := k - 1) (by omega) (by omega) ?_
        rw [show k - 1 + 1 = k by omega]; exact hat
  · have hd : ∃ a, a + 1 < x.cn ∧ a + 1 ≠ i ∧ upN i a = k ∧ upN i (a + 1) = k + 1 := by
      rcases Nat.lt_or_ge k i with h | h
      · exact ⟨k, by omega, by omega, upN_lt h, upN_lt (by omega)⟩
      · exact ⟨k - 1, by omega, by omega, by rw [upN_ge (by omega)]; omega, by rw [upN_ge (by omega)]; omega⟩
    obtain ⟨a, ha, hne, u1, u2⟩ := hd
    have e1 := I.hi_le hx hy (show a < x.cn by omega)
    have e2 := I.low_le ha
    have e3 := I.booked (show a < x.cn by omega) ha
    rw [u1] at e1 e3
    rw [u2] at e2 e3
    refine ⟨a, by omega, ?_, ?_⟩
    · unfold canQ
      refine decide_eq_true ?_
      omega
    · rw [← I.isat_same ha hne, u1]; exact hat
end Ins
/-- What the law of one count more asks of the watch with it. -/
structure MoreP (x y : WD) (i : Nat) : Prop where
  ok : Ok y
  chk : P.chk y = 0
  told : P.toldE y false = 0
  short : ∀ a b, (a, b) ∈ R.short x → (upN i a, upN i b) ∈ R.short y
  must : ∀ h, h ∈ P.must x → h ∈ P.must y
  can : 0 < i → i < x.cn → ∀ h, h ∈ P.can y → h ∈ P.can x
  least : ∀ h, h < x.hands.toNat → P.proved x (2 ^ h) ≤ P.proved y (2 ^ h)
  hands : y.hands = x.hands
theorem insC_ok (hx : Ok x) (hn : x.cn < 8) {h lo hi : Int} (hb : hasB x h = false) (hh : 0 ≤ h ∧ h ≤ x.hours) (hl : 0 ≤ lo ∧ lo ≤ hi ∧ hi ≤ 500) : Ok (insC x (pos x h) h lo hi) := by
  have hcn := hx.cn
  have hp := pos_le x h
  have hne : ∀ k, k < x.cn → x.c k 0 ≠ h := fun k hk e => by
    unfold hasB at hb
    have := anyTo_false.1 hb k hk
    simp [e] at this
  have key : ∀ k, k < x.cn + 1 → (k < pos x h ∧ ∀ j, (insC x (pos x h) h lo hi).c k j = x.c k j) ∨ (k = pos x h) ∨ (pos x h < k ∧ k - 1 < x.cn ∧ ∀ j, (insC x (pos x h) h lo hi).c k j = x.c (k - 1) j) := fun k hk => by
    rcases Nat.lt_trichotomy k (pos x h) with c | c | c
    · exact .inl ⟨c, fun j => insC_lt j c⟩
    · exact .inr (.inl c)
    · refine .inr (.inr ⟨c, by omega, fun j => ?_⟩)
      have := insC_gt (x := x) (h := h) (lo := lo) (hi := hi) j (show pos x h ≤ k - 1 by omega)
      rwa [show k - 1 + 1 = k by omega] at this
  refine ⟨hx.hands, ⟨by show 1 ≤ x.cn + 1; omega, by show x.cn + 1 ≤ 8; omega⟩, hx.bn, hx.sn, hx.hours, hx.allow, fun k hk => ?_, fun k hk => ?_, fun k hk => ?_, hx.bhour, hx.bsack, hx.shand, fun k hk => ?_, fun k hk => ?_, hx.bnz, hx.shour, hx.sord⟩
  · rcases key k hk with ⟨c, e⟩ | c | ⟨c, c2, e⟩
    · rw [e]; exact hx.hour k (by omega)
    · subst c; rw [insC_0]; exact hh
    · rw [e]; exact hx.hour _ c2
  · rcases key k hk with ⟨c, e⟩ | c | ⟨c, c2, e⟩
    · rw [e]; exact hx.lo k (by omega)
    · subst c; rw [insC_1]; omega
    · rw [e]; exact hx.lo _ c2
  · rcases key k hk with ⟨c, e⟩ | c | ⟨c, c2, e⟩
    · rw [e]; exact hx.hi k (by omega)
    · subst c; rw [insC_2]; omega
    · rw [e]; exact hx.hi _ c2
  · rcases key k hk with ⟨c, e⟩ | c | ⟨c, c2, e⟩
    · rw [e, e]; exact hx.le k (by omega)
    · subst c; rw [insC_1, insC_2]; omega
    · rw [e, e]; exact hx.le _ c2
  · have hk : k + 1 < x.cn + 1 := hk
    rcases Nat.lt_trichotomy (k + 1) (pos x h) with c | c | c
    · rw [insC_lt 0 (by omega), insC_lt 0 c]; exact hx.inc k (by omega)
    · rw [insC_lt 0 (by omega), c, insC_0]; exact pos_lo hx h (by omega)
    · rw [insC_gt 0 (show pos x h ≤ k by omega)]
      rcases Nat.lt_or_eq_of_le (show pos x h ≤ k by omega) with c2 | c2
      · have := insC_gt (x := x) (h := h) (lo := lo) (hi := hi) 0 (show pos x h ≤ k - 1 by omega)
        rw [show k - 1 + 1 = k by omega] at this
        rw [this]
        have := hx.inc (k - 1) (by omega)
        rwa [show k - 1 + 1 = k by omega] at this
      · have h1 := pos_hi hx h (i := k) (by omega) (by omega)
        have h2 := hne k (by omega)
        have h3 := insC_0 x (pos x h) h lo hi
        rw [c2] at h3 ⊢
        rw [h3]
        omega
theorem ins_insC (x : WD) {p : Nat} (hp : p ≤ x.cn) (h lo hi : Int) (n : Int) : Ins x (setc (insC x p h lo hi) p n) p := by
  refine ⟨rfl, hp, fun a j ha => ?_, rfl, rfl, rfl, fun _ _ => rfl, rfl, fun _ _ => rfl⟩
  rcases Nat.lt_or_ge a p with c | c
  · rw [upN_lt c, setc_ne _ _ _ (by omega), insC_lt j c]
  · rw [upN_ge c, setc_ne _ _ _ (by omega), insC_gt j c]
theorem moreP (hx : Ok x) (hw : fwOk x (R.whole x) = true) {h n : Int} (hn : x.cn < 8) (hb : hasB x h = false) (hh : 0 ≤ h ∧ h ≤ x.hours) (hwi : fwOk (insC x (pos x h) h 0 500) (R.whole x) = true)
    (h1 : P.lo (insC x (pos x h) h 0 500) (pos x h) ≤ n) (h2 : n ≤ P.hi (insC x (pos x h) h 0 500) (pos x h)) : MoreP x (setc (insC x (pos x h) h 0 500) (pos x h) n) (pos x h) := by
  have hi := insC_ok hx hn hb hh (lo := 0) (hi := 500) (by omega)
  have hp := pos_le x h
  have hpn : pos x h < (insC x (pos x h) h 0 500).cn := by show pos x h < x.cn + 1; omega
  have hbd := P.lo_bd hi hwi hpn
  rw [insC_1, insC_2] at hbd
  have hy := setc_ok hi (pos x h) (s := n) ⟨by omega, by omega⟩
  have I := ins_insC x hp h 0 500 n
  have hf := P.fixed_eq hi hwi hpn (s := n) (by rw [insC_1]; omega) (by rw [insC_2]; omega)
  rw [decide_eq_true (⟨h1, h2⟩ : _ ∧ _)] at hf
  have hwy : fwOk (setc (insC x (pos x h) h 0 500) (pos x h) n) (R.whole (setc (insC x (pos x h) h 0 500) (pos x h) n)) = true := hf
  exact ⟨hy, chk_of hy, told_of hy hwy, fun _ _ => I.short, fun _ => I.must hx hy hw hwy, fun a b _ => I.can hx hy a b, fun _ hh => I.proved hx hy hw hwy (bit_lt hh), rfl⟩
where
  told_of {y : WD} (hy : Ok y) (hw : fwOk y (R.whole y) = true) : P.toldE y false = 0 := by
    have h := clash_iff hy
    rw [hw] at h
    unfold P.toldE
    rw [if_neg (fun hc => hc (chk_of hy)), if_neg (by simp), if_neg (by rw [h]; simp)]
end L
end HandSpec
namespace Go.Proofs.YtkhjmedfhobebaaGreat
open Go.RowKit HandSpec
set_option maxHeartbeats 1600000
set_option maxRecDepth 100000
theorem run95 (a b c h : Int) {w : World} {g : Nat} (hg : Blk w g 3 #[.int .i64 h]) :
    Calls Tryz.prog 95 #[.agg #[.int .i64 a, .int .i64 b, .int .i64 c], .pointer (some ⟨g, 0, none⟩)] w fun e w' => e = .returned (.bool (a == h)) ∧ Ext w w' := by
  go_enter Tryz.func95, Tryz.ntmps95
  go_upto_region 1 with fail
  refine wp_later fun w1 hw1 => ?_
  obtain ⟨E1, b3⟩ := hw1.newB
  have k3 := b3.cell
  have k3l := b3.lt
  have k1 := (hg.ext E1).cell
  have k1l := (hg.ext E1).lt
  clear hw1
  go_wp2
  go_ret
  exact ⟨rfl, E1⟩
theorem run97 (a b c h : Int) {w : World} {g : Nat} (hg : Blk w g 3 #[.int .i64 h]) :
    Calls Tryz.prog 97 #[.agg #[.int .i64 a, .int .i64 b, .int .i64 c], .pointer (some ⟨g, 0, none⟩)] w fun e w' => e = .returned (.bool (a == h)) ∧ Ext w w' := by
  go_enter Tryz.func97, Tryz.ntmps97
  go_upto_region 1 with fail
  refine wp_later fun w1 hw1 => ?_
  obtain ⟨E1, b3⟩ := hw1.newB
  have k3 := b3.cell
  have k3l := b3.lt
  have k1 := (hg.ext E1).cell
  have k1l := (hg.ext E1).lt
  clear hw1
  go_wp2
  go_ret
  exact ⟨rfl, E1⟩
theorem asks95 {w : World} {g : Nat} {h : Int} (hg : Blk w g 3 #[.int .i64 h]) (f : Nat → Nat → Int) (n : Nat) : Asks w (.func (.func 95) #[] #[.pointer (some ⟨g, 0, none⟩)]) n (enc3 f) (fun k => f k 0 == h) :=
  ⟨_, _, rfl, enters_ Tryz.func95 (by kernel_rfl) rfl, fun k _ _ e => run95 _ _ _ h (hg.ext e)⟩
theorem asks97 {w : World} {g : Nat} {h : Int} (hg : Blk w g 3 #[.int .i64 h]) (f : Nat → Nat → Int) (n : Nat) : Asks w (.func (.func 97) #[] #[.pointer (some ⟨g, 0, none⟩)]) n (enc3 f) (fun k => f k 0 == h) :=
  ⟨_, _, rfl, enters_ Tryz.func97 (by kernel_rfl) rfl, fun k _ _ e => run97 _ _ _ h (hg.ext e)⟩
theorem run101 (h : Nat) {w : World} {g n c : Nat} {A : Option Addr} (hg : Blk w g 56 #[.slice A n c]) {l : List Nat} (hl : SlR w 1 (.slice A n c) (rows1 l)) (hn : l.length ≤ 1000) :
    Calls Tryz.prog 101 #[.int .i64 (h : Int), .pointer (some ⟨g, 0, none⟩)] w fun e w' => e = .returned (.bool (!decide (h ∈ l))) ∧ Ext w w' := by
  have k1 := hg.cell
  have k1l := hg.lt
  have HL := hid hl
  clear hl
  go_enter Tryz.func101, Tryz.ntmps101
  go_wp2_with (go_at_call 87; refine (inList HL.out hn h).mono ?_; rintro e w2 ⟨rfl, he2⟩)
  go_ret
  exact ⟨rfl, he2⟩
theorem run102 (h : Nat) {w : World} {g n c : Nat} {A : Option Addr} (hg : Blk w g 56 #[.slice A n c]) {l : List Nat} (hl : SlR w 1 (.slice A n c) (rows1 l)) (hn : l.length ≤ 1000) :
    Calls Tryz.prog 102 #[.int .i64 (h : Int), .pointer (some ⟨g, 0, none⟩)] w fun e w' => e = .returned (.bool (!decide (h ∈ l))) ∧ Ext w w' := by
  have k1 := hg.cell
  have k1l := hg.lt
  have HL := hid hl
  clear hl
  go_enter Tryz.func102, Tryz.ntmps102
  go_wp2_with (go_at_call 87; refine (inList HL.out hn h).mono ?_; rintro e w2 ⟨rfl, he2⟩)
  go_ret
  exact ⟨rfl, he2⟩
theorem rows1_get (t : List Nat) {k : Nat} (h : k < t.length) : rowsAt (rows1 t) k 0 = ((t.getD k 0 : Nat) : Int) := by
  unfold rowsAt rows1
  simp [h]
/-- All of one list are in another one. -/
theorem sub_any {l m : List Nat} (hs : ∀ h, h ∈ m → h ∈ l) {n : Nat} (hn : n = m.length) : anyTo (fun k => !decide (m.getD k 0 ∈ l)) n = false := by
  rw [anyTo_false]
  intro k hk
  have : m.getD k 0 ∈ m := by rw [List.getD_eq_getElem?_getD, List.getElem?_eq_getElem (by omega)]; exact List.getElem_mem (by omega)
  rw [decide_eq_true (hs _ this)]; rfl
theorem asks101 {w : World} {g n c : Nat} {A : Option Addr} (hg : Blk w g 56 #[.slice A n c]) {l : List Nat} (hl : SlR w 1 (.slice A n c) (rows1 l)) (hn : l.length ≤ 1000) {m : List Nat} {k : Nat} (hk : k = m.length) :
    Asks w (.func (.func 101) #[] #[.pointer (some ⟨g, 0, none⟩)]) k (enc1 (rowsAt (rows1 m))) (fun k => !decide (m.getD k 0 ∈ l)) :=
  ⟨_, _, rfl, enters_ Tryz.func101 (by kernel_rfl) rfl, fun j hj _ e => by
    unfold enc1
    rw [rows1_get m (by omega)]
    exact run101 _ (hg.ext e) (hl.ext e) hn⟩
theorem asks102 {w : World} {g n c : Nat} {A : Option Addr} (hg : Blk w g 56 #[.slice A n c]) {l : List Nat} (hl : SlR w 1 (.slice A n c) (rows1 l)) (hn : l.length ≤ 1000) {m : List Nat} {k : Nat} (hk : k = m.length) :
    Asks w (.func (.func 102) #[] #[.pointer (some ⟨g, 0, none⟩)]) k (enc1 (rowsAt (rows1 m))) (fun k => !decide (m.getD k 0 ∈ l)) :=
  ⟨_, _, rfl, enters_ Tryz.func102 (by kernel_rfl) rfl, fun j hj _ e => by
    unfold enc1
    rw [rows1_get m (by omega)]
    exact run102 _ (hg.ext e) (hl.ext e) hn⟩
theorem run103 (a i : Nat) {w : World} {g : Nat} (hg : Blk w g 3 #[.int .i64 (i : Int)]) (ha : a ≤ 1000) :
    Calls Tryz.prog 103 #[.int .i64 (a : Int), .pointer (some ⟨g, 0, none⟩)] w fun e w' => e = .returned (.int .i64 ((L.upN i a : Nat) : Int)) ∧ Ext w w' := by
  have k1 := hg.cell
  have k1l := hg.lt
  go_enter Tryz.func103, Tryz.ntmps103
  by_cases h : a < i
  · have h1 : (a : Int) < (i : Int) := by omega
    rw [L.upN_lt h]
    go_wp2_with fail
    go_ret
    exact ⟨rfl, Ext.refl _⟩
  · have h1 : ¬ (a : Int) < (i : Int) := by omega
    rw [L.upN_ge (by omega)]
    go_wp2_with fail
    go_ret
    exact ⟨by simp, Ext.refl _⟩
theorem must_len6 {x : WD} (hx : Ok x) : (P.must x).length ≤ 6 := by
  have := hx.hands
  unfold P.must P.mustTo
  exact Nat.le_trans (List.length_filter_le _ _) (by simp; omega)
theorem can_len6 {x : WD} (hx : Ok x) : (P.can x).length ≤ 6 := by
  have := hx.hands
  rw [P.can_eq hx]
  exact Nat.le_trans (R.canL_length x _) (by omega)
/-- The place of a count, by its hour. -/
theorem first_pos {x : WD} (hx : Ok x) {h lo hi : Int} : firstI (fun k => (insC x (pos x h) h lo hi).c k 0 == h) (x.cn + 1) = (pos x h : Int) := by
  have hp := pos_le x h
  refine firstI_yes (by omega) (fun j hj => ?_) ?_
  · rw [insC_lt 0 hj]
    have := pos_lo hx h hj
    simp; omega
  · rw [insC_0]; simp
/-- What Made returns, with its parts as its caller's own, and room for one count more. -/
theorem made_more {A : Option Addr} {n cap : Nat} {w wa : World} (st : Start ⟨w.heap.size, A, n, cap⟩ wa) (e : Ext w wa) {mc mh : Int} (hc : 1 ≤ mc ∧ mc ≤ 8) (hh : 1 ≤ mh ∧ mh ≤ 6) :
    Calls Tryz.prog 72 #[.pointer (some ⟨w.heap.size, 0, none⟩), .int .i64 mc, .int .i64 mh] wa fun e' wb => ∃ (x : WD) (s : Nat → Int) (t : Nat → Nat → Int) (A3 : Option Addr) (c3 : Nat) (A4 : Option Addr) (c4 : Nat) (A5 : Option Addr) (c5 : Nat) (v6 v7 : Value),
      e' = .returned (.tuple #[.agg #[.int .i64 x.hours, .int .i64 x.allow, .int .i64 x.hands, .slice A3 x.cn c3, .slice A4 x.bn c4, .slice A5 x.sn c5], v6, v7]) ∧
      IsW wb (.agg #[.int .i64 x.hours, .int .i64 x.allow, .int .i64 x.hands, .slice A3 x.cn c3, .slice A4 x.bn c4, .slice A5 x.sn c5]) x ∧ x.cn ≤ c3 ∧ Ok x ∧ L.Truth x s t ∧ (x.cn : Int) ≤ mc ∧ Ext w wb := by
  refine (made72 st hc hh).mono ?_
  rintro e' wb ⟨hours, al, nh, M, L, C, s, t, v3, v4, v5, v6, lc, rfl, R⟩
  have hcap := OwnR.arr R.o3
  obtain ⟨A3, c3, rfl, r3⟩ := R.o3.slR
  obtain ⟨A4, c4, rfl, r4⟩ := R.o4.slR
  obtain ⟨A5, c5, rfl, r5⟩ := R.o5.slR
  refine ⟨MadeS.wd hours al nh M L C, ni s, _, A3, c3, A4, c4, A5, c5, _, _, rfl, ⟨A3, c3, A4, c4, A5, c5, rfl, r3, r4, r5⟩, ?_, R.ok, R.tr, R.cn, R.x.ext e (Nat.le_refl _)⟩
  show C.length ≤ c3
  rcases hcap with ⟨-, h2⟩ | ⟨g, cap, h1, -, h3, -⟩
  · rw [h2]; exact Nat.zero_le _
  · simp only [Value.slice.injEq] at h1
    obtain ⟨-, -, rfl⟩ := h1
    exact h3
end Go.Proofs.YtkhjmedfhobebaaGreat
