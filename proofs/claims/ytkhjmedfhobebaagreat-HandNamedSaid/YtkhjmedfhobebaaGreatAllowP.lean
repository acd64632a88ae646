/- A greater allowance, or a spell more: plain law. No condition. -/
import Derived.Test.YtkhjmedfhobebaaGreatTrueP
namespace HandSpec
namespace L
open R P
variable {x : WD}
/-- The watch with another allowance. -/
def allowW (x : WD) (a : Int) : WD := { x with allow := a }
/-- The watch with a spell more. -/
def spellW (x : WD) (h f t : Int) : WD := { x with sn := x.sn + 1, s := fun q j => if q = x.sn then (if j = 0 then h else if j = 1 then f else t) else x.s q j }
theorem allow_ok (hx : Ok x) {a : Int} (h : 0 ≤ a ∧ a ≤ 20) : Ok (allowW x a) :=
  ⟨hx.hands, hx.cn, hx.bn, hx.sn, hx.hours, h, hx.hour, hx.lo, hx.hi, hx.bhour, hx.bsack, hx.shand, hx.le, hx.inc, hx.bnz, hx.shour, hx.sord⟩
theorem allow_more (hx : Ok x) {a : Int} (h : x.allow ≤ a) : More x (allowW x a) :=
  ⟨rfl, fun _ _ => rfl, rfl, fun _ _ => rfl, fun p q hpq hq => by
    have h1 := hx.leq hpq hq
    exact Int.mul_le_mul_of_nonneg_right h (show 0 ≤ x.c q 0 - x.c p 0 by omega), fun _ _ h => h⟩
theorem spell_old (x : WD) (h f t : Int) {q : Nat} (hq : q < x.sn) (j : Nat) : (spellW x h f t).s q j = x.s q j := if_neg (by omega)
theorem spell_new (x : WD) (h f t : Int) (j : Nat) : (spellW x h f t).s x.sn j = if j = 0 then h else if j = 1 then f else t := if_pos rfl
theorem spell_ok (hx : Ok x) (hs : x.sn < 12) {h f t : Int} (hh : 0 ≤ h ∧ h ≤ x.hands - 1) (hf : 0 ≤ f ∧ f < t) (ht : t ≤ x.hours) : Ok (spellW x h f t) := by
  have hsplit : ∀ q, q < x.sn + 1 → q < x.sn ∨ q = x.sn := fun q hq => by omega
  refine ⟨hx.hands, hx.cn, hx.bn, by show x.sn + 1 ≤ 12; omega, hx.hours, hx.allow, hx.hour, hx.lo, hx.hi, hx.bhour, hx.bsack, fun q hq => ?_, hx.le, hx.inc, hx.bnz, fun q hq => ?_, fun q hq => ?_⟩
  all_goals
    rcases hsplit q hq with h1 | h1
  · rw [spell_old x h f t h1]; exact hx.shand q h1
  · subst h1; rw [spell_new]; exact hh
  · rw [spell_old x h f t h1, spell_old x h f t h1]; exact hx.shour q h1
  · subst h1
    rw [spell_new, spell_new]
    show (0 ≤ f ∧ f ≤ x.hours) ∧ 0 ≤ t ∧ t ≤ x.hours
    omega
  · rw [spell_old x h f t h1, spell_old x h f t h1]; exact hx.sord q h1
  · subst h1
    rw [spell_new, spell_new]
    exact hf.2
theorem spell_more (x : WD) (h f t : Int) : More x (spellW x h f t) :=
  ⟨rfl, fun _ _ => rfl, rfl, fun _ _ => rfl, fun _ _ _ _ => Int.le_refl _, fun g i hi => by
    unfold isat at hi ⊢
    rw [anyTo_true] at hi ⊢
    obtain ⟨k, hk, hf⟩ := hi
    refine ⟨k, by show k < x.sn + 1; omega, ?_⟩
    unfold isf at hf ⊢
    rw [spell_old x h f t hk, spell_old x h f t hk, spell_old x h f t hk]
    exact hf⟩
theorem more_refl (x : WD) : More x x := ⟨rfl, fun _ _ => rfl, rfl, fun _ _ => rfl, fun _ _ _ _ => Int.le_refl _, fun _ _ h => h⟩
theorem told_fw (hx : Ok x) (hw : fwOk x (whole x) = true) : P.toldE x false = 0 := by
  have h := clash_iff hx
  rw [hw] at h
  unfold P.toldE
  rw [if_neg (fun hc => hc (chk_of hx)), if_neg (by simp), if_neg (by rw [h]; simp)]
/-- What the law of allowances asks of a watch in which more is allowed. -/
structure AllowP (x y : WD) : Prop where
  ok : Ok y
  chk : P.chk y = 0
  told : P.toldE y false = 0
  few : (P.fewest y).length ≤ (P.fewest x).length
  miss : P.proved y (2 ^ y.hands.toNat - 1) ≤ P.proved x (2 ^ x.hands.toNat - 1)
  least : ∀ h, h < x.hands.toNat → P.proved y (2 ^ h) ≤ P.proved x (2 ^ h)
  hands : y.hands = x.hands
theorem allowP (hx : Ok x) (hw : fwOk x (whole x) = true) {y : WD} (hy : Ok y) (M : More x y) : AllowP x y := by
  have hwy : fwOk y (whole y) = true := by rw [M.whole]; exact M.fw hx hy hw
  refine ⟨hy, chk_of hy, told_fw hy hwy, M.fewest hx hy hw, ?_, fun h hh => M.proved hx hy hw (bit_lt hh), M.hands⟩
  rw [M.hands]
  exact M.proved hx hy hw (whole_lt x)
theorem gap_allow (x : WD) (a : Int) (p q : Nat) : R.gap x p q - R.gap (allowW x a) p q = (a - x.allow) * (x.c q 0 - x.c p 0) := by
  show (x.c p 1 + booked x p q - x.allow * (x.c q 0 - x.c p 0) - x.c q 2) - (x.c p 1 + booked x p q - a * (x.c q 0 - x.c p 0) - x.c q 2) = _
  rw [Int.sub_mul]
  omega
end L
end HandSpec
