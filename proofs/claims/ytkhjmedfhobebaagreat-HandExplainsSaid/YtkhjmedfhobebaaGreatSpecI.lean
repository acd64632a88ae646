/- What the program's proof by stretches computes: plans, end by end. No condition. -/
import Derived.Test.YtkhjmedfhobebaaGreatDoF
namespace HandSpec
namespace P
structure Plan where
  sum : Int
  st : Nat × Nat
  rest : Nat
/-- The cells of plans. -/
def pcell (b : Nat → Plan) (i : Nat) : Int :=
  if i % 4 = 0 then (b (i / 4)).sum else if i % 4 = 1 then ((b (i / 4)).st.1 : Int) else if i % 4 = 2 then ((b (i / 4)).st.2 : Int) else ((b (i / 4)).rest : Int)
theorem pcell0 (b : Nat → Plan) (k : Nat) : pcell b (k * 4) = (b k).sum := by unfold pcell; rw [if_pos (by omega), show k * 4 / 4 = k by omega]
theorem pcell1 (b : Nat → Plan) (k : Nat) : pcell b (k * 4 + 1) = ((b k).st.1 : Int) := by unfold pcell; rw [if_neg (by omega), if_pos (by omega), show (k * 4 + 1) / 4 = k by omega]
theorem pcell2 (b : Nat → Plan) (k : Nat) : pcell b (k * 4 + 2) = ((b k).st.2 : Int) := by unfold pcell; rw [if_neg (by omega), if_neg (by omega), if_pos (by omega), show (k * 4 + 2) / 4 = k by omega]
theorem pcell3 (b : Nat → Plan) (k : Nat) : pcell b (k * 4 + 3) = ((b k).rest : Int) := by unfold pcell; rw [if_neg (by omega), if_neg (by omega), if_neg (by omega), show (k * 4 + 3) / 4 = k by omega]
def updP (b : Nat → Plan) (k : Nat) (p : Plan) : Nat → Plan := fun j => if j = k then p else b j
theorem updP_same (b : Nat → Plan) (k : Nat) (p : Plan) : updP b k p k = p := by simp [updP]
theorem updP_other (b : Nat → Plan) {j k : Nat} (p : Plan) (h : j ≠ k) : updP b k p j = b j := by simp [updP, h]
/-- The first interval of a stretch in which the hands are there. -/
def fst (x : WD) (m : Nat) (s : Nat × Nat) : Nat := (firstTo (spot x m) s.1 s.2 (s.2 - s.1)).toNat
def lst (x : WD) (m : Nat) (s : Nat × Nat) : Int := lastTo (spot x m) s.1 (s.2 - s.1)
/-- Whether a stretch may be the last one before an interval. -/
def okS (x : WD) (m e : Nat) (s : Nat × Nat) : Bool := decide (lst x m s + 1 = e) && decide (th x s.1 s.2 &&& m = th x s.1 s.2) && decide (0 < gap x s.1 s.2)
def stepP (x : WD) (m e : Nat) (b : Nat → Plan) (s : Nat × Nat) : Nat → Plan :=
  if okS x m e s && decide ((b e).sum < (b (fst x m s)).sum + gap x s.1 s.2) then updP b e ⟨(b (fst x m s)).sum + gap x s.1 s.2, s, fst x m s⟩ else b
def initP (b : Nat → Plan) (e : Nat) : Nat → Plan := updP b e ⟨(b (e - 1)).sum, (0, 0), e - 1⟩
def roundP (x : WD) (m : Nat) (b : Nat → Plan) (e : Nat) : Nat → Plan := if spot x m (e - 1) then (stretches x.cn).foldl (stepP x m e) (initP b e) else initP b e
def bestTo (x : WD) (m : Nat) : Nat → Nat → Plan
  | 0 => fun _ => ⟨0, (0, 0), 0⟩
  | e+1 => roundP x m (bestTo x m e) (e+1)
def best (x : WD) (m : Nat) : Nat → Plan := bestTo x m (x.cn - 1)
/-- The stretches of a plan, the last one first. -/
def chain (b : Nat → Plan) : Nat → Nat → List (Nat × Nat)
  | 0, _ => []
  | f+1, e => if e = 0 then [] else (if (b e).st = (0, 0) then [] else [(b e).st]) ++ chain b f (b e).rest
/-- No hands at all in the intervals. -/
def noOwn (x : WD) (m : Nat) : Bool := !anyTo (spot x m) 8
def Good (x : WD) (b : Nat → Plan) (e : Nat) : Prop := ∀ k, k ≤ e → (0 ≤ (b k).sum ∧ (b k).sum ≤ 20000 * k) ∧ (0 < k → (b k).rest < k) ∧ ((b k).st = (0, 0) ∨ ((b k).st.1 < (b k).st.2 ∧ (b k).st.2 < x.cn))
theorem gap_bd {x : WD} (h : Ok x) {a b : Nat} (ha : a < x.cn) (hb : b < x.cn) : -20000 ≤ gap x a b ∧ gap x a b ≤ 20000 := by
  have h1 : -16000 ≤ books x a b ∧ books x a b ≤ 16000 := books_bound h a (b - a) (by have := h.cn; omega)
  have g1 := h.hour a ha
  have g2 := h.hour b hb
  have g3 := h.hours
  have g4 := h.lo a ha
  have g5 := h.hi b hb
  have g6 := h.allow
  have g9 : -1200 ≤ x.allow * (x.c b 0 - x.c a 0) ∧ x.allow * (x.c b 0 - x.c a 0) ≤ 1200 := by
    have h1 := Int.mul_le_mul_of_nonneg_left (show x.c b 0 - x.c a 0 ≤ 60 by omega) g6.1
    have h2 := Int.mul_le_mul_of_nonneg_left (show -60 ≤ x.c b 0 - x.c a 0 by omega) g6.1
    omega
  unfold gap
  omega
theorem first_le_last {own : Nat → Bool} {a : Nat} {b : Int} : ∀ {k : Nat}, 0 ≤ lastTo own a k → firstTo own a b k ≤ lastTo own a k
  | 0, h => by unfold lastTo at h; omega
  | k+1, h => by
    unfold lastTo at h ⊢
    unfold firstTo
    split
    · omega
    · next hn =>
      rw [if_neg hn] at h
      exact first_le_last h
theorem fst_lt {x : WD} {m : Nat} {s : Nat × Nat} : fst x m s ≤ s.2 := by
  have := firstTo_bd (own := spot x m) (a := s.1) (b := (s.2 : Int)) (by omega) (s.2 - s.1)
  unfold fst; omega
theorem fst_cast (x : WD) (m : Nat) (s : Nat × Nat) : firstTo (spot x m) s.1 s.2 (s.2 - s.1) = (fst x m s : Int) := by
  have := firstTo_bd (own := spot x m) (a := s.1) (b := (s.2 : Int)) (by omega) (s.2 - s.1)
  unfold fst; omega
theorem okS_first {x : WD} {m e : Nat} {s : Nat × Nat} (h : okS x m e s = true) (he : 0 < e) : fst x m s + 1 ≤ e := by
  simp only [okS, Bool.and_eq_true, decide_eq_true_eq] at h
  have h1 : lastTo (spot x m) s.1 (s.2 - s.1) + 1 = e := h.1.1
  have := first_le_last (own := spot x m) (a := s.1) (b := (s.2 : Int)) (k := s.2 - s.1) (by omega)
  have h3 := fst_cast x m s
  omega
theorem Good.init {x : WD} {b : Nat → Plan} {e : Nat} (h : Good x b e) : Good x (initP b (e+1)) (e+1) := by
  intro k hk
  by_cases hke : k = e + 1
  · subst hke
    unfold initP
    rw [updP_same]
    have := h e (Nat.le_refl _)
    refine ⟨?_, fun _ => by simp, .inl rfl⟩
    simp only [Nat.add_sub_cancel]
    omega
  · unfold initP
    rw [updP_other _ _ hke]
    exact h k (by omega)
theorem Good.step {x : WD} (hx : Ok x) {m : Nat} {b : Nat → Plan} {e : Nat} {s : Nat × Nat} (h : Good x b e) (he : 0 < e) (hs : s.1 < s.2 ∧ s.2 < x.cn) : Good x (stepP x m e b s) e := by
  unfold stepP
  split
  · next hc =>
    rw [Bool.and_eq_true] at hc
    have hf := okS_first hc.1 he
    have hg := gap_bd hx (show s.1 < x.cn by omega) hs.2
    have hpos : 0 < gap x s.1 s.2 := by
      have := hc.1
      simp only [okS, Bool.and_eq_true, decide_eq_true_eq] at this
      exact this.2
    intro k hk
    by_cases hke : k = e
    · subst hke
      rw [updP_same]
      have := h (fst x m s) (by omega)
      refine ⟨?_, fun _ => by simp; omega, .inr hs⟩
      simp only
      omega
    · rw [updP_other _ _ hke]
      exact h k hk
  · exact h
theorem Good.fold {x : WD} (hx : Ok x) {m : Nat} {e : Nat} (he : 0 < e) : ∀ {l : List (Nat × Nat)} {b : Nat → Plan}, Good x b e → (∀ s ∈ l, s.1 < s.2 ∧ s.2 < x.cn) → Good x (l.foldl (stepP x m e) b) e
  | [], _, h, _ => h
  | s :: l, b, h, hl => show Good x (l.foldl (stepP x m e) (stepP x m e b s)) e from Good.fold hx he (h.step hx he (hl s (List.mem_cons_self ..))) fun q hq => hl q (List.mem_cons_of_mem _ hq)
theorem Good.round {x : WD} (hx : Ok x) {m : Nat} {b : Nat → Plan} {e : Nat} (h : Good x b e) : Good x (roundP x m b (e+1)) (e+1) := by
  unfold roundP
  split
  · exact Good.fold hx (by omega) h.init fun s hs => mem_stretches.1 hs
  · exact h.init
theorem Good.bestTo {x : WD} (hx : Ok x) (m : Nat) : ∀ e, Good x (bestTo x m e) e
  | 0 => fun k hk => by
    obtain rfl : k = 0 := by omega
    exact ⟨⟨Int.le_refl _, by show (0:Int) ≤ _; omega⟩, fun h => absurd h (by omega), .inl rfl⟩
  | e+1 => (Good.bestTo hx m e).round hx
/-- Plans behind the end are still empty. -/
theorem stepP_other {x : WD} {m e : Nat} {b : Nat → Plan} {s : Nat × Nat} {k : Nat} (h : k ≠ e) : stepP x m e b s k = b k := by
  unfold stepP
  split
  · exact updP_other _ _ h
  · rfl
theorem foldP_other {x : WD} {m e : Nat} {k : Nat} (h : k ≠ e) : ∀ (l : List (Nat × Nat)) (b : Nat → Plan), l.foldl (stepP x m e) b k = b k
  | [], _ => rfl
  | s :: l, b => by rw [List.foldl_cons, foldP_other h l, stepP_other h]
theorem roundP_other {x : WD} {m e : Nat} {b : Nat → Plan} {k : Nat} (h : k ≠ e) : roundP x m b e k = b k := by
  unfold roundP initP
  split
  · rw [foldP_other h]; exact updP_other _ _ h
  · exact updP_other _ _ h
theorem stepP_no {x : WD} {m e : Nat} {b : Nat → Plan} {s : Nat × Nat} (h : okS x m e s = false) : stepP x m e b s = b := by unfold stepP; rw [h]; simp
theorem stepP_yes {x : WD} {m e : Nat} {b : Nat → Plan} {s : Nat × Nat} (h : okS x m e s = true) (h2 : (b e).sum < (b (fst x m s)).sum + gap x s.1 s.2) : stepP x m e b s = updP b e ⟨(b (fst x m s)).sum + gap x s.1 s.2, s, fst x m s⟩ := by unfold stepP; rw [h, decide_eq_true h2]; simp
theorem stepP_le {x : WD} {m e : Nat} {b : Nat → Plan} {s : Nat × Nat} (h2 : ¬ (b e).sum < (b (fst x m s)).sum + gap x s.1 s.2) : stepP x m e b s = b := by unfold stepP; rw [decide_eq_false h2]; simp
theorem chain_length (b : Nat → Plan) : ∀ (f e : Nat), (chain b f e).length ≤ f
  | 0, _ => by simp [chain]
  | f+1, e => by
    unfold chain
    split
    · simp
    · have := chain_length b f (b e).rest
      split <;> simp <;> omega
theorem chain_zero (b : Nat → Plan) : ∀ f, chain b f 0 = []
  | 0 => rfl
  | f+1 => by unfold chain; simp
end P
end HandSpec
namespace Go.Proofs.YtkhjmedfhobebaaGreat
open Go.RowKit HandSpec
theorem andNot64 {a b : Nat} (ha : a < 64) (hb : b < 64) : bits .andNot .i64 (a : Int) (b : Int) = ((a ^^^ (a &&& b) : Nat) : Int) := by
  have h : a ^^^ (a &&& b) < 2 ^ 6 := Nat.xor_lt_two_pow ha (Nat.and_lt_two_pow _ hb)
  have e : (BitVec.ofInt IntKind.i64.bits (a : Int) &&& ~~~ BitVec.ofInt IntKind.i64.bits (b : Int)).toNat = a ^^^ (a &&& b) := by
    show (BitVec.ofInt 64 (a : Int) &&& ~~~ BitVec.ofInt 64 (b : Int)).toNat = a ^^^ (a &&& b)
    rw [ofIntN, ofIntN]
    have : BitVec.ofNat 64 a &&& ~~~ BitVec.ofNat 64 b = BitVec.ofNat 64 (a ^^^ (a &&& b)) := by
      apply BitVec.eq_of_getLsbD_eq
      intro i hi
      simp [hi]
      cases (BitVec.ofNat 64 a)[i] <;> cases (BitVec.ofNat 64 b)[i] <;> rfl
    rw [this, BitVec.toNat_ofNat, Nat.mod_eq_of_lt (by omega)]
  show IntKind.i64.wrap ((BitVec.ofInt IntKind.i64.bits (a : Int) &&& ~~~ BitVec.ofInt IntKind.i64.bits (b : Int)).toNat : Int) = _
  rw [e, wrapN (by omega)]
theorem xor_zero (a b : Nat) : a ^^^ (a &&& b) = 0 ↔ a &&& b = a := by
  constructor
  · intro h
    have h1 : (a ^^^ (a &&& b)) ^^^ (a &&& b) = a := by rw [Nat.xor_assoc, Nat.xor_self, Nat.xor_zero]
    rw [h, Nat.zero_xor] at h1
    exact h1
  · intro h
    rw [h, Nat.xor_self]
end Go.Proofs.YtkhjmedfhobebaaGreat
