/- One count more: plain law. -/
import Derived.Test.YtkhjmedfhobebaaGreatDoC
namespace HandSpec
/-- Where a count of an hour belongs, by the first counts. -/
def posTo (x : WD) (h : Int) : Nat → Nat
  | 0 => 0
  | n+1 => if x.c n 0 < h then n + 1 else posTo x h n
def pos (x : WD) (h : Int) : Nat := posTo x h x.cn
theorem posTo_le (x : WD) (h : Int) : ∀ n, posTo x h n ≤ n
  | 0 => Nat.le_refl _
  | n+1 => by
    have := posTo_le x h n
    unfold posTo
    split <;> omega
theorem posTo_spec {x : WD} (hx : Ok x) (h : Int) : ∀ n, n ≤ x.cn → (∀ i, i < posTo x h n → x.c i 0 < h) ∧ ∀ i, posTo x h n ≤ i → i < n → h ≤ x.c i 0
  | 0, _ => ⟨fun i hi => absurd hi (by simp [posTo]), fun i _ hi => absurd hi (by omega)⟩
  | n+1, hn => by
    obtain ⟨h1, h2⟩ := posTo_spec hx h n (by omega)
    unfold posTo
    by_cases c : x.c n 0 < h
    · rw [if_pos c]
      refine ⟨fun i hi => ?_, fun i a b => absurd a (by omega)⟩
      rcases Nat.lt_or_eq_of_le (Nat.le_of_lt_succ hi) with q | q
      · have := hx.lt q (by omega); omega
      · rw [q]; exact c
    · rw [if_neg c]
      refine ⟨h1, fun i a b => ?_⟩
      rcases Nat.lt_or_eq_of_le (Nat.le_of_lt_succ b) with q | q
      · exact h2 i a q
      · rw [q]; omega
theorem pos_le (x : WD) (h : Int) : pos x h ≤ x.cn := posTo_le x h x.cn
theorem pos_lo {x : WD} (hx : Ok x) (h : Int) {i : Nat} (hi : i < pos x h) : x.c i 0 < h := (posTo_spec hx h x.cn (Nat.le_refl _)).1 i hi
theorem pos_hi {x : WD} (hx : Ok x) (h : Int) {i : Nat} (hi : pos x h ≤ i) (hn : i < x.cn) : h ≤ x.c i 0 := (posTo_spec hx h x.cn (Nat.le_refl _)).2 i hi hn
theorem pos_unique {x : WD} (hx : Ok x) {h : Int} {p : Nat} (hp : p ≤ x.cn) (h1 : ∀ k, k < p → x.c k 0 < h) (h2 : ∀ k, p ≤ k → k < x.cn → h ≤ x.c k 0) : p = pos x h := by
  rcases Nat.lt_trichotomy p (pos x h) with c | c | c
  · have a := pos_lo hx h c
    have b := h2 p (Nat.le_refl _) (by have := pos_le x h; omega)
    omega
  · exact c
  · have a := h1 _ c
    have b := pos_hi hx h (Nat.le_refl _) (show pos x h < x.cn by omega)
    omega
/-- A watch with one count more. -/
def insC (x : WD) (p : Nat) (h lo hi : Int) : WD :=
  { x with cn := x.cn + 1, c := fun i j => if i < p then x.c i j else if i = p then (if j = 0 then h else if j = 1 then lo else hi) else x.c (i - 1) j }
theorem insC_lt {x : WD} {p i : Nat} {h lo hi : Int} (j : Nat) (hi' : i < p) : (insC x p h lo hi).c i j = x.c i j := by simp [insC, hi']
theorem insC_0 (x : WD) (p : Nat) (h lo hi : Int) : (insC x p h lo hi).c p 0 = h := by simp [insC]
theorem insC_1 (x : WD) (p : Nat) (h lo hi : Int) : (insC x p h lo hi).c p 1 = lo := by simp [insC]
theorem insC_2 (x : WD) (p : Nat) (h lo hi : Int) : (insC x p h lo hi).c p 2 = hi := by simp [insC]
theorem insC_gt {x : WD} {p i : Nat} {h lo hi : Int} (j : Nat) (hi' : p ≤ i) : (insC x p h lo hi).c (i + 1) j = x.c i j := by
  unfold insC
  show (if i + 1 < p then _ else _) = _
  rw [if_neg (by omega), if_neg (by omega), Nat.add_sub_cancel]
def hasB (x : WD) (h : Int) : Bool := anyTo (fun i => x.c i 0 == h) x.cn
theorem has_at {x : WD} (hx : Ok x) (h : Int) : hasB x h = (decide (pos x h < x.cn) && (x.c (pos x h) 0 == h)) := by
  unfold hasB
  rw [Bool.eq_iff_iff, anyTo_true, Bool.and_eq_true, decide_eq_true_eq, beq_iff_eq]
  constructor
  · rintro ⟨i, hi, e⟩
    rw [beq_iff_eq] at e
    have h1 : pos x h ≤ i := by
      rcases Nat.lt_or_ge i (pos x h) with q | q
      · have := pos_lo hx h q; omega
      · exact q
    have h2 := pos_hi hx h (Nat.le_refl _) (show pos x h < x.cn by omega)
    have h3 := hx.leq h1 hi
    exact ⟨by omega, by omega⟩
  · rintro ⟨h1, h2⟩
    exact ⟨pos x h, h1, by rw [beq_iff_eq]; exact h2⟩
/-- The error of one count more, and the watch with it. -/
def addE (x : WD) (h lo hi : Int) : Int := if P.chk x ≠ 0 then P.chk x else if x.cn = 8 then 9 else if hasB x h then 5 else P.chk (insC x (pos x h) h lo hi)
def zeroW : WD := ⟨0, 0, 0, 0, 0, 0, fun _ _ => 0, fun _ _ => 0, fun _ _ => 0⟩
def addW (x : WD) (h lo hi : Int) : WD := if addE x h lo hi = 0 then insC x (pos x h) h lo hi else zeroW
theorem addE_chk {x : WD} {h lo hi : Int} (hc : P.chk x ≠ 0) : addE x h lo hi = P.chk x := by unfold addE; rw [if_pos hc]
theorem addE_full {x : WD} {h lo hi : Int} (hc : P.chk x = 0) (hn : x.cn = 8) : addE x h lo hi = 9 := by unfold addE; rw [if_neg (by simpa using hc), if_pos hn]
theorem addE_has {x : WD} {h lo hi : Int} (hc : P.chk x = 0) (hn : x.cn ≠ 8) (hb : hasB x h = true) : addE x h lo hi = 5 := by unfold addE; rw [if_neg (by simpa using hc), if_neg hn, if_pos hb]
theorem addE_ins {x : WD} {h lo hi : Int} (hc : P.chk x = 0) (hn : x.cn ≠ 8) (hb : hasB x h = false) : addE x h lo hi = P.chk (insC x (pos x h) h lo hi) := by unfold addE; rw [if_neg (by simpa using hc), if_neg hn, hb]; rfl
theorem addW_zero {x : WD} {h lo hi : Int} (he : addE x h lo hi ≠ 0) : addW x h lo hi = zeroW := by unfold addW; rw [if_neg he]
theorem addW_ins {x : WD} {h lo hi : Int} (he : addE x h lo hi = 0) : addW x h lo hi = insC x (pos x h) h lo hi := by unfold addW; rw [if_pos he]
end HandSpec
