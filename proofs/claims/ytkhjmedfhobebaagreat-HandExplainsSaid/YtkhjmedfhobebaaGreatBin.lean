/- The walk of BinarySearchFunc over counts. -/
import Derived.Test.YtkhjmedfhobebaaGreatRefH
namespace Go.Proofs.YtkhjmedfhobebaaGreat
open Go.RowKit HandSpec
set_option maxHeartbeats 800000
set_option maxRecDepth 100000
/-- A function value that compares a count's hour with a number. -/
def Cmps (f : Nat) (n : Nat) (g : Nat → Nat → Int) (t : Int) : Prop :=
  (∀ args w, (callFunc f args).run Tryz.prog w = .ok (.enter f args) w) ∧
    ∀ k, k < n → ∀ w, ∃ v, (v < 0 ↔ g k 0 < t) ∧ (v = 0 ↔ g k 0 = t) ∧ Calls Tryz.prog f #[enc3 g k, .int .i64 t] w (fun e w' => e = .returned (.int .i64 v) ∧ Ext w w')
theorem cmp238 {n : Nat} {g : Nat → Nat → Int} {t : Int} (h : ∀ k, k < n → -1000 ≤ g k 0 ∧ g k 0 ≤ 1000) (ht : -1000 ≤ t ∧ t ≤ 1000) : Cmps 238 n g t := by
  refine ⟨enters_ Tryz.func238 (by kernel_rfl) rfl, fun k hk w => ⟨g k 0 - t, by omega, by omega, ?_⟩⟩
  have := h k hk
  unfold enc3
  go_enter Tryz.func238, Tryz.ntmps238
  go_wp2
  go_ret
  exact ⟨ret_int (by go_num), (Ext.refl _).alloc _⟩
theorem cmp166 (n : Nat) (g : Nat → Nat → Int) (t : Int) : Cmps 166 n g t := by
  refine ⟨enters_ Tryz.func166 (by kernel_rfl) rfl, fun k hk w => ?_⟩
  unfold enc3
  rcases Int.lt_trichotomy (g k 0) t with h | h | h
  · refine ⟨-1, by omega, by omega, ?_⟩
    go_enter Tryz.func166, Tryz.ntmps166
    go_wp2
    go_ret
    exact ⟨rfl, (Ext.refl _).alloc _⟩
  · refine ⟨0, by omega, by omega, ?_⟩
    have h1 : ¬ g k 0 < t := by omega
    have h2 : ¬ g k 0 > t := by omega
    clear h
    go_enter Tryz.func166, Tryz.ntmps166
    go_wp2
    go_ret
    exact ⟨rfl, (Ext.refl _).alloc _⟩
  · refine ⟨1, by omega, by omega, ?_⟩
    have h1 : ¬ g k 0 < t := by omega
    go_enter Tryz.func166, Tryz.ntmps166
    go_wp2
    go_ret
    exact ⟨rfl, (Ext.refl _).alloc _⟩
theorem bsearch165 {w : World} {A : Option Addr} {n cap : Nat} {g : Nat → Nat → Int} {f : Nat} {t : Int} (hr : Rd w A n 3 g) (hn : n ≤ 1000) (hs : ∀ i j, i < j → j < n → g i 0 < g j 0) (hf : Cmps f n g t) :
    Calls Tryz.prog 165 #[.slice A n cap, .int .i64 t, .func (.func f) #[] #[]] w (fun e w' => ∃ p : Nat, e = .returned (.tuple #[.int .i64 p, .bool (decide (p < n) && (g p 0 == t))]) ∧ p ≤ n ∧ (∀ k, k < p → g k 0 < t) ∧ (∀ k, p ≤ k → k < n → t ≤ g k 0) ∧ Ext w w') := by
  obtain ⟨hcf, hf⟩ := hf
  have HF := hid hf
  have HS := hid hs
  have R := hid hr
  clear hf hs hr
  unfold enc3 at HF
  go_enter Tryz.func165, Tryz.ntmps165
  go_wp2
  go_loopw [9, 10, 11] (fun i j m wr => ∃ p q : Nat, p ≤ q ∧ q ≤ n ∧ i = .int .i64 p ∧ j = .int .i64 q ∧ Hid (∀ k, k < p → g k 0 < t) ∧ Hid (∀ k, q ≤ k → k < n → t ≤ g k 0) ∧ Ext w wr) (fun i j _ _ => (intOf j - intOf i).toNat)
  case atStart => exact ⟨0, n, by omega, Nat.le_refl _, rfl, rfl, fun _ h => absurd h (by omega), fun k h h' => absurd h' (by omega), Ext.refl _⟩
  case round =>
    obtain ⟨p, q, hpq, hq, rfl, rfl, hlo, hhi, he⟩ := hrel
    by_cases hlt : p < q
    · have hmn : (p + q) / 2 < n := by omega
      obtain ⟨b, o, rfl, hb, a0, a1, a2⟩ := (R.out.ext he).at3 hmn
      obtain ⟨v, v1, v2, hc⟩ := HF.out _ hmn wr
      have HC := hid hc
      clear hc v2
      by_cases hv : v < 0
      · have hg := hid (v1.1 hv)
        clear v1
        go_wp2_with (refine HC.out.mono ?_; rintro e w2 ⟨rfl, he2⟩)
        go_roundw
        case rel =>
          refine ⟨(p + q) / 2 + 1, q, by omega, hq, by go_num, rfl, hid fun k hk => ?_, hhi, he.trans he2⟩
          rcases Nat.lt_or_eq_of_le (Nat.le_of_lt_succ hk) with h | h
          · have := HS.out k _ h hmn
            have := hg.out
            omega
          · subst h; exact hg.out
        case measure => simp [intOf]; omega
      · have hg := hid (show t ≤ g ((p + q) / 2) 0 from Int.not_lt.1 fun h => hv (v1.2 h))
        clear v1
        go_wp2_with (refine HC.out.mono ?_; rintro e w2 ⟨rfl, he2⟩)
        go_roundw
        case rel =>
          refine ⟨p, (p + q) / 2, by omega, by omega, rfl, by go_num, hlo, hid fun k hk hk' => ?_, he.trans he2⟩
          rcases Nat.lt_or_eq_of_le hk with h | h
          · have := HS.out _ k h hk'
            have := hg.out
            omega
          · subst h; exact hg.out
        case measure => simp [intOf]; omega
    · obtain rfl : p = q := by omega
      by_cases hpn : p < n
      · obtain ⟨b, o, rfl, hb, a0, a1, a2⟩ := (R.out.ext he).at3 hpn
        obtain ⟨v, v1, v2, hc⟩ := HF.out _ hpn wr
        have HC := hid hc
        have V := hid v2
        clear hc v1 v2
        go_wp2_with (refine HC.out.mono ?_; rintro e w2 ⟨rfl, he2⟩)
        go_ret2
        refine ⟨p, ?_, hq, hlo.out, hhi.out, he.trans he2⟩
        have hv : (v == 0) = (g p 0 == t) := by rw [Bool.eq_iff_iff]; simpa using V.out
        simp [hpn, hv]
      · go_wp2
        go_ret2
        exact ⟨p, by simp [hpn], hq, hlo.out, hhi.out, he⟩
end Go.Proofs.YtkhjmedfhobebaaGreat
