/- What the law of truths says of a watch that is made: plain law; what Made returns, for the laws. No condition. -/
import Derived.Test.YtkhjmedfhobebaaGreatOwnP
namespace HandSpec
namespace L
open R P
variable {x : WD}
/-- Nobody takes more in an interval than can lie there. -/
theorem truth_bd (hx : Ok x) {s : Nat → Int} {t : Nat → Nat → Int} (T : Truth x s t) {h : Nat} (hh : h < x.hands.toNat) {i : Nat} (hi : i + 1 < x.cn) : t h i ≤ 2500 := by
  obtain ⟨l, hl, hs⟩ := T.step i hi
  have h1 := sumTo_ge (f := fun h => t h i) hh fun k _ => T.pos k i
  have h2 := T.box i (by omega)
  have h3 := T.box (i+1) hi
  have h4 := hx.hi i (by omega)
  have h5 := hx.lo (i+1) hi
  have h6 := booked_bound hx i (i+1)
  omega
theorem took_bd (hx : Ok x) {s : Nat → Int} {t : Nat → Nat → Int} (T : Truth x s t) {h : Nat} (hh : h < x.hands.toNat) : ∀ n, n ≤ x.cn - 1 → 0 ≤ sumTo (t h) n ∧ sumTo (t h) n ≤ 2500 * (n : Int)
  | 0, _ => by simp [sumTo]
  | n+1, hn => by
    have ih := took_bd hx T hh n (by omega)
    have h1 := truth_bd hx T hh (show n + 1 < x.cn by omega)
    have h2 := T.pos h n
    simp only [sumTo]
    omega
theorem bd_sum {f : Nat → Int} {B : Int} : ∀ n : Nat, (∀ h, h < n → 0 ≤ f h ∧ f h ≤ B) → 0 ≤ sumTo f n ∧ sumTo f n ≤ B * (n : Int)
  | 0, _ => by simp [sumTo]
  | n+1, hf => by
    have ih := bd_sum n fun h hh => hf h (by omega)
    have h1 := hf n (by omega)
    simp only [sumTo, Int.natCast_add, Int.mul_add]
    omega
/-- What the law of truths asks. -/
structure TrueP (x : WD) (s : Nat → Int) (t : Nat → Nat → Int) : Prop where
  told : P.toldE x false = 0
  chk : P.chk x = 0
  none : R.clashes x = none
  miss : 0 ≤ P.proved x (2 ^ x.hands.toNat - 1)
  least : ∀ h, h < x.hands.toNat → 0 ≤ P.proved x (2 ^ h) ∧ P.proved x (2 ^ h) ≤ sumTo (t h) (x.cn - 1)
  must : ∀ h, h < x.hands.toNat → decide (h ∈ P.must x) = decide (0 < P.proved x (2 ^ h))
  can : ∀ h, h < x.hands.toNat → 0 < sumTo (t h) (x.cn - 1) → decide (h ∈ P.can x) = true
  took : ∀ h, h < x.hands.toNat → sumTo (t h) (x.cn - 1) ≤ 20000
  sum : P.proved x (2 ^ x.hands.toNat - 1) ≤ sumTo (fun h => sumTo (t h) (x.cn - 1)) x.hands.toNat
  leasts : sumTo (fun h => P.proved x (2 ^ h)) x.hands.toNat ≤ P.proved x (2 ^ x.hands.toNat - 1)
  len : (P.must x).length ≤ (P.can x).length
  lens : (P.must x).length ≤ 6 ∧ (P.can x).length ≤ 6
  within : ∀ k, k < x.cn → (P.lo x k ≤ s k ∧ s k ≤ P.hi x k) ∧ x.c k 1 ≤ P.lo x k ∧ P.lo x k ≤ P.hi x k ∧ P.hi x k ≤ x.c k 2
  fix : ∀ k, k < x.cn → ∀ n, x.c k 1 ≤ n → n ≤ x.c k 2 → Ok (setc x k n) ∧ (R.clashes (setc x k n)).isSome = !decide (P.lo x k ≤ n ∧ n ≤ P.hi x k)
theorem trueP (hx : Ok x) {s : Nat → Int} {t : Nat → Nat → Int} (T : Truth x s t) : TrueP x s t := by
  have hw := truth_fw hx T
  have hc := chk_of hx
  have hn : R.clashes x = Option.none := by
    have := clash_iff hx
    rw [hw] at this
    cases h : R.clashes x with
    | none => rfl
    | some v => rw [h] at this; cases this
  have hl := fun h (hh : h < x.hands.toNat) => (⟨proved_nonneg hx hw (bit_lt hh), least_truth hx T hh⟩ : 0 ≤ P.proved x (2 ^ h) ∧ P.proved x (2 ^ h) ≤ sumTo (t h) (x.cn - 1))
  have hm := F.must_eq hx hw
  have hcan := P.can_eq hx
  refine ⟨truth_told hx hc T, hc, hn, proved_nonneg hx hw (whole_lt x), hl, fun h hh => ?_, fun h hh h0 => ?_, fun h hh => ?_, missing_truth hx T, least_missing hx hw, ?_, ?_, fun k hk => ⟨within_truth hx T hk, P.lo_bd hx hw hk⟩, fun k hk n h1 h2 => ?_⟩
  · rw [hm, Bool.eq_iff_iff, decide_eq_true_iff, decide_eq_true_iff, mem_must hx hw]
    exact ⟨fun h => h.2, fun h => ⟨hh, h⟩⟩
  · rw [hcan]
    exact decide_eq_true (took_can hx T hh h0)
  · have := (took_bd hx T hh (x.cn - 1) (Nat.le_refl _)).2
    have := hx.cn
    omega
  · rw [hm, hcan]; exact must_len hx T
  · have h6 := hx.hands
    constructor
    · unfold P.must P.mustTo
      exact Nat.le_trans (List.length_filter_le _ _) (by simp; omega)
    · rw [hcan]
      exact Nat.le_trans (canL_length x _) (by omega)
  · have a1 := hx.lo k hk
    have a2 := hx.hi k hk
    have ho := setc_ok hx k (s := n) ⟨by omega, by omega⟩
    refine ⟨ho, ?_⟩
    rw [clash_iff ho, ← P.fixed_eq hx hw hk h1 h2]
    rfl
end L
end HandSpec
namespace Go.Proofs.YtkhjmedfhobebaaGreat
open Go.RowKit HandSpec
theorem u8_nat {n : Int} (h : (Lit.int .u8 n).wf = true) : ∃ j : Nat, n = (j : Int) ∧ j < 256 := by
  simp only [Lit.wf, Bool.and_eq_true, decide_eq_true_eq] at h
  have h1 : (0 : Int) ≤ n := h.1
  have h2 : n ≤ 255 := h.2
  exact ⟨n.toNat, by omega, by omega⟩
theorem own_arr {w : World} {B n q : Nat} {D : Option Addr} {g : Nat → Nat → Int} (hn : 0 < n) (o : OwnR w B 79 3 (.slice D n q) (rowsG 3 n g)) : ∃ b, D = some ⟨b, 0, none⟩ ∧ B ≤ b ∧ Arr w b (n * 3) (fun i => g (i / 3) (i % 3)) := by
  rcases OwnR.arr o with ⟨h1, -⟩ | ⟨b, cap, h1, h2, -, h4⟩
  · simp only [Value.slice.injEq] at h1
    omega
  · simp only [Value.slice.injEq] at h1
    obtain ⟨h1, -, -⟩ := h1
    rw [rowsG_length] at h4
    exact ⟨b, h1, h2, h4.congr fun i hi => rowsG_at (by omega) (Nat.mod_lt _ (by omega))⟩
theorem IsW.rdC {w : World} {x : WD} {a b c : Value} {A1 A2 A3 : Option Addr} {n1 c1 n2 c2 n3 c3 : Nat} (h : IsW w (.agg #[a, b, c, .slice A1 n1 c1, .slice A2 n2 c2, .slice A3 n3 c3]) x) : Rd w A1 n1 3 x.c := by
  obtain ⟨B1, d1, B2, d2, B3, d3, hv, r1, -, -⟩ := h
  simp only [Value.agg.injEq, Array.mk.injEq, List.cons.injEq, Value.slice.injEq, and_true] at hv
  obtain ⟨-, -, -, ⟨rfl, rfl, -⟩, -⟩ := hv
  exact r1
/-- What Made returns, as the laws want it. -/
theorem made_any {A : Option Addr} {n cap : Nat} {w wa : World} (st : Start ⟨w.heap.size, A, n, cap⟩ wa) (e : Ext w wa) {mc mh : Int} (hc : 1 ≤ mc ∧ mc ≤ 8) (hh : 1 ≤ mh ∧ mh ≤ 6) :
    Calls Tryz.prog 72 #[.pointer (some ⟨w.heap.size, 0, none⟩), .int .i64 mc, .int .i64 mh] wa fun e' wb => ∃ (x : WD) (s : Nat → Int) (t : Nat → Nat → Int) (A3 : Option Addr) (c3 : Nat) (A4 : Option Addr) (c4 : Nat) (A5 : Option Addr) (c5 : Nat) (A6 : Option Addr) (c6 lc nh : Nat),
      e' = .returned (.tuple #[.agg #[.int .i64 x.hours, .int .i64 x.allow, .int .i64 x.hands, .slice A3 x.cn c3, .slice A4 x.bn c4, .slice A5 x.sn c5], .slice A6 x.cn c6, .slice (some ⟨lc, 0, none⟩) nh nh]) ∧
      IsW wb (.agg #[.int .i64 x.hours, .int .i64 x.allow, .int .i64 x.hands, .slice A3 x.cn c3, .slice A4 x.bn c4, .slice A5 x.sn c5]) x ∧ Ok x ∧ L.Truth x s t ∧ Rd wb A6 x.cn 1 (fun k _ => s k) ∧ Rd wb (some ⟨lc, 0, none⟩) nh 1 (fun h _ => sumTo (t h) (x.cn - 1)) ∧ (x.cn : Int) ≤ mc ∧ x.hands = (nh : Int) ∧ (nh : Int) ≤ mh ∧ Ext w wb := by
  refine (made72 st hc hh).mono ?_
  rintro e' wb ⟨hours, al, nh, M, L, C, s, t, v3, v4, v5, v6, lc, rfl, R⟩
  obtain ⟨A3, c3, rfl, r3⟩ := R.o3.slR
  obtain ⟨A4, c4, rfl, r4⟩ := R.o4.slR
  obtain ⟨A5, c5, rfl, r5⟩ := R.o5.slR
  obtain ⟨A6, c6, rfl, r6⟩ := R.o6.slR
  rw [rowsI_length] at r6
  refine ⟨MadeS.wd hours al nh M L C, ni s, _, A3, c3, A4, c4, A5, c5, A6, c6, lc, nh, ?_, ⟨A3, c3, A4, c4, A5, c5, rfl, r3, r4, r5⟩, R.ok, R.tr, ?_, ?_, R.cn, rfl, R.hn, R.x.ext e (Nat.le_refl _)⟩
  · rw [rowsI_length, R.sl]; rfl
  · show Rd wb A6 C.length 1 _
    rw [← R.sl]
    exact r6.congr fun k _ j hj => by
      obtain rfl : j = 0 := by omega
      exact rowsI_at s k
  · exact R.a.rd1.congr fun h hh _ _ => HandSpec.L.sumTo_eq fun i _ => (if_pos hh).symm
end Go.Proofs.YtkhjmedfhobebaaGreat
