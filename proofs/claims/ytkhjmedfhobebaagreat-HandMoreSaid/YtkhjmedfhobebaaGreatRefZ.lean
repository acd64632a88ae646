/- Inserting a count; the walk of the reference Add. No condition. -/
import Derived.Test.YtkhjmedfhobebaaGreatDoJ
import Derived.Test.YtkhjmedfhobebaaGreatLawD
namespace HandSpec
/-- Where a count of an hour belongs, by the first counts. -/
def posTo (x : WD) (h : Int) : Nat → Nat
 | 0 => 0
 | n+1 => if x.c n 0 < h then n + 1 else posTo x h n
def pos (x : WD) (h : Int) : Nat := posTo x h x.cn
theorem posTo_le (x : WD) (h : Int) : ∀ n, posTo x h n ≤ n
 | 0 => Nat.le_refl _
 | n+1 => by
  have := posTo_le x h n
  unfold posTo
  split <;> omega
theorem posTo_spec {x : WD} (hx : Ok x) (h : Int) : ∀ n, n ≤ x.cn → (∀ i, i < posTo x h n → x.c i 0 < h) ∧ ∀ i, posTo x h n ≤ i → i < n → h ≤ x.c i 0
 | 0, _ => ⟨fun i hi => absurd hi (by simp [posTo]), fun i _ hi => absurd hi (by omega)⟩
 | n+1, hn => by
  obtain ⟨h1, h2⟩ := posTo_spec hx h n (by omega)
  unfold posTo
  by_cases c : x.c n 0 < h
  ·rw [if_pos c]
   refine ⟨fun i hi => ?_, fun i a b => absurd a (by omega)⟩
   rcases Nat.lt_or_eq_of_le (Nat.le_of_lt_succ hi) with q | q
   ·have := hx.lt q (by omega); omega
   ·rw [q]; exact c
  ·rw [if_neg c]
   refine ⟨h1, fun i a b => ?_⟩
   rcases Nat.lt_or_eq_of_le (Nat.le_of_lt_succ b) with q | q
   ·exact h2 i a q
   ·rw [q]; omega
theorem pos_le (x : WD) (h : Int) : pos x h ≤ x.cn := posTo_le x h x.cn
theorem pos_lo {x : WD} (hx : Ok x) (h : Int) {i : Nat} (hi : i < pos x h) : x.c i 0 < h := (posTo_spec hx h x.cn (Nat.le_refl _)).1 i hi
theorem pos_hi {x : WD} (hx : Ok x) (h : Int) {i : Nat} (hi : pos x h ≤ i) (hn : i < x.cn) : h ≤ x.c i 0 := (posTo_spec hx h x.cn (Nat.le_refl _)).2 i hi hn
theorem pos_unique {x : WD} (hx : Ok x) {h : Int} {p : Nat} (hp : p ≤ x.cn) (h1 : ∀ k, k < p → x.c k 0 < h) (h2 : ∀ k, p ≤ k → k < x.cn → h ≤ x.c k 0) : p = pos x h := by
 rcases Nat.lt_trichotomy p (pos x h) with c | c | c
 ·have a := pos_lo hx h c
  have b := h2 p (Nat.le_refl _) (by have := pos_le x h; omega)
  omega
 ·exact c
 ·have a := h1 _ c
  have b := pos_hi hx h (Nat.le_refl _) (show pos x h < x.cn by omega)
  omega
/-- A watch with one count more. -/
def insC (x : WD) (p : Nat) (h lo hi : Int) : WD :=
 { x with cn := x.cn + 1, c := fun i j => if i < p then x.c i j else if i = p then (if j = 0 then h else if j = 1 then lo else hi) else x.c (i - 1) j }
theorem insC_lt {x : WD} {p i : Nat} {h lo hi : Int} (j : Nat) (hi' : i < p) : (insC x p h lo hi).c i j = x.c i j := by simp [insC, hi']
theorem insC_0 (x : WD) (p : Nat) (h lo hi : Int) : (insC x p h lo hi).c p 0 = h := by simp [insC]
theorem insC_1 (x : WD) (p : Nat) (h lo hi : Int) : (insC x p h lo hi).c p 1 = lo := by simp [insC]
theorem insC_2 (x : WD) (p : Nat) (h lo hi : Int) : (insC x p h lo hi).c p 2 = hi := by simp [insC]
theorem insC_gt {x : WD} {p i : Nat} {h lo hi : Int} (j : Nat) (hi' : p ≤ i) : (insC x p h lo hi).c (i + 1) j = x.c i j := by
 unfold insC
 show (if i + 1 < p then _ else _) = _
 rw [if_neg (by omega), if_neg (by omega), Nat.add_sub_cancel]
def hasB (x : WD) (h : Int) : Bool := anyTo (fun i => x.c i 0 == h) x.cn
theorem has_at {x : WD} (hx : Ok x) (h : Int) : hasB x h = (decide (pos x h < x.cn) && (x.c (pos x h) 0 == h)) := by
 unfold hasB
 rw [Bool.eq_iff_iff, anyTo_true, Bool.and_eq_true, decide_eq_true_eq, beq_iff_eq]
 constructor
 ·rintro ⟨i, hi, e⟩
  rw [beq_iff_eq] at e
  have h1 : pos x h ≤ i := by
   rcases Nat.lt_or_ge i (pos x h) with q | q
   ·have := pos_lo hx h q; omega
   ·exact q
  have h2 := pos_hi hx h (Nat.le_refl _) (show pos x h < x.cn by omega)
  have h3 := hx.leq h1 hi
  exact ⟨by omega, by omega⟩
 ·rintro ⟨h1, h2⟩
  exact ⟨pos x h, h1, by rw [beq_iff_eq]; exact h2⟩
/-- The error of one count more, and the watch with it. -/
def addE (x : WD) (h lo hi : Int) : Int := if P.chk x ≠ 0 then P.chk x else if x.cn = 8 then 9 else if hasB x h then 5 else P.chk (insC x (pos x h) h lo hi)
def zeroW : WD := ⟨0, 0, 0, 0, 0, 0, fun _ _ => 0, fun _ _ => 0, fun _ _ => 0⟩
def addW (x : WD) (h lo hi : Int) : WD := if addE x h lo hi = 0 then insC x (pos x h) h lo hi else zeroW
theorem addE_chk {x : WD} {h lo hi : Int} (hc : P.chk x ≠ 0) : addE x h lo hi = P.chk x := by unfold addE; rw [if_pos hc]
theorem addE_full {x : WD} {h lo hi : Int} (hc : P.chk x = 0) (hn : x.cn = 8) : addE x h lo hi = 9 := by unfold addE; rw [if_neg (by simpa using hc), if_pos hn]
theorem addE_has {x : WD} {h lo hi : Int} (hc : P.chk x = 0) (hn : x.cn ≠ 8) (hb : hasB x h = true) : addE x h lo hi = 5 := by unfold addE; rw [if_neg (by simpa using hc), if_neg hn, if_pos hb]
theorem addE_ins {x : WD} {h lo hi : Int} (hc : P.chk x = 0) (hn : x.cn ≠ 8) (hb : hasB x h = false) : addE x h lo hi = P.chk (insC x (pos x h) h lo hi) := by unfold addE; rw [if_neg (by simpa using hc), if_neg hn, hb]; rfl
theorem addW_zero {x : WD} {h lo hi : Int} (he : addE x h lo hi ≠ 0) : addW x h lo hi = zeroW := by unfold addW; rw [if_neg he]
theorem addW_ins {x : WD} {h lo hi : Int} (he : addE x h lo hi = 0) : addW x h lo hi = insC x (pos x h) h lo hi := by unfold addW; rw [if_pos he]
end HandSpec
namespace Go.Proofs.YtkhjmedfhobebaaGreat
open Go.RowKit HandSpec
set_option maxHeartbeats 1600000
set_option maxRecDepth 100000
/-- A new slice of one count. -/
def C1 (a b c : Int) : MSpec := fun v lo hi w => v = .slice (some ⟨lo, 0, none⟩) 1 1 ∧ hi = lo + 1 ∧ Blk w lo 82 #[.int .i64 a, .int .i64 b, .int .i64 c]
theorem C1.ext {a b c : Int} {v : Value} {lo hi : Nat} {w w' : World} (h : C1 a b c v lo hi w) (e : Ext w w') : C1 a b c v lo hi w' := ⟨h.1, h.2.1, h.2.2.ext e⟩
theorem isW_zero (w : World) : IsW w (.agg #[.int .i64 0, .int .i64 0, .int .i64 0, .slice none 0 0, .slice none 0 0, .slice none 0 0]) zeroW :=
 ⟨none, 0, none, 0, none, 0, rfl, Rd.nil, Rd.nil, Rd.nil⟩
/-- How many rows stand there, once the first k counts are gone through. -/
def rowsK (p k : Nat) : Nat := if p < k then k + 1 else k
theorem rowsG_K0 (p : Nat) (g : Nat → Nat → Int) : rowsG 3 (rowsK p 0) g = [] := by
 unfold rowsK
 rw [if_neg (Nat.not_lt_zero p)]; rfl
theorem ext6b {w W : World} {H : Nat} (e : Ext w W) (hH : w.heap.size ≤ H) (a b c d f g : Value) :
  Ext w ((((((W.setCell ⟨H, 0, none⟩ a).setCell ⟨H, 1, none⟩ b).setCell ⟨H, 2, none⟩ c).setCell ⟨H, 3, none⟩ d).setCell ⟨H, 4, none⟩ f).setCell ⟨H, 5, none⟩ g) :=
 (((((e.setCell a (p := ⟨H, 0, none⟩) hH).setCell b (p := ⟨H, 1, none⟩) hH).setCell c (p := ⟨H, 2, none⟩) hH).setCell d (p := ⟨H, 3, none⟩) hH).setCell f (p := ⟨H, 4, none⟩) hH).setCell g (p := ⟨H, 5, none⟩) hH
theorem own_rd {w : World} {B n q : Nat} {D : Option Addr} {g : Nat → Nat → Int} (h : OwnR w B 82 3 (.slice D n q) (rowsG 3 n g)) : Rd w D n 3 g := by
 obtain ⟨D', q', he, hr⟩ := h.slR
 rw [rowsG_length] at he hr
 obtain ⟨rfl, rfl⟩ : D = D' ∧ q = q' := by simpa using he
 exact hr.congr fun k hk j hj => rowsG_at hk hj
theorem own_far6 {W : World} {B c : Nat} {e : TypeId} {v : Value} {l : List (List Int)} (o : OwnR W B e c v l) {H : Nat} (hH : H < B) (a b d f g i : Value) :
  OwnR ((((((W.setCell ⟨H, 0, none⟩ a).setCell ⟨H, 1, none⟩ b).setCell ⟨H, 2, none⟩ d).setCell ⟨H, 3, none⟩ f).setCell ⟨H, 4, none⟩ g).setCell ⟨H, 5, none⟩ i) B e c v l :=
 OwnR.far (OwnR.far (OwnR.far (OwnR.far (OwnR.far (OwnR.far o (p := ⟨H, 0, none⟩) hH a) (p := ⟨H, 1, none⟩) hH b) (p := ⟨H, 2, none⟩) hH d) (p := ⟨H, 3, none⟩) hH f) (p := ⟨H, 4, none⟩) hH g) (p := ⟨H, 5, none⟩) hH i
theorem add53 {x : WD} {w : World} {v : Value} (hv : IsW w v x) (h1 : x.cn ≤ 1000) (h2 : x.bn ≤ 1000) (h3 : x.sn ≤ 1000) (h lo hi : Int) :
  Calls Tryz.prog 53 #[v, .agg #[.int .i64 h, .int .i64 lo, .int .i64 hi]] w fun e w' => ∃ u, e = .returned (.tuple #[u, .int .i64 (addE x h lo hi)]) ∧ Ext w w' ∧ IsW w' u (addW x h lo hi) := by
 have HV := hid hv
 obtain ⟨A1, c1, A2, c2, A3, c3, rfl, r1, r2, r3⟩ := hv
 have R1 := hid r1
 have R2 := hid r2
 have R3 := hid r3
 clear r1 r2 r3
 go_enter Tryz.func53, Tryz.ntmps53
 go_upto_region 1 with fail
 refine wp_later fun w1 hw1 => ?_
 obtain ⟨E1, b2, b3, b4⟩ := newB3' hw1
 have k2 := b2.cell
 have k2l := b2.lt
 have k4l := b4.lt
 clear hw1
 by_cases hc0 : P.chk x ≠ 0
 ·have hb : (P.chk x == 0) = false := by simpa using hc0
  have HE := hid (addE_chk (h := h) (lo := lo) (hi := hi) hc0)
  have HZ := hid (addW_zero (x := x) (h := h) (lo := lo) (hi := hi) (by rw [addE_chk hc0]; exact hc0))
  clear hc0
  go_wp2_with (go_at_call 21; refine (refcheck_any (HV.out.ext E1) h1 h2 h3).mono ?_; rintro e w5 ⟨rfl, he5⟩; have k4 := (b4.ext he5).cell; have k4l := (b4.ext he5).lt; have f4 := (b4.ext he5).frozen)
  try rw [Exit.noGoto_ret]
  exact bodyPost_ret (v := .tuple #[.agg #[.int .i64 0, .int .i64 0, .int .i64 0, .slice none 0 0, .slice none 0 0, .slice none 0 0], .int .i64 (P.chk x)]) (by simp [results, Tryz.results53, go_sem, k4]) rfl ⟨_, by rw [HE.out], ext6b (E1.trans he5) (by omega) _ _ _ _ _ _, by rw [HZ.out]; exact isW_zero _⟩
 have hc := Classical.not_not.1 hc0
 clear hc0
 have hx := Ok.of_chk hc
 have hcn := hx.cn
 have HC := hid hc
 clear hc
 by_cases hn8 : x.cn = 8
 ·have HE := hid (addE_full (h := h) (lo := lo) (hi := hi) HC.out hn8)
  have HZ := hid (addW_zero (x := x) (h := h) (lo := lo) (hi := hi) (by rw [HE.out]; decide))
  have e8 : ((x.cn : Int) == 8) = true := by rw [hn8]; rfl
  have HN := hid hn8
  clear hn8
  go_wp2_with (go_at_call 21; refine (refcheck_any (HV.out.ext E1) h1 h2 h3).mono ?_; rintro e w5 ⟨rfl, he5⟩; rw [HC.out]; have k2 := (b2.ext he5).cell; have k2l := (b2.ext he5).lt; have k4 := (b4.ext he5).cell; have k4l := (b4.ext he5).lt; have f4 := (b4.ext he5).frozen)
  try rw [Exit.noGoto_ret]
  exact bodyPost_ret (v := .tuple #[.agg #[.int .i64 0, .int .i64 0, .int .i64 0, .slice none 0 0, .slice none 0 0, .slice none 0 0], .int .i64 9]) (by simp [results, Tryz.results53, go_sem, k4]) rfl ⟨_, by rw [HE.out], ext6b (E1.trans he5) (by omega) _ _ _ _ _ _, by rw [HZ.out]; exact isW_zero _⟩
 have e8 : ((x.cn : Int) == 8) = false := by rw [beq_eq_false_iff_ne]; omega
 have HN := hid hn8
 clear hn8
 obtain ⟨p, hp⟩ : ∃ p, pos x h = p := ⟨_, rfl⟩
 have HPlo := hid (fun i (q : i < p) => pos_lo hx h (i := i) (by rw [hp]; exact q))
 have HPhi := hid (fun i (q : p ≤ i) (r : i < x.cn) => pos_hi hx h (i := i) (by rw [hp]; exact q) r)
 have hpn : p ≤ x.cn := by rw [← hp]; exact pos_le x h
 have HPP := hid hp
 clear hp
 obtain ⟨Y, hY⟩ : ∃ Y, insC x p h lo hi = Y := ⟨_, rfl⟩
 have HY := hid hY
 clear hY
 go_upto_region 7 with (go_at_call 21; refine (refcheck_any (HV.out.ext E1) h1 h2 h3).mono ?_; rintro e w5 ⟨rfl, he5⟩; rw [HC.out]; have k2 := (b2.ext he5).cell; have k2l := (b2.ext he5).lt)
 refine wp_later fun w6 hw6 => ?_
 obtain ⟨E6, b7⟩ := hw6.newB
 clear hw6 k2 k2l
 have hz5 : w.heap.size + 2 < w5.heap.size := Nat.lt_of_lt_of_le b4.lt he5.size
 go_wp2_with fail
 go_loopw [8, 9] (fun s8 s9 wr => ∃ (k : Nat) (s : Value), k ≤ x.cn ∧ s9 = .int .i64 (k : Int) ∧ s8 = .bool (decide (p < k)) ∧ Hid (∀ j, j < k → x.c j 0 ≠ h) ∧ Ext w5 wr ∧ Blk wr w5.heap.size 34 #[.int .i64 x.hours, .int .i64 x.allow, .int .i64 x.hands, s, .slice A2 x.bn c2, .slice A3 x.sn c3] ∧ OwnR wr (w5.heap.size + 1) 82 3 s (rowsG 3 (rowsK p k) Y.c)) (fun _ s9 _ => x.cn - (intOf s9).toNat)
 case atStart => exact ⟨0, _, Nat.zero_le _, rfl, by simp, fun _ q => absurd q (by omega), E6, b7, by rw [rowsG_K0]; exact OwnR.nil⟩
 case round =>
  clear b7 E6
  obtain ⟨k, s, hk, rfl, rfl, hno, he, b7, hown⟩ := hrel
  have HOWN := hid hown
  obtain ⟨D, q, rfl, -⟩ := hown.slR
  rw [rowsG_length] at b7 HOWN
  have B7 := hid b7
  have EE := hid he
  clear hown b7 he
  have k2 := (b2.ext (he5.trans EE.out)).cell
  have k2l := (b2.ext (he5.trans EE.out)).lt
  have k3 := (b3.ext (he5.trans EE.out)).cell
  have k3l := (b3.ext (he5.trans EE.out)).lt
  have k7 := B7.out.cell
  have k7l := B7.out.lt
  have f7 := B7.out.frozen
  by_cases hlt : k < x.cn
  ·obtain ⟨cb, co, rfl, hcb, a0, a1, a2⟩ := (R1.out.ext (E1.trans (he5.trans EE.out))).at3 hlt
   have hki : (k : Int) < (x.cn : Int) := by omega
   go_upto_region 11 with fail
   by_cases heq : x.c k 0 = h
   ·have e1 : (x.c k 0 == h) = true := by rw [heq]; simp
    have HE := hid (addE_has (h := h) (lo := lo) (hi := hi) HC.out HN.out (anyTo_true.2 ⟨k, hlt, e1⟩))
    have HZ := hid (addW_zero (x := x) (h := h) (lo := lo) (hi := hi) (by rw [HE.out]; decide))
    have HEQ := hid heq
    clear heq
    refine wp_region_later (by kernel_rfl) (by kernel_rfl) ?_
    repeat (go_big_quiet_step (fail))
    refine wpQuiet_nil ?_
    rintro w7 ⟨⟨_, he7⟩, rfl⟩
    have b4' := (b4.ext (he5.trans EE.out)).ext he7
    have k4 := b4'.cell
    have k4l := b4'.lt
    have f4 := b4'.frozen
    go_wp2_with fail
    try rw [Exit.noGoto_ret]
    exact bodyPost_ret (v := .tuple #[.agg #[.int .i64 0, .int .i64 0, .int .i64 0, .slice none 0 0, .slice none 0 0, .slice none 0 0], .int .i64 5]) (by simp [results, Tryz.results53, go_sem, k4]) rfl ⟨_, by rw [HE.out], ext6b (E1.trans (he5.trans (EE.out.trans he7))) (by omega) _ _ _ _ _ _, by rw [HZ.out]; exact isW_zero _⟩
   ·have e1 : (x.c k 0 == h) = false := by rw [beq_eq_false_iff_ne]; exact heq
    refine wp_region_later (by kernel_rfl) (by kernel_rfl) ?_
    repeat (go_big_quiet_step (fail))
    refine wpQuiet_nil ?_
    rintro w7 ⟨⟨_, he7⟩, rfl⟩
    have a0 := he7.some_ a0
    have a1 := he7.some_ a1
    have a2 := he7.some_ a2
    have hcb := Nat.lt_of_lt_of_le hcb he7.size
    have EE := hid (EE.out.trans he7)
    have B7 := hid (B7.out.ext he7)
    have HOWN := hid (HOWN.out.ext he7)
    have HNO := hid (show ∀ j, j < k + 1 → x.c j 0 ≠ h from fun j hj => by
     rcases Nat.lt_or_eq_of_le (Nat.le_of_lt_succ hj) with q | q
     ·exact hno.out j q
     ·rw [q]; exact heq)
    clear k2 k2l k3 k3l k7 k7l f7
    have k2 := (b2.ext (he5.trans EE.out)).cell
    have k2l := (b2.ext (he5.trans EE.out)).lt
    have k3 := (b3.ext (he5.trans EE.out)).cell
    have k3l := (b3.ext (he5.trans EE.out)).lt
    have k7 := B7.out.cell
    have k7l := B7.out.lt
    have f7 := B7.out.frozen
    go_upto_region 13 with fail
    rcases Nat.lt_trichotomy k p with c | c | c
    ·have e2 : decide (p < k) = false := decide_eq_false (by omega)
     have e3 : ¬ h < x.c k 0 := by have := HPlo.out k c; omega
     have RK := hid (show rowsG 3 (rowsK p (k+1)) Y.c = rowsG 3 (rowsK p k) Y.c ++ [[x.c k 0, x.c k 1, x.c k 2]] by
      rw [show rowsK p (k+1) = k + 1 by unfold rowsK; rw [if_neg (by omega)], show rowsK p k = k by unfold rowsK; rw [if_neg (by omega)], rowsG3_succ, ← HY.out, insC_lt 0 c, insC_lt 1 c, insC_lt 2 c])
     have hrk : rowsK p k ≤ 100 := by unfold rowsK; split <;> omega
     rw [e2]
     clear e1
     refine wp_region_later (by kernel_rfl) (by kernel_rfl) ?_
     repeat (go_big_quiet_step (fail))
     refine wpQuiet_nil ?_
     rintro w8 ⟨⟨_, he8⟩, rfl⟩
     have a0 := he8.some_ a0
     have a1 := he8.some_ a1
     have a2 := he8.some_ a2
     have hcb := Nat.lt_of_lt_of_le hcb he8.size
     have EE := hid (EE.out.trans he8)
     have B7 := hid (B7.out.ext he8)
     have HOWN := hid (HOWN.out.ext he8)
     clear k2 k2l k3 k3l k7 k7l f7
     have k2 := (b2.ext (he5.trans EE.out)).cell
     have k2l := (b2.ext (he5.trans EE.out)).lt
     have k3 := (b3.ext (he5.trans EE.out)).cell
     have k3l := (b3.ext (he5.trans EE.out)).lt
     have k7 := B7.out.cell
     have k7l := B7.out.lt
     have f7 := B7.out.frozen
     go_upto_region 16 with fail
     refine wp_region_mono 8 [(7, C1 (x.c k 0) (x.c k 1) (x.c k 2))] (by kernel_rfl) (by kernel_rfl) (by kernel_rfl) ?hS ?_
     case hS =>
      simp only [List.forall_mem_cons]
      exact ⟨fun _ _ _ _ _ e h => C1.ext h e, fun _ h => by simp at h⟩
     simp only [List.take_succ_cons, List.take_zero, List.drop_succ_cons, List.drop_zero]
     refine wpM_plain rfl ?_
     go_big_quiet_step (fail)
     refine wpQuiet_nil ?_
     refine wpM_plain rfl ?_
     go_big_quiet_step (fail)
     refine wpQuiet_nil ?_
     refine wpM_plain rfl ?_
     go_big_quiet_step (fail)
     refine wpQuiet_nil ?_
     refine wpM_plain rfl ?_
     go_big_quiet_step (fail)
     refine wpQuiet_nil ?_
     refine wpM_plain rfl ?_
     go_big_quiet_step (fail)
     refine wpQuiet_nil ?_
     refine wpM_plain rfl ?_
     go_big_quiet_step (fail)
     refine wpQuiet_nil ?_
     refine wpM_plain rfl ?_
     go_big_quiet_step (fail)
     refine wpQuiet_nil ?_
     refine wpM_spec _ rfl rfl (fun w4 hw4 _ => ?_) (fun va la ha ga1 ga2 _ hva => ?_)
     ·go_wp2
      exact ⟨_, w4.heap.size, w4.heap.size + 1, rfl, (Ext.refl _).alloc _, Nat.le_refl _, Nat.le_succ _, by simp, rfl, rfl, Blk.new _ _ _⟩
     simp only [Act.put, List.setIfInBounds_toArray, List.set_cons_succ, List.set_cons_zero]
     obtain ⟨_, rfl, rfl, -⟩ := hva
     refine wpM_nil fun w10 hw10 hF => ?_
     simp only [List.forall_mem_cons] at hF
     obtain ⟨⟨-, -, -, bN⟩, -⟩ := hF
     have kN := bN.cell
     have EE := hid (EE.out.trans hw10)
     have B7 := hid (B7.out.ext hw10)
     have HOWN := hid (HOWN.out.ext hw10)
     clear k2 k2l k3 k3l k7 k7l f7
     have k2 := (b2.ext (he5.trans EE.out)).cell
     have k2l := (b2.ext (he5.trans EE.out)).lt
     have k3 := (b3.ext (he5.trans EE.out)).cell
     have k3l := (b3.ext (he5.trans EE.out)).lt
     have k7 := B7.out.cell
     have k7l := B7.out.lt
     have f7 := B7.out.frozen
     have hz10 : w5.heap.size + 1 ≤ w10.heap.size := B7.out.lt
     go_wp2_with (at_builtin; refine wpList_append_rows rfl _ _ 30 rfl el82 rfl HOWN.out _ 1 1 [[x.c k 0, x.c k 1, x.c k 2]] rfl rfl (by simp) (by intro j; rw [kN]; simp [cellsOf]) (by rw [rowsG_length]; omega) hz10 ?_; intro v' w11 hown2 hg2; have hbl := fun g hg => HOWN.out.block (g := g) hg; have EE := hid (EE.out.grown hg2 (fun g hg => by have := hbl g hg; omega)); have B7 := hid (B7.out.grown hg2 (fun e => by have := hbl _ e.symm; omega)); rw [← RK.out] at hown2; obtain ⟨D2, q2, rfl, -⟩ := hown2.slR; rw [rowsG_length] at hown2 ⊢; have HO2 := hid hown2; clear hown2; have k7 := B7.out.cell; have k7l := B7.out.lt; have f7 := B7.out.frozen)
     go_roundw
     case rel => exact ⟨k + 1, _, by omega, by go_num, by rw [decide_eq_false (show ¬ p < k + 1 by omega)], HNO, EE.out.setCell _ (p := ⟨w5.heap.size, 3, none⟩) (Nat.le_refl _), B7.out.set_ 3 _, by
      exact OwnR.far HO2.out (p := ⟨w5.heap.size, 3, none⟩) (Nat.lt_succ_self _) _⟩
     case measure => simp [intOf]; omega
    ·have e2 : decide (p < k) = false := decide_eq_false (by omega)
     have e3 : h < x.c k 0 := by
      have := HPhi.out k (by omega) hlt
      omega
     have RK1 := hid (show rowsG 3 (rowsK p k + 1) Y.c = rowsG 3 (rowsK p k) Y.c ++ [[h, lo, hi]] by
      rw [show rowsK p k = k by unfold rowsK; rw [if_neg (by omega)], rowsG3_succ, ← HY.out, c, insC_0, insC_1, insC_2])
     have RK2 := hid (show rowsG 3 (rowsK p (k+1)) Y.c = rowsG 3 (rowsK p k + 1) Y.c ++ [[x.c k 0, x.c k 1, x.c k 2]] by
      rw [show rowsK p (k+1) = k + 1 + 1 by unfold rowsK; rw [if_pos (by omega)], show rowsK p k = k by unfold rowsK; rw [if_neg (by omega)], rowsG3_succ (k + 1), ← HY.out, insC_gt 0 (by omega), insC_gt 1 (by omega), insC_gt 2 (by omega)])
     have hrk : rowsK p k ≤ 100 := by unfold rowsK; split <;> omega
     have HCP := hid c
     clear c
     rw [e2]
     clear e1
     refine wp_region_later (by kernel_rfl) (by kernel_rfl) ?_
     repeat (go_big_quiet_step (fail))
     refine wpQuiet_nil ?_
     rintro w8 ⟨⟨_, he8⟩, rfl⟩
     have a0 := he8.some_ a0
     have a1 := he8.some_ a1
     have a2 := he8.some_ a2
     have hcb := Nat.lt_of_lt_of_le hcb he8.size
     have EE := hid (EE.out.trans he8)
     have B7 := hid (B7.out.ext he8)
     have HOWN := hid (HOWN.out.ext he8)
     clear k2 k2l k3 k3l k7 k7l f7
     have k2 := (b2.ext (he5.trans EE.out)).cell
     have k2l := (b2.ext (he5.trans EE.out)).lt
     have k3 := (b3.ext (he5.trans EE.out)).cell
     have k3l := (b3.ext (he5.trans EE.out)).lt
     have k7 := B7.out.cell
     have k7l := B7.out.lt
     have f7 := B7.out.frozen
     have hz8 : w5.heap.size + 1 ≤ w8.heap.size := B7.out.lt
     go_upto_region 16 with (at_builtin; refine wpList_append_rows rfl _ _ 30 rfl el82 rfl (HOWN.out.ext (Ext.alloc (Ext.refl _) _)) _ 1 1 [[h, lo, hi]] rfl rfl (by simp) (by intro j; simp [cellsOf]) (by rw [rowsG_length]; omega) (by simp; omega) ?_; intro v' w9 hown2 hg2; have hbl := fun g hg => HOWN.out.block (g := g) hg; have EE := hid ((EE.out.alloc _).grown hg2 (fun g hg => by have := hbl g hg; omega)); have B7 := hid ((B7.out.ext (Ext.alloc (Ext.refl _) _)).grown hg2 (fun e => by have := hbl _ e.symm; omega)); rw [← RK1.out] at hown2; obtain ⟨D2, q2, rfl, -⟩ := hown2.slR; rw [rowsG_length] at hown2 ⊢; have HO2 := hid hown2; clear hown2; have k7 := B7.out.cell; have k7l := B7.out.lt; have f7 := B7.out.frozen)
     refine wp_later fun w12 hw12 => ?_
     have EE := hid ((EE.out.setCell _ (p := ⟨w5.heap.size, 3, none⟩) (Nat.le_refl _)).trans hw12)
     have b7 := (B7.out.set_ 3 (.slice D2 (rowsK p k + 1) q2)).ext hw12
     simp only [List.setIfInBounds_toArray, List.set_cons_succ, List.set_cons_zero] at b7
     have B7 := hid b7
     have HOWN := hid (OwnR.ext (OwnR.far HO2.out (p := ⟨w5.heap.size, 3, none⟩) (Nat.lt_succ_self _) _) hw12)
     clear b7 hw12 a0 a1 a2 hcb
     obtain ⟨_, _, hq0, hcb, a0, a1, a2⟩ := (R1.out.ext (E1.trans (he5.trans EE.out))).at3 hlt
     obtain ⟨rfl, rfl⟩ := same_addr hq0 rfl
     clear hq0
     clear k2 k2l k3 k3l k7 k7l f7
     have k2 := (b2.ext (he5.trans EE.out)).cell
     have k2l := (b2.ext (he5.trans EE.out)).lt
     have k3 := (b3.ext (he5.trans EE.out)).cell
     have k3l := (b3.ext (he5.trans EE.out)).lt
     have k7 := B7.out.cell
     have k7l := B7.out.lt
     have f7 := B7.out.frozen
     refine wp_region_mono 8 [(7, C1 (x.c k 0) (x.c k 1) (x.c k 2))] (by kernel_rfl) (by kernel_rfl) (by kernel_rfl) ?hS ?_
     case hS =>
      simp only [List.forall_mem_cons]
      exact ⟨fun _ _ _ _ _ e h => C1.ext h e, fun _ h => by simp at h⟩
     simp only [List.take_succ_cons, List.take_zero, List.drop_succ_cons, List.drop_zero]
     refine wpM_plain rfl ?_
     go_big_quiet_step (fail)
     refine wpQuiet_nil ?_
     refine wpM_plain rfl ?_
     go_big_quiet_step (fail)
     refine wpQuiet_nil ?_
     refine wpM_plain rfl ?_
     go_big_quiet_step (fail)
     refine wpQuiet_nil ?_
     refine wpM_plain rfl ?_
     go_big_quiet_step (fail)
     refine wpQuiet_nil ?_
     refine wpM_plain rfl ?_
     go_big_quiet_step (fail)
     refine wpQuiet_nil ?_
     refine wpM_plain rfl ?_
     go_big_quiet_step (fail)
     refine wpQuiet_nil ?_
     refine wpM_plain rfl ?_
     go_big_quiet_step (fail)
     refine wpQuiet_nil ?_
     refine wpM_spec _ rfl rfl (fun w4 hw4 _ => ?_) (fun va la ha ga1 ga2 _ hva => ?_)
     ·go_wp2
      exact ⟨_, w4.heap.size, w4.heap.size + 1, rfl, (Ext.refl _).alloc _, Nat.le_refl _, Nat.le_succ _, by simp, rfl, rfl, Blk.new _ _ _⟩
     simp only [Act.put, List.setIfInBounds_toArray, List.set_cons_succ, List.set_cons_zero]
     obtain ⟨_, rfl, rfl, -⟩ := hva
     refine wpM_nil fun w10 hw10 hF => ?_
     simp only [List.forall_mem_cons] at hF
     obtain ⟨⟨-, -, -, bN⟩, -⟩ := hF
     have kN := bN.cell
     have EE := hid (EE.out.trans hw10)
     have B7 := hid (B7.out.ext hw10)
     have HOWN := hid (HOWN.out.ext hw10)
     clear k2 k2l k3 k3l k7 k7l f7
     have k2 := (b2.ext (he5.trans EE.out)).cell
     have k2l := (b2.ext (he5.trans EE.out)).lt
     have k3 := (b3.ext (he5.trans EE.out)).cell
     have k3l := (b3.ext (he5.trans EE.out)).lt
     have k7 := B7.out.cell
     have k7l := B7.out.lt
     have f7 := B7.out.frozen
     have hz10 : w5.heap.size + 1 ≤ w10.heap.size := B7.out.lt
     go_wp2_with (at_builtin; refine wpList_append_rows rfl _ _ 30 rfl el82 rfl HOWN.out _ 1 1 [[x.c k 0, x.c k 1, x.c k 2]] rfl rfl (by simp) (by intro j; rw [kN]; simp [cellsOf]) (by rw [rowsG_length]; omega) hz10 ?_; intro v' w11 hown2 hg2; have hbl := fun g hg => HOWN.out.block (g := g) hg; have EE := hid (EE.out.grown hg2 (fun g hg => by have := hbl g hg; omega)); have B7 := hid (B7.out.grown hg2 (fun e => by have := hbl _ e.symm; omega)); rw [← RK2.out] at hown2; obtain ⟨D2, q2, rfl, -⟩ := hown2.slR; rw [rowsG_length] at hown2 ⊢; have HO2 := hid hown2; clear hown2; have k7 := B7.out.cell; have k7l := B7.out.lt; have f7 := B7.out.frozen)
     go_roundw
     case rel => exact ⟨k + 1, _, by omega, by go_num, by rw [decide_eq_true (show p < k + 1 by have := HCP.out; omega)], HNO, EE.out.setCell _ (p := ⟨w5.heap.size, 3, none⟩) (Nat.le_refl _), B7.out.set_ 3 _, by
      exact OwnR.far HO2.out (p := ⟨w5.heap.size, 3, none⟩) (Nat.lt_succ_self _) _⟩
     case measure => simp [intOf]; omega
    ·have e2 : decide (p < k) = true := decide_eq_true c
     have RK := hid (show rowsG 3 (rowsK p (k+1)) Y.c = rowsG 3 (rowsK p k) Y.c ++ [[x.c k 0, x.c k 1, x.c k 2]] by
      rw [show rowsK p (k+1) = k + 1 + 1 by unfold rowsK; rw [if_pos (by omega)], show rowsK p k = k + 1 by unfold rowsK; rw [if_pos c], rowsG3_succ, ← HY.out, insC_gt 0 (by omega), insC_gt 1 (by omega), insC_gt 2 (by omega)])
     have hrk : rowsK p k ≤ 100 := by unfold rowsK; split <;> omega
     rw [e2]
     clear e1
     refine wp_region_later (by kernel_rfl) (by kernel_rfl) ?_
     repeat (go_big_quiet_step (fail))
     refine wpQuiet_nil ?_
     rintro w8 ⟨⟨_, he8⟩, rfl⟩
     have a0 := he8.some_ a0
     have a1 := he8.some_ a1
     have a2 := he8.some_ a2
     have hcb := Nat.lt_of_lt_of_le hcb he8.size
     have EE := hid (EE.out.trans he8)
     have B7 := hid (B7.out.ext he8)
     have HOWN := hid (HOWN.out.ext he8)
     clear k2 k2l k3 k3l k7 k7l f7
     have k2 := (b2.ext (he5.trans EE.out)).cell
     have k2l := (b2.ext (he5.trans EE.out)).lt
     have k3 := (b3.ext (he5.trans EE.out)).cell
     have k3l := (b3.ext (he5.trans EE.out)).lt
     have k7 := B7.out.cell
     have k7l := B7.out.lt
     have f7 := B7.out.frozen
     go_upto_region 16 with fail
     refine wp_region_mono 8 [(7, C1 (x.c k 0) (x.c k 1) (x.c k 2))] (by kernel_rfl) (by kernel_rfl) (by kernel_rfl) ?hS ?_
     case hS =>
      simp only [List.forall_mem_cons]
      exact ⟨fun _ _ _ _ _ e h => C1.ext h e, fun _ h => by simp at h⟩
     simp only [List.take_succ_cons, List.take_zero, List.drop_succ_cons, List.drop_zero]
     refine wpM_plain rfl ?_
     go_big_quiet_step (fail)
     refine wpQuiet_nil ?_
     refine wpM_plain rfl ?_
     go_big_quiet_step (fail)
     refine wpQuiet_nil ?_
     refine wpM_plain rfl ?_
     go_big_quiet_step (fail)
     refine wpQuiet_nil ?_
     refine wpM_plain rfl ?_
     go_big_quiet_step (fail)
     refine wpQuiet_nil ?_
     refine wpM_plain rfl ?_
     go_big_quiet_step (fail)
     refine wpQuiet_nil ?_
     refine wpM_plain rfl ?_
     go_big_quiet_step (fail)
     refine wpQuiet_nil ?_
     refine wpM_plain rfl ?_
     go_big_quiet_step (fail)
     refine wpQuiet_nil ?_
     refine wpM_spec _ rfl rfl (fun w4 hw4 _ => ?_) (fun va la ha ga1 ga2 _ hva => ?_)
     ·go_wp2
      exact ⟨_, w4.heap.size, w4.heap.size + 1, rfl, (Ext.refl _).alloc _, Nat.le_refl _, Nat.le_succ _, by simp, rfl, rfl, Blk.new _ _ _⟩
     simp only [Act.put, List.setIfInBounds_toArray, List.set_cons_succ, List.set_cons_zero]
     obtain ⟨_, rfl, rfl, -⟩ := hva
     refine wpM_nil fun w10 hw10 hF => ?_
     simp only [List.forall_mem_cons] at hF
     obtain ⟨⟨-, -, -, bN⟩, -⟩ := hF
     have kN := bN.cell
     have EE := hid (EE.out.trans hw10)
     have B7 := hid (B7.out.ext hw10)
     have HOWN := hid (HOWN.out.ext hw10)
     clear k2 k2l k3 k3l k7 k7l f7
     have k2 := (b2.ext (he5.trans EE.out)).cell
     have k2l := (b2.ext (he5.trans EE.out)).lt
     have k3 := (b3.ext (he5.trans EE.out)).cell
     have k3l := (b3.ext (he5.trans EE.out)).lt
     have k7 := B7.out.cell
     have k7l := B7.out.lt
     have f7 := B7.out.frozen
     have hz10 : w5.heap.size + 1 ≤ w10.heap.size := B7.out.lt
     go_wp2_with (at_builtin; refine wpList_append_rows rfl _ _ 30 rfl el82 rfl HOWN.out _ 1 1 [[x.c k 0, x.c k 1, x.c k 2]] rfl rfl (by simp) (by intro j; rw [kN]; simp [cellsOf]) (by rw [rowsG_length]; omega) hz10 ?_; intro v' w11 hown2 hg2; have hbl := fun g hg => HOWN.out.block (g := g) hg; have EE := hid (EE.out.grown hg2 (fun g hg => by have := hbl g hg; omega)); have B7 := hid (B7.out.grown hg2 (fun e => by have := hbl _ e.symm; omega)); rw [← RK.out] at hown2; obtain ⟨D2, q2, rfl, -⟩ := hown2.slR; rw [rowsG_length] at hown2 ⊢; have HO2 := hid hown2; clear hown2; have k7 := B7.out.cell; have k7l := B7.out.lt; have f7 := B7.out.frozen)
     go_roundw
     case rel => exact ⟨k + 1, _, by omega, by go_num, by rw [decide_eq_true (show p < k + 1 by omega)], HNO, EE.out.setCell _ (p := ⟨w5.heap.size, 3, none⟩) (Nat.le_refl _), B7.out.set_ 3 _, by
      exact OwnR.far HO2.out (p := ⟨w5.heap.size, 3, none⟩) (Nat.lt_succ_self _) _⟩
     case measure => simp [intOf]; omega
  ·obtain rfl : k = x.cn := by omega
   rcases Nat.lt_or_ge p x.cn with c | c
   ·rw [decide_eq_true c]
    rw [show rowsK p x.cn = x.cn + 1 by unfold rowsK; rw [if_pos c]] at B7 HOWN
    clear k2 k2l k3 k3l k7 k7l f7
    have k2 := (b2.ext (he5.trans EE.out)).cell
    have k2l := (b2.ext (he5.trans EE.out)).lt
    have k3 := (b3.ext (he5.trans EE.out)).cell
    have k3l := (b3.ext (he5.trans EE.out)).lt
    have k7 := B7.out.cell
    have k7l := B7.out.lt
    have f7 := B7.out.frozen
    have hr0 := own_rd HOWN.out
    have HIW : Hid (∀ w', Ext wr w' → IsW w' (.agg #[.int .i64 x.hours, .int .i64 x.allow, .int .i64 x.hands, .slice D (x.cn + 1) q, .slice A2 x.bn c2, .slice A3 x.sn c3]) Y) := by
     rw [← HY.out] at hr0 ⊢
     exact hid fun w' e => ⟨D, q, A2, c2, A3, c3, rfl, hr0.ext e, R2.out.ext (E1.trans (he5.trans (EE.out.trans e))), R3.out.ext (E1.trans (he5.trans (EE.out.trans e)))⟩
    have y1 : Y.cn ≤ 1000 := by rw [← HY.out]; show x.cn + 1 ≤ 1000; omega
    have y2 : Y.bn ≤ 1000 := by rw [← HY.out]; exact h2
    have y3 : Y.sn ≤ 1000 := by rw [← HY.out]; exact h3
    have HE := hid (show addE x h lo hi = P.chk Y by rw [← HY.out, ← HPP.out]; exact addE_ins HC.out HN.out (anyTo_false.2 fun i hi' => beq_eq_false_iff_ne.2 (hno.out i hi')))
    clear hr0
    by_cases hcy : P.chk Y = 0
    ·have HCY := hid hcy
     have HW := hid (show addW x h lo hi = Y by rw [addW_ins (by rw [HE.out]; exact hcy), HPP.out, HY.out])
     clear hcy
     go_wp2_with (go_at_call 21; refine (refcheck_any (HIW.out _ (Ext.refl _)) y1 y2 y3).mono ?_; rintro e w20 ⟨rfl, he20⟩; rw [HCY.out]; have b4' := (b4.ext (he5.trans EE.out)).ext he20; have k4 := b4'.cell; have k4l := b4'.lt; have f4 := b4'.frozen; have k7 := (B7.out.ext he20).cell; have k7l := (B7.out.ext he20).lt)
     try rw [Exit.noGoto_ret]
     have EF := ext6b (E1.trans (he5.trans (EE.out.trans he20))) (H := w.heap.size + 1 + 1) (by omega) (.int .i64 x.hours) (.int .i64 x.allow) (.int .i64 x.hands) (.slice D (x.cn + 1) q) (.slice A2 x.bn c2) (.slice A3 x.sn c3)
     have hf := own_rd (own_far6 (HOWN.out.ext he20) (H := w.heap.size + 1 + 1) (by omega) (.int .i64 x.hours) (.int .i64 x.allow) (.int .i64 x.hands) (.slice D (x.cn + 1) q) (.slice A2 x.bn c2) (.slice A3 x.sn c3))
     exact bodyPost_ret (v := .tuple #[.agg #[.int .i64 x.hours, .int .i64 x.allow, .int .i64 x.hands, .slice D (x.cn + 1) q, .slice A2 x.bn c2, .slice A3 x.sn c3], .int .i64 0]) (by simp [results, Tryz.results53, go_sem, k4]) rfl ⟨_, by rw [HE.out, HCY.out], EF, by
      rw [HW.out]
      rw [← HY.out] at hf ⊢
      exact ⟨D, q, A2, c2, A3, c3, rfl, hf, R2.out.ext EF, R3.out.ext EF⟩⟩
    ·have hcy1 : (P.chk Y == 0) = false := by simpa using hcy
     have hcy2 : (P.chk Y != 0) = true := by simpa using hcy
     have HZ := hid (addW_zero (x := x) (h := h) (lo := lo) (hi := hi) (by rw [HE.out]; exact hcy))
     clear hcy
     go_wp2_with (go_at_call 21; refine (refcheck_any (HIW.out _ (Ext.refl _)) y1 y2 y3).mono ?_; rintro e w20 ⟨rfl, he20⟩; have b4' := (b4.ext (he5.trans EE.out)).ext he20; have k4 := b4'.cell; have k4l := b4'.lt; have f4 := b4'.frozen)
     try rw [Exit.noGoto_ret]
     exact bodyPost_ret (v := .tuple #[.agg #[.int .i64 0, .int .i64 0, .int .i64 0, .slice none 0 0, .slice none 0 0, .slice none 0 0], .int .i64 (P.chk Y)]) (by simp [results, Tryz.results53, go_sem, k4]) rfl ⟨_, by rw [HE.out], ext6b (E1.trans (he5.trans (EE.out.trans he20))) (by omega) _ _ _ _ _ _, by rw [HZ.out]; exact isW_zero _⟩
   ·rw [decide_eq_false (show ¬ p < x.cn by omega)]
    rw [show rowsK p x.cn = x.cn by unfold rowsK; rw [if_neg (by omega)]] at B7 HOWN
    have hpe : p = x.cn := by omega
    have RK := hid (show rowsG 3 (x.cn + 1) Y.c = rowsG 3 x.cn Y.c ++ [[h, lo, hi]] by rw [rowsG3_succ, ← HY.out, hpe, insC_0, insC_1, insC_2])
    clear hpe
    clear k2 k2l k3 k3l k7 k7l f7
    have k2 := (b2.ext (he5.trans EE.out)).cell
    have k2l := (b2.ext (he5.trans EE.out)).lt
    have k3 := (b3.ext (he5.trans EE.out)).cell
    have k3l := (b3.ext (he5.trans EE.out)).lt
    have k7 := B7.out.cell
    have k7l := B7.out.lt
    have f7 := B7.out.frozen
    go_upto_region 19 with (at_builtin; refine wpList_append_rows rfl _ _ 30 rfl el82 rfl (HOWN.out.ext (Ext.alloc (Ext.refl _) _)) _ 1 1 [[h, lo, hi]] rfl rfl (by simp) (by intro j; simp [cellsOf]) (by rw [rowsG_length]; omega) (by have := B7.out.lt; simp; omega) ?_; intro v' w9 hown2 hg2; have hbl := fun g hg => HOWN.out.block (g := g) hg; have EE := hid ((EE.out.alloc _).grown hg2 (fun g hg => by have := hbl g hg; omega)); have B7 := hid ((B7.out.ext (Ext.alloc (Ext.refl _) _)).grown hg2 (fun e => by have := hbl _ e.symm; omega)); rw [← RK.out] at hown2; obtain ⟨D2, q2, rfl, -⟩ := hown2.slR; rw [rowsG_length] at hown2 ⊢; have HO2 := hid hown2; clear hown2; have k7 := B7.out.cell; have k7l := B7.out.lt; have f7 := B7.out.frozen)
    refine wp_later fun w12 hw12 => ?_
    have EE := hid ((EE.out.setCell _ (p := ⟨w5.heap.size, 3, none⟩) (Nat.le_refl _)).trans hw12)
    have b7 := (B7.out.set_ 3 (.slice D2 (x.cn + 1) q2)).ext hw12
    simp only [List.setIfInBounds_toArray, List.set_cons_succ, List.set_cons_zero] at b7
    have B7 := hid b7
    have HOWN := hid (OwnR.ext (OwnR.far HO2.out (p := ⟨w5.heap.size, 3, none⟩) (Nat.lt_succ_self _) _) hw12)
    clear b7 hw12
    clear k2 k2l k3 k3l k7 k7l f7
    have k2 := (b2.ext (he5.trans EE.out)).cell
    have k2l := (b2.ext (he5.trans EE.out)).lt
    have k3 := (b3.ext (he5.trans EE.out)).cell
    have k3l := (b3.ext (he5.trans EE.out)).lt
    have k7 := B7.out.cell
    have k7l := B7.out.lt
    have f7 := B7.out.frozen
    have hr0 := own_rd HOWN.out
    have HIW : Hid (∀ w', Ext w12 w' → IsW w' (.agg #[.int .i64 x.hours, .int .i64 x.allow, .int .i64 x.hands, .slice D2 (x.cn + 1) q2, .slice A2 x.bn c2, .slice A3 x.sn c3]) Y) := by
     rw [← HY.out] at hr0 ⊢
     exact hid fun w' e => ⟨D2, q2, A2, c2, A3, c3, rfl, hr0.ext e, R2.out.ext (E1.trans (he5.trans (EE.out.trans e))), R3.out.ext (E1.trans (he5.trans (EE.out.trans e)))⟩
    have y1 : Y.cn ≤ 1000 := by rw [← HY.out]; show x.cn + 1 ≤ 1000; omega
    have y2 : Y.bn ≤ 1000 := by rw [← HY.out]; exact h2
    have y3 : Y.sn ≤ 1000 := by rw [← HY.out]; exact h3
    have HE := hid (show addE x h lo hi = P.chk Y by rw [← HY.out, ← HPP.out]; exact addE_ins HC.out HN.out (anyTo_false.2 fun i hi' => beq_eq_false_iff_ne.2 (hno.out i hi')))
    clear hr0
    by_cases hcy : P.chk Y = 0
    ·have HCY := hid hcy
     have HW := hid (show addW x h lo hi = Y by rw [addW_ins (by rw [HE.out]; exact hcy), HPP.out, HY.out])
     clear hcy
     go_wp2_with (go_at_call 21; refine (refcheck_any (HIW.out _ (Ext.refl _)) y1 y2 y3).mono ?_; rintro e w20 ⟨rfl, he20⟩; rw [HCY.out]; have b4' := (b4.ext (he5.trans EE.out)).ext he20; have k4 := b4'.cell; have k4l := b4'.lt; have f4 := b4'.frozen; have k7 := (B7.out.ext he20).cell; have k7l := (B7.out.ext he20).lt)
     try rw [Exit.noGoto_ret]
     have EF := ext6b (E1.trans (he5.trans (EE.out.trans he20))) (H := w.heap.size + 1 + 1) (by omega) (.int .i64 x.hours) (.int .i64 x.allow) (.int .i64 x.hands) (.slice D2 (x.cn + 1) q2) (.slice A2 x.bn c2) (.slice A3 x.sn c3)
     have hf := own_rd (own_far6 (HOWN.out.ext he20) (H := w.heap.size + 1 + 1) (by omega) (.int .i64 x.hours) (.int .i64 x.allow) (.int .i64 x.hands) (.slice D2 (x.cn + 1) q2) (.slice A2 x.bn c2) (.slice A3 x.sn c3))
     exact bodyPost_ret (v := .tuple #[.agg #[.int .i64 x.hours, .int .i64 x.allow, .int .i64 x.hands, .slice D2 (x.cn + 1) q2, .slice A2 x.bn c2, .slice A3 x.sn c3], .int .i64 0]) (by simp [results, Tryz.results53, go_sem, k4]) rfl ⟨_, by rw [HE.out, HCY.out], EF, by
      rw [HW.out]
      rw [← HY.out] at hf ⊢
      exact ⟨D2, q2, A2, c2, A3, c3, rfl, hf, R2.out.ext EF, R3.out.ext EF⟩⟩
    ·have hcy1 : (P.chk Y == 0) = false := by simpa using hcy
     have hcy2 : (P.chk Y != 0) = true := by simpa using hcy
     have HZ := hid (addW_zero (x := x) (h := h) (lo := lo) (hi := hi) (by rw [HE.out]; exact hcy))
     clear hcy
     go_wp2_with (go_at_call 21; refine (refcheck_any (HIW.out _ (Ext.refl _)) y1 y2 y3).mono ?_; rintro e w20 ⟨rfl, he20⟩; have b4' := (b4.ext (he5.trans EE.out)).ext he20; have k4 := b4'.cell; have k4l := b4'.lt; have f4 := b4'.frozen)
     try rw [Exit.noGoto_ret]
     exact bodyPost_ret (v := .tuple #[.agg #[.int .i64 0, .int .i64 0, .int .i64 0, .slice none 0 0, .slice none 0 0, .slice none 0 0], .int .i64 (P.chk Y)]) (by simp [results, Tryz.results53, go_sem, k4]) rfl ⟨_, by rw [HE.out], ext6b (E1.trans (he5.trans (EE.out.trans he20))) (by omega) _ _ _ _ _ _, by rw [HZ.out]; exact isW_zero _⟩
end Go.Proofs.YtkhjmedfhobebaaGreat
