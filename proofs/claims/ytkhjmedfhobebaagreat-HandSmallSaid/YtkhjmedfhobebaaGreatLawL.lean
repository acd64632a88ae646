/- Walk of the law of leasts: for every watch and every hand it returns true. No condition. -/
import Derived.Test.YtkhjmedfhobebaaGreatLawB
import Derived.Test.YtkhjmedfhobebaaGreatLawD
import Derived.Test.YtkhjmedfhobebaaGreatDoM
import Derived.Test.YtkhjmedfhobebaaGreatRefT
import Derived.Test.YtkhjmedfhobebaaGreatMathC
namespace Go.Proofs.YtkhjmedfhobebaaGreat
open Go.RowKit HandSpec
set_option maxHeartbeats 3200000
set_option maxRecDepth 100000
theorem toldE_chk {x : WD} {b : Bool} (h : P.chk x ≠ 0) : P.toldE x b = P.chk x := by unfold P.toldE; rw [if_pos h]
theorem toldE_bad {x : WD} (h : P.chk x = 0) : P.toldE x true = 1 := by unfold P.toldE; rw [if_neg (by simpa using h)]; rfl
theorem toldE_fw {x : WD} (h : P.chk x = 0) : P.toldE x false = if R.fwOk x (R.whole x) then 0 else 7 := by
 unfold P.toldE
 rw [if_neg (by simpa using h), L.clash_iff (Ok.of_chk h)]
 cases R.fwOk x (R.whole x) <;> rfl
theorem badH_eq {x : WD} (h : P.chk x = 0) (n : Int) : badH x n = !inB n 0 (x.hands - 1) := by
 have hhd := (Ok.of_chk h).hands
 unfold badH
 rw [IntWalk.wrap64_in _ (by omega)]
def fwU (b : Bool) : MSpec := fun v _ _ _ => ∃ u, v = .tuple #[u, .bool b]
def pw (k : Nat) : Int := ((2 ^ k : Nat) : Int)
theorem pw_step (k : Nat) : pw (k+1) = pw k * 2 := by unfold pw; rw [Nat.pow_succ]; omega
theorem pw_bd {k : Nat} (h : k ≤ 6) : 1 ≤ pw k ∧ pw k ≤ 64 := by
 have h1 : 2 ^ k ≤ 2 ^ 6 := Nat.pow_le_pow_right (by omega) h
 have h2 : 1 ≤ 2 ^ k := Nat.one_le_two_pow
 unfold pw; omega
theorem taken_pw {x : WD} (hx : Ok x) {w : World} {v : Value} (hv : IsW w v x) {h : Nat} (hh : (h : Int) < x.hands) :
  Calls Tryz.prog 24 #[v, .int .i64 (pw h)] w fun e w' => e = .returned (.int .i64 (R.taken x (2 ^ h))) ∧ Ext w w' :=
 taken_any hx hv (m := 2 ^ h) (by
  have h1 : 2 ^ h < 2 ^ x.hands.toNat := Nat.pow_lt_pow_right (by omega) (by omega)
  unfold R.whole; omega)
theorem pw_lt {x : WD} {h : Nat} (hh : (h : Int) < x.hands) : 2 ^ h < 2 ^ x.hands.toNat := Nat.pow_lt_pow_right (by omega) (by omega)
/-- A stretch of the list is not ahead of the one before it, by From, then by To. -/
theorem sorted_ok {l : List (Nat × Nat)} {x : WD} {m : Nat} (hx : Ok x) (hp : l.Perm (P.proof x m)) (hs : SortedTo l l.length) {q : Nat} (hq : q + 1 < l.length) :
  (nth l q).1 < (nth l (q+1)).1 ∨ ((nth l q).1 = (nth l (q+1)).1 ∧ (nth l q).2 < (nth l (q+1)).2) := by
 have h1 := hs q (q+1) (by omega) hq
 have hne := L.proof_ne hp (show q < q + 1 by omega) hq
 obtain ⟨hg, -, -⟩ := L.proof_ok l hp
 have g1 := (hg (nth l q) (by rw [nth_get l (by omega)]; exact List.getElem_mem (by omega))).1
 have g2 := (hg (nth l (q+1)) (by rw [nth_get l hq]; exact List.getElem_mem hq)).1
 have hcn := hx.cn
 unfold ky at h1
 rcases Nat.lt_trichotomy (nth l q).1 (nth l (q+1)).1 with h | h | h
 ·exact .inl h
 ·refine .inr ⟨h, ?_⟩
  rcases Nat.lt_trichotomy (nth l q).2 (nth l (q+1)).2 with h2 | h2 | h2
  ·exact h2
  ·exact absurd (Prod.ext h h2) hne
  ·omega
 ·omega
theorem whole_lt {x : WD} (hx : Ok x) : R.whole x < 64 := by
 have h2 := hx.hands
 have : 2 ^ x.hands.toNat ≤ 2 ^ 6 := Nat.pow_le_pow_right (by omega) (by omega)
 unfold R.whole; omega
theorem law3 {x : WD} {w : World} {v : Value} (hv : IsW w v x) (which : Int) :
  Calls Tryz.prog 3 #[v, .int .i64 which] w fun e w' => e = .returned (.bool true) ∧ Ext w w' := by
 by_cases hb : wideB x = true
 ·have HV := hid hv
  obtain ⟨A1, c1, A2, c2, A3, c3, rfl, r1, r2, r3⟩ := hv
  clear r1 r2 r3
  have HB := hid hb
  clear hb
  go_enter Tryz.func3, Tryz.ntmps3
  go_wp2_with (first
   | (go_at_call 17; refine (wide17 (HV.out.ext (Ext.alloc (Ext.refl _) _))).mono ?_; rintro e wg ⟨rfl, heg⟩; rw [HB.out])
   | (go_at_call 18; refine (awake_any _).mono ?_; rintro e w10 ⟨rfl, he10⟩))
  go_ret
  exact ⟨rfl, (((Ext.refl _).alloc _).trans heg).trans he10⟩
 have hb' : wideB x = false := by simpa using hb
 have hgr : greatB x = false := by unfold wideB at hb'; simp at hb'; exact hb'.1
 have h1 : x.cn ≤ 1000 := by simp [greatB] at hgr; omega
 have h2 : x.bn ≤ 1000 := by simp [greatB] at hgr; omega
 have h3 : x.sn ≤ 1000 := by simp [greatB] at hgr; omega
 have HV := hid hv
 have HB := hid hb'
 clear hb hb' hgr
 obtain ⟨A1, c1, A2, c2, A3, c3, rfl, r1, r2, r3⟩ := hv
 clear r1 r2 r3
 go_enter Tryz.func3, Tryz.ntmps3
 go_upto_region 3 with (go_at_call 17; refine (wide17 (HV.out.ext (Ext.alloc (Ext.refl _) _))).mono ?_; rintro e wg ⟨rfl, heg⟩; rw [HB.out])
 refine wp_later fun w1 hw1 => ?_
 obtain ⟨E0, b3⟩ := (heg.trans hw1).newB
 have k3 := b3.cell
 have k3l := b3.lt
 have f3 := b3.frozen
 clear hw1 heg
 refine wp_region_mono 6 [(1, fun v lo hi w => IsWI lo hi w v x), (3, fun v lo hi w => IsWI lo hi w v x), (4, PtI 26 z26), (5, PtI 34 z26)] (by kernel_rfl) (by kernel_rfl) (by kernel_rfl) ?hS ?_
 case hS =>
  simp only [List.forall_mem_cons]
  exact ⟨fun _ _ _ _ _ e h => IsWI.ext h e, fun _ _ _ _ _ e h => IsWI.ext h e, fun _ _ _ _ _ e h => PtI.ext h e, fun _ _ _ _ _ e h => PtI.ext h e, fun _ h => by simp at h⟩
 simp only [List.take_succ_cons, List.take_zero, List.drop_succ_cons, List.drop_zero]
 refine wpM_plain rfl ?_
 go_big_quiet_step (fail)
 refine wpQuiet_nil ?_
 refine wpM_spec _ rfl rfl (fun w2 hw2 _ => ?_) (fun va la ha ga1 ga2 _ hva => ?_)
 ·go_wp2_with (go_at_call 19; refine (own19 (HV.out.ext (E0.trans hw2)) h1 h2 h3).mono ?_; rintro e w' ⟨u, rfl, he, hu⟩)
  exact ⟨_, _, _, rfl, he, Nat.le_refl _, he.size, Nat.le_refl _, IsWI.of hu⟩
 simp only [Act.put, List.setIfInBounds_toArray, List.set_cons_succ, List.set_cons_zero]
 obtain ⟨_, D1, q1, D2, q2, D3, q3, rfl, -⟩ := hva
 refine wpM_plain rfl ?_
 go_big_quiet_step (fail)
 refine wpQuiet_nil ?_
 refine wpM_spec _ rfl rfl (fun w2 hw2 _ => ?_) (fun vc lc hc gc1 gc2 _ hvc => ?_)
 ·go_wp2_with (go_at_call 20; refine (theirs20 (HV.out.ext (E0.trans hw2)) h1 h2 h3).mono ?_; rintro e w' ⟨u, rfl, he, hu⟩)
  exact ⟨_, _, _, rfl, he, Nat.le_refl _, he.size, Nat.le_refl _, IsWI.of hu⟩
 simp only [Act.put, List.setIfInBounds_toArray, List.set_cons_succ, List.set_cons_zero]
 obtain ⟨_, D5, q5, D6, q6, D7, q7, rfl, -⟩ := hvc
 refine wpM_spec _ rfl rfl (fun w2 hw2 _ => ?_) (fun vg lg hg gg1 gg2 dg hvg => ?_)
 ·go_wp2
  exact ⟨_, w2.heap.size, w2.heap.size + 1, rfl, (Ext.refl _).alloc _, Nat.le_refl _, Nat.le_succ _, by simp, rfl, rfl, Blk.new _ _ _⟩
 simp only [Act.put, List.setIfInBounds_toArray, List.set_cons_succ, List.set_cons_zero]
 refine wpM_spec _ rfl rfl (fun w2 hw2 _ => ?_) (fun vh lh hh gh1 gh2 dh hvh => ?_)
 ·go_wp2
  exact ⟨_, w2.heap.size, w2.heap.size + 1, rfl, (Ext.refl _).alloc _, Nat.le_refl _, Nat.le_succ _, by simp, rfl, rfl, Blk.new _ _ _⟩
 simp only [Act.put, List.setIfInBounds_toArray, List.set_cons_succ, List.set_cons_zero]
 obtain ⟨_, rfl, rfl, -⟩ := hvg
 obtain ⟨_, rfl, rfl, -⟩ := hvh
 simp only [List.forall_mem_cons] at dg dh
 refine wpM_nil fun w4 hw4 hF => ?_
 simp only [List.forall_mem_cons] at hF
 obtain ⟨⟨-, -, -, bH⟩, ⟨-, -, -, bG⟩, ⟨sc, fc⟩, ⟨sa, fa⟩, -⟩ := hF
 have hne : lg ≠ lh := by omega
 have hne' : lh ≠ lg := by omega
 have hGl := bG.lt
 have hHl := bH.lt
 have kG := bG.cell
 have kH := bH.cell
 have qG := bG.frozen
 have qH := bH.frozen
 have FA := hid fa
 have FC := hid fc
 have BH := hid bH
 have BG := hid bG
 have DG := hid dg
 have DH := hid dh
 clear fa fc bG bH dg dh
 unfold z26 at kG kH
 go_upto_region 4 with fail
 refine wp_later fun w5 hw5 => ?_
 obtain ⟨e5, x26, x34, km⟩ := boxes (w1 := w1) hw4 FA.out FC.out sa sc BG.out BH.out hne gg1 gh1 (by have := DG.out; omega) (by have := DH.out; omega) (by have := DG.out; omega) (by have := DH.out; omega)
 obtain ⟨G1, g1, G2, g2, G3, g3, bG, wG⟩ := x26
 obtain ⟨H1, l1, H2, l2, H3, l3, bH, wH⟩ := x34
 have OWN := hid (wG.ext hw5)
 have THR := hid (wH.ext hw5)
 have BG := bG.ext hw5
 have BH := bH.ext hw5
 have E5 := hid (E0.trans (e5.trans hw5))
 have B3 := (b3.ext (e5.trans hw5))
 have E := hid (Ext.refl w5)
 clear hw5 e5 km bG bH wG wH kG kH qG qH k3 k3l f3 b3 FA FC DG DH sa sc hne hne' hw4 E0 hGl hHl gg1 gh1 gg2 gh2 ga1 ga2 gc1 gc2
 have kH := BH.cell
 have kHl := BH.lt
 have kG := BG.cell
 have kGl := BG.lt
 have k3 := B3.cell
 have k3l := B3.lt
 by_cases hc0 : P.chk x ≠ 0
 ·have hc := hc0
  clear hc0
  have hc' : (P.chk x == 0) = false := by simpa using hc
  have hc2 : (P.chk x != 0) = true := by simpa using hc
  have T1 := hid (toldE_chk (b := badH x which) hc)
  have T2 := hid (toldE_chk (b := false) hc)
  have HT := hid (show P.toldE x (badH x which) ≠ 0 by rw [T1.out]; exact hc)
  have HT2 := hid (show P.toldE x false ≠ 0 by rw [T2.out]; exact hc)
  clear hc
  go_wp2_with (first
   | (go_at_call 21; refine (refcheck_any THR.out h1 h2 h3).mono ?_; rintro e w11 ⟨rfl, he11⟩; have E := hid (E.out.trans he11); have kG := (BG.ext E.out).cell; have kGl := (BG.ext E.out).lt; have kH := (BH.ext E.out).cell; have kHl := (BH.ext E.out).lt; have k3 := (B3.ext E.out).cell; have k3l := (B3.ext E.out).lt)
   | (go_at_call 25; refine (least_err (OWN.out.ext E.out) h1 h2 h3 which HT.out).mono ?_; rintro e w12 ⟨rfl, he12⟩; rw [T1.out]; have E := hid (E.out.trans he12); have kG := (BG.ext E.out).cell; have kGl := (BG.ext E.out).lt; have kH := (BH.ext E.out).cell; have kHl := (BH.ext E.out).lt; have k3 := (B3.ext E.out).cell; have k3l := (B3.ext E.out).lt)
   | (go_at_call 26; refine (proof_err (OWN.out.ext E.out) h1 h2 h3 which HT.out).mono ?_; rintro e w13 ⟨rfl, he13⟩; rw [T1.out]; have E := hid (E.out.trans he13); have kG := (BG.ext E.out).cell; have kGl := (BG.ext E.out).lt; have kH := (BH.ext E.out).cell; have kHl := (BH.ext E.out).lt; have k3 := (B3.ext E.out).cell; have k3l := (B3.ext E.out).lt)
   | (go_at_call 27; refine (missing_err (OWN.out.ext E.out) h1 h2 h3 HT2.out).mono ?_; rintro e w14 ⟨rfl, he14⟩; rw [T2.out]; have E := hid (E.out.trans he14); have kG := (BG.ext E.out).cell; have kGl := (BG.ext E.out).lt; have kH := (BH.ext E.out).cell; have kHl := (BH.ext E.out).lt; have k3 := (B3.ext E.out).cell; have k3l := (B3.ext E.out).lt)
   | (go_at_call 28; refine (same28 (OWN.out.ext E.out) (HV.out.ext (E5.out.trans E.out)) h1 h2 h3 rfl rfl rfl (eqB_refl _ _ _) (eqB_refl _ _ _) (eqB_refl _ _ _)).mono ?_; rintro e w19 ⟨rfl, he19⟩; have E := hid (E.out.trans he19); have kG := (BG.ext E.out).cell; have kGl := (BG.ext E.out).lt; have kH := (BH.ext E.out).cell; have kHl := (BH.ext E.out).lt; have k3 := (B3.ext E.out).cell; have k3l := (B3.ext E.out).lt)
   | (go_at_call 18; refine (awake_any _).mono ?_; rintro e w18 ⟨rfl, he18⟩; have E := hid (E.out.trans he18); have kG := (BG.ext E.out).cell; have kGl := (BG.ext E.out).lt; have kH := (BH.ext E.out).cell; have kHl := (BH.ext E.out).lt; have k3 := (B3.ext E.out).cell; have k3l := (B3.ext E.out).lt))
  go_ret
  exact ⟨rfl, E5.out.trans E.out⟩
 have hc := Classical.not_not.1 hc0
 clear hc0
 have hx := Ok.of_chk hc
 have hhd := hx.hands
 have hwl := whole_lt hx
 have BE := hid (badH_eq hc which)
 have T0 := hid (toldE_bad hc)
 have T2 := hid (toldE_fw hc)
 have HC := hid hc
 clear hc
 go_upto_region 8 with (go_at_call 21; refine (refcheck_any THR.out h1 h2 h3).mono ?_; rintro e w11 ⟨rfl, he11⟩; rw [HC.out]; have E := hid (E.out.trans he11); have kG := (BG.ext E.out).cell; have kGl := (BG.ext E.out).lt; have kH := (BH.ext E.out).cell; have kHl := (BH.ext E.out).lt; have k3 := (B3.ext E.out).cell; have k3l := (B3.ext E.out).lt)
 cases hfw : R.fwOk x (R.whole x)
 all_goals
  have HFW := hid hfw
  clear hfw
 ·have T3 := hid (show P.toldE x false = 7 by rw [T2.out, HFW.out]; rfl)
  refine wp_region_mono 9 [(2, fun v _ _ _ => v = .int .i64 ((R.whole x : Nat) : Int)), (3, fwU false)] (by kernel_rfl) (by kernel_rfl) (by kernel_rfl) ?hS ?_
  case hS =>
   simp only [List.forall_mem_cons]
   exact ⟨fun _ _ _ _ _ _ h => h, fun _ _ _ _ _ _ h => h, fun _ h => by simp at h⟩
  simp only [List.take_succ_cons, List.drop_succ_cons, List.take_nil, List.drop_nil]
  refine wpM_plain rfl ?_
  go_big_quiet_step (fail)
  refine wpQuiet_nil ?_
  refine wpM_plain rfl ?_
  go_big_quiet_step (fail)
  refine wpQuiet_nil ?_
  refine wpM_spec _ rfl rfl (fun w2 hw2 _ => ?_) (fun va la ha ga1 ga2 _ hva => ?_)
  ·go_wp2_with (go_at_call 23; refine (whole_any hx (THR.out.ext (E.out.trans hw2))).mono ?_; rintro e w5 ⟨rfl, he5⟩)
   exact ⟨_, _, _, rfl, he5, Nat.le_refl _, he5.size, Nat.le_refl _, rfl⟩
  obtain ⟨_, rfl⟩ := hva
  simp only [Act.put, List.setIfInBounds_toArray, List.set_cons_succ, List.set_cons_zero]
  refine wpM_spec _ rfl rfl (fun w2 hw2 _ => ?_) (fun va la ha ga1 ga2 _ hva => ?_)
  ·go_wp2_with (go_at_call 22; refine (forward_any hx (THR.out.ext (E.out.trans hw2)) (R.whole x) (by omega)).mono ?_; rintro e w5 ⟨u, rfl, he5, -⟩; rw [HFW.out])
   exact ⟨_, _, _, rfl, he5, Nat.le_refl _, he5.size, Nat.le_refl _, u, rfl⟩
  obtain ⟨_, u, rfl⟩ := hva
  simp only [Act.put, List.setIfInBounds_toArray, List.set_cons_succ, List.set_cons_zero]
  refine wpM_plain rfl ?_
  go_big_quiet_step (fail)
  refine wpQuiet_nil ?_
  refine wpM_plain rfl ?_
  go_big_quiet_step (fail)
  refine wpQuiet_nil ?_
  refine wpM_plain rfl ?_
  go_big_quiet_step (fail)
  refine wpQuiet_nil ?_
  refine wpM_plain rfl ?_
  go_big_quiet_step (fail)
  refine wpQuiet_nil ?_
  refine wpM_plain rfl ?_
  go_big_quiet_step (fail)
  refine wpQuiet_nil ?_
  refine wpM_nil fun w6 hw6 _ => ?_
  have E := hid (E.out.trans hw6)
  have kG := (BG.ext E.out).cell
  have kGl := (BG.ext E.out).lt
  have kH := (BH.ext E.out).cell
  have kHl := (BH.ext E.out).lt
  have k3 := (B3.ext E.out).cell
  have k3l := (B3.ext E.out).lt
  have HT2 := hid (show P.toldE x false ≠ 0 by rw [T3.out]; decide)
  by_cases hh : inB which 0 (x.hands - 1) = true
  ·obtain ⟨hh1, hh2⟩ : 0 ≤ which ∧ which ≤ x.hands - 1 := by simpa [inB] using hh
   obtain ⟨h, rfl⟩ := Int.eq_ofNat_of_zero_le hh1
   have hlt : (h : Int) < x.hands := by omega
   have BF := hid (show badH x (h : Int) = false by rw [BE.out, hh]; rfl)
   clear hh hh2
   have HT := hid (show P.toldE x (badH x (h : Int)) ≠ 0 by rw [BF.out, T3.out]; decide)
   have T1 := hid (show P.toldE x (badH x (h : Int)) = 7 by rw [BF.out, T3.out])
   go_wp2_with (first
    | (go_at_call 25; refine (least_err (OWN.out.ext E.out) h1 h2 h3 (h : Int) HT.out).mono ?_; rintro e w12 ⟨rfl, he12⟩; rw [T1.out]; have E := hid (E.out.trans he12); have kG := (BG.ext E.out).cell; have kGl := (BG.ext E.out).lt; have kH := (BH.ext E.out).cell; have kHl := (BH.ext E.out).lt; have k3 := (B3.ext E.out).cell; have k3l := (B3.ext E.out).lt)
    | (go_at_call 26; refine (proof_err (OWN.out.ext E.out) h1 h2 h3 (h : Int) HT.out).mono ?_; rintro e w13 ⟨rfl, he13⟩; rw [T1.out]; have E := hid (E.out.trans he13); have kG := (BG.ext E.out).cell; have kGl := (BG.ext E.out).lt; have kH := (BH.ext E.out).cell; have kHl := (BH.ext E.out).lt; have k3 := (B3.ext E.out).cell; have k3l := (B3.ext E.out).lt)
    | (go_at_call 27; refine (missing_err (OWN.out.ext E.out) h1 h2 h3 HT2.out).mono ?_; rintro e w14 ⟨rfl, he14⟩; rw [T3.out]; have E := hid (E.out.trans he14); have kG := (BG.ext E.out).cell; have kGl := (BG.ext E.out).lt; have kH := (BH.ext E.out).cell; have kHl := (BH.ext E.out).lt; have k3 := (B3.ext E.out).cell; have k3l := (B3.ext E.out).lt)
    | (go_at_call 28; refine (same28 (OWN.out.ext E.out) (HV.out.ext (E5.out.trans E.out)) h1 h2 h3 rfl rfl rfl (eqB_refl _ _ _) (eqB_refl _ _ _) (eqB_refl _ _ _)).mono ?_; rintro e w19 ⟨rfl, he19⟩; have E := hid (E.out.trans he19); have kG := (BG.ext E.out).cell; have kGl := (BG.ext E.out).lt; have kH := (BH.ext E.out).cell; have kHl := (BH.ext E.out).lt; have k3 := (B3.ext E.out).cell; have k3l := (B3.ext E.out).lt)
    | (go_at_call 18; refine (awake_any _).mono ?_; rintro e w18 ⟨rfl, he18⟩; have E := hid (E.out.trans he18); have kG := (BG.ext E.out).cell; have kGl := (BG.ext E.out).lt; have kH := (BH.ext E.out).cell; have kHl := (BH.ext E.out).lt; have k3 := (B3.ext E.out).cell; have k3l := (B3.ext E.out).lt))
   go_ret
   exact ⟨rfl, E5.out.trans E.out⟩
  ·have hh' : inB which 0 (x.hands - 1) = false := by simpa using hh
   have BF := hid (show badH x which = true by rw [BE.out, hh']; rfl)
   have hcase : which < 0 ∨ x.hands ≤ which := by simp [inB] at hh'; omega
   have HT := hid (show P.toldE x (badH x which) ≠ 0 by rw [BF.out, T0.out]; decide)
   have T1 := hid (show P.toldE x (badH x which) = 1 by rw [BF.out, T0.out])
   clear hh hh'
   rcases hcase with hcase | hcase
   ·go_wp2_with (first
     | (go_at_call 25; refine (least_err (OWN.out.ext E.out) h1 h2 h3 which HT.out).mono ?_; rintro e w12 ⟨rfl, he12⟩; rw [T1.out]; have E := hid (E.out.trans he12); have kG := (BG.ext E.out).cell; have kGl := (BG.ext E.out).lt; have kH := (BH.ext E.out).cell; have kHl := (BH.ext E.out).lt; have k3 := (B3.ext E.out).cell; have k3l := (B3.ext E.out).lt)
     | (go_at_call 26; refine (proof_err (OWN.out.ext E.out) h1 h2 h3 which HT.out).mono ?_; rintro e w13 ⟨rfl, he13⟩; rw [T1.out]; have E := hid (E.out.trans he13); have kG := (BG.ext E.out).cell; have kGl := (BG.ext E.out).lt; have kH := (BH.ext E.out).cell; have kHl := (BH.ext E.out).lt; have k3 := (B3.ext E.out).cell; have k3l := (B3.ext E.out).lt)
     | (go_at_call 27; refine (missing_err (OWN.out.ext E.out) h1 h2 h3 HT2.out).mono ?_; rintro e w14 ⟨rfl, he14⟩; rw [T3.out]; have E := hid (E.out.trans he14); have kG := (BG.ext E.out).cell; have kGl := (BG.ext E.out).lt; have kH := (BH.ext E.out).cell; have kHl := (BH.ext E.out).lt; have k3 := (B3.ext E.out).cell; have k3l := (B3.ext E.out).lt)
     | (go_at_call 28; refine (same28 (OWN.out.ext E.out) (HV.out.ext (E5.out.trans E.out)) h1 h2 h3 rfl rfl rfl (eqB_refl _ _ _) (eqB_refl _ _ _) (eqB_refl _ _ _)).mono ?_; rintro e w19 ⟨rfl, he19⟩; have E := hid (E.out.trans he19); have kG := (BG.ext E.out).cell; have kGl := (BG.ext E.out).lt; have kH := (BH.ext E.out).cell; have kHl := (BH.ext E.out).lt; have k3 := (B3.ext E.out).cell; have k3l := (B3.ext E.out).lt)
     | (go_at_call 18; refine (awake_any _).mono ?_; rintro e w18 ⟨rfl, he18⟩; have E := hid (E.out.trans he18); have kG := (BG.ext E.out).cell; have kGl := (BG.ext E.out).lt; have kH := (BH.ext E.out).cell; have kHl := (BH.ext E.out).lt; have k3 := (B3.ext E.out).cell; have k3l := (B3.ext E.out).lt))
    go_ret
    exact ⟨rfl, E5.out.trans E.out⟩
   ·have hcase2 : 0 ≤ which := by omega
    go_wp2_with (first
     | (go_at_call 25; refine (least_err (OWN.out.ext E.out) h1 h2 h3 which HT.out).mono ?_; rintro e w12 ⟨rfl, he12⟩; rw [T1.out]; have E := hid (E.out.trans he12); have kG := (BG.ext E.out).cell; have kGl := (BG.ext E.out).lt; have kH := (BH.ext E.out).cell; have kHl := (BH.ext E.out).lt; have k3 := (B3.ext E.out).cell; have k3l := (B3.ext E.out).lt)
     | (go_at_call 26; refine (proof_err (OWN.out.ext E.out) h1 h2 h3 which HT.out).mono ?_; rintro e w13 ⟨rfl, he13⟩; rw [T1.out]; have E := hid (E.out.trans he13); have kG := (BG.ext E.out).cell; have kGl := (BG.ext E.out).lt; have kH := (BH.ext E.out).cell; have kHl := (BH.ext E.out).lt; have k3 := (B3.ext E.out).cell; have k3l := (B3.ext E.out).lt)
     | (go_at_call 27; refine (missing_err (OWN.out.ext E.out) h1 h2 h3 HT2.out).mono ?_; rintro e w14 ⟨rfl, he14⟩; rw [T3.out]; have E := hid (E.out.trans he14); have kG := (BG.ext E.out).cell; have kGl := (BG.ext E.out).lt; have kH := (BH.ext E.out).cell; have kHl := (BH.ext E.out).lt; have k3 := (B3.ext E.out).cell; have k3l := (B3.ext E.out).lt)
     | (go_at_call 28; refine (same28 (OWN.out.ext E.out) (HV.out.ext (E5.out.trans E.out)) h1 h2 h3 rfl rfl rfl (eqB_refl _ _ _) (eqB_refl _ _ _) (eqB_refl _ _ _)).mono ?_; rintro e w19 ⟨rfl, he19⟩; have E := hid (E.out.trans he19); have kG := (BG.ext E.out).cell; have kGl := (BG.ext E.out).lt; have kH := (BH.ext E.out).cell; have kHl := (BH.ext E.out).lt; have k3 := (B3.ext E.out).cell; have k3l := (B3.ext E.out).lt)
     | (go_at_call 18; refine (awake_any _).mono ?_; rintro e w18 ⟨rfl, he18⟩; have E := hid (E.out.trans he18); have kG := (BG.ext E.out).cell; have kGl := (BG.ext E.out).lt; have kH := (BH.ext E.out).cell; have kHl := (BH.ext E.out).lt; have k3 := (B3.ext E.out).cell; have k3l := (B3.ext E.out).lt))
    go_ret
    exact ⟨rfl, E5.out.trans E.out⟩
 ·have T3 := hid (show P.toldE x false = 0 by rw [T2.out, HFW.out]; rfl)
  refine wp_region_mono 9 [(2, fun v _ _ _ => v = .int .i64 ((R.whole x : Nat) : Int)), (3, fwU true)] (by kernel_rfl) (by kernel_rfl) (by kernel_rfl) ?hS ?_
  case hS =>
   simp only [List.forall_mem_cons]
   exact ⟨fun _ _ _ _ _ _ h => h, fun _ _ _ _ _ _ h => h, fun _ h => by simp at h⟩
  simp only [List.take_succ_cons, List.drop_succ_cons, List.take_nil, List.drop_nil]
  refine wpM_plain rfl ?_
  go_big_quiet_step (fail)
  refine wpQuiet_nil ?_
  refine wpM_plain rfl ?_
  go_big_quiet_step (fail)
  refine wpQuiet_nil ?_
  refine wpM_spec _ rfl rfl (fun w2 hw2 _ => ?_) (fun va la ha ga1 ga2 _ hva => ?_)
  ·go_wp2_with (go_at_call 23; refine (whole_any hx (THR.out.ext (E.out.trans hw2))).mono ?_; rintro e w5 ⟨rfl, he5⟩)
   exact ⟨_, _, _, rfl, he5, Nat.le_refl _, he5.size, Nat.le_refl _, rfl⟩
  obtain ⟨_, rfl⟩ := hva
  simp only [Act.put, List.setIfInBounds_toArray, List.set_cons_succ, List.set_cons_zero]
  refine wpM_spec _ rfl rfl (fun w2 hw2 _ => ?_) (fun va la ha ga1 ga2 _ hva => ?_)
  ·go_wp2_with (go_at_call 22; refine (forward_any hx (THR.out.ext (E.out.trans hw2)) (R.whole x) (by omega)).mono ?_; rintro e w5 ⟨u, rfl, he5, -⟩; rw [HFW.out])
   exact ⟨_, _, _, rfl, he5, Nat.le_refl _, he5.size, Nat.le_refl _, u, rfl⟩
  obtain ⟨_, u, rfl⟩ := hva
  simp only [Act.put, List.setIfInBounds_toArray, List.set_cons_succ, List.set_cons_zero]
  refine wpM_plain rfl ?_
  go_big_quiet_step (fail)
  refine wpQuiet_nil ?_
  refine wpM_plain rfl ?_
  go_big_quiet_step (fail)
  refine wpQuiet_nil ?_
  refine wpM_plain rfl ?_
  go_big_quiet_step (fail)
  refine wpQuiet_nil ?_
  refine wpM_plain rfl ?_
  go_big_quiet_step (fail)
  refine wpQuiet_nil ?_
  refine wpM_plain rfl ?_
  go_big_quiet_step (fail)
  refine wpQuiet_nil ?_
  refine wpM_nil fun w6 hw6 _ => ?_
  have E := hid (E.out.trans hw6)
  have kG := (BG.ext E.out).cell
  have kGl := (BG.ext E.out).lt
  have kH := (BH.ext E.out).cell
  have kHl := (BH.ext E.out).lt
  have k3 := (B3.ext E.out).cell
  have k3l := (B3.ext E.out).lt
  have HT2 := T3
  have PM := hid (show P.proved x (2 ^ x.hands.toNat - 1) = R.taken x (R.whole x) from L.proved_eq hx HFW.out (m := R.whole x) (by have := Nat.two_pow_pos x.hands.toNat; unfold R.whole; omega))
  by_cases hh : inB which 0 (x.hands - 1) = true
  ·obtain ⟨hh1, hh2⟩ : 0 ≤ which ∧ which ≤ x.hands - 1 := by simpa [inB] using hh
   obtain ⟨h, rfl⟩ := Int.eq_ofNat_of_zero_le hh1
   have hlt : (h : Int) < x.hands := by omega
   have BF := hid (show badH x (h : Int) = false by rw [BE.out, hh]; rfl)
   clear hh hh2
   have PH := hid (show P.proved x (2 ^ h) = R.taken x (2 ^ h) from L.proved_eq hx HFW.out (pw_lt hlt))
   have TC := fun (w' : World) (u : Value) (hu : IsW w' u x) => taken_pw hx hu hlt
   have T : Hid _ := hid TC
   clear TC
   go_wp2_with fail
   go_loop [13, 52] (fun s13 s52 => ∃ k : Nat, k ≤ h ∧ s52 = .int .i64 (k : Int) ∧ s13 = .int .i64 (pw k)) (fun _ s52 => h - (intOf s52).toNat)
   case atStart => exact ⟨0, Nat.zero_le _, rfl, rfl⟩
   case round =>
    obtain ⟨k, hk, rfl, rfl⟩ := hrel
    by_cases hkl : k < h
    ·have hpb := pw_bd (k := k) (by omega)
     have HS := hid (pw_step k)
     go_wp2
     go_round
     case rel => exact ⟨k + 1, by omega, by go_num, by rw [HS.out]⟩
     case measure => simp [intOf]; omega
    ·obtain rfl : k = h := by omega
     go_upto_region 21 with (go_at_call 24; refine (T.out _ _ (THR.out.ext E.out)).mono ?_; rintro e w16 ⟨rfl, he16⟩; have E := hid (E.out.trans he16); have kG := (BG.ext E.out).cell; have kGl := (BG.ext E.out).lt; have kH := (BH.ext E.out).cell; have kHl := (BH.ext E.out).lt; have k3 := (B3.ext E.out).cell; have k3l := (B3.ext E.out).lt)
     refine wp_region_mono 6 [(2, fun v _ _ _ => v = .int .i64 ((R.whole x : Nat) : Int)), (3, fun v _ _ _ => v = .int .i64 (R.taken x (R.whole x)))] (by kernel_rfl) (by kernel_rfl) (by kernel_rfl) ?hS ?_
     case hS =>
      simp only [List.forall_mem_cons]
      exact ⟨fun _ _ _ _ _ _ h => h, fun _ _ _ _ _ _ h => h, fun _ h => by simp at h⟩
     simp only [List.take_succ_cons, List.drop_succ_cons, List.take_nil, List.drop_nil]
     refine wpM_plain rfl ?_
     go_big_quiet_step (fail)
     refine wpQuiet_nil ?_
     refine wpM_plain rfl ?_
     go_big_quiet_step (fail)
     refine wpQuiet_nil ?_
     refine wpM_spec _ rfl rfl (fun w2 hw2 _ => ?_) (fun va la ha ga1 ga2 _ hva => ?_)
     ·go_wp2_with (go_at_call 23; refine (whole_any hx (THR.out.ext (E.out.trans hw2))).mono ?_; rintro e w5 ⟨rfl, he5⟩)
      exact ⟨_, _, _, rfl, he5, Nat.le_refl _, he5.size, Nat.le_refl _, rfl⟩
     obtain ⟨_, rfl⟩ := hva
     simp only [Act.put, List.setIfInBounds_toArray, List.set_cons_succ, List.set_cons_zero]
     refine wpM_spec _ rfl rfl (fun w2 hw2 _ => ?_) (fun va la ha ga1 ga2 _ hva => ?_)
     ·go_wp2_with (go_at_call 24; refine (taken_any hx (THR.out.ext (E.out.trans hw2)) (Nat.le_refl _)).mono ?_; rintro e w5 ⟨rfl, he5⟩)
      exact ⟨_, _, _, rfl, he5, Nat.le_refl _, he5.size, Nat.le_refl _, rfl⟩
     obtain ⟨_, rfl⟩ := hva
     simp only [Act.put, List.setIfInBounds_toArray, List.set_cons_succ, List.set_cons_zero]
     refine wpM_plain rfl ?_
     go_big_quiet_step (fail)
     refine wpQuiet_nil ?_
     refine wpM_plain rfl ?_
     go_big_quiet_step (fail)
     refine wpQuiet_nil ?_
     refine wpM_nil fun w7 hw7 _ => ?_
     have E := hid (E.out.trans hw7)
     have kG := (BG.ext E.out).cell
     have kGl := (BG.ext E.out).lt
     have kH := (BH.ext E.out).cell
     have kHl := (BH.ext E.out).lt
     have k3 := (B3.ext E.out).cell
     have k3l := (B3.ext E.out).lt
     go_upto_region 24 with (first
      | (go_at_call 25; refine (least_ok (OWN.out.ext E.out) h1 h2 h3 hlt T3.out).mono ?_; rintro e w12 ⟨rfl, he12⟩; rw [PH.out]; have E := hid (E.out.trans he12); have kG := (BG.ext E.out).cell; have kGl := (BG.ext E.out).lt; have kH := (BH.ext E.out).cell; have kHl := (BH.ext E.out).lt; have k3 := (B3.ext E.out).cell; have k3l := (B3.ext E.out).lt)
      | (go_at_call 26; refine (proof_ok26 (OWN.out.ext E.out) h1 h2 h3 hlt T3.out).mono ?_; rintro e w13 ⟨u, l, rfl, he13, p1, p2, p3⟩; have P1 := hid p1; have P2 := hid p2; obtain ⟨A, cap, rfl, hr⟩ := p3.slR; rw [rows2_length] at hr ⊢; have HR := hid hr; clear p1 p2 hr; have E := hid (E.out.trans he13); have kG := (BG.ext E.out).cell; have kGl := (BG.ext E.out).lt; have kH := (BH.ext E.out).cell; have kHl := (BH.ext E.out).lt; have k3 := (B3.ext E.out).cell; have k3l := (B3.ext E.out).lt; have EL := hid (Ext.refl w13)))
     have G0 := hid (L.proof_ok l P1.out)
     have hln : l.length ≤ 100 := by
      have h1 := P1.out.length_eq
      have h2 := P.chain_length (P.best x (2 ^ k)) x.cn (x.cn - 1)
      have hcn := hx.cn
      rw [h1]
      unfold P.proof
      split
      ·simp
      ·omega
     go_wp2_with (first
      | (go_at_call 27; refine (missing_ok (OWN.out.ext E.out) h1 h2 h3 HT2.out).mono ?_; rintro e w14 ⟨rfl, he14⟩; rw [PM.out]; have E := hid (E.out.trans he14); have kG := (BG.ext E.out).cell; have kGl := (BG.ext E.out).lt; have kH := (BH.ext E.out).cell; have kHl := (BH.ext E.out).lt; have k3 := (B3.ext E.out).cell; have k3l := (B3.ext E.out).lt; have EL := hid (EL.out.trans he14))
      | (go_at_call 28; refine (same28 (OWN.out.ext E.out) (HV.out.ext (E5.out.trans E.out)) h1 h2 h3 rfl rfl rfl (eqB_refl _ _ _) (eqB_refl _ _ _) (eqB_refl _ _ _)).mono ?_; rintro e w19 ⟨rfl, he19⟩; have E := hid (E.out.trans he19); have kG := (BG.ext E.out).cell; have kGl := (BG.ext E.out).lt; have kH := (BH.ext E.out).cell; have kHl := (BH.ext E.out).lt; have k3 := (B3.ext E.out).cell; have k3l := (B3.ext E.out).lt; have EL := hid (EL.out.trans he19)))
     refine wp_later fun w20 hw20 => ?_
     have HR := hid (HR.out.ext (EL.out.trans hw20))
     have E := hid (E.out.trans hw20)
     clear EL hw20
     go_loopw [121] (fun s wl => ∃ q : Nat, q ≤ l.length ∧ s = .int .i64 (q : Int) ∧ Ext w20 wl) (fun s _ => l.length - (intOf s).toNat)
     case atStart => exact ⟨0, Nat.zero_le _, rfl, Ext.refl _⟩
     case round =>
      obtain ⟨q, hq, rfl, heq⟩ := hrel
      by_cases hql : q < l.length
      ·obtain ⟨lb, lo, rfl, hlb, a0, a1⟩ := (HR.out.ext heq).atP hql
       rcases Nat.eq_zero_or_pos q with hz | hz
       ·subst hz
        simp only [Nat.zero_mul, Nat.add_zero] at a0 a1
        go_upto_region 32 with fail
        refine wp_later fun w30 hw30 => ?_
        obtain ⟨E30, b30⟩ := hw30.newB
        have k30 := b30.cell
        have k30l := b30.lt
        clear hw30
        have a0 := E30.some_ a0
        have a1 := E30.some_ a1
        have hlb := Nat.lt_of_lt_of_le hlb E30.size
        refine wp_region_later (by kernel_rfl) (by kernel_rfl) ?_
        repeat (go_big_quiet_step (fail))
        refine wpQuiet_nil ?_
        rintro _ ⟨⟨w31, he31⟩, rfl⟩
        go_wp2_with fail
        go_roundw
        case rel => exact ⟨0 + 1, by omega, by go_num, heq.trans (E30.trans he31)⟩
        case measure => simp [intOf]; omega
       ·obtain ⟨p, rfl⟩ : ∃ p, q = p + 1 := ⟨q - 1, by omega⟩
        obtain ⟨_, _, hA, _, d0, d1⟩ := (HR.out.ext heq).atP (k := p) (by omega)
        obtain ⟨rfl, rfl⟩ := same_addr hA rfl
        clear hA
        have SO := sorted_ok hx P1.out P2.out hql
        have q3 : decide (((p + 1 : Nat) : Int) > 0) = true := by simp
        go_upto_region 32 with fail
        refine wp_later fun w30 hw30 => ?_
        obtain ⟨E30, b30⟩ := hw30.newB
        have k30 := b30.cell
        have k30l := b30.lt
        clear hw30
        have a0 := E30.some_ a0
        have a1 := E30.some_ a1
        have hlb := Nat.lt_of_lt_of_le hlb E30.size
        have d0 := E30.some_ d0
        have d1 := E30.some_ d1
        rcases SO with o | ⟨o, o'⟩
        ·have e1 : decide ((((nth l (p+1)).1 : Nat) : Int) < (((nth l p).1 : Nat) : Int)) = false := by simp; omega
         have e1' : decide ((nth l (p+1)).1 < (nth l p).1) = false := by simp; omega
         have e2 : ((((nth l (p+1)).1 : Nat) : Int) == (((nth l p).1 : Nat) : Int)) = false := by simp; omega
         have e2' : ((nth l (p+1)).1 == (nth l p).1) = false := by simp; omega
         refine wp_region_later (by kernel_rfl) (by kernel_rfl) ?_
         repeat (go_big_quiet_step (fail))
         refine wpQuiet_nil ?_
         rintro _ ⟨⟨w31, he31⟩, rfl⟩
         go_wp2_with fail
         go_roundw
         case rel => exact ⟨p + 1 + 1, by omega, by go_num, heq.trans (E30.trans he31)⟩
         case measure => simp [intOf]; omega
        ·have e1 : decide ((((nth l (p+1)).1 : Nat) : Int) < (((nth l p).1 : Nat) : Int)) = false := by simp; omega
         have e1' : decide ((nth l (p+1)).1 < (nth l p).1) = false := by simp; omega
         have e2 : ((((nth l (p+1)).1 : Nat) : Int) == (((nth l p).1 : Nat) : Int)) = true := by simp; omega
         have e2' : ((nth l (p+1)).1 == (nth l p).1) = true := by simp; omega
         have e3 : decide ((((nth l (p+1)).2 : Nat) : Int) ≤ (((nth l p).2 : Nat) : Int)) = false := by simp; omega
         have e3' : decide ((nth l (p+1)).2 ≤ (nth l p).2) = false := by simp; omega
         refine wp_region_later (by kernel_rfl) (by kernel_rfl) ?_
         repeat (go_big_quiet_step (fail))
         refine wpQuiet_nil ?_
         rintro _ ⟨⟨w31, he31⟩, rfl⟩
         go_wp2_with fail
         go_roundw
         case rel => exact ⟨p + 1 + 1, by omega, by go_num, heq.trans (E30.trans he31)⟩
         case measure => simp [intOf]; omega
      ·obtain rfl : q = l.length := by omega
       have PV := hid (L.proves_ok hx HC.out (h := k) P1.out (g := rowsAt (rows2 l)) fun t ht => by unfold rowsAt; rw [rowsAt_nth l ht]; exact ⟨rfl, rfl⟩)
       have E := hid (E.out.trans heq)
       have kH := (BH.ext E.out).cell
       have kHl := (BH.ext E.out).lt
       go_upto_region 35 with fail
       refine wp_region_mono 10 [(3, SlV l.length 2 (rowsAt (rows2 l))), (4, fun v _ _ _ => v = .tuple #[.int .i64 (R.taken x (2 ^ k)), .int .i64 0])] (by kernel_rfl) (by kernel_rfl) (by kernel_rfl) ?hS ?_
       case hS =>
        simp only [List.forall_mem_cons]
        exact ⟨fun _ _ _ _ _ e h => SlV.ext h e, fun _ _ _ _ _ _ h => h, fun _ h => by simp at h⟩
       simp only [List.take_succ_cons, List.drop_succ_cons, List.take_nil, List.drop_nil]
       refine wpM_plain rfl ?_
       go_big_quiet_step (fail)
       refine wpQuiet_nil ?_
       refine wpM_plain rfl ?_
       go_big_quiet_step (fail)
       refine wpQuiet_nil ?_
       refine wpM_plain rfl ?_
       go_big_quiet_step (fail)
       refine wpQuiet_nil ?_
       refine wpM_spec _ rfl rfl (fun w2 hw2 _ => ?_) (fun va la ha ga1 ga2 _ hva => ?_)
       ·go_wp2_with (go_at_call 30; refine (parts30v (HR.out.ext (heq.trans hw2)) (by omega)).mono ?_; rintro e w' ⟨u, rfl, he, hu⟩)
        exact ⟨_, _, _, rfl, he, Nat.le_refl _, he.size, Nat.le_refl _, hu⟩
       obtain ⟨_, F1, f1, rfl, -⟩ := hva
       simp only [Act.put, List.setIfInBounds_toArray, List.set_cons_succ, List.set_cons_zero]
       refine wpM_spec _ rfl rfl (fun w2 hw2 hF => ?_) (fun va la ha ga1 ga2 _ hva => ?_)
       ·simp only [List.forall_mem_cons] at hF
        obtain ⟨-, F2, f2, hq, hrd⟩ := hF.1 (by kernel_rfl)
        obtain ⟨rfl, rfl⟩ : F1 = F2 ∧ f1 = f2 := by simpa using hq
        have HRD := hid hrd
        clear hq hF hrd
        go_wp2_with (go_at_call 29; refine (provesR_any (THR.out.ext (E.out.trans hw2)) HC.out hlt HRD.out (by omega)).mono ?_; rintro e w' ⟨rfl, he⟩; rw [PV.out.1, PV.out.2, PH.out])
        exact ⟨_, _, _, rfl, he, Nat.le_refl _, he.size, Nat.le_refl _, rfl⟩
       obtain ⟨_, rfl⟩ := hva
       simp only [Act.put, List.setIfInBounds_toArray, List.set_cons_succ, List.set_cons_zero]
       refine wpM_plain rfl ?_
       go_big_quiet_step (fail)
       refine wpQuiet_nil ?_
       refine wpM_plain rfl ?_
       go_big_quiet_step (fail)
       refine wpQuiet_nil ?_
       refine wpM_plain rfl ?_
       go_big_quiet_step (fail)
       refine wpQuiet_nil ?_
       refine wpM_plain rfl ?_
       go_big_quiet_step (fail)
       refine wpQuiet_nil ?_
       refine wpM_plain rfl ?_
       go_big_quiet_step (fail)
       refine wpQuiet_nil ?_
       refine wpM_nil fun w6 hw6 _ => ?_
       go_wp2_with (go_at_call 18; refine (awake_any _).mono ?_; rintro e w18 ⟨rfl, he18⟩)
       go_ret
       exact ⟨rfl, E5.out.trans (E.out.trans (hw6.trans he18))⟩
  ·have hh' : inB which 0 (x.hands - 1) = false := by simpa using hh
   have BF := hid (show badH x which = true by rw [BE.out, hh']; rfl)
   have hcase : which < 0 ∨ x.hands ≤ which := by simp [inB] at hh'; omega
   have HT := hid (show P.toldE x (badH x which) ≠ 0 by rw [BF.out, T0.out]; decide)
   have T1 := hid (show P.toldE x (badH x which) = 1 by rw [BF.out, T0.out])
   clear hh hh'
   rcases hcase with hcase | hcase
   ·go_upto_region 21 with fail
    refine wp_region_mono 6 [(2, fun v _ _ _ => v = .int .i64 ((R.whole x : Nat) : Int)), (3, fun v _ _ _ => v = .int .i64 (R.taken x (R.whole x)))] (by kernel_rfl) (by kernel_rfl) (by kernel_rfl) ?hS ?_
    case hS =>
     simp only [List.forall_mem_cons]
     exact ⟨fun _ _ _ _ _ _ h => h, fun _ _ _ _ _ _ h => h, fun _ h => by simp at h⟩
    simp only [List.take_succ_cons, List.drop_succ_cons, List.take_nil, List.drop_nil]
    refine wpM_plain rfl ?_
    go_big_quiet_step (fail)
    refine wpQuiet_nil ?_
    refine wpM_plain rfl ?_
    go_big_quiet_step (fail)
    refine wpQuiet_nil ?_
    refine wpM_spec _ rfl rfl (fun w2 hw2 _ => ?_) (fun va la ha ga1 ga2 _ hva => ?_)
    ·go_wp2_with (go_at_call 23; refine (whole_any hx (THR.out.ext (E.out.trans hw2))).mono ?_; rintro e w5 ⟨rfl, he5⟩)
     exact ⟨_, _, _, rfl, he5, Nat.le_refl _, he5.size, Nat.le_refl _, rfl⟩
    obtain ⟨_, rfl⟩ := hva
    simp only [Act.put, List.setIfInBounds_toArray, List.set_cons_succ, List.set_cons_zero]
    refine wpM_spec _ rfl rfl (fun w2 hw2 _ => ?_) (fun va la ha ga1 ga2 _ hva => ?_)
    ·go_wp2_with (go_at_call 24; refine (taken_any hx (THR.out.ext (E.out.trans hw2)) (Nat.le_refl _)).mono ?_; rintro e w5 ⟨rfl, he5⟩)
     exact ⟨_, _, _, rfl, he5, Nat.le_refl _, he5.size, Nat.le_refl _, rfl⟩
    obtain ⟨_, rfl⟩ := hva
    simp only [Act.put, List.setIfInBounds_toArray, List.set_cons_succ, List.set_cons_zero]
    refine wpM_plain rfl ?_
    go_big_quiet_step (fail)
    refine wpQuiet_nil ?_
    refine wpM_plain rfl ?_
    go_big_quiet_step (fail)
    refine wpQuiet_nil ?_
    refine wpM_nil fun w7 hw7 _ => ?_
    have E := hid (E.out.trans hw7)
    have kG := (BG.ext E.out).cell
    have kGl := (BG.ext E.out).lt
    have kH := (BH.ext E.out).cell
    have kHl := (BH.ext E.out).lt
    have k3 := (B3.ext E.out).cell
    have k3l := (B3.ext E.out).lt
    go_wp2_with (first
     | (go_at_call 25; refine (least_err (OWN.out.ext E.out) h1 h2 h3 which HT.out).mono ?_; rintro e w12 ⟨rfl, he12⟩; rw [T1.out]; have E := hid (E.out.trans he12); have kG := (BG.ext E.out).cell; have kGl := (BG.ext E.out).lt; have kH := (BH.ext E.out).cell; have kHl := (BH.ext E.out).lt; have k3 := (B3.ext E.out).cell; have k3l := (B3.ext E.out).lt)
     | (go_at_call 26; refine (proof_err (OWN.out.ext E.out) h1 h2 h3 which HT.out).mono ?_; rintro e w13 ⟨rfl, he13⟩; rw [T1.out]; have E := hid (E.out.trans he13); have kG := (BG.ext E.out).cell; have kGl := (BG.ext E.out).lt; have kH := (BH.ext E.out).cell; have kHl := (BH.ext E.out).lt; have k3 := (B3.ext E.out).cell; have k3l := (B3.ext E.out).lt)
     | (go_at_call 27; refine (missing_ok (OWN.out.ext E.out) h1 h2 h3 HT2.out).mono ?_; rintro e w14 ⟨rfl, he14⟩; rw [PM.out]; have E := hid (E.out.trans he14); have kG := (BG.ext E.out).cell; have kGl := (BG.ext E.out).lt; have kH := (BH.ext E.out).cell; have kHl := (BH.ext E.out).lt; have k3 := (B3.ext E.out).cell; have k3l := (B3.ext E.out).lt)
     | (go_at_call 28; refine (same28 (OWN.out.ext E.out) (HV.out.ext (E5.out.trans E.out)) h1 h2 h3 rfl rfl rfl (eqB_refl _ _ _) (eqB_refl _ _ _) (eqB_refl _ _ _)).mono ?_; rintro e w19 ⟨rfl, he19⟩; have E := hid (E.out.trans he19); have kG := (BG.ext E.out).cell; have kGl := (BG.ext E.out).lt; have kH := (BH.ext E.out).cell; have kHl := (BH.ext E.out).lt; have k3 := (B3.ext E.out).cell; have k3l := (B3.ext E.out).lt)
     | (go_at_call 18; refine (awake_any _).mono ?_; rintro e w18 ⟨rfl, he18⟩; have E := hid (E.out.trans he18); have kG := (BG.ext E.out).cell; have kGl := (BG.ext E.out).lt; have kH := (BH.ext E.out).cell; have kHl := (BH.ext E.out).lt; have k3 := (B3.ext E.out).cell; have k3l := (B3.ext E.out).lt))
    go_ret
    exact ⟨rfl, E5.out.trans E.out⟩
   ·have hcase2 : 0 ≤ which := by omega
    go_upto_region 21 with fail
    refine wp_region_mono 6 [(2, fun v _ _ _ => v = .int .i64 ((R.whole x : Nat) : Int)), (3, fun v _ _ _ => v = .int .i64 (R.taken x (R.whole x)))] (by kernel_rfl) (by kernel_rfl) (by kernel_rfl) ?hS ?_
    case hS =>
     simp only [List.forall_mem_cons]
     exact ⟨fun _ _ _ _ _ _ h => h, fun _ _ _ _ _ _ h => h, fun _ h => by simp at h⟩
    simp only [List.take_succ_cons, List.drop_succ_cons, List.take_nil, List.drop_nil]
    refine wpM_plain rfl ?_
    go_big_quiet_step (fail)
    refine wpQuiet_nil ?_
    refine wpM_plain rfl ?_
    go_big_quiet_step (fail)
    refine wpQuiet_nil ?_
    refine wpM_spec _ rfl rfl (fun w2 hw2 _ => ?_) (fun va la ha ga1 ga2 _ hva => ?_)
    ·go_wp2_with (go_at_call 23; refine (whole_any hx (THR.out.ext (E.out.trans hw2))).mono ?_; rintro e w5 ⟨rfl, he5⟩)
     exact ⟨_, _, _, rfl, he5, Nat.le_refl _, he5.size, Nat.le_refl _, rfl⟩
    obtain ⟨_, rfl⟩ := hva
    simp only [Act.put, List.setIfInBounds_toArray, List.set_cons_succ, List.set_cons_zero]
    refine wpM_spec _ rfl rfl (fun w2 hw2 _ => ?_) (fun va la ha ga1 ga2 _ hva => ?_)
    ·go_wp2_with (go_at_call 24; refine (taken_any hx (THR.out.ext (E.out.trans hw2)) (Nat.le_refl _)).mono ?_; rintro e w5 ⟨rfl, he5⟩)
     exact ⟨_, _, _, rfl, he5, Nat.le_refl _, he5.size, Nat.le_refl _, rfl⟩
    obtain ⟨_, rfl⟩ := hva
    simp only [Act.put, List.setIfInBounds_toArray, List.set_cons_succ, List.set_cons_zero]
    refine wpM_plain rfl ?_
    go_big_quiet_step (fail)
    refine wpQuiet_nil ?_
    refine wpM_plain rfl ?_
    go_big_quiet_step (fail)
    refine wpQuiet_nil ?_
    refine wpM_nil fun w7 hw7 _ => ?_
    have E := hid (E.out.trans hw7)
    have kG := (BG.ext E.out).cell
    have kGl := (BG.ext E.out).lt
    have kH := (BH.ext E.out).cell
    have kHl := (BH.ext E.out).lt
    have k3 := (B3.ext E.out).cell
    have k3l := (B3.ext E.out).lt
    go_wp2_with (first
     | (go_at_call 25; refine (least_err (OWN.out.ext E.out) h1 h2 h3 which HT.out).mono ?_; rintro e w12 ⟨rfl, he12⟩; rw [T1.out]; have E := hid (E.out.trans he12); have kG := (BG.ext E.out).cell; have kGl := (BG.ext E.out).lt; have kH := (BH.ext E.out).cell; have kHl := (BH.ext E.out).lt; have k3 := (B3.ext E.out).cell; have k3l := (B3.ext E.out).lt)
     | (go_at_call 26; refine (proof_err (OWN.out.ext E.out) h1 h2 h3 which HT.out).mono ?_; rintro e w13 ⟨rfl, he13⟩; rw [T1.out]; have E := hid (E.out.trans he13); have kG := (BG.ext E.out).cell; have kGl := (BG.ext E.out).lt; have kH := (BH.ext E.out).cell; have kHl := (BH.ext E.out).lt; have k3 := (B3.ext E.out).cell; have k3l := (B3.ext E.out).lt)
     | (go_at_call 27; refine (missing_ok (OWN.out.ext E.out) h1 h2 h3 HT2.out).mono ?_; rintro e w14 ⟨rfl, he14⟩; rw [PM.out]; have E := hid (E.out.trans he14); have kG := (BG.ext E.out).cell; have kGl := (BG.ext E.out).lt; have kH := (BH.ext E.out).cell; have kHl := (BH.ext E.out).lt; have k3 := (B3.ext E.out).cell; have k3l := (B3.ext E.out).lt)
     | (go_at_call 28; refine (same28 (OWN.out.ext E.out) (HV.out.ext (E5.out.trans E.out)) h1 h2 h3 rfl rfl rfl (eqB_refl _ _ _) (eqB_refl _ _ _) (eqB_refl _ _ _)).mono ?_; rintro e w19 ⟨rfl, he19⟩; have E := hid (E.out.trans he19); have kG := (BG.ext E.out).cell; have kGl := (BG.ext E.out).lt; have kH := (BH.ext E.out).cell; have kHl := (BH.ext E.out).lt; have k3 := (B3.ext E.out).cell; have k3l := (B3.ext E.out).lt)
     | (go_at_call 18; refine (awake_any _).mono ?_; rintro e w18 ⟨rfl, he18⟩; have E := hid (E.out.trans he18); have kG := (BG.ext E.out).cell; have kGl := (BG.ext E.out).lt; have kH := (BH.ext E.out).cell; have kHl := (BH.ext E.out).lt; have k3 := (B3.ext E.out).cell; have k3l := (B3.ext E.out).lt))
    go_ret
    exact ⟨rfl, E5.out.trans E.out⟩
end Go.Proofs.YtkhjmedfhobebaaGreat
