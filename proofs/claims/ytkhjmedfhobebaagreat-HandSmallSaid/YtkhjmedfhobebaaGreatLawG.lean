/- Walk of the law of proofs: for every watch, every hand and every list of stretches it returns true. No condition. -/
import Derived.Test.YtkhjmedfhobebaaGreatLawB
import Derived.Test.YtkhjmedfhobebaaGreatLawD
import Derived.Test.YtkhjmedfhobebaaGreatRefP
namespace Go.Proofs.YtkhjmedfhobebaaGreat
open Go.RowKit HandSpec
set_option maxHeartbeats 3200000
set_option maxRecDepth 100000
theorem law5 {x : WD} {w : World} {v : Value} (hv : IsW w v x) (which : Int) {A : Option Addr} {n cap : Nat} {g : Nat → Nat → Int} (hr : Rd w A n 2 g) :
  Calls Tryz.prog 5 #[v, .int .i64 which, .slice A n cap] w fun e w' => e = .returned (.bool true) ∧ Ext w w' := by
 by_cases hb : (greatB x || decide (12 < n)) = true
 ·have HV := hid hv
  obtain ⟨A1, c1, A2, c2, A3, c3, rfl, r1, r2, r3⟩ := hv
  clear r1 r2 r3 hr
  have HB := hid hb
  clear hb
  cases hg : greatB x
  ·have hn : (12 : Int) < (n : Int) := by have := HB.out; rw [hg] at this; simp at this; omega
   have HG := hid hg
   clear hg
   go_enter Tryz.func5, Tryz.ntmps5
   go_wp2_with (first
    | (go_at_call 31; refine (great31 (HV.out.ext (Ext.alloc (Ext.refl _) _))).mono ?_; rintro e wg ⟨rfl, heg⟩; rw [HG.out])
    | (go_at_call 18; refine (awake_any _).mono ?_; rintro e w10 ⟨rfl, he10⟩))
   go_ret
   exact ⟨rfl, (((Ext.refl _).alloc _).trans heg).trans he10⟩
  ·have HG := hid hg
   clear hg
   go_enter Tryz.func5, Tryz.ntmps5
   go_wp2_with (first
    | (go_at_call 31; refine (great31 (HV.out.ext (Ext.alloc (Ext.refl _) _))).mono ?_; rintro e wg ⟨rfl, heg⟩; rw [HG.out])
    | (go_at_call 18; refine (awake_any _).mono ?_; rintro e w10 ⟨rfl, he10⟩))
   go_ret
   exact ⟨rfl, (((Ext.refl _).alloc _).trans heg).trans he10⟩
 obtain ⟨hgr, hn12⟩ : greatB x = false ∧ n ≤ 12 := by simpa using hb
 have h1 : x.cn ≤ 1000 := by simp [greatB] at hgr; omega
 have h2 : x.bn ≤ 1000 := by simp [greatB] at hgr; omega
 have h3 : x.sn ≤ 1000 := by simp [greatB] at hgr; omega
 have hn3 : ¬ (12 : Int) < (n : Int) := by omega
 have HV := hid hv
 have HR := hid hr
 clear hr hb
 have HGR := hid hgr
 clear hgr
 obtain ⟨A1, c1, A2, c2, A3, c3, rfl, r1, r2, r3⟩ := hv
 clear r1 r2 r3
 go_enter Tryz.func5, Tryz.ntmps5
 go_upto_region 3 with (go_at_call 31; refine (great31 (HV.out.ext (Ext.alloc (Ext.refl _) _))).mono ?_; rintro e wg ⟨rfl, heg⟩; rw [HGR.out])
 refine wp_later fun w1 hw1 => ?_
 obtain ⟨E0, b3⟩ := (heg.trans hw1).newB
 have k3 := b3.cell
 have k3l := b3.lt
 have f3 := b3.frozen
 clear hw1 heg
 refine wp_region_mono 8 [(1, fun v lo hi w => IsWI lo hi w v x), (3, SlI n 2 g), (5, fun v lo hi w => IsWI lo hi w v x), (6, PtI 26 z26), (7, PtI 34 z26)] (by kernel_rfl) (by kernel_rfl) (by kernel_rfl) ?hS ?_
 case hS =>
  simp only [List.forall_mem_cons]
  exact ⟨fun _ _ _ _ _ e h => IsWI.ext h e, fun _ _ _ _ _ e h => SlI.ext h e, fun _ _ _ _ _ e h => IsWI.ext h e, fun _ _ _ _ _ e h => PtI.ext h e, fun _ _ _ _ _ e h => PtI.ext h e, fun _ h => by simp at h⟩
 simp only [List.take_succ_cons, List.take_zero, List.drop_succ_cons, List.drop_zero]
 refine wpM_plain rfl ?_
 go_big_quiet_step (fail)
 refine wpQuiet_nil ?_
 refine wpM_spec _ rfl rfl (fun w2 hw2 _ => ?_) (fun va la ha ga1 ga2 _ hva => ?_)
 ·go_wp2_with (go_at_call 19; refine (own19 (HV.out.ext (E0.trans hw2)) h1 h2 h3).mono ?_; rintro e w' ⟨u, rfl, he, hu⟩)
  exact ⟨_, _, _, rfl, he, Nat.le_refl _, he.size, Nat.le_refl _, IsWI.of hu⟩
 simp only [Act.put, List.setIfInBounds_toArray, List.set_cons_succ, List.set_cons_zero]
 obtain ⟨_, D1, q1, D2, q2, D3, q3, rfl, -⟩ := hva
 refine wpM_plain rfl ?_
 go_big_quiet_step (fail)
 refine wpQuiet_nil ?_
 refine wpM_spec _ rfl rfl (fun w2 hw2 _ => ?_) (fun vb lb hb gb1 gb2 _ hvb => ?_)
 ·go_wp2_with (go_at_call 39; refine (dup39 (HR.out.ext (E0.trans hw2)) (by omega)).mono ?_; rintro e w' ⟨u, rfl, he, hu⟩)
  exact ⟨_, _, _, rfl, he, Nat.le_refl _, he.size, Nat.le_refl _, SlI.of hu⟩
 simp only [Act.put, List.setIfInBounds_toArray, List.set_cons_succ, List.set_cons_zero]
 obtain ⟨_, D4, q4, rfl, -⟩ := hvb
 refine wpM_plain rfl ?_
 go_big_quiet_step (fail)
 refine wpQuiet_nil ?_
 refine wpM_spec _ rfl rfl (fun w2 hw2 _ => ?_) (fun vc lc hc gc1 gc2 _ hvc => ?_)
 ·go_wp2_with (go_at_call 20; refine (theirs20 (HV.out.ext (E0.trans hw2)) h1 h2 h3).mono ?_; rintro e w' ⟨u, rfl, he, hu⟩)
  exact ⟨_, _, _, rfl, he, Nat.le_refl _, he.size, Nat.le_refl _, IsWI.of hu⟩
 simp only [Act.put, List.setIfInBounds_toArray, List.set_cons_succ, List.set_cons_zero]
 obtain ⟨_, D5, q5, D6, q6, D7, q7, rfl, -⟩ := hvc
 refine wpM_spec _ rfl rfl (fun w2 hw2 _ => ?_) (fun vg lg hg gg1 gg2 dg hvg => ?_)
 ·go_wp2
  exact ⟨_, w2.heap.size, w2.heap.size + 1, rfl, (Ext.refl _).alloc _, Nat.le_refl _, Nat.le_succ _, by simp, rfl, rfl, Blk.new _ _ _⟩
 simp only [Act.put, List.setIfInBounds_toArray, List.set_cons_succ, List.set_cons_zero]
 refine wpM_spec _ rfl rfl (fun w2 hw2 _ => ?_) (fun vh lh hh gh1 gh2 dh hvh => ?_)
 ·go_wp2
  exact ⟨_, w2.heap.size, w2.heap.size + 1, rfl, (Ext.refl _).alloc _, Nat.le_refl _, Nat.le_succ _, by simp, rfl, rfl, Blk.new _ _ _⟩
 simp only [Act.put, List.setIfInBounds_toArray, List.set_cons_succ, List.set_cons_zero]
 obtain ⟨_, rfl, rfl, -⟩ := hvg
 obtain ⟨_, rfl, rfl, -⟩ := hvh
 simp only [List.forall_mem_cons] at dg dh
 refine wpM_nil fun w4 hw4 hF => ?_
 simp only [List.forall_mem_cons] at hF
 obtain ⟨⟨-, -, -, bH⟩, ⟨-, -, -, bG⟩, ⟨sc, fc⟩, ⟨sb, fb⟩, ⟨sa, fa⟩, -⟩ := hF
 have hne : lg ≠ lh := by omega
 have hne' : lh ≠ lg := by omega
 have hGl := bG.lt
 have hHl := bH.lt
 have kG := bG.cell
 have kH := bH.cell
 have qG := bG.frozen
 have qH := bH.frozen
 have FB := hid fb
 have FA := hid fa
 have FC := hid fc
 have BH := hid bH
 have BG := hid bG
 have DG := hid dg
 have DH := hid dh
 clear fa fb fc bG bH dg dh
 unfold z26 at kG kH
 go_upto_region 4 with fail
 refine wp_later fun w5 hw5 => ?_
 obtain ⟨e5, x26, x34, km⟩ := boxes (w1 := w1) hw4 FA.out FC.out sa sc BG.out BH.out hne gg1 gh1 (by have := DG.out; omega) (by have := DH.out; omega) (by have := DG.out; omega) (by have := DH.out; omega)
 obtain ⟨F4, p4, hv4, rd4, -⟩ := SlI.kpm FB.out km sb (by have := DG.out; have := DH.out; rintro b h1 h2 (rfl | rfl) <;> omega)
 obtain ⟨rfl, rfl⟩ : D4 = F4 ∧ q4 = p4 := by simpa using hv4
 obtain ⟨G1, g1, G2, g2, G3, g3, bG, wG⟩ := x26
 obtain ⟨H1, l1, H2, l2, H3, l3, bH, wH⟩ := x34
 have OWN := hid (wG.ext hw5)
 have THR := hid (wH.ext hw5)
 have RK := hid (rd4.ext hw5)
 have BG := bG.ext hw5
 have BH := bH.ext hw5
 have E5 := hid (E0.trans (e5.trans hw5))
 have B3 := (b3.ext (e5.trans hw5))
 have E := hid (Ext.refl w5)
 clear hw5 e5 km bG bH wG wH rd4 hv4 kG kH qG qH k3 k3l f3 b3 FA FB FC DG DH sa sb sc hne hne' hw4 E0 hGl hHl gg1 gh1 gg2 gh2 ga1 ga2 gb1 gb2 gc1 gc2
 have kH := BH.cell
 have kHl := BH.lt
 have kG := BG.cell
 have kGl := BG.lt
 have k3 := B3.cell
 have k3l := B3.lt
 by_cases hc : P.chk x = 0
 ·have hx := Ok.of_chk hc
  have hhd := hx.hands
  have HC := hid hc
  clear hc
  by_cases hh : inB which 0 (x.hands - 1) = true
  ·obtain ⟨hh1, hh2⟩ : 0 ≤ which ∧ which ≤ x.hands - 1 := by simpa [inB] using hh
   obtain ⟨h, rfl⟩ := Int.eq_ofNat_of_zero_le hh1
   have hlt : (h : Int) < x.hands := by omega
   clear hh hh2
   go_upto_region 9 with (go_at_call 21; refine (refcheck_any THR.out h1 h2 h3).mono ?_; rintro e w6 ⟨rfl, he6⟩; rw [HC.out]; have E := hid (E.out.trans he6); have kG := (BG.ext E.out).cell; have kGl := (BG.ext E.out).lt; have kH := (BH.ext E.out).cell; have kHl := (BH.ext E.out).lt; have k3 := (B3.ext E.out).cell; have k3l := (B3.ext E.out).lt)
   refine wp_region_mono 10 [(3, SlV n 2 g), (4, fun v _ _ _ => v = .tuple #[.int .i64 (P.provesV x h g n), .int .i64 (P.provesE x h g n)])] (by kernel_rfl) (by kernel_rfl) (by kernel_rfl) ?hS ?_
   case hS =>
    simp only [List.forall_mem_cons]
    exact ⟨fun _ _ _ _ _ e h => SlV.ext h e, fun _ _ _ _ _ _ h => h, fun _ h => by simp at h⟩
   simp only [List.take_succ_cons, List.take_zero, List.drop_succ_cons, List.drop_zero]
   refine wpM_plain rfl ?_
   go_big_quiet_step (fail)
   refine wpQuiet_nil ?_
   refine wpM_plain rfl ?_
   go_big_quiet_step (fail)
   refine wpQuiet_nil ?_
   refine wpM_plain rfl ?_
   go_big_quiet_step (fail)
   refine wpQuiet_nil ?_
   refine wpM_spec _ rfl rfl (fun w2 hw2 _ => ?_) (fun va la ha ga1 ga2 _ hva => ?_)
   ·go_wp2_with (go_at_call 30; refine (parts30v (HR.out.ext (E5.out.trans (E.out.trans hw2))) (by omega)).mono ?_; rintro e w' ⟨u, rfl, he, hu⟩)
    exact ⟨_, _, _, rfl, he, Nat.le_refl _, he.size, Nat.le_refl _, hu⟩
   obtain ⟨_, F1, f1, rfl, -⟩ := hva
   simp only [Act.put, List.setIfInBounds_toArray, List.set_cons_succ, List.set_cons_zero]
   refine wpM_spec _ rfl rfl (fun w2 hw2 hF => ?_) (fun va la ha ga1 ga2 _ hva => ?_)
   ·simp only [List.forall_mem_cons] at hF
    obtain ⟨-, F2, f2, hq, hrd⟩ := hF.1 (by kernel_rfl)
    obtain ⟨rfl, rfl⟩ : F1 = F2 ∧ f1 = f2 := by simpa using hq
    have HRD := hid hrd
    clear hq hF hrd
    go_wp2_with (go_at_call 29; refine (provesR_any (THR.out.ext (E.out.trans hw2)) HC.out hlt HRD.out (by omega)).mono ?_; rintro e w' ⟨rfl, he⟩)
    exact ⟨_, _, _, rfl, he, Nat.le_refl _, he.size, Nat.le_refl _, rfl⟩
   obtain ⟨_, rfl⟩ := hva
   simp only [Act.put, List.setIfInBounds_toArray, List.set_cons_succ, List.set_cons_zero]
   refine wpM_plain rfl ?_
   go_big_quiet_step (fail)
   refine wpQuiet_nil ?_
   refine wpM_plain rfl ?_
   go_big_quiet_step (fail)
   refine wpQuiet_nil ?_
   refine wpM_plain rfl ?_
   go_big_quiet_step (fail)
   refine wpQuiet_nil ?_
   refine wpM_plain rfl ?_
   go_big_quiet_step (fail)
   refine wpQuiet_nil ?_
   refine wpM_plain rfl ?_
   go_big_quiet_step (fail)
   refine wpQuiet_nil ?_
   refine wpM_nil fun w6 hw6 _ => ?_
   have E := hid (E.out.trans hw6)
   have kG := (BG.ext E.out).cell
   have kGl := (BG.ext E.out).lt
   have k3 := (B3.ext E.out).cell
   have k3l := (B3.ext E.out).lt
   go_wp2_with (first
   | (go_at_call 21; refine (refcheck_any THR.out h1 h2 h3).mono ?_; rintro e w6 ⟨rfl, he6⟩; have E := hid (E.out.trans he6); have kG := (BG.ext E.out).cell; have kGl := (BG.ext E.out).lt; have k3 := (B3.ext E.out).cell; have k3l := (B3.ext E.out).lt)
   | (go_at_call 40; refine (provesP_any (OWN.out.ext E.out) h1 h2 h3 HC.out hlt (RK.out.ext E.out) (by omega)).mono ?_; rintro e w7 ⟨rfl, he7⟩; have E := hid (E.out.trans he7); have kG := (BG.ext E.out).cell; have kGl := (BG.ext E.out).lt; have k3 := (B3.ext E.out).cell; have k3l := (B3.ext E.out).lt)
   | (go_at_call 41; refine (eq41 (RK.out.ext E.out) (HR.out.ext (E5.out.trans E.out)) (by omega) (by omega)).mono ?_; rintro e w8 ⟨rfl, he8⟩; rw [eqB_refl]; have E := hid (E.out.trans he8); have kG := (BG.ext E.out).cell; have kGl := (BG.ext E.out).lt; have k3 := (B3.ext E.out).cell; have k3l := (B3.ext E.out).lt)
   | (go_at_call 28; refine (same28 (OWN.out.ext E.out) (HV.out.ext (E5.out.trans E.out)) h1 h2 h3 rfl rfl rfl (eqB_refl _ _ _) (eqB_refl _ _ _) (eqB_refl _ _ _)).mono ?_; rintro e w9 ⟨rfl, he9⟩; have E := hid (E.out.trans he9))
   | (go_at_call 18; refine (awake_any _).mono ?_; rintro e w10 ⟨rfl, he10⟩; have E := hid (E.out.trans he10)))
   go_ret
   exact ⟨rfl, E5.out.trans E.out⟩
  ·have hh' : inB which 0 (x.hands - 1) = false := by simpa using hh
   have HH := hid hh'
   have hcase : which < 0 ∨ x.hands ≤ which := by simp [inB] at hh'; omega
   clear hh hh'
   rcases hcase with hcase | hcase
   ·go_wp2_with (first
   | (go_at_call 21; refine (refcheck_any THR.out h1 h2 h3).mono ?_; rintro e w6 ⟨rfl, he6⟩; rw [HC.out]; have E := hid (E.out.trans he6); have kG := (BG.ext E.out).cell; have kGl := (BG.ext E.out).lt; have k3 := (B3.ext E.out).cell; have k3l := (B3.ext E.out).lt)
   | (go_at_call 40; refine (provesP_hand (OWN.out.ext E.out) h1 h2 h3 which _ HC.out HH.out).mono ?_; rintro e w7 ⟨rfl, he7⟩; have E := hid (E.out.trans he7); have kG := (BG.ext E.out).cell; have kGl := (BG.ext E.out).lt; have k3 := (B3.ext E.out).cell; have k3l := (B3.ext E.out).lt)
   | (go_at_call 41; refine (eq41 (RK.out.ext E.out) (HR.out.ext (E5.out.trans E.out)) (by omega) (by omega)).mono ?_; rintro e w8 ⟨rfl, he8⟩; rw [eqB_refl]; have E := hid (E.out.trans he8); have kG := (BG.ext E.out).cell; have kGl := (BG.ext E.out).lt; have k3 := (B3.ext E.out).cell; have k3l := (B3.ext E.out).lt)
   | (go_at_call 28; refine (same28 (OWN.out.ext E.out) (HV.out.ext (E5.out.trans E.out)) h1 h2 h3 rfl rfl rfl (eqB_refl _ _ _) (eqB_refl _ _ _) (eqB_refl _ _ _)).mono ?_; rintro e w9 ⟨rfl, he9⟩; have E := hid (E.out.trans he9))
   | (go_at_call 18; refine (awake_any _).mono ?_; rintro e w10 ⟨rfl, he10⟩; have E := hid (E.out.trans he10)))
    go_ret
    exact ⟨rfl, E5.out.trans E.out⟩
   ·have hcase2 : 0 ≤ which := by omega
    ·go_wp2_with (first
   | (go_at_call 21; refine (refcheck_any THR.out h1 h2 h3).mono ?_; rintro e w6 ⟨rfl, he6⟩; rw [HC.out]; have E := hid (E.out.trans he6); have kG := (BG.ext E.out).cell; have kGl := (BG.ext E.out).lt; have k3 := (B3.ext E.out).cell; have k3l := (B3.ext E.out).lt)
   | (go_at_call 40; refine (provesP_hand (OWN.out.ext E.out) h1 h2 h3 which _ HC.out HH.out).mono ?_; rintro e w7 ⟨rfl, he7⟩; have E := hid (E.out.trans he7); have kG := (BG.ext E.out).cell; have kGl := (BG.ext E.out).lt; have k3 := (B3.ext E.out).cell; have k3l := (B3.ext E.out).lt)
   | (go_at_call 41; refine (eq41 (RK.out.ext E.out) (HR.out.ext (E5.out.trans E.out)) (by omega) (by omega)).mono ?_; rintro e w8 ⟨rfl, he8⟩; rw [eqB_refl]; have E := hid (E.out.trans he8); have kG := (BG.ext E.out).cell; have kGl := (BG.ext E.out).lt; have k3 := (B3.ext E.out).cell; have k3l := (B3.ext E.out).lt)
   | (go_at_call 28; refine (same28 (OWN.out.ext E.out) (HV.out.ext (E5.out.trans E.out)) h1 h2 h3 rfl rfl rfl (eqB_refl _ _ _) (eqB_refl _ _ _) (eqB_refl _ _ _)).mono ?_; rintro e w9 ⟨rfl, he9⟩; have E := hid (E.out.trans he9))
   | (go_at_call 18; refine (awake_any _).mono ?_; rintro e w10 ⟨rfl, he10⟩; have E := hid (E.out.trans he10)))
     go_ret
     exact ⟨rfl, E5.out.trans E.out⟩
 ·have hc' : (P.chk x == 0) = false := by simpa using hc
  have HC := hid hc
  clear hc
  go_wp2_with (first
   | (go_at_call 21; refine (refcheck_any THR.out h1 h2 h3).mono ?_; rintro e w6 ⟨rfl, he6⟩; have E := hid (E.out.trans he6); have kG := (BG.ext E.out).cell; have kGl := (BG.ext E.out).lt; have k3 := (B3.ext E.out).cell; have k3l := (B3.ext E.out).lt)
   | (go_at_call 40; refine (provesP_chk (OWN.out.ext E.out) h1 h2 h3 which _ HC.out).mono ?_; rintro e w7 ⟨rfl, he7⟩; have E := hid (E.out.trans he7); have kG := (BG.ext E.out).cell; have kGl := (BG.ext E.out).lt; have k3 := (B3.ext E.out).cell; have k3l := (B3.ext E.out).lt)
   | (go_at_call 41; refine (eq41 (RK.out.ext E.out) (HR.out.ext (E5.out.trans E.out)) (by omega) (by omega)).mono ?_; rintro e w8 ⟨rfl, he8⟩; rw [eqB_refl]; have E := hid (E.out.trans he8); have kG := (BG.ext E.out).cell; have kGl := (BG.ext E.out).lt; have k3 := (B3.ext E.out).cell; have k3l := (B3.ext E.out).lt)
   | (go_at_call 28; refine (same28 (OWN.out.ext E.out) (HV.out.ext (E5.out.trans E.out)) h1 h2 h3 rfl rfl rfl (eqB_refl _ _ _) (eqB_refl _ _ _) (eqB_refl _ _ _)).mono ?_; rintro e w9 ⟨rfl, he9⟩; have E := hid (E.out.trans he9))
   | (go_at_call 18; refine (awake_any _).mono ?_; rintro e w10 ⟨rfl, he10⟩; have E := hid (E.out.trans he10)))
  go_ret
  exact ⟨rfl, E5.out.trans E.out⟩
end Go.Proofs.YtkhjmedfhobebaaGreat
