/- Walk of the law of checks: for every watch, count and stretch it returns true. No condition. -/
import Derived.Test.YtkhjmedfhobebaaGreatLawB
import Derived.Test.YtkhjmedfhobebaaGreatTwoR
namespace HandSpec
theorem strE_right7 {x : WD} (hc : P.chk x = 0) (a b : Int) : P.strE x a b = R.right x a b := by
 unfold P.strE R.right
 rw [if_neg (by simpa using hc), offB_eq, offB_eq]
theorem strE_chk7 {x : WD} (hc : P.chk x ≠ 0) (a b : Int) : P.strE x a b = P.chk x := by
 unfold P.strE
 rw [if_pos hc]
theorem addW_len {x : WD} (h lo hi : Int) (h1 : x.cn ≤ 11) (h2 : x.bn ≤ 1000) (h3 : x.sn ≤ 1000) : (addW x h lo hi).cn ≤ 1000 ∧ (addW x h lo hi).bn ≤ 1000 ∧ (addW x h lo hi).sn ≤ 1000 := by
 unfold addW
 split
 ·exact ⟨by show x.cn + 1 ≤ 1000; omega, h2, h3⟩
 ·exact ⟨by decide, by decide, by decide⟩
end HandSpec
namespace Go.Proofs.YtkhjmedfhobebaaGreat
open Go.RowKit HandSpec
set_option maxHeartbeats 12000000
set_option maxRecDepth 100000
theorem eq38_same7 {w : World} {u v : Value} {l : List Nat} (hu : SlR w 1 u (rows1 l)) (hv : SlR w 1 v (rows1 l)) (hl : l.length ≤ 1000) :
  Calls Tryz.prog 38 #[u, v] w fun e w' => e = .returned (.bool true) ∧ Ext w w' := by
 obtain ⟨A, q, rfl, hr⟩ := hu
 obtain ⟨B, r, rfl, hs⟩ := hv
 rw [rows1_length] at hr hs ⊢
 have h := eq38 (cap := q) (cap' := r) hr hs hl hl
 rw [eqB_refl] at h
 exact h
theorem slR_nil7 (w : World) : SlR w 1 (.slice none 0 0) (rows1 []) := ⟨none, 0, rfl, Rd.nil⟩
theorem eq63_same {w : World} {A A' : Option Addr} {n cap cap' : Nat} {g : Nat → Nat → Int} (hr : Rd w A n 3 g) (hr' : Rd w A' n 3 g) (hn : n ≤ 1000) :
  Calls Tryz.prog 63 #[.slice A n cap, .slice A' n cap'] w fun e w' => e = .returned (.bool true) ∧ Ext w w' := by
 have h := eq63 (cap := cap) (cap' := cap') hr hr' hn hn
 rw [eqB_refl] at h
 exact h
theorem eq64_same {w : World} {A A' : Option Addr} {n cap cap' : Nat} {g : Nat → Nat → Int} (hr : Rd w A n 2 g) (hr' : Rd w A' n 2 g) (hn : n ≤ 1000) :
  Calls Tryz.prog 64 #[.slice A n cap, .slice A' n cap'] w fun e w' => e = .returned (.bool true) ∧ Ext w w' := by
 have h := eq64 (cap := cap) (cap' := cap') hr hr' hn hn
 rw [eqB_refl] at h
 exact h
theorem eq65_same {w : World} {A A' : Option Addr} {n cap cap' : Nat} {g : Nat → Nat → Int} (hr : Rd w A n 3 g) (hr' : Rd w A' n 3 g) (hn : n ≤ 1000) :
  Calls Tryz.prog 65 #[.slice A n cap, .slice A' n cap'] w fun e w' => e = .returned (.bool true) ∧ Ext w w' := by
 have h := eq65 (cap := cap) (cap' := cap') hr hr' hn hn
 rw [eqB_refl] at h
 exact h
theorem el23z (w : World) : (zeroValue 119).run Tryz.prog w = .ok (.agg #[.int .i64 0, .int .i64 0]) w := by kernel_rfl
theorem el24z (w : World) : (zeroValue 114).run Tryz.prog w = .ok (.agg #[.int .i64 0, .int .i64 0, .int .i64 0]) w := by kernel_rfl
theorem el22z (w : World) : (zeroValue 79).run Tryz.prog w = .ok (.agg #[.int .i64 0, .int .i64 0, .int .i64 0]) w := by kernel_rfl
theorem there_len {x : WD} (hx : Ok x) (p q : Nat) : (R.there x p q).length ≤ 1000 := by
 have h := hx.hands
 have h2 : (R.there x p q).length ≤ x.hands.toNat := Nat.le_trans (List.length_filter_le _ _) (by simp)
 omega
theorem law7 {x : WD} {w : World} {v : Value} (hv : IsW w v x) (h lo hi a b : Int) :
  Calls Tryz.prog 7 #[v, .agg #[.int .i64 h, .int .i64 lo, .int .i64 hi], .agg #[.int .i64 a, .int .i64 b]] w fun e w' => e = .returned (.bool true) ∧ Ext w w' := by
 by_cases hb : greatB x = true
 ·have HV := hid hv
  obtain ⟨A1, c1, A2, c2, A3, c3, rfl, r1, r2, r3⟩ := hv
  clear r1 r2 r3
  have HB := hid hb
  clear hb
  go_enter Tryz.func7, Tryz.ntmps7
  go_wp2_with (first
   | (go_at_call 31; refine (great31 (HV.out.ext (((Ext.refl _).alloc _).alloc _ |>.alloc _))).mono ?_; rintro e wg ⟨rfl, heg⟩; rw [HB.out])
   | (go_at_call 18; refine (awake_any _).mono ?_; rintro e w10 ⟨rfl, he10⟩))
  go_ret
  exact ⟨rfl, (((((Ext.refl _).alloc _).alloc _).alloc _).trans heg).trans he10⟩
 have hgr : greatB x = false := by simpa using hb
 have h11 : x.cn ≤ 11 := by simp [greatB] at hgr; omega
 have h1 : x.cn ≤ 1000 := by omega
 have h2 : x.bn ≤ 1000 := by simp [greatB] at hgr; omega
 have h3 : x.sn ≤ 1000 := by simp [greatB] at hgr; omega
 have HV := hid hv
 have HB := hid hgr
 clear hb hgr
 obtain ⟨A1, c1, A2, c2, A3, c3, rfl, r1, r2, r3⟩ := hv
 clear r1 r2 r3
 go_enter Tryz.func7, Tryz.ntmps7
 go_upto_region 3 with (go_at_call 31; refine (great31 (HV.out.ext (((Ext.refl _).alloc _).alloc _ |>.alloc _))).mono ?_; rintro e wg ⟨rfl, heg⟩; rw [HB.out])
 refine wp_later fun w1 hw1 => ?_
 obtain ⟨E0, b3, b4, b5⟩ := newB3' (heg.trans hw1)
 have k3 := b3.cell
 have k3l := b3.lt
 have f3 := b3.frozen
 clear hw1 heg
 refine wp_region_mono 6 [(1, WIR x), (3, fun v lo hi w => IsWI lo hi w v x), (4, PtI 26 z26), (5, PtI 34 z26)] (by kernel_rfl) (by kernel_rfl) (by kernel_rfl) ?hS ?_
 case hS =>
  simp only [List.forall_mem_cons]
  exact ⟨fun _ _ _ _ _ e h => WIR.ext h e, fun _ _ _ _ _ e h => IsWI.ext h e, fun _ _ _ _ _ e h => PtI.ext h e, fun _ _ _ _ _ e h => PtI.ext h e, fun _ h => by simp at h⟩
 simp only [List.take_succ_cons, List.take_zero, List.drop_succ_cons, List.drop_zero]
 refine wpM_plain rfl ?_
 go_big_quiet_step (fail)
 refine wpQuiet_nil ?_
 refine wpM_spec _ rfl rfl (fun w2 hw2 _ => ?_) (fun va la ha ga1 ga2 _ hva => ?_)
 ·go_wp2_with (go_at_call 19; refine (own19 (HV.out.ext (E0.trans hw2)) h1 h2 h3).mono ?_; rintro e w' ⟨u, rfl, he, hu⟩)
  exact ⟨_, _, _, rfl, he, Nat.le_refl _, he.size, Nat.le_refl _, IsWI.of hu, CapR.of hu⟩
 simp only [Act.put, List.setIfInBounds_toArray, List.set_cons_succ, List.set_cons_zero]
 obtain ⟨_, ⟨D1, q1, D2, q2, D3, q3, rfl, -⟩, hcp⟩ := hva
 have hcap : x.cn ≤ q1 := hcp _ _ _ _ _ _ _ rfl
 clear hcp
 refine wpM_plain rfl ?_
 go_big_quiet_step (fail)
 refine wpQuiet_nil ?_
 refine wpM_spec _ rfl rfl (fun w2 hw2 _ => ?_) (fun vc lc hc gc1 gc2 _ hvc => ?_)
 ·go_wp2_with (go_at_call 20; refine (theirs20 (HV.out.ext (E0.trans hw2)) h1 h2 h3).mono ?_; rintro e w' ⟨u, rfl, he, hu⟩)
  exact ⟨_, _, _, rfl, he, Nat.le_refl _, he.size, Nat.le_refl _, IsWI.of hu⟩
 simp only [Act.put, List.setIfInBounds_toArray, List.set_cons_succ, List.set_cons_zero]
 obtain ⟨_, D5, q5, D6, q6, D7, q7, rfl, -⟩ := hvc
 refine wpM_spec _ rfl rfl (fun w2 hw2 _ => ?_) (fun vg lg hg gg1 gg2 dg hvg => ?_)
 ·go_wp2
  exact ⟨_, w2.heap.size, w2.heap.size + 1, rfl, (Ext.refl _).alloc _, Nat.le_refl _, Nat.le_succ _, by simp, rfl, rfl, Blk.new _ _ _⟩
 simp only [Act.put, List.setIfInBounds_toArray, List.set_cons_succ, List.set_cons_zero]
 refine wpM_spec _ rfl rfl (fun w2 hw2 _ => ?_) (fun vh lh hh gh1 gh2 dh hvh => ?_)
 ·go_wp2
  exact ⟨_, w2.heap.size, w2.heap.size + 1, rfl, (Ext.refl _).alloc _, Nat.le_refl _, Nat.le_succ _, by simp, rfl, rfl, Blk.new _ _ _⟩
 simp only [Act.put, List.setIfInBounds_toArray, List.set_cons_succ, List.set_cons_zero]
 obtain ⟨_, rfl, rfl, -⟩ := hvg
 obtain ⟨_, rfl, rfl, -⟩ := hvh
 simp only [List.forall_mem_cons] at dg dh
 refine wpM_nil fun w4 hw4 hF => ?_
 simp only [List.forall_mem_cons] at hF
 obtain ⟨⟨-, -, -, bH⟩, ⟨-, -, -, bG⟩, ⟨sc, fc⟩, ⟨sa, fa, -⟩, -⟩ := hF
 have hne : lg ≠ lh := by omega
 have hne' : lh ≠ lg := by omega
 have hGl := bG.lt
 have hHl := bH.lt
 have kG := bG.cell
 have kH := bH.cell
 have qG := bG.frozen
 have qH := bH.frozen
 have FA := hid fa
 have FC := hid fc
 have BH := hid bH
 have BG := hid bG
 have DG := hid dg
 have DH := hid dh
 clear fa fc bG bH dg dh
 unfold z26 at kG kH
 go_upto_region 4 with fail
 refine wp_later fun w5 hw5 => ?_
 obtain ⟨⟨e5, -, x34, km⟩, x26⟩ := boxesR (w1 := w1) hw4 FA.out hcap FC.out sa sc BG.out BH.out hne gg1 gh1 (by have := DG.out; omega) (by have := DH.out; omega) (by have := DG.out; omega) (by have := DH.out; omega)
 obtain ⟨G1, g1, G2, g2, G3, g3, bG, wG, cG⟩ := x26
 obtain ⟨H1, l1, H2, l2, H3, l3, bH, wH⟩ := x34
 have OWN := hid (wG.ext hw5)
 have OWR := hid (IsWR.of (wG.ext hw5) cG)
 have THR := hid (wH.ext hw5)
 have BG := bG.ext hw5
 have BH := bH.ext hw5
 have E5 := hid (E0.trans (e5.trans hw5))
 have B3 := (b3.ext (e5.trans hw5))
 have B4 := (b4.ext (e5.trans hw5))
 have B5 := (b5.ext (e5.trans hw5))
 have E := hid (Ext.refl w5)
 clear hw5 e5 km bG bH wG wH kG kH qG qH k3 k3l f3 b3 b4 b5 FA FC DG DH sa sc hne hne' hw4 E0 hGl hHl gg1 gh1 gg2 gh2 ga1 ga2 gc1 gc2
 have kH := BH.cell
 have kHl := BH.lt
 have kG := BG.cell
 have kGl := BG.lt
 have k3 := B3.cell
 have k3l := B3.lt
 have k4 := B4.cell
 have k4l := B4.lt
 have k5 := B5.cell
 have k5l := B5.lt
 obtain ⟨Y, hY⟩ : ∃ Y, addW x h lo hi = Y := ⟨_, rfl⟩
 obtain ⟨v1, v2, v3⟩ := addW_len h lo hi h11 h2 h3
 rw [hY] at v1 v2 v3
 have HY := hid hY
 clear hY
 go_upto_region 5 with (go_at_call 21; refine (refcheck_any THR.out h1 h2 h3).mono ?_; rintro e w11 ⟨rfl, he11⟩; have E := hid (E.out.trans he11); have kG := (BG.ext E.out).cell; have kGl := (BG.ext E.out).lt; have kH := (BH.ext E.out).cell; have kHl := (BH.ext E.out).lt; have k3 := (B3.ext E.out).cell; have k3l := (B3.ext E.out).lt; have k4 := (B4.ext E.out).cell; have k4l := (B4.ext E.out).lt; have k5 := (B5.ext E.out).cell; have k5l := (B5.ext E.out).lt)
 go_upto_region 6 with (go_at_call 53; refine (add53 (THR.out.ext E.out) h1 h2 h3 h lo hi).mono ?_; rintro e w53 ⟨u53, rfl, he53, hu53⟩; rw [HY.out] at hu53; have E := hid (E.out.trans he53); have kG := (BG.ext E.out).cell; have kGl := (BG.ext E.out).lt; have kH := (BH.ext E.out).cell; have kHl := (BH.ext E.out).lt; have k3 := (B3.ext E.out).cell; have k3l := (B3.ext E.out).lt; have k4 := (B4.ext E.out).cell; have k4l := (B4.ext E.out).lt; have k5 := (B5.ext E.out).cell; have k5l := (B5.ext E.out).lt; have MORE := hid hu53; obtain ⟨M1, m1, M2, m2, M3, m3, rfl, -, -, -⟩ := hu53)
 refine wp_later fun w9 hw9 => ?_
 obtain ⟨E9, b10⟩ := hw9.newB
 clear hw9
 have B10 := hid b10
 clear b10
 have E := hid (E.out.trans E9)
 have kG := (BG.ext E.out).cell
 have kGl := (BG.ext E.out).lt
 have kH := (BH.ext E.out).cell
 have kHl := (BH.ext E.out).lt
 have k3 := (B3.ext E.out).cell
 have k3l := (B3.ext E.out).lt
 have k4 := (B4.ext E.out).cell
 have k4l := (B4.ext E.out).lt
 have k5 := (B5.ext E.out).cell
 have k5l := (B5.ext E.out).lt
 have MORE := hid (MORE.out.ext E9)
 have k10 := B10.out.cell
 have k10l := B10.out.lt
 by_cases hc0 : P.chk x ≠ 0
 ·have hc := hc0
  clear hc0
  have hc' : (P.chk x == 0) = false := by simpa using hc
  have hc2 : (P.chk x != P.chk x) = false := by simp
  have SE := hid (strE_chk7 hc a b)
  have HST := hid (show P.strE x a b ≠ 0 by rw [SE.out]; exact hc)
  clear hc
  go_upto_region 15 with (go_at_call 54; refine (check_any (OWN.out.ext E.out) h1 h2 h3).mono ?_; rintro e w54 ⟨rfl, he54⟩; have E := hid (E.out.trans he54); have kG := (BG.ext E.out).cell; have kGl := (BG.ext E.out).lt; have kH := (BH.ext E.out).cell; have kHl := (BH.ext E.out).lt; have k3 := (B3.ext E.out).cell; have k3l := (B3.ext E.out).lt; have k4 := (B4.ext E.out).cell; have k4l := (B4.ext E.out).lt; have k5 := (B5.ext E.out).cell; have k5l := (B5.ext E.out).lt; have B10 := hid (B10.out.ext he54); have k10 := B10.out.cell; have k10l := B10.out.lt; have MORE := hid (MORE.out.ext he54))
  have hzb := E.out.size
  go_upto_region 16 with (go_at_call 59; refine (add59 (OWR.out.ext E.out) h1 h2 h3 h lo hi).mono ?_; rintro e w59 ⟨u59, rfl, he59, hu59⟩; have E := hid (E.out.trans he59); have kG := (BG.ext E.out).cell; have kGl := (BG.ext E.out).lt; have kH := (BH.ext E.out).cell; have kHl := (BH.ext E.out).lt; have k3 := (B3.ext E.out).cell; have k3l := (B3.ext E.out).lt; have k4 := (B4.ext E.out).cell; have k4l := (B4.ext E.out).lt; have k5 := (B5.ext E.out).cell; have k5l := (B5.ext E.out).lt; have B10 := hid (B10.out.ext he59); have k10 := B10.out.cell; have k10l := B10.out.lt; have MORE := hid (MORE.out.ext he59); have hz59 := E.out.size; rw [HY.out] at hu59; have OW := hid hu59.isW; obtain ⟨O1, o1, O2, o2, O3, o3, l1, l2, l3, i1, i2, i3, rfl, q1, q2, q3, p1, p2, p3, d1, d2, d3⟩ := hu59; have Q1 := hid q1; have Q2 := hid q2; have Q3 := hid q3; have PQ1 := hid q1; have PQ2 := hid q2; have PQ3 := hid q3; clear q1 q2 q3)
  refine wp_later fun w9 hw9 => ?_
  obtain ⟨E9, b16⟩ := hw9.newB
  clear hw9
  have B16 := hid b16
  clear b16
  have E := hid (E.out.trans E9)
  have kG := (BG.ext E.out).cell
  have kGl := (BG.ext E.out).lt
  have kH := (BH.ext E.out).cell
  have kHl := (BH.ext E.out).lt
  have k3 := (B3.ext E.out).cell
  have k3l := (B3.ext E.out).lt
  have k4 := (B4.ext E.out).cell
  have k4l := (B4.ext E.out).lt
  have k5 := (B5.ext E.out).cell
  have k5l := (B5.ext E.out).lt
  have B10 := hid (B10.out.ext E9)
  have k10 := B10.out.cell
  have k10l := B10.out.lt
  have MORE := hid (MORE.out.ext E9)
  have OW := hid (OW.out.ext E9)
  have Q1 := hid (Q1.out.ext E9)
  have Q2 := hid (Q2.out.ext E9)
  have Q3 := hid (Q3.out.ext E9)
  have k16 := B16.out.cell
  have k16l := B16.out.lt
  go_upto_region 19 with (first
   | (go_at_call 60; refine (bookedX_err (OWN.out.ext E.out) h1 h2 h3 a b HST.out).mono ?_; rintro e w60 ⟨rfl, he60⟩; rw [SE.out]; have E := hid (E.out.trans he60); have kG := (BG.ext E.out).cell; have kGl := (BG.ext E.out).lt; have kH := (BH.ext E.out).cell; have kHl := (BH.ext E.out).lt; have k3 := (B3.ext E.out).cell; have k3l := (B3.ext E.out).lt; have k4 := (B4.ext E.out).cell; have k4l := (B4.ext E.out).lt; have k5 := (B5.ext E.out).cell; have k5l := (B5.ext E.out).lt; have B10 := hid (B10.out.ext he60); have k10 := B10.out.cell; have k10l := B10.out.lt; have B16 := hid (B16.out.ext he60); have k16 := B16.out.cell; have k16l := B16.out.lt; have MORE := hid (MORE.out.ext he60); have OW := hid (OW.out.ext he60); have Q1 := hid (Q1.out.ext he60); have Q2 := hid (Q2.out.ext he60); have Q3 := hid (Q3.out.ext he60))
   | (go_at_call 61; refine (gapX_err (OWN.out.ext E.out) h1 h2 h3 a b HST.out).mono ?_; rintro e w61 ⟨rfl, he61⟩; rw [SE.out]; have E := hid (E.out.trans he61); have kG := (BG.ext E.out).cell; have kGl := (BG.ext E.out).lt; have kH := (BH.ext E.out).cell; have kHl := (BH.ext E.out).lt; have k3 := (B3.ext E.out).cell; have k3l := (B3.ext E.out).lt; have k4 := (B4.ext E.out).cell; have k4l := (B4.ext E.out).lt; have k5 := (B5.ext E.out).cell; have k5l := (B5.ext E.out).lt; have B10 := hid (B10.out.ext he61); have k10 := B10.out.cell; have k10l := B10.out.lt; have B16 := hid (B16.out.ext he61); have k16 := B16.out.cell; have k16l := B16.out.lt; have MORE := hid (MORE.out.ext he61); have OW := hid (OW.out.ext he61); have Q1 := hid (Q1.out.ext he61); have Q2 := hid (Q2.out.ext he61); have Q3 := hid (Q3.out.ext he61))
   | (go_at_call 62; refine (thereX_err (OWN.out.ext E.out) h1 h2 h3 a b HST.out).mono ?_; rintro e w62 ⟨rfl, he62⟩; rw [SE.out]; have E := hid (E.out.trans he62); have kG := (BG.ext E.out).cell; have kGl := (BG.ext E.out).lt; have kH := (BH.ext E.out).cell; have kHl := (BH.ext E.out).lt; have k3 := (B3.ext E.out).cell; have k3l := (B3.ext E.out).lt; have k4 := (B4.ext E.out).cell; have k4l := (B4.ext E.out).lt; have k5 := (B5.ext E.out).cell; have k5l := (B5.ext E.out).lt; have B10 := hid (B10.out.ext he62); have k10 := B10.out.cell; have k10l := B10.out.lt; have B16 := hid (B16.out.ext he62); have k16 := B16.out.cell; have k16l := B16.out.lt; have MORE := hid (MORE.out.ext he62); have OW := hid (OW.out.ext he62); have Q1 := hid (Q1.out.ext he62); have Q2 := hid (Q2.out.ext he62); have Q3 := hid (Q3.out.ext he62); have S62 := hid (slR_nil7 w62); have THL := hid (slR_nil7 w62)))
  go_upto_region 20 with (go_at_call 20; refine (theirs20 (OW.out) v1 v2 v3).mono ?_; rintro e w20 ⟨u20, rfl, he20, hu20⟩; have E := hid (E.out.trans he20); have kG := (BG.ext E.out).cell; have kGl := (BG.ext E.out).lt; have kH := (BH.ext E.out).cell; have kHl := (BH.ext E.out).lt; have k3 := (B3.ext E.out).cell; have k3l := (B3.ext E.out).lt; have k4 := (B4.ext E.out).cell; have k4l := (B4.ext E.out).lt; have k5 := (B5.ext E.out).cell; have k5l := (B5.ext E.out).lt; have B10 := hid (B10.out.ext he20); have k10 := B10.out.cell; have k10l := B10.out.lt; have B16 := hid (B16.out.ext he20); have k16 := B16.out.cell; have k16l := B16.out.lt; have MORE := hid (MORE.out.ext he20); have OW := hid (OW.out.ext he20); have Q1 := hid (Q1.out.ext he20); have Q2 := hid (Q2.out.ext he20); have Q3 := hid (Q3.out.ext he20); have S62 := hid (S62.out.ext he20); have THL := hid (THL.out.ext he20); have GOT := hid hu20.isW; obtain ⟨N1, n1, N2, n2, N3, n3, rfl, -, -, -⟩ := hu20)
  refine wp_later fun w9 hw9 => ?_
  obtain ⟨E9, b24⟩ := hw9.newB
  clear hw9
  have B24 := hid b24
  clear b24
  have E := hid (E.out.trans E9)
  have kG := (BG.ext E.out).cell
  have kGl := (BG.ext E.out).lt
  have kH := (BH.ext E.out).cell
  have kHl := (BH.ext E.out).lt
  have k3 := (B3.ext E.out).cell
  have k3l := (B3.ext E.out).lt
  have k4 := (B4.ext E.out).cell
  have k4l := (B4.ext E.out).lt
  have k5 := (B5.ext E.out).cell
  have k5l := (B5.ext E.out).lt
  have B10 := hid (B10.out.ext E9)
  have k10 := B10.out.cell
  have k10l := B10.out.lt
  have B16 := hid (B16.out.ext E9)
  have k16 := B16.out.cell
  have k16l := B16.out.lt
  have MORE := hid (MORE.out.ext E9)
  have OW := hid (OW.out.ext E9)
  have Q1 := hid (Q1.out.ext E9)
  have Q2 := hid (Q2.out.ext E9)
  have Q3 := hid (Q3.out.ext E9)
  have S62 := hid (S62.out.ext E9)
  have THL := hid (THL.out.ext E9)
  have GOT := hid (GOT.out.ext E9)
  have k24 := B24.out.cell
  have k24l := B24.out.lt
  obtain ⟨_, _, _, _, _, _, hg0, gr1, gr2, gr3⟩ := GOT.out
  obtain ⟨_, _, _, _, _, _, hm0, mr1, mr2, mr3⟩ := MORE.out
  simp only [Value.agg.injEq, Array.mk.injEq, List.cons.injEq, Value.slice.injEq, true_and, and_true] at hg0 hm0
  obtain ⟨⟨rfl, rfl⟩, ⟨rfl, rfl⟩, ⟨rfl, rfl⟩⟩ := hg0
  obtain ⟨⟨rfl, rfl⟩, ⟨rfl, rfl⟩, ⟨rfl, rfl⟩⟩ := hm0
  have GR1 := hid gr1
  have GR2 := hid gr2
  have GR3 := hid gr3
  have MR1 := hid mr1
  have MR2 := hid mr2
  have MR3 := hid mr3
  clear gr1 gr2 gr3 mr1 mr2 mr3
  go_upto_region 22 with (first
   | (go_at_call 38; refine (eq38_same7 S62.out THL.out (by simp)).mono ?_; rintro e w38 ⟨rfl, he38⟩; have E := hid (E.out.trans he38); have kG := (BG.ext E.out).cell; have kGl := (BG.ext E.out).lt; have kH := (BH.ext E.out).cell; have kHl := (BH.ext E.out).lt; have k3 := (B3.ext E.out).cell; have k3l := (B3.ext E.out).lt; have k4 := (B4.ext E.out).cell; have k4l := (B4.ext E.out).lt; have k5 := (B5.ext E.out).cell; have k5l := (B5.ext E.out).lt; have B10 := hid (B10.out.ext he38); have k10 := B10.out.cell; have k10l := B10.out.lt; have B16 := hid (B16.out.ext he38); have k16 := B16.out.cell; have k16l := B16.out.lt; have B24 := hid (B24.out.ext he38); have k24 := B24.out.cell; have k24l := B24.out.lt; have Q1 := hid (Q1.out.ext he38); have Q2 := hid (Q2.out.ext he38); have Q3 := hid (Q3.out.ext he38); have S62 := hid (S62.out.ext he38); have THL := hid (THL.out.ext he38); have GR1 := hid (GR1.out.ext he38); have GR2 := hid (GR2.out.ext he38); have GR3 := hid (GR3.out.ext he38); have MR1 := hid (MR1.out.ext he38); have MR2 := hid (MR2.out.ext he38); have MR3 := hid (MR3.out.ext he38))
   | (go_at_call 63; refine (eq63_same GR1.out MR1.out v1).mono ?_; rintro e w63 ⟨rfl, he63⟩; have E := hid (E.out.trans he63); have kG := (BG.ext E.out).cell; have kGl := (BG.ext E.out).lt; have kH := (BH.ext E.out).cell; have kHl := (BH.ext E.out).lt; have k3 := (B3.ext E.out).cell; have k3l := (B3.ext E.out).lt; have k4 := (B4.ext E.out).cell; have k4l := (B4.ext E.out).lt; have k5 := (B5.ext E.out).cell; have k5l := (B5.ext E.out).lt; have B10 := hid (B10.out.ext he63); have k10 := B10.out.cell; have k10l := B10.out.lt; have B16 := hid (B16.out.ext he63); have k16 := B16.out.cell; have k16l := B16.out.lt; have B24 := hid (B24.out.ext he63); have k24 := B24.out.cell; have k24l := B24.out.lt; have Q1 := hid (Q1.out.ext he63); have Q2 := hid (Q2.out.ext he63); have Q3 := hid (Q3.out.ext he63); have S62 := hid (S62.out.ext he63); have THL := hid (THL.out.ext he63); have GR1 := hid (GR1.out.ext he63); have GR2 := hid (GR2.out.ext he63); have GR3 := hid (GR3.out.ext he63); have MR1 := hid (MR1.out.ext he63); have MR2 := hid (MR2.out.ext he63); have MR3 := hid (MR3.out.ext he63))
   | (go_at_call 64; refine (eq64_same GR2.out MR2.out v2).mono ?_; rintro e w64 ⟨rfl, he64⟩; have E := hid (E.out.trans he64); have kG := (BG.ext E.out).cell; have kGl := (BG.ext E.out).lt; have kH := (BH.ext E.out).cell; have kHl := (BH.ext E.out).lt; have k3 := (B3.ext E.out).cell; have k3l := (B3.ext E.out).lt; have k4 := (B4.ext E.out).cell; have k4l := (B4.ext E.out).lt; have k5 := (B5.ext E.out).cell; have k5l := (B5.ext E.out).lt; have B10 := hid (B10.out.ext he64); have k10 := B10.out.cell; have k10l := B10.out.lt; have B16 := hid (B16.out.ext he64); have k16 := B16.out.cell; have k16l := B16.out.lt; have B24 := hid (B24.out.ext he64); have k24 := B24.out.cell; have k24l := B24.out.lt; have Q1 := hid (Q1.out.ext he64); have Q2 := hid (Q2.out.ext he64); have Q3 := hid (Q3.out.ext he64); have S62 := hid (S62.out.ext he64); have THL := hid (THL.out.ext he64); have GR1 := hid (GR1.out.ext he64); have GR2 := hid (GR2.out.ext he64); have GR3 := hid (GR3.out.ext he64); have MR1 := hid (MR1.out.ext he64); have MR2 := hid (MR2.out.ext he64); have MR3 := hid (MR3.out.ext he64))
   | (go_at_call 65; refine (eq65_same GR3.out MR3.out v3).mono ?_; rintro e w65 ⟨rfl, he65⟩; have E := hid (E.out.trans he65); have kG := (BG.ext E.out).cell; have kGl := (BG.ext E.out).lt; have kH := (BH.ext E.out).cell; have kHl := (BH.ext E.out).lt; have k3 := (B3.ext E.out).cell; have k3l := (B3.ext E.out).lt; have k4 := (B4.ext E.out).cell; have k4l := (B4.ext E.out).lt; have k5 := (B5.ext E.out).cell; have k5l := (B5.ext E.out).lt; have B10 := hid (B10.out.ext he65); have k10 := B10.out.cell; have k10l := B10.out.lt; have B16 := hid (B16.out.ext he65); have k16 := B16.out.cell; have k16l := B16.out.lt; have B24 := hid (B24.out.ext he65); have k24 := B24.out.cell; have k24l := B24.out.lt; have Q1 := hid (Q1.out.ext he65); have Q2 := hid (Q2.out.ext he65); have Q3 := hid (Q3.out.ext he65); have S62 := hid (S62.out.ext he65); have THL := hid (THL.out.ext he65); have GR1 := hid (GR1.out.ext he65); have GR2 := hid (GR2.out.ext he65); have GR3 := hid (GR3.out.ext he65); have MR1 := hid (MR1.out.ext he65); have MR2 := hid (MR2.out.ext he65); have MR3 := hid (MR3.out.ext he65)))
  have hlz : w5.heap.size ≤ l1 ∧ w5.heap.size ≤ l2 ∧ w5.heap.size ≤ l3 := by omega
  clear kG kGl kH kHl k3 k3l k4 k4l k5 k5l k10 k10l k24 k24l
  go_upto_region 23 with ((with_reducible refine wpList_here ⟨_, .call { callee := .builtin .clear, args := #[_], argTypes := #[22] }, _, _, _, _⟩ ?_); refine wpList_clear_clr rfl _ 22 rfl el22 (z := .agg #[.int .i64 0, .int .i64 0, .int .i64 0]) el22z rfl rfl Q1.out PQ1.out ?_; intro w31 hx31 ho31)
  have E := hid (hx31 w5 E.out hlz.1)
  have b16 := B16.out
  unfold Blk at b16
  rw [← ho31 _ (.inr (.inr (Nat.le_refl _)))] at b16
  have B16 : Hid (Blk w31 w59.heap.size 26 _) := hid b16
  have Q2 := hid (Q2.out.sameR ho31 (by omega))
  have Q3 := hid (Q3.out.sameR ho31 (by omega))
  clear k16 k16l b16 hx31 ho31
  have k16 := B16.out.cell
  have k16l := B16.out.lt
  go_upto_region 24 with ((with_reducible refine wpList_here ⟨_, .call { callee := .builtin .clear, args := #[_], argTypes := #[23] }, _, _, _, _⟩ ?_); refine wpList_clear_clr rfl _ 23 rfl el23 (z := .agg #[.int .i64 0, .int .i64 0]) el23z rfl rfl Q2.out PQ2.out ?_; intro w32 hx32 ho32)
  have E := hid (hx32 w5 E.out hlz.2.1)
  have b16 := B16.out
  unfold Blk at b16
  rw [← ho32 _ (.inr (.inr (Nat.le_refl _)))] at b16
  have B16 : Hid (Blk w32 w59.heap.size 26 _) := hid b16
  have Q3 := hid (Q3.out.sameR ho32 (by omega))
  clear k16 k16l b16 hx32 ho32
  have k16 := B16.out.cell
  have k16l := B16.out.lt
  go_upto_region 25 with ((with_reducible refine wpList_here ⟨_, .call { callee := .builtin .clear, args := #[_], argTypes := #[24] }, _, _, _, _⟩ ?_); refine wpList_clear_clr rfl _ 24 rfl el24 (z := .agg #[.int .i64 0, .int .i64 0, .int .i64 0]) el24z rfl rfl Q3.out PQ3.out ?_; intro w33 hx33 ho33)
  have E := hid (hx33 w5 E.out hlz.2.2)
  have b16 := B16.out
  unfold Blk at b16
  rw [← ho33 _ (.inr (.inr (Nat.le_refl _)))] at b16
  have B16 : Hid (Blk w33 w59.heap.size 26 _) := hid b16
  clear k16 k16l b16 hx33 ho33
  have k16 := B16.out.cell
  have k16l := B16.out.lt
  have kG := (BG.ext E.out).cell
  have kGl := (BG.ext E.out).lt
  have k3 := (B3.ext E.out).cell
  have k3l := (B3.ext E.out).lt
  go_wp2_with (first
   | (go_at_call 28; refine (same28 (OWN.out.ext E.out) (HV.out.ext (E5.out.trans E.out)) h1 h2 h3 rfl rfl rfl (eqB_refl _ _ _) (eqB_refl _ _ _) (eqB_refl _ _ _)).mono ?_; rintro e w41 ⟨rfl, he41⟩; have E := hid (E.out.trans he41))
   | (go_at_call 18; refine (awake_any _).mono ?_; rintro e w42 ⟨rfl, he42⟩; have E := hid (E.out.trans he42)))
  go_ret
  exact ⟨rfl, E5.out.trans E.out⟩
 have hc := Classical.not_not.1 hc0
 clear hc0
 have hx := Ok.of_chk hc
 have HC := hid hc
 have hcn := hx.cn
 rw [hc]
 go_upto_region 11 with (go_at_call 54; refine (check_any (OWN.out.ext E.out) h1 h2 h3).mono ?_; rintro e w54 ⟨rfl, he54⟩; rw [HC.out]; have E := hid (E.out.trans he54); have kG := (BG.ext E.out).cell; have kGl := (BG.ext E.out).lt; have kH := (BH.ext E.out).cell; have kHl := (BH.ext E.out).lt; have k3 := (B3.ext E.out).cell; have k3l := (B3.ext E.out).lt; have k4 := (B4.ext E.out).cell; have k4l := (B4.ext E.out).lt; have k5 := (B5.ext E.out).cell; have k5l := (B5.ext E.out).lt; have B10 := hid (B10.out.ext he54); have k10 := B10.out.cell; have k10l := B10.out.lt; have MORE := hid (MORE.out.ext he54))
 clear hc
 by_cases hst : R.right x a b = 0
 ·have HR := hid hst
  have HST := hid (show P.strE x a b = 0 by rw [strE_right7 HC.out]; exact hst)
  obtain ⟨p, q, rfl, rfl, hpq, hqn⟩ := str_nat HC.out HST.out
  clear hst
  have BK := hid (P.books_eq hx (Nat.le_of_lt hpq) hqn)
  have GP := hid (P.gap_eq hx (Nat.le_of_lt hpq) hqn)
  have THE := hid (there_eq hx hpq hqn)
  have THLN := there_len hx p q
  go_upto_region 13 with (go_at_call 55; refine (right_any (by omega) (THR.out.ext E.out) (p : Int) (q : Int)).mono ?_; rintro e w55 ⟨rfl, he55⟩; rw [HR.out]; have E := hid (E.out.trans he55); have kG := (BG.ext E.out).cell; have kGl := (BG.ext E.out).lt; have kH := (BH.ext E.out).cell; have kHl := (BH.ext E.out).lt; have k3 := (B3.ext E.out).cell; have k3l := (B3.ext E.out).lt; have k4 := (B4.ext E.out).cell; have k4l := (B4.ext E.out).lt; have k5 := (B5.ext E.out).cell; have k5l := (B5.ext E.out).lt; have B10 := hid (B10.out.ext he55); have k10 := B10.out.cell; have k10l := B10.out.lt; have MORE := hid (MORE.out.ext he55))
  go_upto_region 14 with fail
  refine wp_later fun w9 hw9 => ?_
  obtain ⟨E9, b15⟩ := hw9.newB
  clear hw9
  have B15 := hid b15
  clear b15
  have E := hid (E.out.trans E9)
  have kG := (BG.ext E.out).cell
  have kGl := (BG.ext E.out).lt
  have kH := (BH.ext E.out).cell
  have kHl := (BH.ext E.out).lt
  have k3 := (B3.ext E.out).cell
  have k3l := (B3.ext E.out).lt
  have k4 := (B4.ext E.out).cell
  have k4l := (B4.ext E.out).lt
  have k5 := (B5.ext E.out).cell
  have k5l := (B5.ext E.out).lt
  have B10 := hid (B10.out.ext E9)
  have k10 := B10.out.cell
  have k10l := B10.out.lt
  have MORE := hid (MORE.out.ext E9)
  have k15 := B15.out.cell
  have k15l := B15.out.lt
  refine wp_region_mono 12 [(2, fun v _ _ _ => v = .int .i64 (R.booked x p q)), (5, fun v _ _ _ => v = .int .i64 (R.gap x p q)), (8, fun v _ _ w => SlR w 1 v (rows1 (R.there x p q)))] (by kernel_rfl) (by kernel_rfl) (by kernel_rfl) ?hS ?_
  case hS =>
   simp only [List.forall_mem_cons]
   exact ⟨fun _ _ _ _ _ _ h => h, fun _ _ _ _ _ _ h => h, fun _ _ _ _ _ e h => SlR.ext h e, fun _ h => by simp at h⟩
  simp only [List.take_succ_cons, List.drop_succ_cons, List.take_nil, List.drop_nil]
  refine wpM_plain rfl ?_
  go_big_quiet_step (fail)
  refine wpQuiet_nil ?_
  refine wpM_plain rfl ?_
  go_big_quiet_step (fail)
  refine wpQuiet_nil ?_
  refine wpM_spec _ rfl rfl (fun w2 hw2 _ => ?_) (fun va la ha ga1 ga2 _ hva => ?_)
  ·go_wp2_with (go_at_call 56; refine (booked_any hx (THR.out.ext (E.out.trans hw2)) p q (by omega) hqn).mono ?_; rintro e w6 ⟨rfl, he6⟩)
   exact ⟨_, _, _, rfl, he6, Nat.le_refl _, he6.size, Nat.le_refl _, rfl⟩
  obtain ⟨_, rfl⟩ := hva
  simp only [Act.put, List.setIfInBounds_toArray, List.set_cons_succ, List.set_cons_zero]
  refine wpM_plain rfl ?_
  go_big_quiet_step (fail)
  refine wpQuiet_nil ?_
  refine wpM_plain rfl ?_
  go_big_quiet_step (fail)
  refine wpQuiet_nil ?_
  refine wpM_spec _ rfl rfl (fun w2 hw2 _ => ?_) (fun va la ha ga1 ga2 _ hva => ?_)
  ·go_wp2_with (go_at_call 57; refine (gap_any hx (THR.out.ext (E.out.trans hw2)) p q (by omega) hqn).mono ?_; rintro e w6 ⟨rfl, he6⟩)
   exact ⟨_, _, _, rfl, he6, Nat.le_refl _, he6.size, Nat.le_refl _, rfl⟩
  obtain ⟨_, rfl⟩ := hva
  simp only [Act.put, List.setIfInBounds_toArray, List.set_cons_succ, List.set_cons_zero]
  refine wpM_plain rfl ?_
  go_big_quiet_step (fail)
  refine wpQuiet_nil ?_
  refine wpM_plain rfl ?_
  go_big_quiet_step (fail)
  refine wpQuiet_nil ?_
  refine wpM_spec _ rfl rfl (fun w2 hw2 _ => ?_) (fun vt lt ht gt1 gt2 _ _ => ?_)
  ·go_wp2_with (go_at_call 58; refine (there_any hx (THR.out.ext (E.out.trans hw2)) p q (Nat.le_of_lt hpq) hqn).mono ?_; rintro e w6 ⟨u, rfl, he6, hu⟩)
   exact ⟨_, _, _, rfl, he6, Nat.le_refl _, he6.size, Nat.le_refl _, hu.slR⟩
  simp only [Act.put, List.setIfInBounds_toArray, List.set_cons_succ, List.set_cons_zero]
  refine wpM_plain rfl ?_
  go_big_quiet_step (fail)
  refine wpQuiet_nil ?_
  refine wpM_plain rfl ?_
  go_big_quiet_step (fail)
  refine wpQuiet_nil ?_
  refine wpM_plain rfl ?_
  go_big_quiet_step (fail)
  refine wpQuiet_nil ?_
  refine wpM_nil fun w14 hw14 hF => ?_
  simp only [List.forall_mem_cons] at hF
  obtain ⟨⟨-, t1⟩, -⟩ := hF
  have THL := hid t1
  clear t1
  have E := hid (E.out.trans hw14)
  have kG := (BG.ext E.out).cell
  have kGl := (BG.ext E.out).lt
  have kH := (BH.ext E.out).cell
  have kHl := (BH.ext E.out).lt
  have k3 := (B3.ext E.out).cell
  have k3l := (B3.ext E.out).lt
  have k4 := (B4.ext E.out).cell
  have k4l := (B4.ext E.out).lt
  have k5 := (B5.ext E.out).cell
  have k5l := (B5.ext E.out).lt
  have B10 := hid (B10.out.ext hw14)
  have k10 := B10.out.cell
  have k10l := B10.out.lt
  have MORE := hid (MORE.out.ext hw14)
  go_upto_region 15 with fail
  have hzb := E.out.size
  go_upto_region 16 with (go_at_call 59; refine (add59 (OWR.out.ext E.out) h1 h2 h3 h lo hi).mono ?_; rintro e w59 ⟨u59, rfl, he59, hu59⟩; have E := hid (E.out.trans he59); have kG := (BG.ext E.out).cell; have kGl := (BG.ext E.out).lt; have kH := (BH.ext E.out).cell; have kHl := (BH.ext E.out).lt; have k3 := (B3.ext E.out).cell; have k3l := (B3.ext E.out).lt; have k4 := (B4.ext E.out).cell; have k4l := (B4.ext E.out).lt; have k5 := (B5.ext E.out).cell; have k5l := (B5.ext E.out).lt; have B10 := hid (B10.out.ext he59); have k10 := B10.out.cell; have k10l := B10.out.lt; have MORE := hid (MORE.out.ext he59); have THL := hid (THL.out.ext he59); have hz59 := E.out.size; rw [HY.out] at hu59; have OW := hid hu59.isW; obtain ⟨O1, o1, O2, o2, O3, o3, l1, l2, l3, i1, i2, i3, rfl, q1, q2, q3, p1, p2, p3, d1, d2, d3⟩ := hu59; have Q1 := hid q1; have Q2 := hid q2; have Q3 := hid q3; have PQ1 := hid q1; have PQ2 := hid q2; have PQ3 := hid q3; clear q1 q2 q3)
  refine wp_later fun w9 hw9 => ?_
  obtain ⟨E9, b16⟩ := hw9.newB
  clear hw9
  have B16 := hid b16
  clear b16
  have E := hid (E.out.trans E9)
  have kG := (BG.ext E.out).cell
  have kGl := (BG.ext E.out).lt
  have kH := (BH.ext E.out).cell
  have kHl := (BH.ext E.out).lt
  have k3 := (B3.ext E.out).cell
  have k3l := (B3.ext E.out).lt
  have k4 := (B4.ext E.out).cell
  have k4l := (B4.ext E.out).lt
  have k5 := (B5.ext E.out).cell
  have k5l := (B5.ext E.out).lt
  have B10 := hid (B10.out.ext E9)
  have k10 := B10.out.cell
  have k10l := B10.out.lt
  have MORE := hid (MORE.out.ext E9)
  have THL := hid (THL.out.ext E9)
  have OW := hid (OW.out.ext E9)
  have Q1 := hid (Q1.out.ext E9)
  have Q2 := hid (Q2.out.ext E9)
  have Q3 := hid (Q3.out.ext E9)
  have k16 := B16.out.cell
  have k16l := B16.out.lt
  go_upto_region 19 with (first
   | (go_at_call 60; refine (bookedX_ok (OWN.out.ext E.out) h1 h2 h3 HC.out hpq hqn HST.out).mono ?_; rintro e w60 ⟨rfl, he60⟩; rw [BK.out]; have E := hid (E.out.trans he60); have kG := (BG.ext E.out).cell; have kGl := (BG.ext E.out).lt; have kH := (BH.ext E.out).cell; have kHl := (BH.ext E.out).lt; have k3 := (B3.ext E.out).cell; have k3l := (B3.ext E.out).lt; have k4 := (B4.ext E.out).cell; have k4l := (B4.ext E.out).lt; have k5 := (B5.ext E.out).cell; have k5l := (B5.ext E.out).lt; have B10 := hid (B10.out.ext he60); have k10 := B10.out.cell; have k10l := B10.out.lt; have B16 := hid (B16.out.ext he60); have k16 := B16.out.cell; have k16l := B16.out.lt; have MORE := hid (MORE.out.ext he60); have THL := hid (THL.out.ext he60); have OW := hid (OW.out.ext he60); have Q1 := hid (Q1.out.ext he60); have Q2 := hid (Q2.out.ext he60); have Q3 := hid (Q3.out.ext he60))
   | (go_at_call 61; refine (gapX_ok (OWN.out.ext E.out) h1 h2 h3 HC.out hpq hqn HST.out).mono ?_; rintro e w61 ⟨rfl, he61⟩; rw [GP.out]; have E := hid (E.out.trans he61); have kG := (BG.ext E.out).cell; have kGl := (BG.ext E.out).lt; have kH := (BH.ext E.out).cell; have kHl := (BH.ext E.out).lt; have k3 := (B3.ext E.out).cell; have k3l := (B3.ext E.out).lt; have k4 := (B4.ext E.out).cell; have k4l := (B4.ext E.out).lt; have k5 := (B5.ext E.out).cell; have k5l := (B5.ext E.out).lt; have B10 := hid (B10.out.ext he61); have k10 := B10.out.cell; have k10l := B10.out.lt; have B16 := hid (B16.out.ext he61); have k16 := B16.out.cell; have k16l := B16.out.lt; have MORE := hid (MORE.out.ext he61); have THL := hid (THL.out.ext he61); have OW := hid (OW.out.ext he61); have Q1 := hid (Q1.out.ext he61); have Q2 := hid (Q2.out.ext he61); have Q3 := hid (Q3.out.ext he61))
   | (go_at_call 62; refine (thereX_ok (OWN.out.ext E.out) h1 h2 h3 HC.out hpq hqn HST.out).mono ?_; rintro e w62 ⟨u62, rfl, he62, s62⟩; have E := hid (E.out.trans he62); have kG := (BG.ext E.out).cell; have kGl := (BG.ext E.out).lt; have kH := (BH.ext E.out).cell; have kHl := (BH.ext E.out).lt; have k3 := (B3.ext E.out).cell; have k3l := (B3.ext E.out).lt; have k4 := (B4.ext E.out).cell; have k4l := (B4.ext E.out).lt; have k5 := (B5.ext E.out).cell; have k5l := (B5.ext E.out).lt; have B10 := hid (B10.out.ext he62); have k10 := B10.out.cell; have k10l := B10.out.lt; have B16 := hid (B16.out.ext he62); have k16 := B16.out.cell; have k16l := B16.out.lt; have MORE := hid (MORE.out.ext he62); have THL := hid (THL.out.ext he62); have OW := hid (OW.out.ext he62); have Q1 := hid (Q1.out.ext he62); have Q2 := hid (Q2.out.ext he62); have Q3 := hid (Q3.out.ext he62); rw [THE.out] at s62; have S62 := hid s62; clear s62))
  go_upto_region 20 with (go_at_call 20; refine (theirs20 (OW.out) v1 v2 v3).mono ?_; rintro e w20 ⟨u20, rfl, he20, hu20⟩; have E := hid (E.out.trans he20); have kG := (BG.ext E.out).cell; have kGl := (BG.ext E.out).lt; have kH := (BH.ext E.out).cell; have kHl := (BH.ext E.out).lt; have k3 := (B3.ext E.out).cell; have k3l := (B3.ext E.out).lt; have k4 := (B4.ext E.out).cell; have k4l := (B4.ext E.out).lt; have k5 := (B5.ext E.out).cell; have k5l := (B5.ext E.out).lt; have B10 := hid (B10.out.ext he20); have k10 := B10.out.cell; have k10l := B10.out.lt; have B16 := hid (B16.out.ext he20); have k16 := B16.out.cell; have k16l := B16.out.lt; have MORE := hid (MORE.out.ext he20); have THL := hid (THL.out.ext he20); have OW := hid (OW.out.ext he20); have Q1 := hid (Q1.out.ext he20); have Q2 := hid (Q2.out.ext he20); have Q3 := hid (Q3.out.ext he20); have S62 := hid (S62.out.ext he20); have GOT := hid hu20.isW; obtain ⟨N1, n1, N2, n2, N3, n3, rfl, -, -, -⟩ := hu20)
  refine wp_later fun w9 hw9 => ?_
  obtain ⟨E9, b24⟩ := hw9.newB
  clear hw9
  have B24 := hid b24
  clear b24
  have E := hid (E.out.trans E9)
  have kG := (BG.ext E.out).cell
  have kGl := (BG.ext E.out).lt
  have kH := (BH.ext E.out).cell
  have kHl := (BH.ext E.out).lt
  have k3 := (B3.ext E.out).cell
  have k3l := (B3.ext E.out).lt
  have k4 := (B4.ext E.out).cell
  have k4l := (B4.ext E.out).lt
  have k5 := (B5.ext E.out).cell
  have k5l := (B5.ext E.out).lt
  have B10 := hid (B10.out.ext E9)
  have k10 := B10.out.cell
  have k10l := B10.out.lt
  have B16 := hid (B16.out.ext E9)
  have k16 := B16.out.cell
  have k16l := B16.out.lt
  have MORE := hid (MORE.out.ext E9)
  have THL := hid (THL.out.ext E9)
  have OW := hid (OW.out.ext E9)
  have Q1 := hid (Q1.out.ext E9)
  have Q2 := hid (Q2.out.ext E9)
  have Q3 := hid (Q3.out.ext E9)
  have S62 := hid (S62.out.ext E9)
  have GOT := hid (GOT.out.ext E9)
  have k24 := B24.out.cell
  have k24l := B24.out.lt
  obtain ⟨_, _, _, _, _, _, hg0, gr1, gr2, gr3⟩ := GOT.out
  obtain ⟨_, _, _, _, _, _, hm0, mr1, mr2, mr3⟩ := MORE.out
  simp only [Value.agg.injEq, Array.mk.injEq, List.cons.injEq, Value.slice.injEq, true_and, and_true] at hg0 hm0
  obtain ⟨⟨rfl, rfl⟩, ⟨rfl, rfl⟩, ⟨rfl, rfl⟩⟩ := hg0
  obtain ⟨⟨rfl, rfl⟩, ⟨rfl, rfl⟩, ⟨rfl, rfl⟩⟩ := hm0
  have GR1 := hid gr1
  have GR2 := hid gr2
  have GR3 := hid gr3
  have MR1 := hid mr1
  have MR2 := hid mr2
  have MR3 := hid mr3
  clear gr1 gr2 gr3 mr1 mr2 mr3
  go_upto_region 22 with (first
   | (go_at_call 38; refine (eq38_same7 S62.out THL.out THLN).mono ?_; rintro e w38 ⟨rfl, he38⟩; have E := hid (E.out.trans he38); have kG := (BG.ext E.out).cell; have kGl := (BG.ext E.out).lt; have kH := (BH.ext E.out).cell; have kHl := (BH.ext E.out).lt; have k3 := (B3.ext E.out).cell; have k3l := (B3.ext E.out).lt; have k4 := (B4.ext E.out).cell; have k4l := (B4.ext E.out).lt; have k5 := (B5.ext E.out).cell; have k5l := (B5.ext E.out).lt; have B10 := hid (B10.out.ext he38); have k10 := B10.out.cell; have k10l := B10.out.lt; have B16 := hid (B16.out.ext he38); have k16 := B16.out.cell; have k16l := B16.out.lt; have B24 := hid (B24.out.ext he38); have k24 := B24.out.cell; have k24l := B24.out.lt; have THL := hid (THL.out.ext he38); have Q1 := hid (Q1.out.ext he38); have Q2 := hid (Q2.out.ext he38); have Q3 := hid (Q3.out.ext he38); have S62 := hid (S62.out.ext he38); have GR1 := hid (GR1.out.ext he38); have GR2 := hid (GR2.out.ext he38); have GR3 := hid (GR3.out.ext he38); have MR1 := hid (MR1.out.ext he38); have MR2 := hid (MR2.out.ext he38); have MR3 := hid (MR3.out.ext he38))
   | (go_at_call 63; refine (eq63_same GR1.out MR1.out v1).mono ?_; rintro e w63 ⟨rfl, he63⟩; have E := hid (E.out.trans he63); have kG := (BG.ext E.out).cell; have kGl := (BG.ext E.out).lt; have kH := (BH.ext E.out).cell; have kHl := (BH.ext E.out).lt; have k3 := (B3.ext E.out).cell; have k3l := (B3.ext E.out).lt; have k4 := (B4.ext E.out).cell; have k4l := (B4.ext E.out).lt; have k5 := (B5.ext E.out).cell; have k5l := (B5.ext E.out).lt; have B10 := hid (B10.out.ext he63); have k10 := B10.out.cell; have k10l := B10.out.lt; have B16 := hid (B16.out.ext he63); have k16 := B16.out.cell; have k16l := B16.out.lt; have B24 := hid (B24.out.ext he63); have k24 := B24.out.cell; have k24l := B24.out.lt; have THL := hid (THL.out.ext he63); have Q1 := hid (Q1.out.ext he63); have Q2 := hid (Q2.out.ext he63); have Q3 := hid (Q3.out.ext he63); have S62 := hid (S62.out.ext he63); have GR1 := hid (GR1.out.ext he63); have GR2 := hid (GR2.out.ext he63); have GR3 := hid (GR3.out.ext he63); have MR1 := hid (MR1.out.ext he63); have MR2 := hid (MR2.out.ext he63); have MR3 := hid (MR3.out.ext he63))
   | (go_at_call 64; refine (eq64_same GR2.out MR2.out v2).mono ?_; rintro e w64 ⟨rfl, he64⟩; have E := hid (E.out.trans he64); have kG := (BG.ext E.out).cell; have kGl := (BG.ext E.out).lt; have kH := (BH.ext E.out).cell; have kHl := (BH.ext E.out).lt; have k3 := (B3.ext E.out).cell; have k3l := (B3.ext E.out).lt; have k4 := (B4.ext E.out).cell; have k4l := (B4.ext E.out).lt; have k5 := (B5.ext E.out).cell; have k5l := (B5.ext E.out).lt; have B10 := hid (B10.out.ext he64); have k10 := B10.out.cell; have k10l := B10.out.lt; have B16 := hid (B16.out.ext he64); have k16 := B16.out.cell; have k16l := B16.out.lt; have B24 := hid (B24.out.ext he64); have k24 := B24.out.cell; have k24l := B24.out.lt; have THL := hid (THL.out.ext he64); have Q1 := hid (Q1.out.ext he64); have Q2 := hid (Q2.out.ext he64); have Q3 := hid (Q3.out.ext he64); have S62 := hid (S62.out.ext he64); have GR1 := hid (GR1.out.ext he64); have GR2 := hid (GR2.out.ext he64); have GR3 := hid (GR3.out.ext he64); have MR1 := hid (MR1.out.ext he64); have MR2 := hid (MR2.out.ext he64); have MR3 := hid (MR3.out.ext he64))
   | (go_at_call 65; refine (eq65_same GR3.out MR3.out v3).mono ?_; rintro e w65 ⟨rfl, he65⟩; have E := hid (E.out.trans he65); have kG := (BG.ext E.out).cell; have kGl := (BG.ext E.out).lt; have kH := (BH.ext E.out).cell; have kHl := (BH.ext E.out).lt; have k3 := (B3.ext E.out).cell; have k3l := (B3.ext E.out).lt; have k4 := (B4.ext E.out).cell; have k4l := (B4.ext E.out).lt; have k5 := (B5.ext E.out).cell; have k5l := (B5.ext E.out).lt; have B10 := hid (B10.out.ext he65); have k10 := B10.out.cell; have k10l := B10.out.lt; have B16 := hid (B16.out.ext he65); have k16 := B16.out.cell; have k16l := B16.out.lt; have B24 := hid (B24.out.ext he65); have k24 := B24.out.cell; have k24l := B24.out.lt; have THL := hid (THL.out.ext he65); have Q1 := hid (Q1.out.ext he65); have Q2 := hid (Q2.out.ext he65); have Q3 := hid (Q3.out.ext he65); have S62 := hid (S62.out.ext he65); have GR1 := hid (GR1.out.ext he65); have GR2 := hid (GR2.out.ext he65); have GR3 := hid (GR3.out.ext he65); have MR1 := hid (MR1.out.ext he65); have MR2 := hid (MR2.out.ext he65); have MR3 := hid (MR3.out.ext he65)))
  have hlz : w5.heap.size ≤ l1 ∧ w5.heap.size ≤ l2 ∧ w5.heap.size ≤ l3 := by omega
  clear kG kGl kH kHl k3 k3l k4 k4l k5 k5l k10 k10l k24 k24l
  go_upto_region 23 with ((with_reducible refine wpList_here ⟨_, .call { callee := .builtin .clear, args := #[_], argTypes := #[22] }, _, _, _, _⟩ ?_); refine wpList_clear_clr rfl _ 22 rfl el22 (z := .agg #[.int .i64 0, .int .i64 0, .int .i64 0]) el22z rfl rfl Q1.out PQ1.out ?_; intro w31 hx31 ho31)
  have E := hid (hx31 w5 E.out hlz.1)
  have b16 := B16.out
  unfold Blk at b16
  rw [← ho31 _ (.inr (.inr (Nat.le_refl _)))] at b16
  have B16 : Hid (Blk w31 w59.heap.size 26 _) := hid b16
  have Q2 := hid (Q2.out.sameR ho31 (by omega))
  have Q3 := hid (Q3.out.sameR ho31 (by omega))
  clear k16 k16l b16 hx31 ho31
  have k16 := B16.out.cell
  have k16l := B16.out.lt
  go_upto_region 24 with ((with_reducible refine wpList_here ⟨_, .call { callee := .builtin .clear, args := #[_], argTypes := #[23] }, _, _, _, _⟩ ?_); refine wpList_clear_clr rfl _ 23 rfl el23 (z := .agg #[.int .i64 0, .int .i64 0]) el23z rfl rfl Q2.out PQ2.out ?_; intro w32 hx32 ho32)
  have E := hid (hx32 w5 E.out hlz.2.1)
  have b16 := B16.out
  unfold Blk at b16
  rw [← ho32 _ (.inr (.inr (Nat.le_refl _)))] at b16
  have B16 : Hid (Blk w32 w59.heap.size 26 _) := hid b16
  have Q3 := hid (Q3.out.sameR ho32 (by omega))
  clear k16 k16l b16 hx32 ho32
  have k16 := B16.out.cell
  have k16l := B16.out.lt
  go_upto_region 25 with ((with_reducible refine wpList_here ⟨_, .call { callee := .builtin .clear, args := #[_], argTypes := #[24] }, _, _, _, _⟩ ?_); refine wpList_clear_clr rfl _ 24 rfl el24 (z := .agg #[.int .i64 0, .int .i64 0, .int .i64 0]) el24z rfl rfl Q3.out PQ3.out ?_; intro w33 hx33 ho33)
  have E := hid (hx33 w5 E.out hlz.2.2)
  have b16 := B16.out
  unfold Blk at b16
  rw [← ho33 _ (.inr (.inr (Nat.le_refl _)))] at b16
  have B16 : Hid (Blk w33 w59.heap.size 26 _) := hid b16
  clear k16 k16l b16 hx33 ho33
  have k16 := B16.out.cell
  have k16l := B16.out.lt
  have kG := (BG.ext E.out).cell
  have kGl := (BG.ext E.out).lt
  have k3 := (B3.ext E.out).cell
  have k3l := (B3.ext E.out).lt
  go_wp2_with (first
   | (go_at_call 28; refine (same28 (OWN.out.ext E.out) (HV.out.ext (E5.out.trans E.out)) h1 h2 h3 rfl rfl rfl (eqB_refl _ _ _) (eqB_refl _ _ _) (eqB_refl _ _ _)).mono ?_; rintro e w41 ⟨rfl, he41⟩; have E := hid (E.out.trans he41))
   | (go_at_call 18; refine (awake_any _).mono ?_; rintro e w42 ⟨rfl, he42⟩; have E := hid (E.out.trans he42)))
  go_ret
  exact ⟨rfl, E5.out.trans E.out⟩
 ·have SE := hid (strE_right7 HC.out a b)
  have HST := hid (show P.strE x a b ≠ 0 by rw [SE.out]; exact hst)
  have hr0 : (R.right x a b == 0) = false := by simpa using hst
  clear hst
  go_upto_region 15 with (go_at_call 55; refine (right_any (by omega) (THR.out.ext E.out) a b).mono ?_; rintro e w55 ⟨rfl, he55⟩; have E := hid (E.out.trans he55); have kG := (BG.ext E.out).cell; have kGl := (BG.ext E.out).lt; have kH := (BH.ext E.out).cell; have kHl := (BH.ext E.out).lt; have k3 := (B3.ext E.out).cell; have k3l := (B3.ext E.out).lt; have k4 := (B4.ext E.out).cell; have k4l := (B4.ext E.out).lt; have k5 := (B5.ext E.out).cell; have k5l := (B5.ext E.out).lt; have B10 := hid (B10.out.ext he55); have k10 := B10.out.cell; have k10l := B10.out.lt; have MORE := hid (MORE.out.ext he55))
  have hzb := E.out.size
  go_upto_region 16 with (go_at_call 59; refine (add59 (OWR.out.ext E.out) h1 h2 h3 h lo hi).mono ?_; rintro e w59 ⟨u59, rfl, he59, hu59⟩; have E := hid (E.out.trans he59); have kG := (BG.ext E.out).cell; have kGl := (BG.ext E.out).lt; have kH := (BH.ext E.out).cell; have kHl := (BH.ext E.out).lt; have k3 := (B3.ext E.out).cell; have k3l := (B3.ext E.out).lt; have k4 := (B4.ext E.out).cell; have k4l := (B4.ext E.out).lt; have k5 := (B5.ext E.out).cell; have k5l := (B5.ext E.out).lt; have B10 := hid (B10.out.ext he59); have k10 := B10.out.cell; have k10l := B10.out.lt; have MORE := hid (MORE.out.ext he59); have hz59 := E.out.size; rw [HY.out] at hu59; have OW := hid hu59.isW; obtain ⟨O1, o1, O2, o2, O3, o3, l1, l2, l3, i1, i2, i3, rfl, q1, q2, q3, p1, p2, p3, d1, d2, d3⟩ := hu59; have Q1 := hid q1; have Q2 := hid q2; have Q3 := hid q3; have PQ1 := hid q1; have PQ2 := hid q2; have PQ3 := hid q3; clear q1 q2 q3)
  refine wp_later fun w9 hw9 => ?_
  obtain ⟨E9, b16⟩ := hw9.newB
  clear hw9
  have B16 := hid b16
  clear b16
  have E := hid (E.out.trans E9)
  have kG := (BG.ext E.out).cell
  have kGl := (BG.ext E.out).lt
  have kH := (BH.ext E.out).cell
  have kHl := (BH.ext E.out).lt
  have k3 := (B3.ext E.out).cell
  have k3l := (B3.ext E.out).lt
  have k4 := (B4.ext E.out).cell
  have k4l := (B4.ext E.out).lt
  have k5 := (B5.ext E.out).cell
  have k5l := (B5.ext E.out).lt
  have B10 := hid (B10.out.ext E9)
  have k10 := B10.out.cell
  have k10l := B10.out.lt
  have MORE := hid (MORE.out.ext E9)
  have OW := hid (OW.out.ext E9)
  have Q1 := hid (Q1.out.ext E9)
  have Q2 := hid (Q2.out.ext E9)
  have Q3 := hid (Q3.out.ext E9)
  have k16 := B16.out.cell
  have k16l := B16.out.lt
  go_upto_region 19 with (first
   | (go_at_call 60; refine (bookedX_err (OWN.out.ext E.out) h1 h2 h3 a b HST.out).mono ?_; rintro e w60 ⟨rfl, he60⟩; rw [SE.out]; have E := hid (E.out.trans he60); have kG := (BG.ext E.out).cell; have kGl := (BG.ext E.out).lt; have kH := (BH.ext E.out).cell; have kHl := (BH.ext E.out).lt; have k3 := (B3.ext E.out).cell; have k3l := (B3.ext E.out).lt; have k4 := (B4.ext E.out).cell; have k4l := (B4.ext E.out).lt; have k5 := (B5.ext E.out).cell; have k5l := (B5.ext E.out).lt; have B10 := hid (B10.out.ext he60); have k10 := B10.out.cell; have k10l := B10.out.lt; have B16 := hid (B16.out.ext he60); have k16 := B16.out.cell; have k16l := B16.out.lt; have MORE := hid (MORE.out.ext he60); have OW := hid (OW.out.ext he60); have Q1 := hid (Q1.out.ext he60); have Q2 := hid (Q2.out.ext he60); have Q3 := hid (Q3.out.ext he60))
   | (go_at_call 61; refine (gapX_err (OWN.out.ext E.out) h1 h2 h3 a b HST.out).mono ?_; rintro e w61 ⟨rfl, he61⟩; rw [SE.out]; have E := hid (E.out.trans he61); have kG := (BG.ext E.out).cell; have kGl := (BG.ext E.out).lt; have kH := (BH.ext E.out).cell; have kHl := (BH.ext E.out).lt; have k3 := (B3.ext E.out).cell; have k3l := (B3.ext E.out).lt; have k4 := (B4.ext E.out).cell; have k4l := (B4.ext E.out).lt; have k5 := (B5.ext E.out).cell; have k5l := (B5.ext E.out).lt; have B10 := hid (B10.out.ext he61); have k10 := B10.out.cell; have k10l := B10.out.lt; have B16 := hid (B16.out.ext he61); have k16 := B16.out.cell; have k16l := B16.out.lt; have MORE := hid (MORE.out.ext he61); have OW := hid (OW.out.ext he61); have Q1 := hid (Q1.out.ext he61); have Q2 := hid (Q2.out.ext he61); have Q3 := hid (Q3.out.ext he61))
   | (go_at_call 62; refine (thereX_err (OWN.out.ext E.out) h1 h2 h3 a b HST.out).mono ?_; rintro e w62 ⟨rfl, he62⟩; rw [SE.out]; have E := hid (E.out.trans he62); have kG := (BG.ext E.out).cell; have kGl := (BG.ext E.out).lt; have kH := (BH.ext E.out).cell; have kHl := (BH.ext E.out).lt; have k3 := (B3.ext E.out).cell; have k3l := (B3.ext E.out).lt; have k4 := (B4.ext E.out).cell; have k4l := (B4.ext E.out).lt; have k5 := (B5.ext E.out).cell; have k5l := (B5.ext E.out).lt; have B10 := hid (B10.out.ext he62); have k10 := B10.out.cell; have k10l := B10.out.lt; have B16 := hid (B16.out.ext he62); have k16 := B16.out.cell; have k16l := B16.out.lt; have MORE := hid (MORE.out.ext he62); have OW := hid (OW.out.ext he62); have Q1 := hid (Q1.out.ext he62); have Q2 := hid (Q2.out.ext he62); have Q3 := hid (Q3.out.ext he62); have S62 := hid (slR_nil7 w62); have THL := hid (slR_nil7 w62)))
  go_upto_region 20 with (go_at_call 20; refine (theirs20 (OW.out) v1 v2 v3).mono ?_; rintro e w20 ⟨u20, rfl, he20, hu20⟩; have E := hid (E.out.trans he20); have kG := (BG.ext E.out).cell; have kGl := (BG.ext E.out).lt; have kH := (BH.ext E.out).cell; have kHl := (BH.ext E.out).lt; have k3 := (B3.ext E.out).cell; have k3l := (B3.ext E.out).lt; have k4 := (B4.ext E.out).cell; have k4l := (B4.ext E.out).lt; have k5 := (B5.ext E.out).cell; have k5l := (B5.ext E.out).lt; have B10 := hid (B10.out.ext he20); have k10 := B10.out.cell; have k10l := B10.out.lt; have B16 := hid (B16.out.ext he20); have k16 := B16.out.cell; have k16l := B16.out.lt; have MORE := hid (MORE.out.ext he20); have OW := hid (OW.out.ext he20); have Q1 := hid (Q1.out.ext he20); have Q2 := hid (Q2.out.ext he20); have Q3 := hid (Q3.out.ext he20); have S62 := hid (S62.out.ext he20); have THL := hid (THL.out.ext he20); have GOT := hid hu20.isW; obtain ⟨N1, n1, N2, n2, N3, n3, rfl, -, -, -⟩ := hu20)
  refine wp_later fun w9 hw9 => ?_
  obtain ⟨E9, b24⟩ := hw9.newB
  clear hw9
  have B24 := hid b24
  clear b24
  have E := hid (E.out.trans E9)
  have kG := (BG.ext E.out).cell
  have kGl := (BG.ext E.out).lt
  have kH := (BH.ext E.out).cell
  have kHl := (BH.ext E.out).lt
  have k3 := (B3.ext E.out).cell
  have k3l := (B3.ext E.out).lt
  have k4 := (B4.ext E.out).cell
  have k4l := (B4.ext E.out).lt
  have k5 := (B5.ext E.out).cell
  have k5l := (B5.ext E.out).lt
  have B10 := hid (B10.out.ext E9)
  have k10 := B10.out.cell
  have k10l := B10.out.lt
  have B16 := hid (B16.out.ext E9)
  have k16 := B16.out.cell
  have k16l := B16.out.lt
  have MORE := hid (MORE.out.ext E9)
  have OW := hid (OW.out.ext E9)
  have Q1 := hid (Q1.out.ext E9)
  have Q2 := hid (Q2.out.ext E9)
  have Q3 := hid (Q3.out.ext E9)
  have S62 := hid (S62.out.ext E9)
  have THL := hid (THL.out.ext E9)
  have GOT := hid (GOT.out.ext E9)
  have k24 := B24.out.cell
  have k24l := B24.out.lt
  obtain ⟨_, _, _, _, _, _, hg0, gr1, gr2, gr3⟩ := GOT.out
  obtain ⟨_, _, _, _, _, _, hm0, mr1, mr2, mr3⟩ := MORE.out
  simp only [Value.agg.injEq, Array.mk.injEq, List.cons.injEq, Value.slice.injEq, true_and, and_true] at hg0 hm0
  obtain ⟨⟨rfl, rfl⟩, ⟨rfl, rfl⟩, ⟨rfl, rfl⟩⟩ := hg0
  obtain ⟨⟨rfl, rfl⟩, ⟨rfl, rfl⟩, ⟨rfl, rfl⟩⟩ := hm0
  have GR1 := hid gr1
  have GR2 := hid gr2
  have GR3 := hid gr3
  have MR1 := hid mr1
  have MR2 := hid mr2
  have MR3 := hid mr3
  clear gr1 gr2 gr3 mr1 mr2 mr3
  go_upto_region 22 with (first
   | (go_at_call 38; refine (eq38_same7 S62.out THL.out (by simp)).mono ?_; rintro e w38 ⟨rfl, he38⟩; have E := hid (E.out.trans he38); have kG := (BG.ext E.out).cell; have kGl := (BG.ext E.out).lt; have kH := (BH.ext E.out).cell; have kHl := (BH.ext E.out).lt; have k3 := (B3.ext E.out).cell; have k3l := (B3.ext E.out).lt; have k4 := (B4.ext E.out).cell; have k4l := (B4.ext E.out).lt; have k5 := (B5.ext E.out).cell; have k5l := (B5.ext E.out).lt; have B10 := hid (B10.out.ext he38); have k10 := B10.out.cell; have k10l := B10.out.lt; have B16 := hid (B16.out.ext he38); have k16 := B16.out.cell; have k16l := B16.out.lt; have B24 := hid (B24.out.ext he38); have k24 := B24.out.cell; have k24l := B24.out.lt; have Q1 := hid (Q1.out.ext he38); have Q2 := hid (Q2.out.ext he38); have Q3 := hid (Q3.out.ext he38); have S62 := hid (S62.out.ext he38); have THL := hid (THL.out.ext he38); have GR1 := hid (GR1.out.ext he38); have GR2 := hid (GR2.out.ext he38); have GR3 := hid (GR3.out.ext he38); have MR1 := hid (MR1.out.ext he38); have MR2 := hid (MR2.out.ext he38); have MR3 := hid (MR3.out.ext he38))
   | (go_at_call 63; refine (eq63_same GR1.out MR1.out v1).mono ?_; rintro e w63 ⟨rfl, he63⟩; have E := hid (E.out.trans he63); have kG := (BG.ext E.out).cell; have kGl := (BG.ext E.out).lt; have kH := (BH.ext E.out).cell; have kHl := (BH.ext E.out).lt; have k3 := (B3.ext E.out).cell; have k3l := (B3.ext E.out).lt; have k4 := (B4.ext E.out).cell; have k4l := (B4.ext E.out).lt; have k5 := (B5.ext E.out).cell; have k5l := (B5.ext E.out).lt; have B10 := hid (B10.out.ext he63); have k10 := B10.out.cell; have k10l := B10.out.lt; have B16 := hid (B16.out.ext he63); have k16 := B16.out.cell; have k16l := B16.out.lt; have B24 := hid (B24.out.ext he63); have k24 := B24.out.cell; have k24l := B24.out.lt; have Q1 := hid (Q1.out.ext he63); have Q2 := hid (Q2.out.ext he63); have Q3 := hid (Q3.out.ext he63); have S62 := hid (S62.out.ext he63); have THL := hid (THL.out.ext he63); have GR1 := hid (GR1.out.ext he63); have GR2 := hid (GR2.out.ext he63); have GR3 := hid (GR3.out.ext he63); have MR1 := hid (MR1.out.ext he63); have MR2 := hid (MR2.out.ext he63); have MR3 := hid (MR3.out.ext he63))
   | (go_at_call 64; refine (eq64_same GR2.out MR2.out v2).mono ?_; rintro e w64 ⟨rfl, he64⟩; have E := hid (E.out.trans he64); have kG := (BG.ext E.out).cell; have kGl := (BG.ext E.out).lt; have kH := (BH.ext E.out).cell; have kHl := (BH.ext E.out).lt; have k3 := (B3.ext E.out).cell; have k3l := (B3.ext E.out).lt; have k4 := (B4.ext E.out).cell; have k4l := (B4.ext E.out).lt; have k5 := (B5.ext E.out).cell; have k5l := (B5.ext E.out).lt; have B10 := hid (B10.out.ext he64); have k10 := B10.out.cell; have k10l := B10.out.lt; have B16 := hid (B16.out.ext he64); have k16 := B16.out.cell; have k16l := B16.out.lt; have B24 := hid (B24.out.ext he64); have k24 := B24.out.cell; have k24l := B24.out.lt; have Q1 := hid (Q1.out.ext he64); have Q2 := hid (Q2.out.ext he64); have Q3 := hid (Q3.out.ext he64); have S62 := hid (S62.out.ext he64); have THL := hid (THL.out.ext he64); have GR1 := hid (GR1.out.ext he64); have GR2 := hid (GR2.out.ext he64); have GR3 := hid (GR3.out.ext he64); have MR1 := hid (MR1.out.ext he64); have MR2 := hid (MR2.out.ext he64); have MR3 := hid (MR3.out.ext he64))
   | (go_at_call 65; refine (eq65_same GR3.out MR3.out v3).mono ?_; rintro e w65 ⟨rfl, he65⟩; have E := hid (E.out.trans he65); have kG := (BG.ext E.out).cell; have kGl := (BG.ext E.out).lt; have kH := (BH.ext E.out).cell; have kHl := (BH.ext E.out).lt; have k3 := (B3.ext E.out).cell; have k3l := (B3.ext E.out).lt; have k4 := (B4.ext E.out).cell; have k4l := (B4.ext E.out).lt; have k5 := (B5.ext E.out).cell; have k5l := (B5.ext E.out).lt; have B10 := hid (B10.out.ext he65); have k10 := B10.out.cell; have k10l := B10.out.lt; have B16 := hid (B16.out.ext he65); have k16 := B16.out.cell; have k16l := B16.out.lt; have B24 := hid (B24.out.ext he65); have k24 := B24.out.cell; have k24l := B24.out.lt; have Q1 := hid (Q1.out.ext he65); have Q2 := hid (Q2.out.ext he65); have Q3 := hid (Q3.out.ext he65); have S62 := hid (S62.out.ext he65); have THL := hid (THL.out.ext he65); have GR1 := hid (GR1.out.ext he65); have GR2 := hid (GR2.out.ext he65); have GR3 := hid (GR3.out.ext he65); have MR1 := hid (MR1.out.ext he65); have MR2 := hid (MR2.out.ext he65); have MR3 := hid (MR3.out.ext he65)))
  have hlz : w5.heap.size ≤ l1 ∧ w5.heap.size ≤ l2 ∧ w5.heap.size ≤ l3 := by omega
  clear kG kGl kH kHl k3 k3l k4 k4l k5 k5l k10 k10l k24 k24l
  go_upto_region 23 with ((with_reducible refine wpList_here ⟨_, .call { callee := .builtin .clear, args := #[_], argTypes := #[22] }, _, _, _, _⟩ ?_); refine wpList_clear_clr rfl _ 22 rfl el22 (z := .agg #[.int .i64 0, .int .i64 0, .int .i64 0]) el22z rfl rfl Q1.out PQ1.out ?_; intro w31 hx31 ho31)
  have E := hid (hx31 w5 E.out hlz.1)
  have b16 := B16.out
  unfold Blk at b16
  rw [← ho31 _ (.inr (.inr (Nat.le_refl _)))] at b16
  have B16 : Hid (Blk w31 w59.heap.size 26 _) := hid b16
  have Q2 := hid (Q2.out.sameR ho31 (by omega))
  have Q3 := hid (Q3.out.sameR ho31 (by omega))
  clear k16 k16l b16 hx31 ho31
  have k16 := B16.out.cell
  have k16l := B16.out.lt
  go_upto_region 24 with ((with_reducible refine wpList_here ⟨_, .call { callee := .builtin .clear, args := #[_], argTypes := #[23] }, _, _, _, _⟩ ?_); refine wpList_clear_clr rfl _ 23 rfl el23 (z := .agg #[.int .i64 0, .int .i64 0]) el23z rfl rfl Q2.out PQ2.out ?_; intro w32 hx32 ho32)
  have E := hid (hx32 w5 E.out hlz.2.1)
  have b16 := B16.out
  unfold Blk at b16
  rw [← ho32 _ (.inr (.inr (Nat.le_refl _)))] at b16
  have B16 : Hid (Blk w32 w59.heap.size 26 _) := hid b16
  have Q3 := hid (Q3.out.sameR ho32 (by omega))
  clear k16 k16l b16 hx32 ho32
  have k16 := B16.out.cell
  have k16l := B16.out.lt
  go_upto_region 25 with ((with_reducible refine wpList_here ⟨_, .call { callee := .builtin .clear, args := #[_], argTypes := #[24] }, _, _, _, _⟩ ?_); refine wpList_clear_clr rfl _ 24 rfl el24 (z := .agg #[.int .i64 0, .int .i64 0, .int .i64 0]) el24z rfl rfl Q3.out PQ3.out ?_; intro w33 hx33 ho33)
  have E := hid (hx33 w5 E.out hlz.2.2)
  have b16 := B16.out
  unfold Blk at b16
  rw [← ho33 _ (.inr (.inr (Nat.le_refl _)))] at b16
  have B16 : Hid (Blk w33 w59.heap.size 26 _) := hid b16
  clear k16 k16l b16 hx33 ho33
  have k16 := B16.out.cell
  have k16l := B16.out.lt
  have kG := (BG.ext E.out).cell
  have kGl := (BG.ext E.out).lt
  have k3 := (B3.ext E.out).cell
  have k3l := (B3.ext E.out).lt
  go_wp2_with (first
   | (go_at_call 28; refine (same28 (OWN.out.ext E.out) (HV.out.ext (E5.out.trans E.out)) h1 h2 h3 rfl rfl rfl (eqB_refl _ _ _) (eqB_refl _ _ _) (eqB_refl _ _ _)).mono ?_; rintro e w41 ⟨rfl, he41⟩; have E := hid (E.out.trans he41))
   | (go_at_call 18; refine (awake_any _).mono ?_; rintro e w42 ⟨rfl, he42⟩; have E := hid (E.out.trans he42)))
  go_ret
  exact ⟨rfl, E5.out.trans E.out⟩
end Go.Proofs.YtkhjmedfhobebaaGreat
