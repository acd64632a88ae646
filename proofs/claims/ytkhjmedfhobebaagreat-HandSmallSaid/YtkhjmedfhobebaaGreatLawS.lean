/- Walk of the law of short stretches: for every watch and every count it returns true. No condition. -/
import Derived.Test.YtkhjmedfhobebaaGreatLawB
import Derived.Test.YtkhjmedfhobebaaGreatLawD
import Derived.Test.YtkhjmedfhobebaaGreatDoQ
import Derived.Test.YtkhjmedfhobebaaGreatRefX
import Derived.Test.YtkhjmedfhobebaaGreatRefG
import Derived.Test.YtkhjmedfhobebaaGreatMathC
namespace Go.Proofs.YtkhjmedfhobebaaGreat
open Go.RowKit HandSpec
set_option maxHeartbeats 3200000
set_option maxRecDepth 100000
theorem toldE_chk6 {x : WD} {b : Bool} (h : P.chk x ≠ 0) : P.toldE x b = P.chk x := by unfold P.toldE; rw [if_pos h]
theorem toldE_bad6 {x : WD} (h : P.chk x = 0) : P.toldE x true = 1 := by unfold P.toldE; rw [if_neg (by simpa using h)]; rfl
theorem toldE_cl6 {x : WD} (h : P.chk x = 0) : P.toldE x false = if (R.clashes x).isSome then 7 else 0 := by unfold P.toldE; rw [if_neg (by simpa using h)]; rfl
theorem eq52_same {w : World} {u v : Value} {l : List (Nat × Nat)} (hu : SlR w 2 u (rows2 l)) (hv : SlR w 2 v (rows2 l)) (hl : l.length ≤ 1000) :
  Calls Tryz.prog 52 #[u, v] w fun e w' => e = .returned (.bool true) ∧ Ext w w' := by
 obtain ⟨A, q, rfl, hr⟩ := hu
 obtain ⟨B, r, rfl, hs⟩ := hv
 rw [rows2_length] at hr hs ⊢
 have h := eq52 (cap := q) (cap' := r) hr hs hl hl
 rw [eqB_refl] at h
 exact h
theorem slR_nil2 (w : World) : SlR w 2 (.slice none 0 0) (rows2 []) := ⟨none, 0, rfl, Rd.nil⟩
theorem parts_same {w : World} {u : Value} {l : List (Nat × Nat)} (hu : SlR w 2 u (rows2 l)) (hl : l.length ≤ 1000) :
  Calls Tryz.prog 30 #[u] w fun e w' => ∃ v, e = .returned v ∧ Ext w w' ∧ SlR w' 2 v (rows2 l) := by
 obtain ⟨A, q, rfl, hr⟩ := hu
 refine (parts30v (cap := q) hr (by rw [rows2_length]; exact hl)).mono ?_
 rintro e w' ⟨v, rfl, he, D, r, rfl, hd⟩
 exact ⟨_, rfl, he, D, r, rfl, hd⟩
/-- A new list of stretches of the reference. -/
def Ls2 (l : List (Nat × Nat)) : MSpec := fun v lo _ w => OwnR w lo 65 2 v (rows2 l)
theorem len_short {x : WD} (hx : Ok x) : (R.short x).length ≤ 1000 := Nat.le_trans (short_len hx) (by omega)
theorem len_small {x : WD} (hx : Ok x) : (R.smallest x).length ≤ 1000 := Nat.le_trans (smallest_len hx) (by omega)
theorem len_apart (x : WD) : (R.apart x).length ≤ 1000 := by
 have := R.ap_length x (R.smallest x) (2 ^ (R.smallest x).length)
 unfold R.apart
 rw [List.length_map]; omega
theorem law6 {x : WD} {w : World} {v : Value} (hv : IsW w v x) (which : Int) :
  Calls Tryz.prog 6 #[v, .int .i64 which] w fun e w' => e = .returned (.bool true) ∧ Ext w w' := by
 by_cases hb : greatB x = true
 ·have HV := hid hv
  obtain ⟨A1, c1, A2, c2, A3, c3, rfl, r1, r2, r3⟩ := hv
  clear r1 r2 r3
  have HB := hid hb
  clear hb
  go_enter Tryz.func6, Tryz.ntmps6
  go_wp2_with (first
   | (go_at_call 31; refine (great31 (HV.out.ext (Ext.alloc (Ext.refl _) _))).mono ?_; rintro e wg ⟨rfl, heg⟩; rw [HB.out])
   | (go_at_call 18; refine (awake_any _).mono ?_; rintro e w10 ⟨rfl, he10⟩))
  go_ret
  exact ⟨rfl, (((Ext.refl _).alloc _).trans heg).trans he10⟩
 have hgr : greatB x = false := by simpa using hb
 have h1 : x.cn ≤ 1000 := by simp [greatB] at hgr; omega
 have h2 : x.bn ≤ 1000 := by simp [greatB] at hgr; omega
 have h3 : x.sn ≤ 1000 := by simp [greatB] at hgr; omega
 have HV := hid hv
 have HB := hid hgr
 clear hb hgr
 obtain ⟨A1, c1, A2, c2, A3, c3, rfl, r1, r2, r3⟩ := hv
 clear r1 r2 r3
 go_enter Tryz.func6, Tryz.ntmps6
 go_upto_region 3 with (go_at_call 31; refine (great31 (HV.out.ext (Ext.alloc (Ext.refl _) _))).mono ?_; rintro e wg ⟨rfl, heg⟩; rw [HB.out])
 refine wp_later fun w1 hw1 => ?_
 obtain ⟨E0, b3⟩ := (heg.trans hw1).newB
 have k3 := b3.cell
 have k3l := b3.lt
 have f3 := b3.frozen
 clear hw1 heg
 refine wp_region_mono 6 [(1, fun v lo hi w => IsWI lo hi w v x), (3, fun v lo hi w => IsWI lo hi w v x), (4, PtI 26 z26), (5, PtI 34 z26)] (by kernel_rfl) (by kernel_rfl) (by kernel_rfl) ?hS ?_
 case hS =>
  simp only [List.forall_mem_cons]
  exact ⟨fun _ _ _ _ _ e h => IsWI.ext h e, fun _ _ _ _ _ e h => IsWI.ext h e, fun _ _ _ _ _ e h => PtI.ext h e, fun _ _ _ _ _ e h => PtI.ext h e, fun _ h => by simp at h⟩
 simp only [List.take_succ_cons, List.take_zero, List.drop_succ_cons, List.drop_zero]
 refine wpM_plain rfl ?_
 go_big_quiet_step (fail)
 refine wpQuiet_nil ?_
 refine wpM_spec _ rfl rfl (fun w2 hw2 _ => ?_) (fun va la ha ga1 ga2 _ hva => ?_)
 ·go_wp2_with (go_at_call 19; refine (own19 (HV.out.ext (E0.trans hw2)) h1 h2 h3).mono ?_; rintro e w' ⟨u, rfl, he, hu⟩)
  exact ⟨_, _, _, rfl, he, Nat.le_refl _, he.size, Nat.le_refl _, IsWI.of hu⟩
 simp only [Act.put, List.setIfInBounds_toArray, List.set_cons_succ, List.set_cons_zero]
 obtain ⟨_, D1, q1, D2, q2, D3, q3, rfl, -⟩ := hva
 refine wpM_plain rfl ?_
 go_big_quiet_step (fail)
 refine wpQuiet_nil ?_
 refine wpM_spec _ rfl rfl (fun w2 hw2 _ => ?_) (fun vc lc hc gc1 gc2 _ hvc => ?_)
 ·go_wp2_with (go_at_call 20; refine (theirs20 (HV.out.ext (E0.trans hw2)) h1 h2 h3).mono ?_; rintro e w' ⟨u, rfl, he, hu⟩)
  exact ⟨_, _, _, rfl, he, Nat.le_refl _, he.size, Nat.le_refl _, IsWI.of hu⟩
 simp only [Act.put, List.setIfInBounds_toArray, List.set_cons_succ, List.set_cons_zero]
 obtain ⟨_, D5, q5, D6, q6, D7, q7, rfl, -⟩ := hvc
 refine wpM_spec _ rfl rfl (fun w2 hw2 _ => ?_) (fun vg lg hg gg1 gg2 dg hvg => ?_)
 ·go_wp2
  exact ⟨_, w2.heap.size, w2.heap.size + 1, rfl, (Ext.refl _).alloc _, Nat.le_refl _, Nat.le_succ _, by simp, rfl, rfl, Blk.new _ _ _⟩
 simp only [Act.put, List.setIfInBounds_toArray, List.set_cons_succ, List.set_cons_zero]
 refine wpM_spec _ rfl rfl (fun w2 hw2 _ => ?_) (fun vh lh hh gh1 gh2 dh hvh => ?_)
 ·go_wp2
  exact ⟨_, w2.heap.size, w2.heap.size + 1, rfl, (Ext.refl _).alloc _, Nat.le_refl _, Nat.le_succ _, by simp, rfl, rfl, Blk.new _ _ _⟩
 simp only [Act.put, List.setIfInBounds_toArray, List.set_cons_succ, List.set_cons_zero]
 obtain ⟨_, rfl, rfl, -⟩ := hvg
 obtain ⟨_, rfl, rfl, -⟩ := hvh
 simp only [List.forall_mem_cons] at dg dh
 refine wpM_nil fun w4 hw4 hF => ?_
 simp only [List.forall_mem_cons] at hF
 obtain ⟨⟨-, -, -, bH⟩, ⟨-, -, -, bG⟩, ⟨sc, fc⟩, ⟨sa, fa⟩, -⟩ := hF
 have hne : lg ≠ lh := by omega
 have hne' : lh ≠ lg := by omega
 have hGl := bG.lt
 have hHl := bH.lt
 have kG := bG.cell
 have kH := bH.cell
 have qG := bG.frozen
 have qH := bH.frozen
 have FA := hid fa
 have FC := hid fc
 have BH := hid bH
 have BG := hid bG
 have DG := hid dg
 have DH := hid dh
 clear fa fc bG bH dg dh
 unfold z26 at kG kH
 go_upto_region 4 with fail
 refine wp_later fun w5 hw5 => ?_
 obtain ⟨e5, x26, x34, km⟩ := boxes (w1 := w1) hw4 FA.out FC.out sa sc BG.out BH.out hne gg1 gh1 (by have := DG.out; omega) (by have := DH.out; omega) (by have := DG.out; omega) (by have := DH.out; omega)
 obtain ⟨G1, g1, G2, g2, G3, g3, bG, wG⟩ := x26
 obtain ⟨H1, l1, H2, l2, H3, l3, bH, wH⟩ := x34
 have OWN := hid (wG.ext hw5)
 have THR := hid (wH.ext hw5)
 have BG := bG.ext hw5
 have BH := bH.ext hw5
 have E5 := hid (E0.trans (e5.trans hw5))
 have B3 := (b3.ext (e5.trans hw5))
 have E := hid (Ext.refl w5)
 clear hw5 e5 km bG bH wG wH kG kH qG qH k3 k3l f3 b3 FA FC DG DH sa sc hne hne' hw4 E0 hGl hHl gg1 gh1 gg2 gh2 ga1 ga2 gc1 gc2
 have kH := BH.cell
 have kHl := BH.lt
 have kG := BG.cell
 have kGl := BG.lt
 have k3 := B3.cell
 have k3l := B3.lt
 go_upto_region 7 with (go_at_call 21; refine (refcheck_any THR.out h1 h2 h3).mono ?_; rintro e w11 ⟨rfl, he11⟩; have E := hid (E.out.trans he11); have kG := (BG.ext E.out).cell; have kGl := (BG.ext E.out).lt; have kH := (BH.ext E.out).cell; have kHl := (BH.ext E.out).lt; have k3 := (B3.ext E.out).cell; have k3l := (B3.ext E.out).lt)
 refine wp_later fun w6 hw6 => ?_
 have hs5 : w5.heap.size ≤ w6.heap.size := (E.out.trans hw6).size
 have E := hid (E.out.trans hw6)
 have kG := (BG.ext E.out).cell
 have kGl := (BG.ext E.out).lt
 have kH := (BH.ext E.out).cell
 have kHl := (BH.ext E.out).lt
 have k3 := (B3.ext E.out).cell
 have k3l := (B3.ext E.out).lt
 clear hw6
 go_upto_region 9 with fail
 refine wp_later fun w7 hw7 => ?_
 obtain ⟨E7, b13, b14⟩ := hw7.newB2
 clear hw7
 have hz7 : w6.heap.size + 1 < w7.heap.size := b14.lt
 have B13 := hid b13
 have B14 := hid b14
 clear b13 b14
 have E := hid (E.out.trans E7)
 have kG := (BG.ext E.out).cell
 have kGl := (BG.ext E.out).lt
 have kH := (BH.ext E.out).cell
 have kHl := (BH.ext E.out).lt
 have k3 := (B3.ext E.out).cell
 have k3l := (B3.ext E.out).lt
 have k13 := B13.out.cell
 have k13l := B13.out.lt
 have q13 := B13.out.frozen
 have k14 := B14.out.cell
 have k14l := B14.out.lt
 have q14 := B14.out.frozen
 by_cases hc0 : P.chk x ≠ 0
 ·have hc := hc0
  clear hc0
  have hc' : (P.chk x == 0) = false := by simpa using hc
  have T1 := hid (toldE_chk6 (b := badC x which) hc)
  have HC := hid hc
  have HTE := hid (show P.toldE x (badC x which) ≠ 0 by rw [T1.out]; exact hc)
  clear hc
  go_upto_region 24 with (first
   | (go_at_call 47; refine (short_chk (OWN.out.ext E.out) h1 h2 h3 HC.out).mono ?_; rintro e w47 ⟨rfl, he47⟩; have E := hid (E.out.trans he47); have kG := (BG.ext E.out).cell; have kGl := (BG.ext E.out).lt; have kH := (BH.ext E.out).cell; have kHl := (BH.ext E.out).lt; have k3 := (B3.ext E.out).cell; have k3l := (B3.ext E.out).lt; have B13 := hid (B13.out.ext he47); have k13 := B13.out.cell; have k13l := B13.out.lt; have q13 := B13.out.frozen; have B14 := hid (B14.out.ext he47); have k14 := B14.out.cell; have k14l := B14.out.lt; have q14 := B14.out.frozen; have S47 := hid (slR_nil2 w47))
   | (go_at_call 48; refine (smallest_chk (OWN.out.ext E.out) h1 h2 h3 HC.out).mono ?_; rintro e w48 ⟨rfl, he48⟩; have E := hid (E.out.trans he48); have kG := (BG.ext E.out).cell; have kGl := (BG.ext E.out).lt; have kH := (BH.ext E.out).cell; have kHl := (BH.ext E.out).lt; have k3 := (B3.ext E.out).cell; have k3l := (B3.ext E.out).lt; have B13 := hid (B13.out.ext he48); have k13 := B13.out.cell; have k13l := B13.out.lt; have q13 := B13.out.frozen; have B14 := hid (B14.out.ext he48); have k14 := B14.out.cell; have k14l := B14.out.lt; have q14 := B14.out.frozen; have S47 := hid (S47.out.ext he48); have S48 := hid (slR_nil2 w48))
   | (go_at_call 49; refine (apart_chk (OWN.out.ext E.out) h1 h2 h3 HC.out).mono ?_; rintro e w49 ⟨rfl, he49⟩; have E := hid (E.out.trans he49); have kG := (BG.ext E.out).cell; have kGl := (BG.ext E.out).lt; have kH := (BH.ext E.out).cell; have kHl := (BH.ext E.out).lt; have k3 := (B3.ext E.out).cell; have k3l := (B3.ext E.out).lt; have B13 := hid (B13.out.ext he49); have k13 := B13.out.cell; have k13l := B13.out.lt; have q13 := B13.out.frozen; have B14 := hid (B14.out.ext he49); have k14 := B14.out.cell; have k14l := B14.out.lt; have q14 := B14.out.frozen; have S47 := hid (S47.out.ext he49); have S48 := hid (S48.out.ext he49); have S49 := hid (slR_nil2 w49))
   | (go_at_call 50; refine (clashesX_chk (OWN.out.ext E.out) h1 h2 h3 HC.out).mono ?_; rintro e w50 ⟨rfl, he50⟩; have E := hid (E.out.trans he50); have kG := (BG.ext E.out).cell; have kGl := (BG.ext E.out).lt; have kH := (BH.ext E.out).cell; have kHl := (BH.ext E.out).lt; have k3 := (B3.ext E.out).cell; have k3l := (B3.ext E.out).lt; have B13 := hid (B13.out.ext he50); have k13 := B13.out.cell; have k13l := B13.out.lt; have q13 := B13.out.frozen; have B14 := hid (B14.out.ext he50); have k14 := B14.out.cell; have k14l := B14.out.lt; have q14 := B14.out.frozen; have S47 := hid (S47.out.ext he50); have S48 := hid (S48.out.ext he50); have S49 := hid (S49.out.ext he50)))

  refine wp_later fun w9 hw9 => ?_
  obtain ⟨E9, b22⟩ := hw9.newB
  clear hw9
  have B22 := hid b22
  clear b22
  have E := hid (E.out.trans E9)
  have kG := (BG.ext E.out).cell
  have kGl := (BG.ext E.out).lt
  have kH := (BH.ext E.out).cell
  have kHl := (BH.ext E.out).lt
  have k3 := (B3.ext E.out).cell
  have k3l := (B3.ext E.out).lt
  have B13 := hid (B13.out.ext E9)
  have k13 := B13.out.cell
  have k13l := B13.out.lt
  have q13 := B13.out.frozen
  have B14 := hid (B14.out.ext E9)
  have k14 := B14.out.cell
  have k14l := B14.out.lt
  have q14 := B14.out.frozen
  have S47 := hid (S47.out.ext E9)
  have S48 := hid (S48.out.ext E9)
  have S49 := hid (S49.out.ext E9)
  have k22 := B22.out.cell
  have k22l := B22.out.lt
  have q22 := B22.out.frozen
  go_upto_region 25 with (go_at_call 51; refine (within_err (OWN.out.ext E.out) h1 h2 h3 which HTE.out).mono ?_; rintro e w51 ⟨rfl, he51⟩; rw [T1.out]; have E := hid (E.out.trans he51); have kG := (BG.ext E.out).cell; have kGl := (BG.ext E.out).lt; have kH := (BH.ext E.out).cell; have kHl := (BH.ext E.out).lt; have k3 := (B3.ext E.out).cell; have k3l := (B3.ext E.out).lt; have B13 := hid (B13.out.ext he51); have k13 := B13.out.cell; have k13l := B13.out.lt; have q13 := B13.out.frozen; have B14 := hid (B14.out.ext he51); have k14 := B14.out.cell; have k14l := B14.out.lt; have q14 := B14.out.frozen; have B22 := hid (B22.out.ext he51); have k22 := B22.out.cell; have k22l := B22.out.lt; have q22 := B22.out.frozen; have S47 := hid (S47.out.ext he51); have S48 := hid (S48.out.ext he51); have S49 := hid (S49.out.ext he51))
  refine wp_later fun w9 hw9 => ?_
  obtain ⟨E9, b24⟩ := hw9.newB
  clear hw9
  have B24 := hid b24
  clear b24
  have E := hid (E.out.trans E9)
  have kG := (BG.ext E.out).cell
  have kGl := (BG.ext E.out).lt
  have kH := (BH.ext E.out).cell
  have kHl := (BH.ext E.out).lt
  have k3 := (B3.ext E.out).cell
  have k3l := (B3.ext E.out).lt
  have B13 := hid (B13.out.ext E9)
  have k13 := B13.out.cell
  have k13l := B13.out.lt
  have q13 := B13.out.frozen
  have B14 := hid (B14.out.ext E9)
  have k14 := B14.out.cell
  have k14l := B14.out.lt
  have q14 := B14.out.frozen
  have B22 := hid (B22.out.ext E9)
  have k22 := B22.out.cell
  have k22l := B22.out.lt
  have q22 := B22.out.frozen
  have S47 := hid (S47.out.ext E9)
  have S48 := hid (S48.out.ext E9)
  have S49 := hid (S49.out.ext E9)
  have k24 := B24.out.cell
  have k24l := B24.out.lt
  have q24 := B24.out.frozen
  go_wp2_with (first
   | (go_at_call 30; refine (parts_same (by first | exact S47.out | exact S48.out | exact S49.out) (by simp)).mono ?_; rintro e w30 ⟨vp, rfl, he30, hp⟩; have E := hid (E.out.trans he30); have kG := (BG.ext E.out).cell; have kGl := (BG.ext E.out).lt; have kH := (BH.ext E.out).cell; have kHl := (BH.ext E.out).lt; have k3 := (B3.ext E.out).cell; have k3l := (B3.ext E.out).lt; have B13 := hid (B13.out.ext he30); have k13 := B13.out.cell; have k13l := B13.out.lt; have q13 := B13.out.frozen; have B14 := hid (B14.out.ext he30); have k14 := B14.out.cell; have k14l := B14.out.lt; have q14 := B14.out.frozen; have B22 := hid (B22.out.ext he30); have k22 := B22.out.cell; have k22l := B22.out.lt; have q22 := B22.out.frozen; have B24 := hid (B24.out.ext he30); have k24 := B24.out.cell; have k24l := B24.out.lt; have q24 := B24.out.frozen; have S47 := hid (S47.out.ext he30); have S48 := hid (S48.out.ext he30); have S49 := hid (S49.out.ext he30); have PP := hid hp; clear hp)
   | (go_at_call 52; refine (eq52_same PP.out (slR_nil2 _) (by simp)).mono ?_; rintro e w52 ⟨rfl, he52⟩; have E := hid (E.out.trans he52); have kG := (BG.ext E.out).cell; have kGl := (BG.ext E.out).lt; have kH := (BH.ext E.out).cell; have kHl := (BH.ext E.out).lt; have k3 := (B3.ext E.out).cell; have k3l := (B3.ext E.out).lt; have B13 := hid (B13.out.ext he52); have k13 := B13.out.cell; have k13l := B13.out.lt; have q13 := B13.out.frozen; have B14 := hid (B14.out.ext he52); have k14 := B14.out.cell; have k14l := B14.out.lt; have q14 := B14.out.frozen; have B22 := hid (B22.out.ext he52); have k22 := B22.out.cell; have k22l := B22.out.lt; have q22 := B22.out.frozen; have B24 := hid (B24.out.ext he52); have k24 := B24.out.cell; have k24l := B24.out.lt; have q24 := B24.out.frozen; have S47 := hid (S47.out.ext he52); have S48 := hid (S48.out.ext he52); have S49 := hid (S49.out.ext he52))
   | (go_at_call 28; refine (same28 (OWN.out.ext E.out) (HV.out.ext (E5.out.trans E.out)) h1 h2 h3 rfl rfl rfl (eqB_refl _ _ _) (eqB_refl _ _ _) (eqB_refl _ _ _)).mono ?_; rintro e w19 ⟨rfl, he19⟩; have E := hid (E.out.trans he19); have kG := (BG.ext E.out).cell; have kGl := (BG.ext E.out).lt; have kH := (BH.ext E.out).cell; have kHl := (BH.ext E.out).lt; have k3 := (B3.ext E.out).cell; have k3l := (B3.ext E.out).lt)
   | (go_at_call 18; refine (awake_any _).mono ?_; rintro e w18 ⟨rfl, he18⟩; have E := hid (E.out.trans he18); have kG := (BG.ext E.out).cell; have kGl := (BG.ext E.out).lt; have kH := (BH.ext E.out).cell; have kHl := (BH.ext E.out).lt; have k3 := (B3.ext E.out).cell; have k3l := (B3.ext E.out).lt))
  go_ret
  exact ⟨rfl, E5.out.trans E.out⟩
 have hc := Classical.not_not.1 hc0
 clear hc0
 have hx := Ok.of_chk hc
 have hhd := hx.hands
 have T0 := hid (toldE_bad6 hc)
 have T2 := hid (toldE_cl6 hc)
 have HC := hid hc
 have hc1 : (P.chk x == 0) = true := by simpa using hc
 have Q2 := hid (smallest_eq hx)
 have Q3 := hid (F.apart_eq hx (smallest_eq hx))
 have hl1 := len_short hx
 have hl2 := len_small hx
 have hl3 := len_apart x
 have HX0 := hid hc
 rw [hc]
 clear hc hc1
 go_upto_region 10 with fail
 refine wp_region_mono 9 [(1, Ls2 (R.short x)), (3, Ls2 (R.smallest x)), (5, Ls2 (R.apart x))] (by kernel_rfl) (by kernel_rfl) (by kernel_rfl) ?hS ?_
 case hS =>
  simp only [List.forall_mem_cons]
  exact ⟨fun _ _ _ _ _ e h => OwnR.ext h e, fun _ _ _ _ _ e h => OwnR.ext h e, fun _ _ _ _ _ e h => OwnR.ext h e, fun _ h => by simp at h⟩
 simp only [List.take_succ_cons, List.drop_succ_cons, List.take_nil, List.drop_nil]
 refine wpM_plain rfl ?_
 go_big_quiet_step (fail)
 refine wpQuiet_nil ?_
 refine wpM_spec _ rfl rfl (fun w2 hw2 _ => ?_) (fun va la ha ga1 ga2 _ _ => ?_)
 ·go_wp2_with (go_at_call 42; refine (short_any hx (THR.out.ext (E.out.trans hw2))).mono ?_; rintro e w5 ⟨u, rfl, he5, hu⟩)
  exact ⟨_, _, _, rfl, he5, Nat.le_refl _, he5.size, Nat.le_refl _, hu⟩
 simp only [Act.put, List.setIfInBounds_toArray, List.set_cons_succ, List.set_cons_zero]
 refine wpM_plain rfl ?_
 go_big_quiet_step (fail)
 refine wpQuiet_nil ?_
 refine wpM_spec _ rfl rfl (fun w2 hw2 _ => ?_) (fun vb lb hb gb1 gb2 _ _ => ?_)
 ·go_wp2_with (go_at_call 43; refine (smallest_any hx (THR.out.ext (E.out.trans hw2))).mono ?_; rintro e w5 ⟨u, rfl, he5, hu⟩)
  exact ⟨_, _, _, rfl, he5, Nat.le_refl _, he5.size, Nat.le_refl _, hu⟩
 simp only [Act.put, List.setIfInBounds_toArray, List.set_cons_succ, List.set_cons_zero]
 refine wpM_plain rfl ?_
 go_big_quiet_step (fail)
 refine wpQuiet_nil ?_
 refine wpM_spec _ rfl rfl (fun w2 hw2 _ => ?_) (fun vc lc hc gc1 gc2 _ _ => ?_)
 ·go_wp2_with (go_at_call 44; refine (apartR_any hx (THR.out.ext (E.out.trans hw2))).mono ?_; rintro e w5 ⟨u, rfl, he5, hu⟩)
  exact ⟨_, _, _, rfl, he5, Nat.le_refl _, he5.size, Nat.le_refl _, hu⟩
 simp only [Act.put, List.setIfInBounds_toArray, List.set_cons_succ, List.set_cons_zero]
 refine wpM_plain rfl ?_
 go_big_quiet_step (fail)
 refine wpQuiet_nil ?_
 refine wpM_plain rfl ?_
 go_big_quiet_step (fail)
 refine wpQuiet_nil ?_
 refine wpM_plain rfl ?_
 go_big_quiet_step (fail)
 refine wpQuiet_nil ?_
 refine wpM_nil fun w8 hw8 hF => ?_
 simp only [List.forall_mem_cons] at hF
 obtain ⟨⟨-, f3⟩, ⟨-, f2⟩, ⟨-, f1⟩, -⟩ := hF
 have F1 := hid (OwnR.base f1 ga1)
 have F2 := hid (OwnR.base f2 gb1)
 have F3 := hid (OwnR.base f3 gc1)
 clear f1 f2 f3
 clear k13 k13l q13 k14 k14l q14
 have E := hid (E.out.trans hw8)
 have kG := (BG.ext E.out).cell
 have kGl := (BG.ext E.out).lt
 have kH := (BH.ext E.out).cell
 have kHl := (BH.ext E.out).lt
 have k3 := (B3.ext E.out).cell
 have k3l := (B3.ext E.out).lt
 have B13 := hid (B13.out.ext hw8)
 have k13 := B13.out.cell
 have k13l := B13.out.lt
 have q13 := B13.out.frozen
 have B14 := hid (B14.out.ext hw8)
 have k14 := B14.out.cell
 have k14l := B14.out.lt
 have q14 := B14.out.frozen
 have hs6 : w5.heap.size ≤ w6.heap.size + 1 := by omega
 cases hcl : R.clashes x with
 | none =>
  have HCL := hid hcl
  clear hcl
  have T3 := hid (show P.toldE x false = 0 by rw [T2.out, HCL.out]; rfl)
  go_upto_region 13 with (go_at_call 45; refine (clashes_any hx (THR.out.ext E.out)).mono ?_; rintro e w45 ⟨rfl, he45⟩; rw [HCL.out]; simp only [Option.getD_none, Option.isSome_none]; have E := hid (E.out.trans he45); have kG := (BG.ext E.out).cell; have kGl := (BG.ext E.out).lt; have kH := (BH.ext E.out).cell; have kHl := (BH.ext E.out).lt; have k3 := (B3.ext E.out).cell; have k3l := (B3.ext E.out).lt; have B13 := hid (B13.out.ext he45); have k13 := B13.out.cell; have k13l := B13.out.lt; have q13 := B13.out.frozen; have B14 := hid (B14.out.ext he45); have k14 := B14.out.cell; have k14l := B14.out.lt; have q14 := B14.out.frozen; have F1 := hid (F1.out.ext he45); have F2 := hid (F2.out.ext he45); have F3 := hid (F3.out.ext he45))
  refine wp_later fun w12 hw12 => ?_
  have E := hid (((E.out.setCell _ (p := ⟨w6.heap.size, 0, none⟩) (by omega)).setCell _ (p := ⟨w6.heap.size, 1, none⟩) (by omega)).trans hw12)
  have b13 := ((B13.out.set_ 0 (.int .i64 0)).set_ 1 (.int .i64 0)).ext hw12
  simp only [List.setIfInBounds_toArray, List.set_cons_succ, List.set_cons_zero] at b13
  have B13 := hid b13
  have B14 := hid (((B14.out.far (p := ⟨w6.heap.size, 0, none⟩) (by simp) (.int .i64 0)).far (p := ⟨w6.heap.size, 1, none⟩) (by simp) (.int .i64 0)).ext hw12)
  have F1 := hid (OwnR.ext (OwnR.far (OwnR.far F1.out (p := ⟨w6.heap.size, 0, none⟩) (by show w6.heap.size < _; omega) (.int .i64 0)) (p := ⟨w6.heap.size, 1, none⟩) (by show w6.heap.size < _; omega) (.int .i64 0)) hw12)
  have F2 := hid (OwnR.ext (OwnR.far (OwnR.far F2.out (p := ⟨w6.heap.size, 0, none⟩) (by show w6.heap.size < _; omega) (.int .i64 0)) (p := ⟨w6.heap.size, 1, none⟩) (by show w6.heap.size < _; omega) (.int .i64 0)) hw12)
  have F3 := hid (OwnR.ext (OwnR.far (OwnR.far F3.out (p := ⟨w6.heap.size, 0, none⟩) (by show w6.heap.size < _; omega) (.int .i64 0)) (p := ⟨w6.heap.size, 1, none⟩) (by show w6.heap.size < _; omega) (.int .i64 0)) hw12)
  clear b13 hw12
  clear k13 k13l q13 k14 k14l q14
  clear kG kGl kH kHl k3 k3l
  have kG := (BG.ext E.out).cell
  have kGl := (BG.ext E.out).lt
  have kH := (BH.ext E.out).cell
  have kHl := (BH.ext E.out).lt
  have k3 := (B3.ext E.out).cell
  have k3l := (B3.ext E.out).lt
  have k13 := B13.out.cell
  have k13l := B13.out.lt
  have q13 := B13.out.frozen
  have k14 := B14.out.cell
  have k14l := B14.out.lt
  have q14 := B14.out.frozen
  by_cases hin : 0 ≤ which ∧ which < (x.cn : Int)
  ·obtain ⟨k, rfl⟩ := Int.eq_ofNat_of_zero_le hin.1
   have hk : k < x.cn := by omega
   have hki : (k : Int) < (x.cn : Int) := by omega
   have HIN := hid hin
   clear hin
   have BC := hid (show badC x (k : Int) = false by unfold badC; simp [inB]; omega)
   have hfw : R.fwOk x (R.whole x) = true := by
    have h := L.clash_iff hx
    rw [HCL.out] at h
    simpa using h
   have HFW := hid hfw
   clear hfw
   go_upto_region 20 with (go_at_call 46; refine (withinR_any hx HFW.out (THR.out.ext E.out) hk).mono ?_; rintro e w46 ⟨rfl, he46⟩; have E := hid (E.out.trans he46); have kG := (BG.ext E.out).cell; have kGl := (BG.ext E.out).lt; have kH := (BH.ext E.out).cell; have kHl := (BH.ext E.out).lt; have k3 := (B3.ext E.out).cell; have k3l := (B3.ext E.out).lt; have B13 := hid (B13.out.ext he46); have k13 := B13.out.cell; have k13l := B13.out.lt; have q13 := B13.out.frozen; have B14 := hid (B14.out.ext he46); have k14 := B14.out.cell; have k14l := B14.out.lt; have q14 := B14.out.frozen; have F1 := hid (F1.out.ext he46); have F2 := hid (F2.out.ext he46); have F3 := hid (F3.out.ext he46))
   refine wp_later fun w15 hw15 => ?_
   have E := hid (((E.out.setCell _ (p := ⟨w6.heap.size + 1, 0, none⟩) (by omega)).setCell _ (p := ⟨w6.heap.size + 1, 1, none⟩) (by omega)).trans hw15)
   have b14 := ((B14.out.set_ 0 (.int .i64 (P.lo x k))).set_ 1 (.int .i64 (P.hi x k))).ext hw15
   simp only [List.setIfInBounds_toArray, List.set_cons_succ, List.set_cons_zero] at b14
   have B14 := hid b14
   have B13 := hid (((B13.out.far (p := ⟨w6.heap.size + 1, 0, none⟩) (by simp) (.int .i64 (P.lo x k))).far (p := ⟨w6.heap.size + 1, 1, none⟩) (by simp) (.int .i64 (P.hi x k))).ext hw15)
   have F1 := hid (OwnR.ext (OwnR.far (OwnR.far F1.out (p := ⟨w6.heap.size + 1, 0, none⟩) (by show w6.heap.size + 1 < _; omega) (.int .i64 (P.lo x k))) (p := ⟨w6.heap.size + 1, 1, none⟩) (by show w6.heap.size + 1 < _; omega) (.int .i64 (P.hi x k))) hw15)
   have F2 := hid (OwnR.ext (OwnR.far (OwnR.far F2.out (p := ⟨w6.heap.size + 1, 0, none⟩) (by show w6.heap.size + 1 < _; omega) (.int .i64 (P.lo x k))) (p := ⟨w6.heap.size + 1, 1, none⟩) (by show w6.heap.size + 1 < _; omega) (.int .i64 (P.hi x k))) hw15)
   have F3 := hid (OwnR.ext (OwnR.far (OwnR.far F3.out (p := ⟨w6.heap.size + 1, 0, none⟩) (by show w6.heap.size + 1 < _; omega) (.int .i64 (P.lo x k))) (p := ⟨w6.heap.size + 1, 1, none⟩) (by show w6.heap.size + 1 < _; omega) (.int .i64 (P.hi x k))) hw15)
   clear b14 hw15
   clear k13 k13l q13 k14 k14l q14
   clear kG kGl kH kHl k3 k3l
   have kG := (BG.ext E.out).cell
   have kGl := (BG.ext E.out).lt
   have kH := (BH.ext E.out).cell
   have kHl := (BH.ext E.out).lt
   have k3 := (B3.ext E.out).cell
   have k3l := (B3.ext E.out).lt
   have k13 := B13.out.cell
   have k13l := B13.out.lt
   have q13 := B13.out.frozen
   have k14 := B14.out.cell
   have k14l := B14.out.lt
   have q14 := B14.out.frozen
   have F1 := hid F1.out.slR
   have F2 := hid F2.out.slR
   have F3 := hid F3.out.slR
   go_upto_region 24 with (first
    | (go_at_call 47; refine (short_ok (OWN.out.ext E.out) h1 h2 h3 HX0.out).mono ?_; rintro e w47 ⟨u47, rfl, he47, s47⟩; have E := hid (E.out.trans he47); have kG := (BG.ext E.out).cell; have kGl := (BG.ext E.out).lt; have kH := (BH.ext E.out).cell; have kHl := (BH.ext E.out).lt; have k3 := (B3.ext E.out).cell; have k3l := (B3.ext E.out).lt; have B13 := hid (B13.out.ext he47); have k13 := B13.out.cell; have k13l := B13.out.lt; have q13 := B13.out.frozen; have B14 := hid (B14.out.ext he47); have k14 := B14.out.cell; have k14l := B14.out.lt; have q14 := B14.out.frozen; have F1 := hid (F1.out.ext he47); have F2 := hid (F2.out.ext he47); have F3 := hid (F3.out.ext he47); have S47 := hid s47; clear s47)
    | (go_at_call 48; refine (smallestX_ok (OWN.out.ext E.out) h1 h2 h3 HX0.out).mono ?_; rintro e w48 ⟨u48, rfl, he48, s48⟩; have E := hid (E.out.trans he48); have kG := (BG.ext E.out).cell; have kGl := (BG.ext E.out).lt; have kH := (BH.ext E.out).cell; have kHl := (BH.ext E.out).lt; have k3 := (B3.ext E.out).cell; have k3l := (B3.ext E.out).lt; have B13 := hid (B13.out.ext he48); have k13 := B13.out.cell; have k13l := B13.out.lt; have q13 := B13.out.frozen; have B14 := hid (B14.out.ext he48); have k14 := B14.out.cell; have k14l := B14.out.lt; have q14 := B14.out.frozen; have F1 := hid (F1.out.ext he48); have F2 := hid (F2.out.ext he48); have F3 := hid (F3.out.ext he48); have S47 := hid (S47.out.ext he48); rw [Q2.out] at s48; have S48 := hid s48; clear s48)
    | (go_at_call 49; refine (apart_ok (OWN.out.ext E.out) h1 h2 h3 HX0.out).mono ?_; rintro e w49 ⟨u49, rfl, he49, s49⟩; have E := hid (E.out.trans he49); have kG := (BG.ext E.out).cell; have kGl := (BG.ext E.out).lt; have kH := (BH.ext E.out).cell; have kHl := (BH.ext E.out).lt; have k3 := (B3.ext E.out).cell; have k3l := (B3.ext E.out).lt; have B13 := hid (B13.out.ext he49); have k13 := B13.out.cell; have k13l := B13.out.lt; have q13 := B13.out.frozen; have B14 := hid (B14.out.ext he49); have k14 := B14.out.cell; have k14l := B14.out.lt; have q14 := B14.out.frozen; have F1 := hid (F1.out.ext he49); have F2 := hid (F2.out.ext he49); have F3 := hid (F3.out.ext he49); have S47 := hid (S47.out.ext he49); have S48 := hid (S48.out.ext he49); rw [Q3.out] at s49; have S49 := hid s49; clear s49)
    | (go_at_call 50; refine (clashesX_none (OWN.out.ext E.out) h1 h2 h3 HX0.out HCL.out).mono ?_; rintro e w50 ⟨rfl, he50⟩; have E := hid (E.out.trans he50); have kG := (BG.ext E.out).cell; have kGl := (BG.ext E.out).lt; have kH := (BH.ext E.out).cell; have kHl := (BH.ext E.out).lt; have k3 := (B3.ext E.out).cell; have k3l := (B3.ext E.out).lt; have B13 := hid (B13.out.ext he50); have k13 := B13.out.cell; have k13l := B13.out.lt; have q13 := B13.out.frozen; have B14 := hid (B14.out.ext he50); have k14 := B14.out.cell; have k14l := B14.out.lt; have q14 := B14.out.frozen; have F1 := hid (F1.out.ext he50); have F2 := hid (F2.out.ext he50); have F3 := hid (F3.out.ext he50); have S47 := hid (S47.out.ext he50); have S48 := hid (S48.out.ext he50); have S49 := hid (S49.out.ext he50)))

   refine wp_later fun w9 hw9 => ?_
   obtain ⟨E9, b22⟩ := hw9.newB
   clear hw9
   have B22 := hid b22
   clear b22
   have E := hid (E.out.trans E9)
   have kG := (BG.ext E.out).cell
   have kGl := (BG.ext E.out).lt
   have kH := (BH.ext E.out).cell
   have kHl := (BH.ext E.out).lt
   have k3 := (B3.ext E.out).cell
   have k3l := (B3.ext E.out).lt
   have B13 := hid (B13.out.ext E9)
   have k13 := B13.out.cell
   have k13l := B13.out.lt
   have q13 := B13.out.frozen
   have B14 := hid (B14.out.ext E9)
   have k14 := B14.out.cell
   have k14l := B14.out.lt
   have q14 := B14.out.frozen
   have F1 := hid (F1.out.ext E9)
   have F2 := hid (F2.out.ext E9)
   have F3 := hid (F3.out.ext E9)
   have S47 := hid (S47.out.ext E9)
   have S48 := hid (S48.out.ext E9)
   have S49 := hid (S49.out.ext E9)
   have k22 := B22.out.cell
   have k22l := B22.out.lt
   have q22 := B22.out.frozen
   go_upto_region 25 with (go_at_call 51; refine (within_ok (OWN.out.ext E.out) h1 h2 h3 hk T3.out).mono ?_; rintro e w51 ⟨rfl, he51⟩; have E := hid (E.out.trans he51); have kG := (BG.ext E.out).cell; have kGl := (BG.ext E.out).lt; have kH := (BH.ext E.out).cell; have kHl := (BH.ext E.out).lt; have k3 := (B3.ext E.out).cell; have k3l := (B3.ext E.out).lt; have B13 := hid (B13.out.ext he51); have k13 := B13.out.cell; have k13l := B13.out.lt; have q13 := B13.out.frozen; have B14 := hid (B14.out.ext he51); have k14 := B14.out.cell; have k14l := B14.out.lt; have q14 := B14.out.frozen; have B22 := hid (B22.out.ext he51); have k22 := B22.out.cell; have k22l := B22.out.lt; have q22 := B22.out.frozen; have F1 := hid (F1.out.ext he51); have F2 := hid (F2.out.ext he51); have F3 := hid (F3.out.ext he51); have S47 := hid (S47.out.ext he51); have S48 := hid (S48.out.ext he51); have S49 := hid (S49.out.ext he51))
   refine wp_later fun w9 hw9 => ?_
   obtain ⟨E9, b24⟩ := hw9.newB
   clear hw9
   have B24 := hid b24
   clear b24
   have E := hid (E.out.trans E9)
   have kG := (BG.ext E.out).cell
   have kGl := (BG.ext E.out).lt
   have kH := (BH.ext E.out).cell
   have kHl := (BH.ext E.out).lt
   have k3 := (B3.ext E.out).cell
   have k3l := (B3.ext E.out).lt
   have B13 := hid (B13.out.ext E9)
   have k13 := B13.out.cell
   have k13l := B13.out.lt
   have q13 := B13.out.frozen
   have B14 := hid (B14.out.ext E9)
   have k14 := B14.out.cell
   have k14l := B14.out.lt
   have q14 := B14.out.frozen
   have B22 := hid (B22.out.ext E9)
   have k22 := B22.out.cell
   have k22l := B22.out.lt
   have q22 := B22.out.frozen
   have F1 := hid (F1.out.ext E9)
   have F2 := hid (F2.out.ext E9)
   have F3 := hid (F3.out.ext E9)
   have S47 := hid (S47.out.ext E9)
   have S48 := hid (S48.out.ext E9)
   have S49 := hid (S49.out.ext E9)
   have k24 := B24.out.cell
   have k24l := B24.out.lt
   have q24 := B24.out.frozen
   go_wp2_with (first
    | (go_at_call 30; refine (parts_same (by first | exact S47.out | exact S48.out | exact S49.out) (by first | exact hl1 | exact hl2 | exact hl3)).mono ?_; rintro e w30 ⟨vp, rfl, he30, hp⟩; have E := hid (E.out.trans he30); have kG := (BG.ext E.out).cell; have kGl := (BG.ext E.out).lt; have kH := (BH.ext E.out).cell; have kHl := (BH.ext E.out).lt; have k3 := (B3.ext E.out).cell; have k3l := (B3.ext E.out).lt; have B13 := hid (B13.out.ext he30); have k13 := B13.out.cell; have k13l := B13.out.lt; have q13 := B13.out.frozen; have B14 := hid (B14.out.ext he30); have k14 := B14.out.cell; have k14l := B14.out.lt; have q14 := B14.out.frozen; have B22 := hid (B22.out.ext he30); have k22 := B22.out.cell; have k22l := B22.out.lt; have q22 := B22.out.frozen; have B24 := hid (B24.out.ext he30); have k24 := B24.out.cell; have k24l := B24.out.lt; have q24 := B24.out.frozen; have F1 := hid (F1.out.ext he30); have F2 := hid (F2.out.ext he30); have F3 := hid (F3.out.ext he30); have S47 := hid (S47.out.ext he30); have S48 := hid (S48.out.ext he30); have S49 := hid (S49.out.ext he30); have PP := hid hp; clear hp)
    | (go_at_call 52; refine (eq52_same PP.out (by first | exact F1.out | exact F2.out | exact F3.out) (by first | exact hl1 | exact hl2 | exact hl3)).mono ?_; rintro e w52 ⟨rfl, he52⟩; have E := hid (E.out.trans he52); have kG := (BG.ext E.out).cell; have kGl := (BG.ext E.out).lt; have kH := (BH.ext E.out).cell; have kHl := (BH.ext E.out).lt; have k3 := (B3.ext E.out).cell; have k3l := (B3.ext E.out).lt; have B13 := hid (B13.out.ext he52); have k13 := B13.out.cell; have k13l := B13.out.lt; have q13 := B13.out.frozen; have B14 := hid (B14.out.ext he52); have k14 := B14.out.cell; have k14l := B14.out.lt; have q14 := B14.out.frozen; have B22 := hid (B22.out.ext he52); have k22 := B22.out.cell; have k22l := B22.out.lt; have q22 := B22.out.frozen; have B24 := hid (B24.out.ext he52); have k24 := B24.out.cell; have k24l := B24.out.lt; have q24 := B24.out.frozen; have F1 := hid (F1.out.ext he52); have F2 := hid (F2.out.ext he52); have F3 := hid (F3.out.ext he52); have S47 := hid (S47.out.ext he52); have S48 := hid (S48.out.ext he52); have S49 := hid (S49.out.ext he52))
    | (go_at_call 28; refine (same28 (OWN.out.ext E.out) (HV.out.ext (E5.out.trans E.out)) h1 h2 h3 rfl rfl rfl (eqB_refl _ _ _) (eqB_refl _ _ _) (eqB_refl _ _ _)).mono ?_; rintro e w19 ⟨rfl, he19⟩; have E := hid (E.out.trans he19); have kG := (BG.ext E.out).cell; have kGl := (BG.ext E.out).lt; have kH := (BH.ext E.out).cell; have kHl := (BH.ext E.out).lt; have k3 := (B3.ext E.out).cell; have k3l := (B3.ext E.out).lt)
    | (go_at_call 18; refine (awake_any _).mono ?_; rintro e w18 ⟨rfl, he18⟩; have E := hid (E.out.trans he18); have kG := (BG.ext E.out).cell; have kGl := (BG.ext E.out).lt; have kH := (BH.ext E.out).cell; have kHl := (BH.ext E.out).lt; have k3 := (B3.ext E.out).cell; have k3l := (B3.ext E.out).lt))
   go_ret
   exact ⟨rfl, E5.out.trans E.out⟩
  ·have BC := hid (show badC x which = true by unfold badC; simp [inB]; omega)
   have T1 := hid (show P.toldE x (badC x which) = 1 by rw [BC.out, T0.out])
   have HTE := hid (show P.toldE x (badC x which) ≠ 0 by rw [T1.out]; decide)
   have hcase : which < 0 ∨ (0 ≤ which ∧ (x.cn : Int) ≤ which) := by omega
   clear hin
   have F1 := hid F1.out.slR
   have F2 := hid F2.out.slR
   have F3 := hid F3.out.slR
   rcases hcase with hcase | ⟨hcase2, hcase⟩
   ·go_upto_region 24 with (first
     | (go_at_call 47; refine (short_ok (OWN.out.ext E.out) h1 h2 h3 HX0.out).mono ?_; rintro e w47 ⟨u47, rfl, he47, s47⟩; have E := hid (E.out.trans he47); have kG := (BG.ext E.out).cell; have kGl := (BG.ext E.out).lt; have kH := (BH.ext E.out).cell; have kHl := (BH.ext E.out).lt; have k3 := (B3.ext E.out).cell; have k3l := (B3.ext E.out).lt; have B13 := hid (B13.out.ext he47); have k13 := B13.out.cell; have k13l := B13.out.lt; have q13 := B13.out.frozen; have B14 := hid (B14.out.ext he47); have k14 := B14.out.cell; have k14l := B14.out.lt; have q14 := B14.out.frozen; have F1 := hid (F1.out.ext he47); have F2 := hid (F2.out.ext he47); have F3 := hid (F3.out.ext he47); have S47 := hid s47; clear s47)
     | (go_at_call 48; refine (smallestX_ok (OWN.out.ext E.out) h1 h2 h3 HX0.out).mono ?_; rintro e w48 ⟨u48, rfl, he48, s48⟩; have E := hid (E.out.trans he48); have kG := (BG.ext E.out).cell; have kGl := (BG.ext E.out).lt; have kH := (BH.ext E.out).cell; have kHl := (BH.ext E.out).lt; have k3 := (B3.ext E.out).cell; have k3l := (B3.ext E.out).lt; have B13 := hid (B13.out.ext he48); have k13 := B13.out.cell; have k13l := B13.out.lt; have q13 := B13.out.frozen; have B14 := hid (B14.out.ext he48); have k14 := B14.out.cell; have k14l := B14.out.lt; have q14 := B14.out.frozen; have F1 := hid (F1.out.ext he48); have F2 := hid (F2.out.ext he48); have F3 := hid (F3.out.ext he48); have S47 := hid (S47.out.ext he48); rw [Q2.out] at s48; have S48 := hid s48; clear s48)
     | (go_at_call 49; refine (apart_ok (OWN.out.ext E.out) h1 h2 h3 HX0.out).mono ?_; rintro e w49 ⟨u49, rfl, he49, s49⟩; have E := hid (E.out.trans he49); have kG := (BG.ext E.out).cell; have kGl := (BG.ext E.out).lt; have kH := (BH.ext E.out).cell; have kHl := (BH.ext E.out).lt; have k3 := (B3.ext E.out).cell; have k3l := (B3.ext E.out).lt; have B13 := hid (B13.out.ext he49); have k13 := B13.out.cell; have k13l := B13.out.lt; have q13 := B13.out.frozen; have B14 := hid (B14.out.ext he49); have k14 := B14.out.cell; have k14l := B14.out.lt; have q14 := B14.out.frozen; have F1 := hid (F1.out.ext he49); have F2 := hid (F2.out.ext he49); have F3 := hid (F3.out.ext he49); have S47 := hid (S47.out.ext he49); have S48 := hid (S48.out.ext he49); rw [Q3.out] at s49; have S49 := hid s49; clear s49)
     | (go_at_call 50; refine (clashesX_none (OWN.out.ext E.out) h1 h2 h3 HX0.out HCL.out).mono ?_; rintro e w50 ⟨rfl, he50⟩; have E := hid (E.out.trans he50); have kG := (BG.ext E.out).cell; have kGl := (BG.ext E.out).lt; have kH := (BH.ext E.out).cell; have kHl := (BH.ext E.out).lt; have k3 := (B3.ext E.out).cell; have k3l := (B3.ext E.out).lt; have B13 := hid (B13.out.ext he50); have k13 := B13.out.cell; have k13l := B13.out.lt; have q13 := B13.out.frozen; have B14 := hid (B14.out.ext he50); have k14 := B14.out.cell; have k14l := B14.out.lt; have q14 := B14.out.frozen; have F1 := hid (F1.out.ext he50); have F2 := hid (F2.out.ext he50); have F3 := hid (F3.out.ext he50); have S47 := hid (S47.out.ext he50); have S48 := hid (S48.out.ext he50); have S49 := hid (S49.out.ext he50)))

    refine wp_later fun w9 hw9 => ?_
    obtain ⟨E9, b22⟩ := hw9.newB
    clear hw9
    have B22 := hid b22
    clear b22
    have E := hid (E.out.trans E9)
    have kG := (BG.ext E.out).cell
    have kGl := (BG.ext E.out).lt
    have kH := (BH.ext E.out).cell
    have kHl := (BH.ext E.out).lt
    have k3 := (B3.ext E.out).cell
    have k3l := (B3.ext E.out).lt
    have B13 := hid (B13.out.ext E9)
    have k13 := B13.out.cell
    have k13l := B13.out.lt
    have q13 := B13.out.frozen
    have B14 := hid (B14.out.ext E9)
    have k14 := B14.out.cell
    have k14l := B14.out.lt
    have q14 := B14.out.frozen
    have F1 := hid (F1.out.ext E9)
    have F2 := hid (F2.out.ext E9)
    have F3 := hid (F3.out.ext E9)
    have S47 := hid (S47.out.ext E9)
    have S48 := hid (S48.out.ext E9)
    have S49 := hid (S49.out.ext E9)
    have k22 := B22.out.cell
    have k22l := B22.out.lt
    have q22 := B22.out.frozen
    go_upto_region 25 with (go_at_call 51; refine (within_err (OWN.out.ext E.out) h1 h2 h3 which HTE.out).mono ?_; rintro e w51 ⟨rfl, he51⟩; rw [T1.out]; have E := hid (E.out.trans he51); have kG := (BG.ext E.out).cell; have kGl := (BG.ext E.out).lt; have kH := (BH.ext E.out).cell; have kHl := (BH.ext E.out).lt; have k3 := (B3.ext E.out).cell; have k3l := (B3.ext E.out).lt; have B13 := hid (B13.out.ext he51); have k13 := B13.out.cell; have k13l := B13.out.lt; have q13 := B13.out.frozen; have B14 := hid (B14.out.ext he51); have k14 := B14.out.cell; have k14l := B14.out.lt; have q14 := B14.out.frozen; have B22 := hid (B22.out.ext he51); have k22 := B22.out.cell; have k22l := B22.out.lt; have q22 := B22.out.frozen; have F1 := hid (F1.out.ext he51); have F2 := hid (F2.out.ext he51); have F3 := hid (F3.out.ext he51); have S47 := hid (S47.out.ext he51); have S48 := hid (S48.out.ext he51); have S49 := hid (S49.out.ext he51))
    refine wp_later fun w9 hw9 => ?_
    obtain ⟨E9, b24⟩ := hw9.newB
    clear hw9
    have B24 := hid b24
    clear b24
    have E := hid (E.out.trans E9)
    have kG := (BG.ext E.out).cell
    have kGl := (BG.ext E.out).lt
    have kH := (BH.ext E.out).cell
    have kHl := (BH.ext E.out).lt
    have k3 := (B3.ext E.out).cell
    have k3l := (B3.ext E.out).lt
    have B13 := hid (B13.out.ext E9)
    have k13 := B13.out.cell
    have k13l := B13.out.lt
    have q13 := B13.out.frozen
    have B14 := hid (B14.out.ext E9)
    have k14 := B14.out.cell
    have k14l := B14.out.lt
    have q14 := B14.out.frozen
    have B22 := hid (B22.out.ext E9)
    have k22 := B22.out.cell
    have k22l := B22.out.lt
    have q22 := B22.out.frozen
    have F1 := hid (F1.out.ext E9)
    have F2 := hid (F2.out.ext E9)
    have F3 := hid (F3.out.ext E9)
    have S47 := hid (S47.out.ext E9)
    have S48 := hid (S48.out.ext E9)
    have S49 := hid (S49.out.ext E9)
    have k24 := B24.out.cell
    have k24l := B24.out.lt
    have q24 := B24.out.frozen
    go_wp2_with (first
     | (go_at_call 30; refine (parts_same (by first | exact S47.out | exact S48.out | exact S49.out) (by first | exact hl1 | exact hl2 | exact hl3)).mono ?_; rintro e w30 ⟨vp, rfl, he30, hp⟩; have E := hid (E.out.trans he30); have kG := (BG.ext E.out).cell; have kGl := (BG.ext E.out).lt; have kH := (BH.ext E.out).cell; have kHl := (BH.ext E.out).lt; have k3 := (B3.ext E.out).cell; have k3l := (B3.ext E.out).lt; have B13 := hid (B13.out.ext he30); have k13 := B13.out.cell; have k13l := B13.out.lt; have q13 := B13.out.frozen; have B14 := hid (B14.out.ext he30); have k14 := B14.out.cell; have k14l := B14.out.lt; have q14 := B14.out.frozen; have B22 := hid (B22.out.ext he30); have k22 := B22.out.cell; have k22l := B22.out.lt; have q22 := B22.out.frozen; have B24 := hid (B24.out.ext he30); have k24 := B24.out.cell; have k24l := B24.out.lt; have q24 := B24.out.frozen; have F1 := hid (F1.out.ext he30); have F2 := hid (F2.out.ext he30); have F3 := hid (F3.out.ext he30); have S47 := hid (S47.out.ext he30); have S48 := hid (S48.out.ext he30); have S49 := hid (S49.out.ext he30); have PP := hid hp; clear hp)
     | (go_at_call 52; refine (eq52_same PP.out (by first | exact F1.out | exact F2.out | exact F3.out) (by first | exact hl1 | exact hl2 | exact hl3)).mono ?_; rintro e w52 ⟨rfl, he52⟩; have E := hid (E.out.trans he52); have kG := (BG.ext E.out).cell; have kGl := (BG.ext E.out).lt; have kH := (BH.ext E.out).cell; have kHl := (BH.ext E.out).lt; have k3 := (B3.ext E.out).cell; have k3l := (B3.ext E.out).lt; have B13 := hid (B13.out.ext he52); have k13 := B13.out.cell; have k13l := B13.out.lt; have q13 := B13.out.frozen; have B14 := hid (B14.out.ext he52); have k14 := B14.out.cell; have k14l := B14.out.lt; have q14 := B14.out.frozen; have B22 := hid (B22.out.ext he52); have k22 := B22.out.cell; have k22l := B22.out.lt; have q22 := B22.out.frozen; have B24 := hid (B24.out.ext he52); have k24 := B24.out.cell; have k24l := B24.out.lt; have q24 := B24.out.frozen; have F1 := hid (F1.out.ext he52); have F2 := hid (F2.out.ext he52); have F3 := hid (F3.out.ext he52); have S47 := hid (S47.out.ext he52); have S48 := hid (S48.out.ext he52); have S49 := hid (S49.out.ext he52))
     | (go_at_call 28; refine (same28 (OWN.out.ext E.out) (HV.out.ext (E5.out.trans E.out)) h1 h2 h3 rfl rfl rfl (eqB_refl _ _ _) (eqB_refl _ _ _) (eqB_refl _ _ _)).mono ?_; rintro e w19 ⟨rfl, he19⟩; have E := hid (E.out.trans he19); have kG := (BG.ext E.out).cell; have kGl := (BG.ext E.out).lt; have kH := (BH.ext E.out).cell; have kHl := (BH.ext E.out).lt; have k3 := (B3.ext E.out).cell; have k3l := (B3.ext E.out).lt)
     | (go_at_call 18; refine (awake_any _).mono ?_; rintro e w18 ⟨rfl, he18⟩; have E := hid (E.out.trans he18); have kG := (BG.ext E.out).cell; have kGl := (BG.ext E.out).lt; have kH := (BH.ext E.out).cell; have kHl := (BH.ext E.out).lt; have k3 := (B3.ext E.out).cell; have k3l := (B3.ext E.out).lt))
    go_ret
    exact ⟨rfl, E5.out.trans E.out⟩
   ·go_upto_region 24 with (first
     | (go_at_call 47; refine (short_ok (OWN.out.ext E.out) h1 h2 h3 HX0.out).mono ?_; rintro e w47 ⟨u47, rfl, he47, s47⟩; have E := hid (E.out.trans he47); have kG := (BG.ext E.out).cell; have kGl := (BG.ext E.out).lt; have kH := (BH.ext E.out).cell; have kHl := (BH.ext E.out).lt; have k3 := (B3.ext E.out).cell; have k3l := (B3.ext E.out).lt; have B13 := hid (B13.out.ext he47); have k13 := B13.out.cell; have k13l := B13.out.lt; have q13 := B13.out.frozen; have B14 := hid (B14.out.ext he47); have k14 := B14.out.cell; have k14l := B14.out.lt; have q14 := B14.out.frozen; have F1 := hid (F1.out.ext he47); have F2 := hid (F2.out.ext he47); have F3 := hid (F3.out.ext he47); have S47 := hid s47; clear s47)
     | (go_at_call 48; refine (smallestX_ok (OWN.out.ext E.out) h1 h2 h3 HX0.out).mono ?_; rintro e w48 ⟨u48, rfl, he48, s48⟩; have E := hid (E.out.trans he48); have kG := (BG.ext E.out).cell; have kGl := (BG.ext E.out).lt; have kH := (BH.ext E.out).cell; have kHl := (BH.ext E.out).lt; have k3 := (B3.ext E.out).cell; have k3l := (B3.ext E.out).lt; have B13 := hid (B13.out.ext he48); have k13 := B13.out.cell; have k13l := B13.out.lt; have q13 := B13.out.frozen; have B14 := hid (B14.out.ext he48); have k14 := B14.out.cell; have k14l := B14.out.lt; have q14 := B14.out.frozen; have F1 := hid (F1.out.ext he48); have F2 := hid (F2.out.ext he48); have F3 := hid (F3.out.ext he48); have S47 := hid (S47.out.ext he48); rw [Q2.out] at s48; have S48 := hid s48; clear s48)
     | (go_at_call 49; refine (apart_ok (OWN.out.ext E.out) h1 h2 h3 HX0.out).mono ?_; rintro e w49 ⟨u49, rfl, he49, s49⟩; have E := hid (E.out.trans he49); have kG := (BG.ext E.out).cell; have kGl := (BG.ext E.out).lt; have kH := (BH.ext E.out).cell; have kHl := (BH.ext E.out).lt; have k3 := (B3.ext E.out).cell; have k3l := (B3.ext E.out).lt; have B13 := hid (B13.out.ext he49); have k13 := B13.out.cell; have k13l := B13.out.lt; have q13 := B13.out.frozen; have B14 := hid (B14.out.ext he49); have k14 := B14.out.cell; have k14l := B14.out.lt; have q14 := B14.out.frozen; have F1 := hid (F1.out.ext he49); have F2 := hid (F2.out.ext he49); have F3 := hid (F3.out.ext he49); have S47 := hid (S47.out.ext he49); have S48 := hid (S48.out.ext he49); rw [Q3.out] at s49; have S49 := hid s49; clear s49)
     | (go_at_call 50; refine (clashesX_none (OWN.out.ext E.out) h1 h2 h3 HX0.out HCL.out).mono ?_; rintro e w50 ⟨rfl, he50⟩; have E := hid (E.out.trans he50); have kG := (BG.ext E.out).cell; have kGl := (BG.ext E.out).lt; have kH := (BH.ext E.out).cell; have kHl := (BH.ext E.out).lt; have k3 := (B3.ext E.out).cell; have k3l := (B3.ext E.out).lt; have B13 := hid (B13.out.ext he50); have k13 := B13.out.cell; have k13l := B13.out.lt; have q13 := B13.out.frozen; have B14 := hid (B14.out.ext he50); have k14 := B14.out.cell; have k14l := B14.out.lt; have q14 := B14.out.frozen; have F1 := hid (F1.out.ext he50); have F2 := hid (F2.out.ext he50); have F3 := hid (F3.out.ext he50); have S47 := hid (S47.out.ext he50); have S48 := hid (S48.out.ext he50); have S49 := hid (S49.out.ext he50)))

    refine wp_later fun w9 hw9 => ?_
    obtain ⟨E9, b22⟩ := hw9.newB
    clear hw9
    have B22 := hid b22
    clear b22
    have E := hid (E.out.trans E9)
    have kG := (BG.ext E.out).cell
    have kGl := (BG.ext E.out).lt
    have kH := (BH.ext E.out).cell
    have kHl := (BH.ext E.out).lt
    have k3 := (B3.ext E.out).cell
    have k3l := (B3.ext E.out).lt
    have B13 := hid (B13.out.ext E9)
    have k13 := B13.out.cell
    have k13l := B13.out.lt
    have q13 := B13.out.frozen
    have B14 := hid (B14.out.ext E9)
    have k14 := B14.out.cell
    have k14l := B14.out.lt
    have q14 := B14.out.frozen
    have F1 := hid (F1.out.ext E9)
    have F2 := hid (F2.out.ext E9)
    have F3 := hid (F3.out.ext E9)
    have S47 := hid (S47.out.ext E9)
    have S48 := hid (S48.out.ext E9)
    have S49 := hid (S49.out.ext E9)
    have k22 := B22.out.cell
    have k22l := B22.out.lt
    have q22 := B22.out.frozen
    go_upto_region 25 with (go_at_call 51; refine (within_err (OWN.out.ext E.out) h1 h2 h3 which HTE.out).mono ?_; rintro e w51 ⟨rfl, he51⟩; rw [T1.out]; have E := hid (E.out.trans he51); have kG := (BG.ext E.out).cell; have kGl := (BG.ext E.out).lt; have kH := (BH.ext E.out).cell; have kHl := (BH.ext E.out).lt; have k3 := (B3.ext E.out).cell; have k3l := (B3.ext E.out).lt; have B13 := hid (B13.out.ext he51); have k13 := B13.out.cell; have k13l := B13.out.lt; have q13 := B13.out.frozen; have B14 := hid (B14.out.ext he51); have k14 := B14.out.cell; have k14l := B14.out.lt; have q14 := B14.out.frozen; have B22 := hid (B22.out.ext he51); have k22 := B22.out.cell; have k22l := B22.out.lt; have q22 := B22.out.frozen; have F1 := hid (F1.out.ext he51); have F2 := hid (F2.out.ext he51); have F3 := hid (F3.out.ext he51); have S47 := hid (S47.out.ext he51); have S48 := hid (S48.out.ext he51); have S49 := hid (S49.out.ext he51))
    refine wp_later fun w9 hw9 => ?_
    obtain ⟨E9, b24⟩ := hw9.newB
    clear hw9
    have B24 := hid b24
    clear b24
    have E := hid (E.out.trans E9)
    have kG := (BG.ext E.out).cell
    have kGl := (BG.ext E.out).lt
    have kH := (BH.ext E.out).cell
    have kHl := (BH.ext E.out).lt
    have k3 := (B3.ext E.out).cell
    have k3l := (B3.ext E.out).lt
    have B13 := hid (B13.out.ext E9)
    have k13 := B13.out.cell
    have k13l := B13.out.lt
    have q13 := B13.out.frozen
    have B14 := hid (B14.out.ext E9)
    have k14 := B14.out.cell
    have k14l := B14.out.lt
    have q14 := B14.out.frozen
    have B22 := hid (B22.out.ext E9)
    have k22 := B22.out.cell
    have k22l := B22.out.lt
    have q22 := B22.out.frozen
    have F1 := hid (F1.out.ext E9)
    have F2 := hid (F2.out.ext E9)
    have F3 := hid (F3.out.ext E9)
    have S47 := hid (S47.out.ext E9)
    have S48 := hid (S48.out.ext E9)
    have S49 := hid (S49.out.ext E9)
    have k24 := B24.out.cell
    have k24l := B24.out.lt
    have q24 := B24.out.frozen
    go_wp2_with (first
     | (go_at_call 30; refine (parts_same (by first | exact S47.out | exact S48.out | exact S49.out) (by first | exact hl1 | exact hl2 | exact hl3)).mono ?_; rintro e w30 ⟨vp, rfl, he30, hp⟩; have E := hid (E.out.trans he30); have kG := (BG.ext E.out).cell; have kGl := (BG.ext E.out).lt; have kH := (BH.ext E.out).cell; have kHl := (BH.ext E.out).lt; have k3 := (B3.ext E.out).cell; have k3l := (B3.ext E.out).lt; have B13 := hid (B13.out.ext he30); have k13 := B13.out.cell; have k13l := B13.out.lt; have q13 := B13.out.frozen; have B14 := hid (B14.out.ext he30); have k14 := B14.out.cell; have k14l := B14.out.lt; have q14 := B14.out.frozen; have B22 := hid (B22.out.ext he30); have k22 := B22.out.cell; have k22l := B22.out.lt; have q22 := B22.out.frozen; have B24 := hid (B24.out.ext he30); have k24 := B24.out.cell; have k24l := B24.out.lt; have q24 := B24.out.frozen; have F1 := hid (F1.out.ext he30); have F2 := hid (F2.out.ext he30); have F3 := hid (F3.out.ext he30); have S47 := hid (S47.out.ext he30); have S48 := hid (S48.out.ext he30); have S49 := hid (S49.out.ext he30); have PP := hid hp; clear hp)
     | (go_at_call 52; refine (eq52_same PP.out (by first | exact F1.out | exact F2.out | exact F3.out) (by first | exact hl1 | exact hl2 | exact hl3)).mono ?_; rintro e w52 ⟨rfl, he52⟩; have E := hid (E.out.trans he52); have kG := (BG.ext E.out).cell; have kGl := (BG.ext E.out).lt; have kH := (BH.ext E.out).cell; have kHl := (BH.ext E.out).lt; have k3 := (B3.ext E.out).cell; have k3l := (B3.ext E.out).lt; have B13 := hid (B13.out.ext he52); have k13 := B13.out.cell; have k13l := B13.out.lt; have q13 := B13.out.frozen; have B14 := hid (B14.out.ext he52); have k14 := B14.out.cell; have k14l := B14.out.lt; have q14 := B14.out.frozen; have B22 := hid (B22.out.ext he52); have k22 := B22.out.cell; have k22l := B22.out.lt; have q22 := B22.out.frozen; have B24 := hid (B24.out.ext he52); have k24 := B24.out.cell; have k24l := B24.out.lt; have q24 := B24.out.frozen; have F1 := hid (F1.out.ext he52); have F2 := hid (F2.out.ext he52); have F3 := hid (F3.out.ext he52); have S47 := hid (S47.out.ext he52); have S48 := hid (S48.out.ext he52); have S49 := hid (S49.out.ext he52))
     | (go_at_call 28; refine (same28 (OWN.out.ext E.out) (HV.out.ext (E5.out.trans E.out)) h1 h2 h3 rfl rfl rfl (eqB_refl _ _ _) (eqB_refl _ _ _) (eqB_refl _ _ _)).mono ?_; rintro e w19 ⟨rfl, he19⟩; have E := hid (E.out.trans he19); have kG := (BG.ext E.out).cell; have kGl := (BG.ext E.out).lt; have kH := (BH.ext E.out).cell; have kHl := (BH.ext E.out).lt; have k3 := (B3.ext E.out).cell; have k3l := (B3.ext E.out).lt)
     | (go_at_call 18; refine (awake_any _).mono ?_; rintro e w18 ⟨rfl, he18⟩; have E := hid (E.out.trans he18); have kG := (BG.ext E.out).cell; have kGl := (BG.ext E.out).lt; have kH := (BH.ext E.out).cell; have kHl := (BH.ext E.out).lt; have k3 := (B3.ext E.out).cell; have k3l := (B3.ext E.out).lt))
    go_ret
    exact ⟨rfl, E5.out.trans E.out⟩
 | some s =>
  have HCL := hid hcl
  clear hcl
  have T3 := hid (show P.toldE x false = 7 by rw [T2.out, HCL.out]; rfl)
  go_upto_region 13 with (go_at_call 45; refine (clashes_any hx (THR.out.ext E.out)).mono ?_; rintro e w45 ⟨rfl, he45⟩; rw [HCL.out]; simp only [Option.getD_some, Option.isSome_some]; have E := hid (E.out.trans he45); have kG := (BG.ext E.out).cell; have kGl := (BG.ext E.out).lt; have kH := (BH.ext E.out).cell; have kHl := (BH.ext E.out).lt; have k3 := (B3.ext E.out).cell; have k3l := (B3.ext E.out).lt; have B13 := hid (B13.out.ext he45); have k13 := B13.out.cell; have k13l := B13.out.lt; have q13 := B13.out.frozen; have B14 := hid (B14.out.ext he45); have k14 := B14.out.cell; have k14l := B14.out.lt; have q14 := B14.out.frozen; have F1 := hid (F1.out.ext he45); have F2 := hid (F2.out.ext he45); have F3 := hid (F3.out.ext he45))
  refine wp_later fun w12 hw12 => ?_
  have E := hid (((E.out.setCell _ (p := ⟨w6.heap.size, 0, none⟩) (by omega)).setCell _ (p := ⟨w6.heap.size, 1, none⟩) (by omega)).trans hw12)
  have b13 := ((B13.out.set_ 0 (.int .i64 (s.1 : Int))).set_ 1 (.int .i64 (s.2 : Int))).ext hw12
  simp only [List.setIfInBounds_toArray, List.set_cons_succ, List.set_cons_zero] at b13
  have B13 := hid b13
  have B14 := hid (((B14.out.far (p := ⟨w6.heap.size, 0, none⟩) (by simp) (.int .i64 (s.1 : Int))).far (p := ⟨w6.heap.size, 1, none⟩) (by simp) (.int .i64 (s.2 : Int))).ext hw12)
  have F1 := hid (OwnR.ext (OwnR.far (OwnR.far F1.out (p := ⟨w6.heap.size, 0, none⟩) (by show w6.heap.size < _; omega) (.int .i64 (s.1 : Int))) (p := ⟨w6.heap.size, 1, none⟩) (by show w6.heap.size < _; omega) (.int .i64 (s.2 : Int))) hw12)
  have F2 := hid (OwnR.ext (OwnR.far (OwnR.far F2.out (p := ⟨w6.heap.size, 0, none⟩) (by show w6.heap.size < _; omega) (.int .i64 (s.1 : Int))) (p := ⟨w6.heap.size, 1, none⟩) (by show w6.heap.size < _; omega) (.int .i64 (s.2 : Int))) hw12)
  have F3 := hid (OwnR.ext (OwnR.far (OwnR.far F3.out (p := ⟨w6.heap.size, 0, none⟩) (by show w6.heap.size < _; omega) (.int .i64 (s.1 : Int))) (p := ⟨w6.heap.size, 1, none⟩) (by show w6.heap.size < _; omega) (.int .i64 (s.2 : Int))) hw12)
  clear b13 hw12
  clear k13 k13l q13 k14 k14l q14
  clear kG kGl kH kHl k3 k3l
  have kG := (BG.ext E.out).cell
  have kGl := (BG.ext E.out).lt
  have kH := (BH.ext E.out).cell
  have kHl := (BH.ext E.out).lt
  have k3 := (B3.ext E.out).cell
  have k3l := (B3.ext E.out).lt
  have k13 := B13.out.cell
  have k13l := B13.out.lt
  have q13 := B13.out.frozen
  have k14 := B14.out.cell
  have k14l := B14.out.lt
  have q14 := B14.out.frozen
  by_cases hin : 0 ≤ which ∧ which < (x.cn : Int)
  ·obtain ⟨k, rfl⟩ := Int.eq_ofNat_of_zero_le hin.1
   have hk : k < x.cn := by omega
   have hki : (k : Int) < (x.cn : Int) := by omega
   have HIN := hid hin
   clear hin
   have BC := hid (show badC x (k : Int) = false by unfold badC; simp [inB]; omega)
   have T1 := hid (show P.toldE x (badC x (k : Int)) = 7 by rw [BC.out, T3.out])
   have HTE := hid (show P.toldE x (badC x (k : Int)) ≠ 0 by rw [T1.out]; decide)
   have F1 := hid F1.out.slR
   have F2 := hid F2.out.slR
   have F3 := hid F3.out.slR
   go_upto_region 24 with (first
    | (go_at_call 47; refine (short_ok (OWN.out.ext E.out) h1 h2 h3 HX0.out).mono ?_; rintro e w47 ⟨u47, rfl, he47, s47⟩; have E := hid (E.out.trans he47); have kG := (BG.ext E.out).cell; have kGl := (BG.ext E.out).lt; have kH := (BH.ext E.out).cell; have kHl := (BH.ext E.out).lt; have k3 := (B3.ext E.out).cell; have k3l := (B3.ext E.out).lt; have B13 := hid (B13.out.ext he47); have k13 := B13.out.cell; have k13l := B13.out.lt; have q13 := B13.out.frozen; have B14 := hid (B14.out.ext he47); have k14 := B14.out.cell; have k14l := B14.out.lt; have q14 := B14.out.frozen; have F1 := hid (F1.out.ext he47); have F2 := hid (F2.out.ext he47); have F3 := hid (F3.out.ext he47); have S47 := hid s47; clear s47)
    | (go_at_call 48; refine (smallestX_ok (OWN.out.ext E.out) h1 h2 h3 HX0.out).mono ?_; rintro e w48 ⟨u48, rfl, he48, s48⟩; have E := hid (E.out.trans he48); have kG := (BG.ext E.out).cell; have kGl := (BG.ext E.out).lt; have kH := (BH.ext E.out).cell; have kHl := (BH.ext E.out).lt; have k3 := (B3.ext E.out).cell; have k3l := (B3.ext E.out).lt; have B13 := hid (B13.out.ext he48); have k13 := B13.out.cell; have k13l := B13.out.lt; have q13 := B13.out.frozen; have B14 := hid (B14.out.ext he48); have k14 := B14.out.cell; have k14l := B14.out.lt; have q14 := B14.out.frozen; have F1 := hid (F1.out.ext he48); have F2 := hid (F2.out.ext he48); have F3 := hid (F3.out.ext he48); have S47 := hid (S47.out.ext he48); rw [Q2.out] at s48; have S48 := hid s48; clear s48)
    | (go_at_call 49; refine (apart_ok (OWN.out.ext E.out) h1 h2 h3 HX0.out).mono ?_; rintro e w49 ⟨u49, rfl, he49, s49⟩; have E := hid (E.out.trans he49); have kG := (BG.ext E.out).cell; have kGl := (BG.ext E.out).lt; have kH := (BH.ext E.out).cell; have kHl := (BH.ext E.out).lt; have k3 := (B3.ext E.out).cell; have k3l := (B3.ext E.out).lt; have B13 := hid (B13.out.ext he49); have k13 := B13.out.cell; have k13l := B13.out.lt; have q13 := B13.out.frozen; have B14 := hid (B14.out.ext he49); have k14 := B14.out.cell; have k14l := B14.out.lt; have q14 := B14.out.frozen; have F1 := hid (F1.out.ext he49); have F2 := hid (F2.out.ext he49); have F3 := hid (F3.out.ext he49); have S47 := hid (S47.out.ext he49); have S48 := hid (S48.out.ext he49); rw [Q3.out] at s49; have S49 := hid s49; clear s49)
    | (go_at_call 50; refine (clashesX_ok (OWN.out.ext E.out) h1 h2 h3 HX0.out HCL.out).mono ?_; rintro e w50 ⟨rfl, he50⟩; have E := hid (E.out.trans he50); have kG := (BG.ext E.out).cell; have kGl := (BG.ext E.out).lt; have kH := (BH.ext E.out).cell; have kHl := (BH.ext E.out).lt; have k3 := (B3.ext E.out).cell; have k3l := (B3.ext E.out).lt; have B13 := hid (B13.out.ext he50); have k13 := B13.out.cell; have k13l := B13.out.lt; have q13 := B13.out.frozen; have B14 := hid (B14.out.ext he50); have k14 := B14.out.cell; have k14l := B14.out.lt; have q14 := B14.out.frozen; have F1 := hid (F1.out.ext he50); have F2 := hid (F2.out.ext he50); have F3 := hid (F3.out.ext he50); have S47 := hid (S47.out.ext he50); have S48 := hid (S48.out.ext he50); have S49 := hid (S49.out.ext he50)))

   refine wp_later fun w9 hw9 => ?_
   obtain ⟨E9, b22⟩ := hw9.newB
   clear hw9
   have B22 := hid b22
   clear b22
   have E := hid (E.out.trans E9)
   have kG := (BG.ext E.out).cell
   have kGl := (BG.ext E.out).lt
   have kH := (BH.ext E.out).cell
   have kHl := (BH.ext E.out).lt
   have k3 := (B3.ext E.out).cell
   have k3l := (B3.ext E.out).lt
   have B13 := hid (B13.out.ext E9)
   have k13 := B13.out.cell
   have k13l := B13.out.lt
   have q13 := B13.out.frozen
   have B14 := hid (B14.out.ext E9)
   have k14 := B14.out.cell
   have k14l := B14.out.lt
   have q14 := B14.out.frozen
   have F1 := hid (F1.out.ext E9)
   have F2 := hid (F2.out.ext E9)
   have F3 := hid (F3.out.ext E9)
   have S47 := hid (S47.out.ext E9)
   have S48 := hid (S48.out.ext E9)
   have S49 := hid (S49.out.ext E9)
   have k22 := B22.out.cell
   have k22l := B22.out.lt
   have q22 := B22.out.frozen
   go_upto_region 25 with (go_at_call 51; refine (within_err (OWN.out.ext E.out) h1 h2 h3 (k : Int) HTE.out).mono ?_; rintro e w51 ⟨rfl, he51⟩; rw [T1.out]; have E := hid (E.out.trans he51); have kG := (BG.ext E.out).cell; have kGl := (BG.ext E.out).lt; have kH := (BH.ext E.out).cell; have kHl := (BH.ext E.out).lt; have k3 := (B3.ext E.out).cell; have k3l := (B3.ext E.out).lt; have B13 := hid (B13.out.ext he51); have k13 := B13.out.cell; have k13l := B13.out.lt; have q13 := B13.out.frozen; have B14 := hid (B14.out.ext he51); have k14 := B14.out.cell; have k14l := B14.out.lt; have q14 := B14.out.frozen; have B22 := hid (B22.out.ext he51); have k22 := B22.out.cell; have k22l := B22.out.lt; have q22 := B22.out.frozen; have F1 := hid (F1.out.ext he51); have F2 := hid (F2.out.ext he51); have F3 := hid (F3.out.ext he51); have S47 := hid (S47.out.ext he51); have S48 := hid (S48.out.ext he51); have S49 := hid (S49.out.ext he51))
   refine wp_later fun w9 hw9 => ?_
   obtain ⟨E9, b24⟩ := hw9.newB
   clear hw9
   have B24 := hid b24
   clear b24
   have E := hid (E.out.trans E9)
   have kG := (BG.ext E.out).cell
   have kGl := (BG.ext E.out).lt
   have kH := (BH.ext E.out).cell
   have kHl := (BH.ext E.out).lt
   have k3 := (B3.ext E.out).cell
   have k3l := (B3.ext E.out).lt
   have B13 := hid (B13.out.ext E9)
   have k13 := B13.out.cell
   have k13l := B13.out.lt
   have q13 := B13.out.frozen
   have B14 := hid (B14.out.ext E9)
   have k14 := B14.out.cell
   have k14l := B14.out.lt
   have q14 := B14.out.frozen
   have B22 := hid (B22.out.ext E9)
   have k22 := B22.out.cell
   have k22l := B22.out.lt
   have q22 := B22.out.frozen
   have F1 := hid (F1.out.ext E9)
   have F2 := hid (F2.out.ext E9)
   have F3 := hid (F3.out.ext E9)
   have S47 := hid (S47.out.ext E9)
   have S48 := hid (S48.out.ext E9)
   have S49 := hid (S49.out.ext E9)
   have k24 := B24.out.cell
   have k24l := B24.out.lt
   have q24 := B24.out.frozen
   go_wp2_with (first
    | (go_at_call 30; refine (parts_same (by first | exact S47.out | exact S48.out | exact S49.out) (by first | exact hl1 | exact hl2 | exact hl3)).mono ?_; rintro e w30 ⟨vp, rfl, he30, hp⟩; have E := hid (E.out.trans he30); have kG := (BG.ext E.out).cell; have kGl := (BG.ext E.out).lt; have kH := (BH.ext E.out).cell; have kHl := (BH.ext E.out).lt; have k3 := (B3.ext E.out).cell; have k3l := (B3.ext E.out).lt; have B13 := hid (B13.out.ext he30); have k13 := B13.out.cell; have k13l := B13.out.lt; have q13 := B13.out.frozen; have B14 := hid (B14.out.ext he30); have k14 := B14.out.cell; have k14l := B14.out.lt; have q14 := B14.out.frozen; have B22 := hid (B22.out.ext he30); have k22 := B22.out.cell; have k22l := B22.out.lt; have q22 := B22.out.frozen; have B24 := hid (B24.out.ext he30); have k24 := B24.out.cell; have k24l := B24.out.lt; have q24 := B24.out.frozen; have F1 := hid (F1.out.ext he30); have F2 := hid (F2.out.ext he30); have F3 := hid (F3.out.ext he30); have S47 := hid (S47.out.ext he30); have S48 := hid (S48.out.ext he30); have S49 := hid (S49.out.ext he30); have PP := hid hp; clear hp)
    | (go_at_call 52; refine (eq52_same PP.out (by first | exact F1.out | exact F2.out | exact F3.out) (by first | exact hl1 | exact hl2 | exact hl3)).mono ?_; rintro e w52 ⟨rfl, he52⟩; have E := hid (E.out.trans he52); have kG := (BG.ext E.out).cell; have kGl := (BG.ext E.out).lt; have kH := (BH.ext E.out).cell; have kHl := (BH.ext E.out).lt; have k3 := (B3.ext E.out).cell; have k3l := (B3.ext E.out).lt; have B13 := hid (B13.out.ext he52); have k13 := B13.out.cell; have k13l := B13.out.lt; have q13 := B13.out.frozen; have B14 := hid (B14.out.ext he52); have k14 := B14.out.cell; have k14l := B14.out.lt; have q14 := B14.out.frozen; have B22 := hid (B22.out.ext he52); have k22 := B22.out.cell; have k22l := B22.out.lt; have q22 := B22.out.frozen; have B24 := hid (B24.out.ext he52); have k24 := B24.out.cell; have k24l := B24.out.lt; have q24 := B24.out.frozen; have F1 := hid (F1.out.ext he52); have F2 := hid (F2.out.ext he52); have F3 := hid (F3.out.ext he52); have S47 := hid (S47.out.ext he52); have S48 := hid (S48.out.ext he52); have S49 := hid (S49.out.ext he52))
    | (go_at_call 28; refine (same28 (OWN.out.ext E.out) (HV.out.ext (E5.out.trans E.out)) h1 h2 h3 rfl rfl rfl (eqB_refl _ _ _) (eqB_refl _ _ _) (eqB_refl _ _ _)).mono ?_; rintro e w19 ⟨rfl, he19⟩; have E := hid (E.out.trans he19); have kG := (BG.ext E.out).cell; have kGl := (BG.ext E.out).lt; have kH := (BH.ext E.out).cell; have kHl := (BH.ext E.out).lt; have k3 := (B3.ext E.out).cell; have k3l := (B3.ext E.out).lt)
    | (go_at_call 18; refine (awake_any _).mono ?_; rintro e w18 ⟨rfl, he18⟩; have E := hid (E.out.trans he18); have kG := (BG.ext E.out).cell; have kGl := (BG.ext E.out).lt; have kH := (BH.ext E.out).cell; have kHl := (BH.ext E.out).lt; have k3 := (B3.ext E.out).cell; have k3l := (B3.ext E.out).lt))
   go_ret
   exact ⟨rfl, E5.out.trans E.out⟩
  ·have BC := hid (show badC x which = true by unfold badC; simp [inB]; omega)
   have T1 := hid (show P.toldE x (badC x which) = 1 by rw [BC.out, T0.out])
   have HTE := hid (show P.toldE x (badC x which) ≠ 0 by rw [T1.out]; decide)
   have hcase : which < 0 ∨ (0 ≤ which ∧ (x.cn : Int) ≤ which) := by omega
   clear hin
   have F1 := hid F1.out.slR
   have F2 := hid F2.out.slR
   have F3 := hid F3.out.slR
   rcases hcase with hcase | ⟨hcase2, hcase⟩
   ·go_upto_region 24 with (first
     | (go_at_call 47; refine (short_ok (OWN.out.ext E.out) h1 h2 h3 HX0.out).mono ?_; rintro e w47 ⟨u47, rfl, he47, s47⟩; have E := hid (E.out.trans he47); have kG := (BG.ext E.out).cell; have kGl := (BG.ext E.out).lt; have kH := (BH.ext E.out).cell; have kHl := (BH.ext E.out).lt; have k3 := (B3.ext E.out).cell; have k3l := (B3.ext E.out).lt; have B13 := hid (B13.out.ext he47); have k13 := B13.out.cell; have k13l := B13.out.lt; have q13 := B13.out.frozen; have B14 := hid (B14.out.ext he47); have k14 := B14.out.cell; have k14l := B14.out.lt; have q14 := B14.out.frozen; have F1 := hid (F1.out.ext he47); have F2 := hid (F2.out.ext he47); have F3 := hid (F3.out.ext he47); have S47 := hid s47; clear s47)
     | (go_at_call 48; refine (smallestX_ok (OWN.out.ext E.out) h1 h2 h3 HX0.out).mono ?_; rintro e w48 ⟨u48, rfl, he48, s48⟩; have E := hid (E.out.trans he48); have kG := (BG.ext E.out).cell; have kGl := (BG.ext E.out).lt; have kH := (BH.ext E.out).cell; have kHl := (BH.ext E.out).lt; have k3 := (B3.ext E.out).cell; have k3l := (B3.ext E.out).lt; have B13 := hid (B13.out.ext he48); have k13 := B13.out.cell; have k13l := B13.out.lt; have q13 := B13.out.frozen; have B14 := hid (B14.out.ext he48); have k14 := B14.out.cell; have k14l := B14.out.lt; have q14 := B14.out.frozen; have F1 := hid (F1.out.ext he48); have F2 := hid (F2.out.ext he48); have F3 := hid (F3.out.ext he48); have S47 := hid (S47.out.ext he48); rw [Q2.out] at s48; have S48 := hid s48; clear s48)
     | (go_at_call 49; refine (apart_ok (OWN.out.ext E.out) h1 h2 h3 HX0.out).mono ?_; rintro e w49 ⟨u49, rfl, he49, s49⟩; have E := hid (E.out.trans he49); have kG := (BG.ext E.out).cell; have kGl := (BG.ext E.out).lt; have kH := (BH.ext E.out).cell; have kHl := (BH.ext E.out).lt; have k3 := (B3.ext E.out).cell; have k3l := (B3.ext E.out).lt; have B13 := hid (B13.out.ext he49); have k13 := B13.out.cell; have k13l := B13.out.lt; have q13 := B13.out.frozen; have B14 := hid (B14.out.ext he49); have k14 := B14.out.cell; have k14l := B14.out.lt; have q14 := B14.out.frozen; have F1 := hid (F1.out.ext he49); have F2 := hid (F2.out.ext he49); have F3 := hid (F3.out.ext he49); have S47 := hid (S47.out.ext he49); have S48 := hid (S48.out.ext he49); rw [Q3.out] at s49; have S49 := hid s49; clear s49)
     | (go_at_call 50; refine (clashesX_ok (OWN.out.ext E.out) h1 h2 h3 HX0.out HCL.out).mono ?_; rintro e w50 ⟨rfl, he50⟩; have E := hid (E.out.trans he50); have kG := (BG.ext E.out).cell; have kGl := (BG.ext E.out).lt; have kH := (BH.ext E.out).cell; have kHl := (BH.ext E.out).lt; have k3 := (B3.ext E.out).cell; have k3l := (B3.ext E.out).lt; have B13 := hid (B13.out.ext he50); have k13 := B13.out.cell; have k13l := B13.out.lt; have q13 := B13.out.frozen; have B14 := hid (B14.out.ext he50); have k14 := B14.out.cell; have k14l := B14.out.lt; have q14 := B14.out.frozen; have F1 := hid (F1.out.ext he50); have F2 := hid (F2.out.ext he50); have F3 := hid (F3.out.ext he50); have S47 := hid (S47.out.ext he50); have S48 := hid (S48.out.ext he50); have S49 := hid (S49.out.ext he50)))

    refine wp_later fun w9 hw9 => ?_
    obtain ⟨E9, b22⟩ := hw9.newB
    clear hw9
    have B22 := hid b22
    clear b22
    have E := hid (E.out.trans E9)
    have kG := (BG.ext E.out).cell
    have kGl := (BG.ext E.out).lt
    have kH := (BH.ext E.out).cell
    have kHl := (BH.ext E.out).lt
    have k3 := (B3.ext E.out).cell
    have k3l := (B3.ext E.out).lt
    have B13 := hid (B13.out.ext E9)
    have k13 := B13.out.cell
    have k13l := B13.out.lt
    have q13 := B13.out.frozen
    have B14 := hid (B14.out.ext E9)
    have k14 := B14.out.cell
    have k14l := B14.out.lt
    have q14 := B14.out.frozen
    have F1 := hid (F1.out.ext E9)
    have F2 := hid (F2.out.ext E9)
    have F3 := hid (F3.out.ext E9)
    have S47 := hid (S47.out.ext E9)
    have S48 := hid (S48.out.ext E9)
    have S49 := hid (S49.out.ext E9)
    have k22 := B22.out.cell
    have k22l := B22.out.lt
    have q22 := B22.out.frozen
    go_upto_region 25 with (go_at_call 51; refine (within_err (OWN.out.ext E.out) h1 h2 h3 which HTE.out).mono ?_; rintro e w51 ⟨rfl, he51⟩; rw [T1.out]; have E := hid (E.out.trans he51); have kG := (BG.ext E.out).cell; have kGl := (BG.ext E.out).lt; have kH := (BH.ext E.out).cell; have kHl := (BH.ext E.out).lt; have k3 := (B3.ext E.out).cell; have k3l := (B3.ext E.out).lt; have B13 := hid (B13.out.ext he51); have k13 := B13.out.cell; have k13l := B13.out.lt; have q13 := B13.out.frozen; have B14 := hid (B14.out.ext he51); have k14 := B14.out.cell; have k14l := B14.out.lt; have q14 := B14.out.frozen; have B22 := hid (B22.out.ext he51); have k22 := B22.out.cell; have k22l := B22.out.lt; have q22 := B22.out.frozen; have F1 := hid (F1.out.ext he51); have F2 := hid (F2.out.ext he51); have F3 := hid (F3.out.ext he51); have S47 := hid (S47.out.ext he51); have S48 := hid (S48.out.ext he51); have S49 := hid (S49.out.ext he51))
    refine wp_later fun w9 hw9 => ?_
    obtain ⟨E9, b24⟩ := hw9.newB
    clear hw9
    have B24 := hid b24
    clear b24
    have E := hid (E.out.trans E9)
    have kG := (BG.ext E.out).cell
    have kGl := (BG.ext E.out).lt
    have kH := (BH.ext E.out).cell
    have kHl := (BH.ext E.out).lt
    have k3 := (B3.ext E.out).cell
    have k3l := (B3.ext E.out).lt
    have B13 := hid (B13.out.ext E9)
    have k13 := B13.out.cell
    have k13l := B13.out.lt
    have q13 := B13.out.frozen
    have B14 := hid (B14.out.ext E9)
    have k14 := B14.out.cell
    have k14l := B14.out.lt
    have q14 := B14.out.frozen
    have B22 := hid (B22.out.ext E9)
    have k22 := B22.out.cell
    have k22l := B22.out.lt
    have q22 := B22.out.frozen
    have F1 := hid (F1.out.ext E9)
    have F2 := hid (F2.out.ext E9)
    have F3 := hid (F3.out.ext E9)
    have S47 := hid (S47.out.ext E9)
    have S48 := hid (S48.out.ext E9)
    have S49 := hid (S49.out.ext E9)
    have k24 := B24.out.cell
    have k24l := B24.out.lt
    have q24 := B24.out.frozen
    go_wp2_with (first
     | (go_at_call 30; refine (parts_same (by first | exact S47.out | exact S48.out | exact S49.out) (by first | exact hl1 | exact hl2 | exact hl3)).mono ?_; rintro e w30 ⟨vp, rfl, he30, hp⟩; have E := hid (E.out.trans he30); have kG := (BG.ext E.out).cell; have kGl := (BG.ext E.out).lt; have kH := (BH.ext E.out).cell; have kHl := (BH.ext E.out).lt; have k3 := (B3.ext E.out).cell; have k3l := (B3.ext E.out).lt; have B13 := hid (B13.out.ext he30); have k13 := B13.out.cell; have k13l := B13.out.lt; have q13 := B13.out.frozen; have B14 := hid (B14.out.ext he30); have k14 := B14.out.cell; have k14l := B14.out.lt; have q14 := B14.out.frozen; have B22 := hid (B22.out.ext he30); have k22 := B22.out.cell; have k22l := B22.out.lt; have q22 := B22.out.frozen; have B24 := hid (B24.out.ext he30); have k24 := B24.out.cell; have k24l := B24.out.lt; have q24 := B24.out.frozen; have F1 := hid (F1.out.ext he30); have F2 := hid (F2.out.ext he30); have F3 := hid (F3.out.ext he30); have S47 := hid (S47.out.ext he30); have S48 := hid (S48.out.ext he30); have S49 := hid (S49.out.ext he30); have PP := hid hp; clear hp)
     | (go_at_call 52; refine (eq52_same PP.out (by first | exact F1.out | exact F2.out | exact F3.out) (by first | exact hl1 | exact hl2 | exact hl3)).mono ?_; rintro e w52 ⟨rfl, he52⟩; have E := hid (E.out.trans he52); have kG := (BG.ext E.out).cell; have kGl := (BG.ext E.out).lt; have kH := (BH.ext E.out).cell; have kHl := (BH.ext E.out).lt; have k3 := (B3.ext E.out).cell; have k3l := (B3.ext E.out).lt; have B13 := hid (B13.out.ext he52); have k13 := B13.out.cell; have k13l := B13.out.lt; have q13 := B13.out.frozen; have B14 := hid (B14.out.ext he52); have k14 := B14.out.cell; have k14l := B14.out.lt; have q14 := B14.out.frozen; have B22 := hid (B22.out.ext he52); have k22 := B22.out.cell; have k22l := B22.out.lt; have q22 := B22.out.frozen; have B24 := hid (B24.out.ext he52); have k24 := B24.out.cell; have k24l := B24.out.lt; have q24 := B24.out.frozen; have F1 := hid (F1.out.ext he52); have F2 := hid (F2.out.ext he52); have F3 := hid (F3.out.ext he52); have S47 := hid (S47.out.ext he52); have S48 := hid (S48.out.ext he52); have S49 := hid (S49.out.ext he52))
     | (go_at_call 28; refine (same28 (OWN.out.ext E.out) (HV.out.ext (E5.out.trans E.out)) h1 h2 h3 rfl rfl rfl (eqB_refl _ _ _) (eqB_refl _ _ _) (eqB_refl _ _ _)).mono ?_; rintro e w19 ⟨rfl, he19⟩; have E := hid (E.out.trans he19); have kG := (BG.ext E.out).cell; have kGl := (BG.ext E.out).lt; have kH := (BH.ext E.out).cell; have kHl := (BH.ext E.out).lt; have k3 := (B3.ext E.out).cell; have k3l := (B3.ext E.out).lt)
     | (go_at_call 18; refine (awake_any _).mono ?_; rintro e w18 ⟨rfl, he18⟩; have E := hid (E.out.trans he18); have kG := (BG.ext E.out).cell; have kGl := (BG.ext E.out).lt; have kH := (BH.ext E.out).cell; have kHl := (BH.ext E.out).lt; have k3 := (B3.ext E.out).cell; have k3l := (B3.ext E.out).lt))
    go_ret
    exact ⟨rfl, E5.out.trans E.out⟩
   ·go_upto_region 24 with (first
     | (go_at_call 47; refine (short_ok (OWN.out.ext E.out) h1 h2 h3 HX0.out).mono ?_; rintro e w47 ⟨u47, rfl, he47, s47⟩; have E := hid (E.out.trans he47); have kG := (BG.ext E.out).cell; have kGl := (BG.ext E.out).lt; have kH := (BH.ext E.out).cell; have kHl := (BH.ext E.out).lt; have k3 := (B3.ext E.out).cell; have k3l := (B3.ext E.out).lt; have B13 := hid (B13.out.ext he47); have k13 := B13.out.cell; have k13l := B13.out.lt; have q13 := B13.out.frozen; have B14 := hid (B14.out.ext he47); have k14 := B14.out.cell; have k14l := B14.out.lt; have q14 := B14.out.frozen; have F1 := hid (F1.out.ext he47); have F2 := hid (F2.out.ext he47); have F3 := hid (F3.out.ext he47); have S47 := hid s47; clear s47)
     | (go_at_call 48; refine (smallestX_ok (OWN.out.ext E.out) h1 h2 h3 HX0.out).mono ?_; rintro e w48 ⟨u48, rfl, he48, s48⟩; have E := hid (E.out.trans he48); have kG := (BG.ext E.out).cell; have kGl := (BG.ext E.out).lt; have kH := (BH.ext E.out).cell; have kHl := (BH.ext E.out).lt; have k3 := (B3.ext E.out).cell; have k3l := (B3.ext E.out).lt; have B13 := hid (B13.out.ext he48); have k13 := B13.out.cell; have k13l := B13.out.lt; have q13 := B13.out.frozen; have B14 := hid (B14.out.ext he48); have k14 := B14.out.cell; have k14l := B14.out.lt; have q14 := B14.out.frozen; have F1 := hid (F1.out.ext he48); have F2 := hid (F2.out.ext he48); have F3 := hid (F3.out.ext he48); have S47 := hid (S47.out.ext he48); rw [Q2.out] at s48; have S48 := hid s48; clear s48)
     | (go_at_call 49; refine (apart_ok (OWN.out.ext E.out) h1 h2 h3 HX0.out).mono ?_; rintro e w49 ⟨u49, rfl, he49, s49⟩; have E := hid (E.out.trans he49); have kG := (BG.ext E.out).cell; have kGl := (BG.ext E.out).lt; have kH := (BH.ext E.out).cell; have kHl := (BH.ext E.out).lt; have k3 := (B3.ext E.out).cell; have k3l := (B3.ext E.out).lt; have B13 := hid (B13.out.ext he49); have k13 := B13.out.cell; have k13l := B13.out.lt; have q13 := B13.out.frozen; have B14 := hid (B14.out.ext he49); have k14 := B14.out.cell; have k14l := B14.out.lt; have q14 := B14.out.frozen; have F1 := hid (F1.out.ext he49); have F2 := hid (F2.out.ext he49); have F3 := hid (F3.out.ext he49); have S47 := hid (S47.out.ext he49); have S48 := hid (S48.out.ext he49); rw [Q3.out] at s49; have S49 := hid s49; clear s49)
     | (go_at_call 50; refine (clashesX_ok (OWN.out.ext E.out) h1 h2 h3 HX0.out HCL.out).mono ?_; rintro e w50 ⟨rfl, he50⟩; have E := hid (E.out.trans he50); have kG := (BG.ext E.out).cell; have kGl := (BG.ext E.out).lt; have kH := (BH.ext E.out).cell; have kHl := (BH.ext E.out).lt; have k3 := (B3.ext E.out).cell; have k3l := (B3.ext E.out).lt; have B13 := hid (B13.out.ext he50); have k13 := B13.out.cell; have k13l := B13.out.lt; have q13 := B13.out.frozen; have B14 := hid (B14.out.ext he50); have k14 := B14.out.cell; have k14l := B14.out.lt; have q14 := B14.out.frozen; have F1 := hid (F1.out.ext he50); have F2 := hid (F2.out.ext he50); have F3 := hid (F3.out.ext he50); have S47 := hid (S47.out.ext he50); have S48 := hid (S48.out.ext he50); have S49 := hid (S49.out.ext he50)))

    refine wp_later fun w9 hw9 => ?_
    obtain ⟨E9, b22⟩ := hw9.newB
    clear hw9
    have B22 := hid b22
    clear b22
    have E := hid (E.out.trans E9)
    have kG := (BG.ext E.out).cell
    have kGl := (BG.ext E.out).lt
    have kH := (BH.ext E.out).cell
    have kHl := (BH.ext E.out).lt
    have k3 := (B3.ext E.out).cell
    have k3l := (B3.ext E.out).lt
    have B13 := hid (B13.out.ext E9)
    have k13 := B13.out.cell
    have k13l := B13.out.lt
    have q13 := B13.out.frozen
    have B14 := hid (B14.out.ext E9)
    have k14 := B14.out.cell
    have k14l := B14.out.lt
    have q14 := B14.out.frozen
    have F1 := hid (F1.out.ext E9)
    have F2 := hid (F2.out.ext E9)
    have F3 := hid (F3.out.ext E9)
    have S47 := hid (S47.out.ext E9)
    have S48 := hid (S48.out.ext E9)
    have S49 := hid (S49.out.ext E9)
    have k22 := B22.out.cell
    have k22l := B22.out.lt
    have q22 := B22.out.frozen
    go_upto_region 25 with (go_at_call 51; refine (within_err (OWN.out.ext E.out) h1 h2 h3 which HTE.out).mono ?_; rintro e w51 ⟨rfl, he51⟩; rw [T1.out]; have E := hid (E.out.trans he51); have kG := (BG.ext E.out).cell; have kGl := (BG.ext E.out).lt; have kH := (BH.ext E.out).cell; have kHl := (BH.ext E.out).lt; have k3 := (B3.ext E.out).cell; have k3l := (B3.ext E.out).lt; have B13 := hid (B13.out.ext he51); have k13 := B13.out.cell; have k13l := B13.out.lt; have q13 := B13.out.frozen; have B14 := hid (B14.out.ext he51); have k14 := B14.out.cell; have k14l := B14.out.lt; have q14 := B14.out.frozen; have B22 := hid (B22.out.ext he51); have k22 := B22.out.cell; have k22l := B22.out.lt; have q22 := B22.out.frozen; have F1 := hid (F1.out.ext he51); have F2 := hid (F2.out.ext he51); have F3 := hid (F3.out.ext he51); have S47 := hid (S47.out.ext he51); have S48 := hid (S48.out.ext he51); have S49 := hid (S49.out.ext he51))
    refine wp_later fun w9 hw9 => ?_
    obtain ⟨E9, b24⟩ := hw9.newB
    clear hw9
    have B24 := hid b24
    clear b24
    have E := hid (E.out.trans E9)
    have kG := (BG.ext E.out).cell
    have kGl := (BG.ext E.out).lt
    have kH := (BH.ext E.out).cell
    have kHl := (BH.ext E.out).lt
    have k3 := (B3.ext E.out).cell
    have k3l := (B3.ext E.out).lt
    have B13 := hid (B13.out.ext E9)
    have k13 := B13.out.cell
    have k13l := B13.out.lt
    have q13 := B13.out.frozen
    have B14 := hid (B14.out.ext E9)
    have k14 := B14.out.cell
    have k14l := B14.out.lt
    have q14 := B14.out.frozen
    have B22 := hid (B22.out.ext E9)
    have k22 := B22.out.cell
    have k22l := B22.out.lt
    have q22 := B22.out.frozen
    have F1 := hid (F1.out.ext E9)
    have F2 := hid (F2.out.ext E9)
    have F3 := hid (F3.out.ext E9)
    have S47 := hid (S47.out.ext E9)
    have S48 := hid (S48.out.ext E9)
    have S49 := hid (S49.out.ext E9)
    have k24 := B24.out.cell
    have k24l := B24.out.lt
    have q24 := B24.out.frozen
    go_wp2_with (first
     | (go_at_call 30; refine (parts_same (by first | exact S47.out | exact S48.out | exact S49.out) (by first | exact hl1 | exact hl2 | exact hl3)).mono ?_; rintro e w30 ⟨vp, rfl, he30, hp⟩; have E := hid (E.out.trans he30); have kG := (BG.ext E.out).cell; have kGl := (BG.ext E.out).lt; have kH := (BH.ext E.out).cell; have kHl := (BH.ext E.out).lt; have k3 := (B3.ext E.out).cell; have k3l := (B3.ext E.out).lt; have B13 := hid (B13.out.ext he30); have k13 := B13.out.cell; have k13l := B13.out.lt; have q13 := B13.out.frozen; have B14 := hid (B14.out.ext he30); have k14 := B14.out.cell; have k14l := B14.out.lt; have q14 := B14.out.frozen; have B22 := hid (B22.out.ext he30); have k22 := B22.out.cell; have k22l := B22.out.lt; have q22 := B22.out.frozen; have B24 := hid (B24.out.ext he30); have k24 := B24.out.cell; have k24l := B24.out.lt; have q24 := B24.out.frozen; have F1 := hid (F1.out.ext he30); have F2 := hid (F2.out.ext he30); have F3 := hid (F3.out.ext he30); have S47 := hid (S47.out.ext he30); have S48 := hid (S48.out.ext he30); have S49 := hid (S49.out.ext he30); have PP := hid hp; clear hp)
     | (go_at_call 52; refine (eq52_same PP.out (by first | exact F1.out | exact F2.out | exact F3.out) (by first | exact hl1 | exact hl2 | exact hl3)).mono ?_; rintro e w52 ⟨rfl, he52⟩; have E := hid (E.out.trans he52); have kG := (BG.ext E.out).cell; have kGl := (BG.ext E.out).lt; have kH := (BH.ext E.out).cell; have kHl := (BH.ext E.out).lt; have k3 := (B3.ext E.out).cell; have k3l := (B3.ext E.out).lt; have B13 := hid (B13.out.ext he52); have k13 := B13.out.cell; have k13l := B13.out.lt; have q13 := B13.out.frozen; have B14 := hid (B14.out.ext he52); have k14 := B14.out.cell; have k14l := B14.out.lt; have q14 := B14.out.frozen; have B22 := hid (B22.out.ext he52); have k22 := B22.out.cell; have k22l := B22.out.lt; have q22 := B22.out.frozen; have B24 := hid (B24.out.ext he52); have k24 := B24.out.cell; have k24l := B24.out.lt; have q24 := B24.out.frozen; have F1 := hid (F1.out.ext he52); have F2 := hid (F2.out.ext he52); have F3 := hid (F3.out.ext he52); have S47 := hid (S47.out.ext he52); have S48 := hid (S48.out.ext he52); have S49 := hid (S49.out.ext he52))
     | (go_at_call 28; refine (same28 (OWN.out.ext E.out) (HV.out.ext (E5.out.trans E.out)) h1 h2 h3 rfl rfl rfl (eqB_refl _ _ _) (eqB_refl _ _ _) (eqB_refl _ _ _)).mono ?_; rintro e w19 ⟨rfl, he19⟩; have E := hid (E.out.trans he19); have kG := (BG.ext E.out).cell; have kGl := (BG.ext E.out).lt; have kH := (BH.ext E.out).cell; have kHl := (BH.ext E.out).lt; have k3 := (B3.ext E.out).cell; have k3l := (B3.ext E.out).lt)
     | (go_at_call 18; refine (awake_any _).mono ?_; rintro e w18 ⟨rfl, he18⟩; have E := hid (E.out.trans he18); have kG := (BG.ext E.out).cell; have kGl := (BG.ext E.out).lt; have kH := (BH.ext E.out).cell; have kHl := (BH.ext E.out).lt; have k3 := (B3.ext E.out).cell; have k3l := (B3.ext E.out).lt))
    go_ret
    exact ⟨rfl, E5.out.trans E.out⟩
end Go.Proofs.YtkhjmedfhobebaaGreat
