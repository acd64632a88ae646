/- Walk of the law of explanations: for every watch and every list of hands it returns true. No condition. -/
import Derived.Test.YtkhjmedfhobebaaGreatLawB
import Derived.Test.YtkhjmedfhobebaaGreatLawD
import Derived.Test.YtkhjmedfhobebaaGreatRefK
import Derived.Test.YtkhjmedfhobebaaGreatRefG
import Derived.Test.YtkhjmedfhobebaaGreatRefP
import Derived.Test.YtkhjmedfhobebaaGreatMathC
namespace Go.Proofs.YtkhjmedfhobebaaGreat
open Go.RowKit HandSpec
set_option maxHeartbeats 6400000
set_option maxRecDepth 100000
theorem eq52_same10 {w : World} {u v : Value} {l : List (Nat × Nat)} (hu : SlR w 2 u (rows2 l)) (hv : SlR w 2 v (rows2 l)) (hl : l.length ≤ 1000) :
  Calls Tryz.prog 52 #[u, v] w fun e w' => e = .returned (.bool true) ∧ Ext w w' := by
 obtain ⟨A, q, rfl, hr⟩ := hu
 obtain ⟨B, r, rfl, hs⟩ := hv
 rw [rows2_length] at hr hs ⊢
 have h := eq52 (cap := q) (cap' := r) hr hs hl hl
 rw [eqB_refl] at h
 exact h
theorem slR_nil10 (w : World) : SlR w 2 (.slice none 0 0) (rows2 []) := ⟨none, 0, rfl, Rd.nil⟩
theorem parts_same10 {w : World} {u : Value} {l : List (Nat × Nat)} (hu : SlR w 2 u (rows2 l)) (hl : l.length ≤ 1000) :
  Calls Tryz.prog 30 #[u] w fun e w' => ∃ v, e = .returned v ∧ Ext w w' ∧ SlR w' 2 v (rows2 l) := by
 obtain ⟨A, q, rfl, hr⟩ := hu
 refine (parts30v (cap := q) hr (by rw [rows2_length]; exact hl)).mono ?_
 rintro e w' ⟨v, rfl, he, D, r, rfl, hd⟩
 exact ⟨_, rfl, he, D, r, rfl, hd⟩
theorem eq38_same10 {w : World} {A A' : Option Addr} {n cap cap' : Nat} {g : Nat → Nat → Int} (hr : Rd w A n 1 g) (hs : Rd w A' n 1 g) (hn : n ≤ 1000) :
  Calls Tryz.prog 38 #[.slice A n cap, .slice A' n cap'] w fun e w' => e = .returned (.bool true) ∧ Ext w w' := by
 have h := eq38 (cap := cap) (cap' := cap') hr hs hn hn
 rw [eqB_refl] at h
 exact h
theorem whole_lt10 {x : WD} (hx : Ok x) : R.whole x < 64 := by
 have h := hx.hands
 have h1 : 2 ^ x.hands.toNat ≤ 2 ^ 6 := Nat.pow_le_pow_right (by omega) (by omega)
 unfold R.whole
 omega
def fwU10 (b : Bool) : MSpec := fun v _ _ _ => ∃ u, v = .tuple #[u, .bool b]
theorem lE_chk {x : WD} {g : Nat → Nat → Int} {n : Nat} (h : P.chk x ≠ 0) : lE x g n = P.chk x := by unfold lE; rw [if_pos h]
theorem lE_list {x : WD} {g : Nat → Nat → Int} {n : Nat} (h : P.chk x = 0) : lE x g n = listE x g n := by unfold lE; rw [if_neg (by simpa using h)]
theorem left_len {x : WD} (hx : Ok x) (m : Nat) : (R.left x m).length ≤ 1000 := Nat.le_trans (List.length_filter_le _ _) (Nat.le_trans (smallest_len hx) (by omega))
theorem law10 {x : WD} {w : World} {v : Value} (hv : IsW w v x) {A : Option Addr} {n cap : Nat} {g : Nat → Nat → Int} (hr : Rd w A n 1 g) :
  Calls Tryz.prog 10 #[v, .slice A n cap] w fun e w' => e = .returned (.bool true) ∧ Ext w w' := by
 by_cases hb : (greatB x || decide (10 < n)) = true
 ·have HV := hid hv
  obtain ⟨A1, c1, A2, c2, A3, c3, rfl, r1, r2, r3⟩ := hv
  clear r1 r2 r3 hr
  have HB := hid hb
  clear hb
  cases hg : greatB x
  ·have hn : (10 : Int) < (n : Int) := by have := HB.out; rw [hg] at this; simp at this; omega
   have HG := hid hg
   clear hg
   go_enter Tryz.func10, Tryz.ntmps10
   go_wp2_with (first
    | (go_at_call 31; refine (great31 (HV.out.ext (Ext.alloc (Ext.refl _) _))).mono ?_; rintro e wg ⟨rfl, heg⟩; rw [HG.out])
    | (go_at_call 18; refine (awake_any _).mono ?_; rintro e w10 ⟨rfl, he10⟩))
   go_ret
   exact ⟨rfl, (((Ext.refl _).alloc _).trans heg).trans he10⟩
  ·have HG := hid hg
   clear hg
   go_enter Tryz.func10, Tryz.ntmps10
   go_wp2_with (first
    | (go_at_call 31; refine (great31 (HV.out.ext (Ext.alloc (Ext.refl _) _))).mono ?_; rintro e wg ⟨rfl, heg⟩; rw [HG.out])
    | (go_at_call 18; refine (awake_any _).mono ?_; rintro e w10 ⟨rfl, he10⟩))
   go_ret
   exact ⟨rfl, (((Ext.refl _).alloc _).trans heg).trans he10⟩
 obtain ⟨hgr, hn10⟩ : greatB x = false ∧ n ≤ 10 := by simpa using hb
 have h1 : x.cn ≤ 1000 := by simp [greatB] at hgr; omega
 have h2 : x.bn ≤ 1000 := by simp [greatB] at hgr; omega
 have h3 : x.sn ≤ 1000 := by simp [greatB] at hgr; omega
 have hn3 : ¬ (10 : Int) < (n : Int) := by omega
 have HV := hid hv
 have HR := hid hr
 clear hr hb
 have HGR := hid hgr
 clear hgr
 obtain ⟨A1, c1, A2, c2, A3, c3, rfl, r1, r2, r3⟩ := hv
 clear r1 r2 r3
 go_enter Tryz.func10, Tryz.ntmps10
 go_upto_region 3 with (go_at_call 31; refine (great31 (HV.out.ext (Ext.alloc (Ext.refl _) _))).mono ?_; rintro e wg ⟨rfl, heg⟩; rw [HGR.out])
 refine wp_later fun w1 hw1 => ?_
 obtain ⟨E0, b3⟩ := (heg.trans hw1).newB
 have k3 := b3.cell
 have k3l := b3.lt
 have f3 := b3.frozen
 clear hw1 heg
 refine wp_region_mono 8 [(1, fun v lo hi w => IsWI lo hi w v x), (3, SlI n 1 g), (5, fun v lo hi w => IsWI lo hi w v x), (6, PtI 26 z26), (7, PtI 34 z26)] (by kernel_rfl) (by kernel_rfl) (by kernel_rfl) ?hS ?_
 case hS =>
  simp only [List.forall_mem_cons]
  exact ⟨fun _ _ _ _ _ e h => IsWI.ext h e, fun _ _ _ _ _ e h => SlI.ext h e, fun _ _ _ _ _ e h => IsWI.ext h e, fun _ _ _ _ _ e h => PtI.ext h e, fun _ _ _ _ _ e h => PtI.ext h e, fun _ h => by simp at h⟩
 simp only [List.take_succ_cons, List.take_zero, List.drop_succ_cons, List.drop_zero]
 refine wpM_plain rfl ?_
 go_big_quiet_step (fail)
 refine wpQuiet_nil ?_
 refine wpM_spec _ rfl rfl (fun w2 hw2 _ => ?_) (fun va la ha ga1 ga2 _ hva => ?_)
 ·go_wp2_with (go_at_call 19; refine (own19 (HV.out.ext (E0.trans hw2)) h1 h2 h3).mono ?_; rintro e w' ⟨u, rfl, he, hu⟩)
  exact ⟨_, _, _, rfl, he, Nat.le_refl _, he.size, Nat.le_refl _, IsWI.of hu⟩
 simp only [Act.put, List.setIfInBounds_toArray, List.set_cons_succ, List.set_cons_zero]
 obtain ⟨_, D1, q1, D2, q2, D3, q3, rfl, -⟩ := hva
 refine wpM_plain rfl ?_
 go_big_quiet_step (fail)
 refine wpQuiet_nil ?_
 refine wpM_spec _ rfl rfl (fun w2 hw2 _ => ?_) (fun vb lb hb gb1 gb2 _ hvb => ?_)
 ·go_wp2_with (go_at_call 75; refine (dup75 (HR.out.ext (E0.trans hw2)) (by omega)).mono ?_; rintro e w' ⟨u, rfl, he, hu⟩)
  exact ⟨_, _, _, rfl, he, Nat.le_refl _, he.size, Nat.le_refl _, SlI.of hu⟩
 simp only [Act.put, List.setIfInBounds_toArray, List.set_cons_succ, List.set_cons_zero]
 obtain ⟨_, D4, q4, rfl, -⟩ := hvb
 refine wpM_plain rfl ?_
 go_big_quiet_step (fail)
 refine wpQuiet_nil ?_
 refine wpM_spec _ rfl rfl (fun w2 hw2 _ => ?_) (fun vc lc hc gc1 gc2 _ hvc => ?_)
 ·go_wp2_with (go_at_call 20; refine (theirs20 (HV.out.ext (E0.trans hw2)) h1 h2 h3).mono ?_; rintro e w' ⟨u, rfl, he, hu⟩)
  exact ⟨_, _, _, rfl, he, Nat.le_refl _, he.size, Nat.le_refl _, IsWI.of hu⟩
 simp only [Act.put, List.setIfInBounds_toArray, List.set_cons_succ, List.set_cons_zero]
 obtain ⟨_, D5, q5, D6, q6, D7, q7, rfl, -⟩ := hvc
 refine wpM_spec _ rfl rfl (fun w2 hw2 _ => ?_) (fun vg lg hg gg1 gg2 dg hvg => ?_)
 ·go_wp2
  exact ⟨_, w2.heap.size, w2.heap.size + 1, rfl, (Ext.refl _).alloc _, Nat.le_refl _, Nat.le_succ _, by simp, rfl, rfl, Blk.new _ _ _⟩
 simp only [Act.put, List.setIfInBounds_toArray, List.set_cons_succ, List.set_cons_zero]
 refine wpM_spec _ rfl rfl (fun w2 hw2 _ => ?_) (fun vh lh hh gh1 gh2 dh hvh => ?_)
 ·go_wp2
  exact ⟨_, w2.heap.size, w2.heap.size + 1, rfl, (Ext.refl _).alloc _, Nat.le_refl _, Nat.le_succ _, by simp, rfl, rfl, Blk.new _ _ _⟩
 simp only [Act.put, List.setIfInBounds_toArray, List.set_cons_succ, List.set_cons_zero]
 obtain ⟨_, rfl, rfl, -⟩ := hvg
 obtain ⟨_, rfl, rfl, -⟩ := hvh
 simp only [List.forall_mem_cons] at dg dh
 refine wpM_nil fun w4 hw4 hF => ?_
 simp only [List.forall_mem_cons] at hF
 obtain ⟨⟨-, -, -, bH⟩, ⟨-, -, -, bG⟩, ⟨sc, fc⟩, ⟨sb, fb⟩, ⟨sa, fa⟩, -⟩ := hF
 have hne : lg ≠ lh := by omega
 have hne' : lh ≠ lg := by omega
 have hGl := bG.lt
 have hHl := bH.lt
 have kG := bG.cell
 have kH := bH.cell
 have qG := bG.frozen
 have qH := bH.frozen
 have FB := hid fb
 have FA := hid fa
 have FC := hid fc
 have BH := hid bH
 have BG := hid bG
 have DG := hid dg
 have DH := hid dh
 clear fa fb fc bG bH dg dh
 unfold z26 at kG kH
 go_upto_region 4 with fail
 refine wp_later fun w5 hw5 => ?_
 obtain ⟨e5, x26, x34, km⟩ := boxes (w1 := w1) hw4 FA.out FC.out sa sc BG.out BH.out hne gg1 gh1 (by have := DG.out; omega) (by have := DH.out; omega) (by have := DG.out; omega) (by have := DH.out; omega)
 obtain ⟨F4, p4, hv4, rd4, -⟩ := SlI.kpm FB.out km sb (by have := DG.out; have := DH.out; rintro b h1 h2 (rfl | rfl) <;> omega)
 obtain ⟨rfl, rfl⟩ : D4 = F4 ∧ q4 = p4 := by simpa using hv4
 obtain ⟨G1, g1, G2, g2, G3, g3, bG, wG⟩ := x26
 obtain ⟨H1, l1, H2, l2, H3, l3, bH, wH⟩ := x34
 have OWN := hid (wG.ext hw5)
 have THR := hid (wH.ext hw5)
 have RK := hid (rd4.ext hw5)
 have BG := bG.ext hw5
 have BH := bH.ext hw5
 have E5 := hid (E0.trans (e5.trans hw5))
 have B3 := (b3.ext (e5.trans hw5))
 have E := hid (Ext.refl w5)
 clear hw5 e5 km bG bH wG wH rd4 hv4 kG kH qG qH k3 k3l f3 b3 FA FB FC DG DH sa sb sc hne hne' hw4 E0 hGl hHl gg1 gh1 gg2 gh2 ga1 ga2 gb1 gb2 gc1 gc2
 have kH := BH.cell
 have kHl := BH.lt
 have kG := BG.cell
 have kGl := BG.lt
 have k3 := B3.cell
 have k3l := B3.lt
 have HR5 := hid (HR.out.ext E5.out)
 by_cases hc0 : P.chk x ≠ 0
 ·have hc' : (P.chk x == 0) = false := by simpa using hc0
  have LE := hid (lE_chk (g := g) (n := n) hc0)
  have HE := hid (show lE x g n ≠ 0 by rw [LE.out]; exact hc0)
  clear hc0
  go_wp2_with (first
   | (go_at_call 21; refine (refcheck_any THR.out h1 h2 h3).mono ?_; rintro e w11 ⟨rfl, he11⟩; have E := hid (E.out.trans he11); have kG := (BG.ext E.out).cell; have kGl := (BG.ext E.out).lt; have kH := (BH.ext E.out).cell; have kHl := (BH.ext E.out).lt; have k3 := (B3.ext E.out).cell; have k3l := (B3.ext E.out).lt)
   | (go_at_call 78; refine (explains_err (OWN.out.ext E.out) h1 h2 h3 (RK.out.ext E.out) (by omega) HE.out).mono ?_; rintro e w78 ⟨rfl, he78⟩; rw [LE.out]; have E := hid (E.out.trans he78); have kG := (BG.ext E.out).cell; have kGl := (BG.ext E.out).lt; have kH := (BH.ext E.out).cell; have kHl := (BH.ext E.out).lt; have k3 := (B3.ext E.out).cell; have k3l := (B3.ext E.out).lt)
   | (go_at_call 79; refine (leftX_err (OWN.out.ext E.out) h1 h2 h3 (RK.out.ext E.out) (by omega) HE.out).mono ?_; rintro e w79 ⟨rfl, he79⟩; rw [LE.out]; have E := hid (E.out.trans he79); have kG := (BG.ext E.out).cell; have kGl := (BG.ext E.out).lt; have kH := (BH.ext E.out).cell; have kHl := (BH.ext E.out).lt; have k3 := (B3.ext E.out).cell; have k3l := (B3.ext E.out).lt)
   | (go_at_call 30; refine (parts_same10 (slR_nil10 _) (by simp)).mono ?_; rintro e w30 ⟨u30, rfl, he30, hu30⟩; have E := hid (E.out.trans he30); have kG := (BG.ext E.out).cell; have kGl := (BG.ext E.out).lt; have kH := (BH.ext E.out).cell; have kHl := (BH.ext E.out).lt; have k3 := (B3.ext E.out).cell; have k3l := (B3.ext E.out).lt; have U30 := hid hu30; clear hu30)
   | (go_at_call 52; refine (eq52_same10 U30.out (slR_nil10 _) (by simp)).mono ?_; rintro e w52 ⟨rfl, he52⟩; have E := hid (E.out.trans he52); have kG := (BG.ext E.out).cell; have kGl := (BG.ext E.out).lt; have kH := (BH.ext E.out).cell; have kHl := (BH.ext E.out).lt; have k3 := (B3.ext E.out).cell; have k3l := (B3.ext E.out).lt)
   | (go_at_call 38; refine (eq38_same10 (RK.out.ext E.out) (HR.out.ext (E5.out.trans E.out)) (by omega)).mono ?_; rintro e w38 ⟨rfl, he38⟩; have E := hid (E.out.trans he38); have kG := (BG.ext E.out).cell; have kGl := (BG.ext E.out).lt; have kH := (BH.ext E.out).cell; have kHl := (BH.ext E.out).lt; have k3 := (B3.ext E.out).cell; have k3l := (B3.ext E.out).lt)
   | (go_at_call 28; refine (same28 (OWN.out.ext E.out) (HV.out.ext (E5.out.trans E.out)) h1 h2 h3 rfl rfl rfl (eqB_refl _ _ _) (eqB_refl _ _ _) (eqB_refl _ _ _)).mono ?_; rintro e w28 ⟨rfl, he28⟩; have E := hid (E.out.trans he28); have kG := (BG.ext E.out).cell; have kGl := (BG.ext E.out).lt; have kH := (BH.ext E.out).cell; have kHl := (BH.ext E.out).lt; have k3 := (B3.ext E.out).cell; have k3l := (B3.ext E.out).lt)
   | (go_at_call 18; refine (awake_any _).mono ?_; rintro e w18 ⟨rfl, he18⟩; have E := hid (E.out.trans he18); have kG := (BG.ext E.out).cell; have kGl := (BG.ext E.out).lt; have kH := (BH.ext E.out).cell; have kHl := (BH.ext E.out).lt; have k3 := (B3.ext E.out).cell; have k3l := (B3.ext E.out).lt))
  go_ret
  exact ⟨rfl, E5.out.trans E.out⟩
 have hc := Classical.not_not.1 hc0
 clear hc0
 have hx := Ok.of_chk hc
 have hhd := hx.hands
 have hwl := whole_lt10 hx
 have HC := hid hc
 have LE0 := hid (lE_list (g := g) (n := n) hc)
 clear hc
 by_cases hl : listE x g n ≠ 0
 ·have hl1 : (listE x g n == 0) = false := by simpa using hl
  have LE := LE0
  have HE := hid (show lE x g n ≠ 0 by rw [LE.out]; exact hl)
  clear hl LE0
  go_wp2_with (first
   | (go_at_call 21; refine (refcheck_any THR.out h1 h2 h3).mono ?_; rintro e w11 ⟨rfl, he11⟩; rw [HC.out]; have E := hid (E.out.trans he11); have kG := (BG.ext E.out).cell; have kGl := (BG.ext E.out).lt; have kH := (BH.ext E.out).cell; have kHl := (BH.ext E.out).lt; have k3 := (B3.ext E.out).cell; have k3l := (B3.ext E.out).lt)
   | (go_at_call 76; refine (hands_any hx (THR.out.ext E.out) (HR5.out.ext E.out) (by omega)).mono ?_; rintro e w76 ⟨rfl, he76⟩; have E := hid (E.out.trans he76); have kG := (BG.ext E.out).cell; have kGl := (BG.ext E.out).lt; have kH := (BH.ext E.out).cell; have kHl := (BH.ext E.out).lt; have k3 := (B3.ext E.out).cell; have k3l := (B3.ext E.out).lt)
   | (go_at_call 78; refine (explains_err (OWN.out.ext E.out) h1 h2 h3 (RK.out.ext E.out) (by omega) HE.out).mono ?_; rintro e w78 ⟨rfl, he78⟩; rw [LE.out]; have E := hid (E.out.trans he78); have kG := (BG.ext E.out).cell; have kGl := (BG.ext E.out).lt; have kH := (BH.ext E.out).cell; have kHl := (BH.ext E.out).lt; have k3 := (B3.ext E.out).cell; have k3l := (B3.ext E.out).lt)
   | (go_at_call 79; refine (leftX_err (OWN.out.ext E.out) h1 h2 h3 (RK.out.ext E.out) (by omega) HE.out).mono ?_; rintro e w79 ⟨rfl, he79⟩; rw [LE.out]; have E := hid (E.out.trans he79); have kG := (BG.ext E.out).cell; have kGl := (BG.ext E.out).lt; have kH := (BH.ext E.out).cell; have kHl := (BH.ext E.out).lt; have k3 := (B3.ext E.out).cell; have k3l := (B3.ext E.out).lt)
   | (go_at_call 30; refine (parts_same10 (slR_nil10 _) (by simp)).mono ?_; rintro e w30 ⟨u30, rfl, he30, hu30⟩; have E := hid (E.out.trans he30); have kG := (BG.ext E.out).cell; have kGl := (BG.ext E.out).lt; have kH := (BH.ext E.out).cell; have kHl := (BH.ext E.out).lt; have k3 := (B3.ext E.out).cell; have k3l := (B3.ext E.out).lt; have U30 := hid hu30; clear hu30)
   | (go_at_call 52; refine (eq52_same10 U30.out (slR_nil10 _) (by simp)).mono ?_; rintro e w52 ⟨rfl, he52⟩; have E := hid (E.out.trans he52); have kG := (BG.ext E.out).cell; have kGl := (BG.ext E.out).lt; have kH := (BH.ext E.out).cell; have kHl := (BH.ext E.out).lt; have k3 := (B3.ext E.out).cell; have k3l := (B3.ext E.out).lt)
   | (go_at_call 38; refine (eq38_same10 (RK.out.ext E.out) (HR.out.ext (E5.out.trans E.out)) (by omega)).mono ?_; rintro e w38 ⟨rfl, he38⟩; have E := hid (E.out.trans he38); have kG := (BG.ext E.out).cell; have kGl := (BG.ext E.out).lt; have kH := (BH.ext E.out).cell; have kHl := (BH.ext E.out).lt; have k3 := (B3.ext E.out).cell; have k3l := (B3.ext E.out).lt)
   | (go_at_call 28; refine (same28 (OWN.out.ext E.out) (HV.out.ext (E5.out.trans E.out)) h1 h2 h3 rfl rfl rfl (eqB_refl _ _ _) (eqB_refl _ _ _) (eqB_refl _ _ _)).mono ?_; rintro e w28 ⟨rfl, he28⟩; have E := hid (E.out.trans he28); have kG := (BG.ext E.out).cell; have kGl := (BG.ext E.out).lt; have kH := (BH.ext E.out).cell; have kHl := (BH.ext E.out).lt; have k3 := (B3.ext E.out).cell; have k3l := (B3.ext E.out).lt)
   | (go_at_call 18; refine (awake_any _).mono ?_; rintro e w18 ⟨rfl, he18⟩; have E := hid (E.out.trans he18); have kG := (BG.ext E.out).cell; have kGl := (BG.ext E.out).lt; have kH := (BH.ext E.out).cell; have kHl := (BH.ext E.out).lt; have k3 := (B3.ext E.out).cell; have k3l := (B3.ext E.out).lt))
  go_ret
  exact ⟨rfl, E5.out.trans E.out⟩
 have hl := Classical.not_not.1 hl
 have HE := hid (show lE x g n = 0 by rw [LE0.out]; exact hl)
 have HLE := hid hl
 obtain ⟨hq1, hq2, -⟩ := lE_zero HE.out
 have hm64 : P.set (natL g n) < 64 := set_lt (natL_lt hx hq2)
 have HHV := hid (show handsV x g n = (P.set (natL g n) : Int) by unfold handsV; rw [HLE.out]; rfl)
 clear hl hq1 hq2 LE0
 cases hfw : R.fwOk x (R.whole x)
 all_goals
  have HFW := hid hfw
  clear hfw
 ·have CL := hid (show (R.clashes x).isSome = true by rw [L.clash_iff hx, HFW.out]; rfl)
  go_upto_region 15 with (first
   | (go_at_call 21; refine (refcheck_any THR.out h1 h2 h3).mono ?_; rintro e w11 ⟨rfl, he11⟩; rw [HC.out]; have E := hid (E.out.trans he11); have kG := (BG.ext E.out).cell; have kGl := (BG.ext E.out).lt; have kH := (BH.ext E.out).cell; have kHl := (BH.ext E.out).lt; have k3 := (B3.ext E.out).cell; have k3l := (B3.ext E.out).lt)
   | (go_at_call 76; refine (hands_any hx (THR.out.ext E.out) (HR5.out.ext E.out) (by omega)).mono ?_; rintro e w76 ⟨rfl, he76⟩; rw [HHV.out, HLE.out]; have E := hid (E.out.trans he76); have kG := (BG.ext E.out).cell; have kGl := (BG.ext E.out).lt; have kH := (BH.ext E.out).cell; have kHl := (BH.ext E.out).lt; have k3 := (B3.ext E.out).cell; have k3l := (B3.ext E.out).lt)
   | (go_at_call 77; refine (left77 hx (THR.out.ext E.out) (P.set (natL g n)) (by omega)).mono ?_; rintro e w77 ⟨u77, rfl, he77, hu77⟩; have E := hid (E.out.trans he77); have kG := (BG.ext E.out).cell; have kGl := (BG.ext E.out).lt; have kH := (BH.ext E.out).cell; have kHl := (BH.ext E.out).lt; have k3 := (B3.ext E.out).cell; have k3l := (B3.ext E.out).lt; have LF := hid hu77; clear hu77))
  refine wp_region_mono 9 [(2, fun v _ _ _ => v = .int .i64 ((R.whole x : Nat) : Int)), (3, fwU10 false)] (by kernel_rfl) (by kernel_rfl) (by kernel_rfl) ?hS ?_
  case hS =>
   simp only [List.forall_mem_cons]
   exact ⟨fun _ _ _ _ _ _ h => h, fun _ _ _ _ _ _ h => h, fun _ h => by simp at h⟩
  simp only [List.take_succ_cons, List.drop_succ_cons, List.take_nil, List.drop_nil]
  refine wpM_plain rfl ?_
  go_big_quiet_step (fail)
  refine wpQuiet_nil ?_
  refine wpM_plain rfl ?_
  go_big_quiet_step (fail)
  refine wpQuiet_nil ?_
  refine wpM_spec _ rfl rfl (fun w2 hw2 _ => ?_) (fun va la ha ga1 ga2 _ hva => ?_)
  ·go_wp2_with (go_at_call 23; refine (whole_any hx (THR.out.ext (E.out.trans hw2))).mono ?_; rintro e w5 ⟨rfl, he5⟩)
   exact ⟨_, _, _, rfl, he5, Nat.le_refl _, he5.size, Nat.le_refl _, rfl⟩
  obtain ⟨_, rfl⟩ := hva
  simp only [Act.put, List.setIfInBounds_toArray, List.set_cons_succ, List.set_cons_zero]
  refine wpM_spec _ rfl rfl (fun w2 hw2 _ => ?_) (fun va la ha ga1 ga2 _ hva => ?_)
  ·go_wp2_with (go_at_call 22; refine (forward_any hx (THR.out.ext (E.out.trans hw2)) (R.whole x) (by omega)).mono ?_; rintro e w5 ⟨u, rfl, he5, -⟩; rw [HFW.out])
   exact ⟨_, _, _, rfl, he5, Nat.le_refl _, he5.size, Nat.le_refl _, u, rfl⟩
  obtain ⟨_, u, rfl⟩ := hva
  simp only [Act.put, List.setIfInBounds_toArray, List.set_cons_succ, List.set_cons_zero]
  refine wpM_plain rfl ?_
  go_big_quiet_step (fail)
  refine wpQuiet_nil ?_
  refine wpM_plain rfl ?_
  go_big_quiet_step (fail)
  refine wpQuiet_nil ?_
  refine wpM_plain rfl ?_
  go_big_quiet_step (fail)
  refine wpQuiet_nil ?_
  refine wpM_plain rfl ?_
  go_big_quiet_step (fail)
  refine wpQuiet_nil ?_
  refine wpM_plain rfl ?_
  go_big_quiet_step (fail)
  refine wpQuiet_nil ?_
  refine wpM_nil fun w6 hw6 _ => ?_
  have E := hid (E.out.trans hw6)
  have kG := (BG.ext E.out).cell
  have kGl := (BG.ext E.out).lt
  have kH := (BH.ext E.out).cell
  have kHl := (BH.ext E.out).lt
  have k3 := (B3.ext E.out).cell
  have k3l := (B3.ext E.out).lt
  have LF := hid (LF.out.ext hw6)
  go_wp2_with (first
   | (go_at_call 78; refine (explains_clash (OWN.out.ext E.out) h1 h2 h3 (RK.out.ext E.out) (by omega) HE.out CL.out).mono ?_; rintro e w78 ⟨rfl, he78⟩; have E := hid (E.out.trans he78); have kG := (BG.ext E.out).cell; have kGl := (BG.ext E.out).lt; have kH := (BH.ext E.out).cell; have kHl := (BH.ext E.out).lt; have k3 := (B3.ext E.out).cell; have k3l := (B3.ext E.out).lt; have LF := hid (LF.out.ext he78))
   | (go_at_call 79; refine (leftX_ok (OWN.out.ext E.out) h1 h2 h3 (RK.out.ext E.out) (by omega) HE.out).mono ?_; rintro e w79 ⟨u79, rfl, he79, hu79⟩; rw [left_eq hx] at hu79; have E := hid (E.out.trans he79); have kG := (BG.ext E.out).cell; have kGl := (BG.ext E.out).lt; have kH := (BH.ext E.out).cell; have kHl := (BH.ext E.out).lt; have k3 := (B3.ext E.out).cell; have k3l := (B3.ext E.out).lt; have LF := hid (LF.out.ext he79); have U79 := hid hu79; clear hu79)
   | (go_at_call 30; refine (parts_same10 U79.out (left_len hx _)).mono ?_; rintro e w30 ⟨u30, rfl, he30, hu30⟩; have E := hid (E.out.trans he30); have kG := (BG.ext E.out).cell; have kGl := (BG.ext E.out).lt; have kH := (BH.ext E.out).cell; have kHl := (BH.ext E.out).lt; have k3 := (B3.ext E.out).cell; have k3l := (B3.ext E.out).lt; have LF := hid (LF.out.ext he30); have U30 := hid hu30; clear hu30)
   | (go_at_call 52; refine (eq52_same10 U30.out LF.out (left_len hx _)).mono ?_; rintro e w52 ⟨rfl, he52⟩; have E := hid (E.out.trans he52); have kG := (BG.ext E.out).cell; have kGl := (BG.ext E.out).lt; have kH := (BH.ext E.out).cell; have kHl := (BH.ext E.out).lt; have k3 := (B3.ext E.out).cell; have k3l := (B3.ext E.out).lt; have LF := hid (LF.out.ext he52))
   | (go_at_call 38; refine (eq38_same10 (RK.out.ext E.out) (HR.out.ext (E5.out.trans E.out)) (by omega)).mono ?_; rintro e w38 ⟨rfl, he38⟩; have E := hid (E.out.trans he38); have kG := (BG.ext E.out).cell; have kGl := (BG.ext E.out).lt; have kH := (BH.ext E.out).cell; have kHl := (BH.ext E.out).lt; have k3 := (B3.ext E.out).cell; have k3l := (B3.ext E.out).lt; have LF := hid (LF.out.ext he38))
   | (go_at_call 28; refine (same28 (OWN.out.ext E.out) (HV.out.ext (E5.out.trans E.out)) h1 h2 h3 rfl rfl rfl (eqB_refl _ _ _) (eqB_refl _ _ _) (eqB_refl _ _ _)).mono ?_; rintro e w28 ⟨rfl, he28⟩; have E := hid (E.out.trans he28); have kG := (BG.ext E.out).cell; have kGl := (BG.ext E.out).lt; have kH := (BH.ext E.out).cell; have kHl := (BH.ext E.out).lt; have k3 := (B3.ext E.out).cell; have k3l := (B3.ext E.out).lt; have LF := hid (LF.out.ext he28))
   | (go_at_call 18; refine (awake_any _).mono ?_; rintro e w18 ⟨rfl, he18⟩; have E := hid (E.out.trans he18); have kG := (BG.ext E.out).cell; have kGl := (BG.ext E.out).lt; have kH := (BH.ext E.out).cell; have kHl := (BH.ext E.out).lt; have k3 := (B3.ext E.out).cell; have k3l := (B3.ext E.out).lt; have LF := hid (LF.out.ext he18)))
  go_ret
  exact ⟨rfl, E5.out.trans E.out⟩
 ·have CL := hid (show (R.clashes x).isSome = false by rw [L.clash_iff hx, HFW.out]; rfl)
  have LFW0 := hid (F.left_fw hx HFW.out (P.set (natL g n)))
  go_upto_region 15 with (first
   | (go_at_call 21; refine (refcheck_any THR.out h1 h2 h3).mono ?_; rintro e w11 ⟨rfl, he11⟩; rw [HC.out]; have E := hid (E.out.trans he11); have kG := (BG.ext E.out).cell; have kGl := (BG.ext E.out).lt; have kH := (BH.ext E.out).cell; have kHl := (BH.ext E.out).lt; have k3 := (B3.ext E.out).cell; have k3l := (B3.ext E.out).lt)
   | (go_at_call 76; refine (hands_any hx (THR.out.ext E.out) (HR5.out.ext E.out) (by omega)).mono ?_; rintro e w76 ⟨rfl, he76⟩; rw [HHV.out, HLE.out]; have E := hid (E.out.trans he76); have kG := (BG.ext E.out).cell; have kGl := (BG.ext E.out).lt; have kH := (BH.ext E.out).cell; have kHl := (BH.ext E.out).lt; have k3 := (B3.ext E.out).cell; have k3l := (B3.ext E.out).lt)
   | (go_at_call 77; refine (left77 hx (THR.out.ext E.out) (P.set (natL g n)) (by omega)).mono ?_; rintro e w77 ⟨u77, rfl, he77, hu77⟩; have E := hid (E.out.trans he77); have kG := (BG.ext E.out).cell; have kGl := (BG.ext E.out).lt; have kH := (BH.ext E.out).cell; have kHl := (BH.ext E.out).lt; have k3 := (B3.ext E.out).cell; have k3l := (B3.ext E.out).lt; have LF := hid hu77; clear hu77))
  refine wp_region_mono 9 [(2, fun v _ _ _ => v = .int .i64 ((R.whole x : Nat) : Int)), (3, fwU10 true)] (by kernel_rfl) (by kernel_rfl) (by kernel_rfl) ?hS ?_
  case hS =>
   simp only [List.forall_mem_cons]
   exact ⟨fun _ _ _ _ _ _ h => h, fun _ _ _ _ _ _ h => h, fun _ h => by simp at h⟩
  simp only [List.take_succ_cons, List.drop_succ_cons, List.take_nil, List.drop_nil]
  refine wpM_plain rfl ?_
  go_big_quiet_step (fail)
  refine wpQuiet_nil ?_
  refine wpM_plain rfl ?_
  go_big_quiet_step (fail)
  refine wpQuiet_nil ?_
  refine wpM_spec _ rfl rfl (fun w2 hw2 _ => ?_) (fun va la ha ga1 ga2 _ hva => ?_)
  ·go_wp2_with (go_at_call 23; refine (whole_any hx (THR.out.ext (E.out.trans hw2))).mono ?_; rintro e w5 ⟨rfl, he5⟩)
   exact ⟨_, _, _, rfl, he5, Nat.le_refl _, he5.size, Nat.le_refl _, rfl⟩
  obtain ⟨_, rfl⟩ := hva
  simp only [Act.put, List.setIfInBounds_toArray, List.set_cons_succ, List.set_cons_zero]
  refine wpM_spec _ rfl rfl (fun w2 hw2 _ => ?_) (fun va la ha ga1 ga2 _ hva => ?_)
  ·go_wp2_with (go_at_call 22; refine (forward_any hx (THR.out.ext (E.out.trans hw2)) (R.whole x) (by omega)).mono ?_; rintro e w5 ⟨u, rfl, he5, -⟩; rw [HFW.out])
   exact ⟨_, _, _, rfl, he5, Nat.le_refl _, he5.size, Nat.le_refl _, u, rfl⟩
  obtain ⟨_, u, rfl⟩ := hva
  simp only [Act.put, List.setIfInBounds_toArray, List.set_cons_succ, List.set_cons_zero]
  refine wpM_plain rfl ?_
  go_big_quiet_step (fail)
  refine wpQuiet_nil ?_
  refine wpM_plain rfl ?_
  go_big_quiet_step (fail)
  refine wpQuiet_nil ?_
  refine wpM_plain rfl ?_
  go_big_quiet_step (fail)
  refine wpQuiet_nil ?_
  refine wpM_plain rfl ?_
  go_big_quiet_step (fail)
  refine wpQuiet_nil ?_
  refine wpM_plain rfl ?_
  go_big_quiet_step (fail)
  refine wpQuiet_nil ?_
  refine wpM_nil fun w6 hw6 _ => ?_
  have E := hid (E.out.trans hw6)
  have kG := (BG.ext E.out).cell
  have kGl := (BG.ext E.out).lt
  have kH := (BH.ext E.out).cell
  have kHl := (BH.ext E.out).lt
  have k3 := (B3.ext E.out).cell
  have k3l := (B3.ext E.out).lt
  have LF := hid (LF.out.ext hw6)
  cases hbb : R.fwOk x (P.set (natL g n))
  all_goals
   have HB := hid hbb
   have LFW := hid (LFW0.out.trans HB.out)
   clear hbb
   go_wp2_with (first
    | (go_at_call 22; refine (forward_any hx (THR.out.ext E.out) (P.set (natL g n)) (by omega)).mono ?_; rintro e w22 ⟨u22, rfl, he22, -⟩; rw [HB.out]; have E := hid (E.out.trans he22); have kG := (BG.ext E.out).cell; have kGl := (BG.ext E.out).lt; have kH := (BH.ext E.out).cell; have kHl := (BH.ext E.out).lt; have k3 := (B3.ext E.out).cell; have k3l := (B3.ext E.out).lt; have LF := hid (LF.out.ext he22))
    | (go_at_call 78; refine (explains_ok (OWN.out.ext E.out) h1 h2 h3 (RK.out.ext E.out) (by omega) HE.out CL.out).mono ?_; rintro e w78 ⟨rfl, he78⟩; rw [LFW.out]; have E := hid (E.out.trans he78); have kG := (BG.ext E.out).cell; have kGl := (BG.ext E.out).lt; have kH := (BH.ext E.out).cell; have kHl := (BH.ext E.out).lt; have k3 := (B3.ext E.out).cell; have k3l := (B3.ext E.out).lt; have LF := hid (LF.out.ext he78))
    | (go_at_call 79; refine (leftX_ok (OWN.out.ext E.out) h1 h2 h3 (RK.out.ext E.out) (by omega) HE.out).mono ?_; rintro e w79 ⟨u79, rfl, he79, hu79⟩; rw [left_eq hx] at hu79; have E := hid (E.out.trans he79); have kG := (BG.ext E.out).cell; have kGl := (BG.ext E.out).lt; have kH := (BH.ext E.out).cell; have kHl := (BH.ext E.out).lt; have k3 := (B3.ext E.out).cell; have k3l := (B3.ext E.out).lt; have LF := hid (LF.out.ext he79); have U79 := hid hu79; clear hu79)
    | (go_at_call 30; refine (parts_same10 U79.out (left_len hx _)).mono ?_; rintro e w30 ⟨u30, rfl, he30, hu30⟩; have E := hid (E.out.trans he30); have kG := (BG.ext E.out).cell; have kGl := (BG.ext E.out).lt; have kH := (BH.ext E.out).cell; have kHl := (BH.ext E.out).lt; have k3 := (B3.ext E.out).cell; have k3l := (B3.ext E.out).lt; have LF := hid (LF.out.ext he30); have U30 := hid hu30; clear hu30)
    | (go_at_call 52; refine (eq52_same10 U30.out LF.out (left_len hx _)).mono ?_; rintro e w52 ⟨rfl, he52⟩; have E := hid (E.out.trans he52); have kG := (BG.ext E.out).cell; have kGl := (BG.ext E.out).lt; have kH := (BH.ext E.out).cell; have kHl := (BH.ext E.out).lt; have k3 := (B3.ext E.out).cell; have k3l := (B3.ext E.out).lt; have LF := hid (LF.out.ext he52))
    | (go_at_call 38; refine (eq38_same10 (RK.out.ext E.out) (HR.out.ext (E5.out.trans E.out)) (by omega)).mono ?_; rintro e w38 ⟨rfl, he38⟩; have E := hid (E.out.trans he38); have kG := (BG.ext E.out).cell; have kGl := (BG.ext E.out).lt; have kH := (BH.ext E.out).cell; have kHl := (BH.ext E.out).lt; have k3 := (B3.ext E.out).cell; have k3l := (B3.ext E.out).lt; have LF := hid (LF.out.ext he38))
    | (go_at_call 28; refine (same28 (OWN.out.ext E.out) (HV.out.ext (E5.out.trans E.out)) h1 h2 h3 rfl rfl rfl (eqB_refl _ _ _) (eqB_refl _ _ _) (eqB_refl _ _ _)).mono ?_; rintro e w28 ⟨rfl, he28⟩; have E := hid (E.out.trans he28); have kG := (BG.ext E.out).cell; have kGl := (BG.ext E.out).lt; have kH := (BH.ext E.out).cell; have kHl := (BH.ext E.out).lt; have k3 := (B3.ext E.out).cell; have k3l := (B3.ext E.out).lt; have LF := hid (LF.out.ext he28))
    | (go_at_call 18; refine (awake_any _).mono ?_; rintro e w18 ⟨rfl, he18⟩; have E := hid (E.out.trans he18); have kG := (BG.ext E.out).cell; have kGl := (BG.ext E.out).lt; have kH := (BH.ext E.out).cell; have kHl := (BH.ext E.out).lt; have k3 := (B3.ext E.out).cell; have k3l := (B3.ext E.out).lt; have LF := hid (LF.out.ext he18)))
   go_ret
   exact ⟨rfl, E5.out.trans E.out⟩
end Go.Proofs.YtkhjmedfhobebaaGreat
