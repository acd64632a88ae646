/- Walk of the law of the fewest hands: for every watch it returns true. No condition. -/
import Derived.Test.YtkhjmedfhobebaaGreatLawB
import Derived.Test.YtkhjmedfhobebaaGreatLawD
import Derived.Test.YtkhjmedfhobebaaGreatDoP
import Derived.Test.YtkhjmedfhobebaaGreatRefV
import Derived.Test.YtkhjmedfhobebaaGreatMathC
namespace Go.Proofs.YtkhjmedfhobebaaGreat
open Go.RowKit HandSpec
set_option maxHeartbeats 3200000
set_option maxRecDepth 100000
/-- A slice in a watch has room for its counts. -/
def CapV (n : Nat) (v : Value) : Prop := ∀ a b c A q s t, v = .agg #[a, b, c, .slice A n q, s, t] → n ≤ q
theorem CapV.of {lo : Nat} {w : World} {v : Value} {x : WD} (h : IsWF lo w v x) : CapV x.cn v := by
 obtain ⟨A1, c1, A2, c2, A3, c3, rfl, -, -, -, -, -, -, hc⟩ := h
 intro a b c A q s t e
 simp only [Value.agg.injEq, Array.mk.injEq, List.cons.injEq, Value.slice.injEq, true_and] at e
 omega
def WIC (x : WD) : MSpec := fun v lo hi w => IsWI lo hi w v x ∧ CapV x.cn v
theorem WIC.ext {x : WD} {v : Value} {lo hi : Nat} {w w' : World} (h : WIC x v lo hi w) (e : Ext w w') : WIC x v lo hi w' := ⟨h.1.ext e, h.2⟩
theorem IsWC.of {x : WD} {w : World} {A1 A2 A3 : Option Addr} {c1 c2 c3 : Nat} (h : IsW w (.agg #[.int .i64 x.hours, .int .i64 x.allow, .int .i64 x.hands, .slice A1 x.cn c1, .slice A2 x.bn c2, .slice A3 x.sn c3]) x) (hc : x.cn ≤ c1) :
  IsWC w (.agg #[.int .i64 x.hours, .int .i64 x.allow, .int .i64 x.hands, .slice A1 x.cn c1, .slice A2 x.bn c2, .slice A3 x.sn c3]) x := by
 obtain ⟨B1, d1, B2, d2, B3, d3, e, h1, h2, h3⟩ := h
 simp only [Value.agg.injEq, Array.mk.injEq, List.cons.injEq, Value.slice.injEq, true_and, and_true] at e
 obtain ⟨⟨rfl, rfl⟩, ⟨rfl, rfl⟩, ⟨rfl, rfl⟩⟩ := e
 exact ⟨_, _, _, _, _, _, rfl, h1, h2, h3, hc⟩
def Box6C (t : TypeId) (W : World) (g : Nat) (x : WD) : Prop :=
 ∃ A1 c1 A2 c2 A3 c3, Blk W g t #[.int .i64 x.hours, .int .i64 x.allow, .int .i64 x.hands, .slice A1 x.cn c1, .slice A2 x.bn c2, .slice A3 x.sn c3] ∧ IsW W (.agg #[.int .i64 x.hours, .int .i64 x.allow, .int .i64 x.hands, .slice A1 x.cn c1, .slice A2 x.bn c2, .slice A3 x.sn c3]) x ∧ x.cn ≤ c1
theorem boxesC {x : WD} {w1 W : World} {la ha lb hb G H : Nat} {A1 A2 A3 D1 D2 D3 : Option Addr} {q1 q2 q3 p1 p2 p3 : Nat} {z0 z1 z2 z3 z4 z5 y0 y1 y2 y3 y4 y5 : Value} (e1 : Ext w1 W)
  (va : IsWI la ha W (.agg #[.int .i64 x.hours, .int .i64 x.allow, .int .i64 x.hands, .slice A1 x.cn q1, .slice A2 x.bn q2, .slice A3 x.sn q3]) x) (vb : IsWI lb hb W (.agg #[.int .i64 x.hours, .int .i64 x.allow, .int .i64 x.hands, .slice D1 x.cn p1, .slice D2 x.bn p2, .slice D3 x.sn p3]) x) (hc : x.cn ≤ p1)
  (sa : ha ≤ W.heap.size) (sb : hb ≤ W.heap.size) (hG : Blk W G 26 #[z0, z1, z2, z3, z4, z5]) (hH : Blk W H 34 #[y0, y1, y2, y3, y4, y5]) (hn : G ≠ H) (hG1 : w1.heap.size ≤ G) (hH1 : w1.heap.size ≤ H)
  (maG : ha ≤ G ∨ G < la) (maH : ha ≤ H ∨ H < la) (mbG : hb ≤ G ∨ G < lb) (mbH : hb ≤ H ∨ H < lb) :
  Boxes x w1 G H (fun b => b = G ∨ b = H) W ((((((((((((W.setCell ⟨G, 0, none⟩ (.int .i64 x.hours)).setCell ⟨G, 1, none⟩ (.int .i64 x.allow)).setCell ⟨G, 2, none⟩ (.int .i64 x.hands)).setCell ⟨G, 3, none⟩ (.slice A1 x.cn q1)).setCell ⟨G, 4, none⟩ (.slice A2 x.bn q2)).setCell ⟨G, 5, none⟩ (.slice A3 x.sn q3)).setCell ⟨H, 0, none⟩ (.int .i64 x.hours)).setCell ⟨H, 1, none⟩ (.int .i64 x.allow)).setCell ⟨H, 2, none⟩ (.int .i64 x.hands)).setCell ⟨H, 3, none⟩ (.slice D1 x.cn p1)).setCell ⟨H, 4, none⟩ (.slice D2 x.bn p2)).setCell ⟨H, 5, none⟩ (.slice D3 x.sn p3)) ∧
  Box6C 34 ((((((((((((W.setCell ⟨G, 0, none⟩ (.int .i64 x.hours)).setCell ⟨G, 1, none⟩ (.int .i64 x.allow)).setCell ⟨G, 2, none⟩ (.int .i64 x.hands)).setCell ⟨G, 3, none⟩ (.slice A1 x.cn q1)).setCell ⟨G, 4, none⟩ (.slice A2 x.bn q2)).setCell ⟨G, 5, none⟩ (.slice A3 x.sn q3)).setCell ⟨H, 0, none⟩ (.int .i64 x.hours)).setCell ⟨H, 1, none⟩ (.int .i64 x.allow)).setCell ⟨H, 2, none⟩ (.int .i64 x.hands)).setCell ⟨H, 3, none⟩ (.slice D1 x.cn p1)).setCell ⟨H, 4, none⟩ (.slice D2 x.bn p2)).setCell ⟨H, 5, none⟩ (.slice D3 x.sn p3)) H x := by
 obtain ⟨k1, k2⟩ := blk12 hG hH hn (.int .i64 x.hours) (.int .i64 x.allow) (.int .i64 x.hands) (.slice A1 x.cn q1) (.slice A2 x.bn q2) (.slice A3 x.sn q3) (.int .i64 x.hours) (.int .i64 x.allow) (.int .i64 x.hands) (.slice D1 x.cn p1) (.slice D2 x.bn p2) (.slice D3 x.sn p3)
 have hk := set12 (n := W.heap.size) (G := G) (H := H) W (.int .i64 x.hours) (.int .i64 x.allow) (.int .i64 x.hands) (.slice A1 x.cn q1) (.slice A2 x.bn q2) (.slice A3 x.sn q3) (.int .i64 x.hours) (.int .i64 x.allow) (.int .i64 x.hands) (.slice D1 x.cn p1) (.slice D2 x.bn p2) (.slice D3 x.sn p3)
 refine ⟨boxes e1 va vb sa sb hG hH hn hG1 hH1 maG maH mbG mbH, _, _, _, _, _, _, k2, ?_, hc⟩
 exact (vb.kpm hk sb (by rintro b h1 h2 (rfl | rfl) <;> omega)).isW
theorem toldE_chk4 {x : WD} {b : Bool} (h : P.chk x ≠ 0) : P.toldE x b = P.chk x := by unfold P.toldE; rw [if_pos h]
theorem toldE_fw4 {x : WD} (h : P.chk x = 0) : P.toldE x false = if R.fwOk x (R.whole x) then 0 else 7 := by
 unfold P.toldE
 rw [if_neg (by simpa using h), L.clash_iff (Ok.of_chk h)]
 cases R.fwOk x (R.whole x) <;> rfl
def fwU4 (b : Bool) : MSpec := fun v _ _ _ => ∃ u, v = .tuple #[u, .bool b]
theorem eq38_same {w : World} {u v : Value} {l : List Nat} (hu : SlR w 1 u (rows1 l)) (hv : SlR w 1 v (rows1 l)) (hl : l.length ≤ 1000) :
  Calls Tryz.prog 38 #[u, v] w fun e w' => e = .returned (.bool true) ∧ Ext w w' := by
 obtain ⟨A, q, rfl, hr⟩ := hu
 obtain ⟨B, r, rfl, hs⟩ := hv
 rw [rows1_length] at hr hs ⊢
 have h := eq38 (cap := q) (cap' := r) hr hs hl hl
 rw [eqB_refl] at h
 exact h
theorem slR_nil (w : World) : SlR w 1 (.slice none 0 0) (rows1 []) := ⟨none, 0, rfl, Rd.nil⟩
/-- A list of hands. -/
def LsM (l : List Nat) : MSpec := fun v _ _ w => SlR w 1 v (rows1 l)
theorem law4 {x : WD} {w : World} {v : Value} (hv : IsW w v x) :
  Calls Tryz.prog 4 #[v] w fun e w' => e = .returned (.bool true) ∧ Ext w w' := by
 by_cases hb : greatB x = true
 ·have HV := hid hv
  obtain ⟨A1, c1, A2, c2, A3, c3, rfl, r1, r2, r3⟩ := hv
  clear r1 r2 r3
  have HB := hid hb
  clear hb
  go_enter Tryz.func4, Tryz.ntmps4
  go_wp2_with (first
   | (go_at_call 31; refine (great31 (HV.out.ext (Ext.alloc (Ext.refl _) _))).mono ?_; rintro e wg ⟨rfl, heg⟩; rw [HB.out])
   | (go_at_call 18; refine (awake_any _).mono ?_; rintro e w10 ⟨rfl, he10⟩))
  go_ret
  exact ⟨rfl, (((Ext.refl _).alloc _).trans heg).trans he10⟩
 have hgr : greatB x = false := by simpa using hb
 have h1 : x.cn ≤ 1000 := by simp [greatB] at hgr; omega
 have h2 : x.bn ≤ 1000 := by simp [greatB] at hgr; omega
 have h3 : x.sn ≤ 1000 := by simp [greatB] at hgr; omega
 have HV := hid hv
 have HB := hid hgr
 clear hb hgr
 obtain ⟨A1, c1, A2, c2, A3, c3, rfl, r1, r2, r3⟩ := hv
 clear r1 r2 r3
 go_enter Tryz.func4, Tryz.ntmps4
 go_upto_region 3 with (go_at_call 31; refine (great31 (HV.out.ext (Ext.alloc (Ext.refl _) _))).mono ?_; rintro e wg ⟨rfl, heg⟩; rw [HB.out])
 refine wp_later fun w1 hw1 => ?_
 obtain ⟨E0, b3⟩ := (heg.trans hw1).newB
 have k3 := b3.cell
 have k3l := b3.lt
 have f3 := b3.frozen
 clear hw1 heg
 refine wp_region_mono 6 [(1, fun v lo hi w => IsWI lo hi w v x), (3, WIC x), (4, PtI 26 z26), (5, PtI 34 z26)] (by kernel_rfl) (by kernel_rfl) (by kernel_rfl) ?hS ?_
 case hS =>
  simp only [List.forall_mem_cons]
  exact ⟨fun _ _ _ _ _ e h => IsWI.ext h e, fun _ _ _ _ _ e h => WIC.ext h e, fun _ _ _ _ _ e h => PtI.ext h e, fun _ _ _ _ _ e h => PtI.ext h e, fun _ h => by simp at h⟩
 simp only [List.take_succ_cons, List.take_zero, List.drop_succ_cons, List.drop_zero]
 refine wpM_plain rfl ?_
 go_big_quiet_step (fail)
 refine wpQuiet_nil ?_
 refine wpM_spec _ rfl rfl (fun w2 hw2 _ => ?_) (fun va la ha ga1 ga2 _ hva => ?_)
 ·go_wp2_with (go_at_call 19; refine (own19 (HV.out.ext (E0.trans hw2)) h1 h2 h3).mono ?_; rintro e w' ⟨u, rfl, he, hu⟩)
  exact ⟨_, _, _, rfl, he, Nat.le_refl _, he.size, Nat.le_refl _, IsWI.of hu⟩
 simp only [Act.put, List.setIfInBounds_toArray, List.set_cons_succ, List.set_cons_zero]
 obtain ⟨_, D1, q1, D2, q2, D3, q3, rfl, -⟩ := hva
 refine wpM_plain rfl ?_
 go_big_quiet_step (fail)
 refine wpQuiet_nil ?_
 refine wpM_spec _ rfl rfl (fun w2 hw2 _ => ?_) (fun vc lc hc gc1 gc2 _ hvc => ?_)
 ·go_wp2_with (go_at_call 20; refine (theirs20 (HV.out.ext (E0.trans hw2)) h1 h2 h3).mono ?_; rintro e w' ⟨u, rfl, he, hu⟩)
  exact ⟨_, _, _, rfl, he, Nat.le_refl _, he.size, Nat.le_refl _, IsWI.of hu, CapV.of hu⟩
 simp only [Act.put, List.setIfInBounds_toArray, List.set_cons_succ, List.set_cons_zero]
 obtain ⟨_, ⟨D5, q5, D6, q6, D7, q7, rfl, -⟩, hcp⟩ := hvc
 have hcap : x.cn ≤ q5 := hcp _ _ _ _ _ _ _ rfl
 clear hcp
 refine wpM_spec _ rfl rfl (fun w2 hw2 _ => ?_) (fun vg lg hg gg1 gg2 dg hvg => ?_)
 ·go_wp2
  exact ⟨_, w2.heap.size, w2.heap.size + 1, rfl, (Ext.refl _).alloc _, Nat.le_refl _, Nat.le_succ _, by simp, rfl, rfl, Blk.new _ _ _⟩
 simp only [Act.put, List.setIfInBounds_toArray, List.set_cons_succ, List.set_cons_zero]
 refine wpM_spec _ rfl rfl (fun w2 hw2 _ => ?_) (fun vh lh hh gh1 gh2 dh hvh => ?_)
 ·go_wp2
  exact ⟨_, w2.heap.size, w2.heap.size + 1, rfl, (Ext.refl _).alloc _, Nat.le_refl _, Nat.le_succ _, by simp, rfl, rfl, Blk.new _ _ _⟩
 simp only [Act.put, List.setIfInBounds_toArray, List.set_cons_succ, List.set_cons_zero]
 obtain ⟨_, rfl, rfl, -⟩ := hvg
 obtain ⟨_, rfl, rfl, -⟩ := hvh
 simp only [List.forall_mem_cons] at dg dh
 refine wpM_nil fun w4 hw4 hF => ?_
 simp only [List.forall_mem_cons] at hF
 obtain ⟨⟨-, -, -, bH⟩, ⟨-, -, -, bG⟩, ⟨sc, fc, -⟩, ⟨sa, fa⟩, -⟩ := hF
 have hne : lg ≠ lh := by omega
 have hne' : lh ≠ lg := by omega
 have hGl := bG.lt
 have hHl := bH.lt
 have kG := bG.cell
 have kH := bH.cell
 have qG := bG.frozen
 have qH := bH.frozen
 have FA := hid fa
 have FC := hid fc
 have BH := hid bH
 have BG := hid bG
 have DG := hid dg
 have DH := hid dh
 clear fa fc bG bH dg dh
 unfold z26 at kG kH
 go_upto_region 4 with fail
 refine wp_later fun w5 hw5 => ?_
 obtain ⟨⟨e5, x26, -, km⟩, x34⟩ := boxesC (w1 := w1) hw4 FA.out FC.out hcap sa sc BG.out BH.out hne gg1 gh1 (by have := DG.out; omega) (by have := DH.out; omega) (by have := DG.out; omega) (by have := DH.out; omega)
 obtain ⟨G1, g1, G2, g2, G3, g3, bG, wG⟩ := x26
 obtain ⟨H1, l1, H2, l2, H3, l3, bH, wH, cH⟩ := x34
 have OWN := hid (wG.ext hw5)
 have THR := hid (wH.ext hw5)
 have THC := hid (IsWC.of (wH.ext hw5) cH)
 have BG := bG.ext hw5
 have BH := bH.ext hw5
 have E5 := hid (E0.trans (e5.trans hw5))
 have B3 := (b3.ext (e5.trans hw5))
 have E := hid (Ext.refl w5)
 clear hw5 e5 km bG bH wG wH kG kH qG qH k3 k3l f3 b3 FA FC DG DH sa sc hne hne' hw4 E0 hGl hHl gg1 gh1 gg2 gh2 ga1 ga2 gc1 gc2
 have kH := BH.cell
 have kHl := BH.lt
 have kG := BG.cell
 have kGl := BG.lt
 have k3 := B3.cell
 have k3l := B3.lt
 by_cases hc0 : P.chk x ≠ 0
 ·have hc := hc0
  clear hc0
  have hc' : (P.chk x == 0) = false := by simpa using hc
  have T1 := hid (toldE_chk4 (b := false) hc)
  have HT := hid (show P.toldE x false ≠ 0 by rw [T1.out]; exact hc)
  clear hc
  go_wp2_with (first
   | (go_at_call 21; refine (refcheck_any THR.out h1 h2 h3).mono ?_; rintro e w11 ⟨rfl, he11⟩; have E := hid (E.out.trans he11); have kG := (BG.ext E.out).cell; have kGl := (BG.ext E.out).lt; have kH := (BH.ext E.out).cell; have kHl := (BH.ext E.out).lt; have k3 := (B3.ext E.out).cell; have k3l := (B3.ext E.out).lt)
   | (go_at_call 35; refine (fewest_err (OWN.out.ext E.out) h1 h2 h3 HT.out).mono ?_; rintro e w35 ⟨rfl, he35⟩; rw [T1.out]; have E := hid (E.out.trans he35); have kG := (BG.ext E.out).cell; have kGl := (BG.ext E.out).lt; have kH := (BH.ext E.out).cell; have kHl := (BH.ext E.out).lt; have k3 := (B3.ext E.out).cell; have k3l := (B3.ext E.out).lt)
   | (go_at_call 36; refine (must_err (OWN.out.ext E.out) h1 h2 h3 HT.out).mono ?_; rintro e w36 ⟨rfl, he36⟩; rw [T1.out]; have E := hid (E.out.trans he36); have kG := (BG.ext E.out).cell; have kGl := (BG.ext E.out).lt; have kH := (BH.ext E.out).cell; have kHl := (BH.ext E.out).lt; have k3 := (B3.ext E.out).cell; have k3l := (B3.ext E.out).lt)
   | (go_at_call 37; refine (can_err (OWN.out.ext E.out) h1 h2 h3 HT.out).mono ?_; rintro e w37 ⟨rfl, he37⟩; rw [T1.out]; have E := hid (E.out.trans he37); have kG := (BG.ext E.out).cell; have kGl := (BG.ext E.out).lt; have kH := (BH.ext E.out).cell; have kHl := (BH.ext E.out).lt; have k3 := (B3.ext E.out).cell; have k3l := (B3.ext E.out).lt)
   | (go_at_call 38; refine (eq38_same (slR_nil _) (slR_nil _) (by simp)).mono ?_; rintro e w38 ⟨rfl, he38⟩; have E := hid (E.out.trans he38); have kG := (BG.ext E.out).cell; have kGl := (BG.ext E.out).lt; have kH := (BH.ext E.out).cell; have kHl := (BH.ext E.out).lt; have k3 := (B3.ext E.out).cell; have k3l := (B3.ext E.out).lt)
   | (go_at_call 28; refine (same28 (OWN.out.ext E.out) (HV.out.ext (E5.out.trans E.out)) h1 h2 h3 rfl rfl rfl (eqB_refl _ _ _) (eqB_refl _ _ _) (eqB_refl _ _ _)).mono ?_; rintro e w19 ⟨rfl, he19⟩; have E := hid (E.out.trans he19); have kG := (BG.ext E.out).cell; have kGl := (BG.ext E.out).lt; have kH := (BH.ext E.out).cell; have kHl := (BH.ext E.out).lt; have k3 := (B3.ext E.out).cell; have k3l := (B3.ext E.out).lt)
   | (go_at_call 18; refine (awake_any _).mono ?_; rintro e w18 ⟨rfl, he18⟩; have E := hid (E.out.trans he18); have kG := (BG.ext E.out).cell; have kGl := (BG.ext E.out).lt; have kH := (BH.ext E.out).cell; have kHl := (BH.ext E.out).lt; have k3 := (B3.ext E.out).cell; have k3l := (B3.ext E.out).lt))
  go_ret
  exact ⟨rfl, E5.out.trans E.out⟩
 have hc := Classical.not_not.1 hc0
 clear hc0
 have hx := Ok.of_chk hc
 have hhd := hx.hands
 have hwl := whole_bd hx
 have T2 := hid (toldE_fw4 hc)
 have HC := hid hc
 clear hc
 go_upto_region 7 with (go_at_call 21; refine (refcheck_any THR.out h1 h2 h3).mono ?_; rintro e w11 ⟨rfl, he11⟩; rw [HC.out]; have E := hid (E.out.trans he11); have kG := (BG.ext E.out).cell; have kGl := (BG.ext E.out).lt; have kH := (BH.ext E.out).cell; have kHl := (BH.ext E.out).lt; have k3 := (B3.ext E.out).cell; have k3l := (B3.ext E.out).lt)
 cases hfw : R.fwOk x (R.whole x)
 all_goals
  have HFW := hid hfw
  clear hfw
 ·have T3 := hid (show P.toldE x false = 7 by rw [T2.out, HFW.out]; rfl)
  have HT := hid (show P.toldE x false ≠ 0 by rw [T3.out]; decide)
  refine wp_region_mono 9 [(2, fun v _ _ _ => v = .int .i64 ((R.whole x : Nat) : Int)), (3, fwU4 false)] (by kernel_rfl) (by kernel_rfl) (by kernel_rfl) ?hS ?_
  case hS =>
   simp only [List.forall_mem_cons]
   exact ⟨fun _ _ _ _ _ _ h => h, fun _ _ _ _ _ _ h => h, fun _ h => by simp at h⟩
  simp only [List.take_succ_cons, List.drop_succ_cons, List.take_nil, List.drop_nil]
  refine wpM_plain rfl ?_
  go_big_quiet_step (fail)
  refine wpQuiet_nil ?_
  refine wpM_plain rfl ?_
  go_big_quiet_step (fail)
  refine wpQuiet_nil ?_
  refine wpM_spec _ rfl rfl (fun w2 hw2 _ => ?_) (fun va la ha ga1 ga2 _ hva => ?_)
  ·go_wp2_with (go_at_call 23; refine (whole_any hx (THR.out.ext (E.out.trans hw2))).mono ?_; rintro e w5 ⟨rfl, he5⟩)
   exact ⟨_, _, _, rfl, he5, Nat.le_refl _, he5.size, Nat.le_refl _, rfl⟩
  obtain ⟨_, rfl⟩ := hva
  simp only [Act.put, List.setIfInBounds_toArray, List.set_cons_succ, List.set_cons_zero]
  refine wpM_spec _ rfl rfl (fun w2 hw2 _ => ?_) (fun va la ha ga1 ga2 _ hva => ?_)
  ·go_wp2_with (go_at_call 22; refine (forward_any hx (THR.out.ext (E.out.trans hw2)) (R.whole x) (by omega)).mono ?_; rintro e w5 ⟨u, rfl, he5, -⟩; rw [HFW.out])
   exact ⟨_, _, _, rfl, he5, Nat.le_refl _, he5.size, Nat.le_refl _, u, rfl⟩
  obtain ⟨_, u, rfl⟩ := hva
  simp only [Act.put, List.setIfInBounds_toArray, List.set_cons_succ, List.set_cons_zero]
  refine wpM_plain rfl ?_
  go_big_quiet_step (fail)
  refine wpQuiet_nil ?_
  refine wpM_plain rfl ?_
  go_big_quiet_step (fail)
  refine wpQuiet_nil ?_
  refine wpM_plain rfl ?_
  go_big_quiet_step (fail)
  refine wpQuiet_nil ?_
  refine wpM_plain rfl ?_
  go_big_quiet_step (fail)
  refine wpQuiet_nil ?_
  refine wpM_plain rfl ?_
  go_big_quiet_step (fail)
  refine wpQuiet_nil ?_
  refine wpM_nil fun w6 hw6 _ => ?_
  have E := hid (E.out.trans hw6)
  have kG := (BG.ext E.out).cell
  have kGl := (BG.ext E.out).lt
  have kH := (BH.ext E.out).cell
  have kHl := (BH.ext E.out).lt
  have k3 := (B3.ext E.out).cell
  have k3l := (B3.ext E.out).lt
  go_wp2_with (first
   | (go_at_call 35; refine (fewest_err (OWN.out.ext E.out) h1 h2 h3 HT.out).mono ?_; rintro e w35 ⟨rfl, he35⟩; rw [T3.out]; have E := hid (E.out.trans he35); have kG := (BG.ext E.out).cell; have kGl := (BG.ext E.out).lt; have kH := (BH.ext E.out).cell; have kHl := (BH.ext E.out).lt; have k3 := (B3.ext E.out).cell; have k3l := (B3.ext E.out).lt)
   | (go_at_call 36; refine (must_err (OWN.out.ext E.out) h1 h2 h3 HT.out).mono ?_; rintro e w36 ⟨rfl, he36⟩; rw [T3.out]; have E := hid (E.out.trans he36); have kG := (BG.ext E.out).cell; have kGl := (BG.ext E.out).lt; have kH := (BH.ext E.out).cell; have kHl := (BH.ext E.out).lt; have k3 := (B3.ext E.out).cell; have k3l := (B3.ext E.out).lt)
   | (go_at_call 37; refine (can_err (OWN.out.ext E.out) h1 h2 h3 HT.out).mono ?_; rintro e w37 ⟨rfl, he37⟩; rw [T3.out]; have E := hid (E.out.trans he37); have kG := (BG.ext E.out).cell; have kGl := (BG.ext E.out).lt; have kH := (BH.ext E.out).cell; have kHl := (BH.ext E.out).lt; have k3 := (B3.ext E.out).cell; have k3l := (B3.ext E.out).lt)
   | (go_at_call 38; refine (eq38_same (slR_nil _) (slR_nil _) (by simp)).mono ?_; rintro e w38 ⟨rfl, he38⟩; have E := hid (E.out.trans he38); have kG := (BG.ext E.out).cell; have kGl := (BG.ext E.out).lt; have kH := (BH.ext E.out).cell; have kHl := (BH.ext E.out).lt; have k3 := (B3.ext E.out).cell; have k3l := (B3.ext E.out).lt)
   | (go_at_call 28; refine (same28 (OWN.out.ext E.out) (HV.out.ext (E5.out.trans E.out)) h1 h2 h3 rfl rfl rfl (eqB_refl _ _ _) (eqB_refl _ _ _) (eqB_refl _ _ _)).mono ?_; rintro e w19 ⟨rfl, he19⟩; have E := hid (E.out.trans he19); have kG := (BG.ext E.out).cell; have kGl := (BG.ext E.out).lt; have kH := (BH.ext E.out).cell; have kHl := (BH.ext E.out).lt; have k3 := (B3.ext E.out).cell; have k3l := (B3.ext E.out).lt)
   | (go_at_call 18; refine (awake_any _).mono ?_; rintro e w18 ⟨rfl, he18⟩; have E := hid (E.out.trans he18); have kG := (BG.ext E.out).cell; have kGl := (BG.ext E.out).lt; have kH := (BH.ext E.out).cell; have kHl := (BH.ext E.out).lt; have k3 := (B3.ext E.out).cell; have k3l := (B3.ext E.out).lt))
  go_ret
  exact ⟨rfl, E5.out.trans E.out⟩
 ·have HT := hid (show P.toldE x false = 0 by rw [T2.out, HFW.out]; rfl)
  refine wp_region_mono 9 [(2, fun v _ _ _ => v = .int .i64 ((R.whole x : Nat) : Int)), (3, fwU4 true)] (by kernel_rfl) (by kernel_rfl) (by kernel_rfl) ?hS ?_
  case hS =>
   simp only [List.forall_mem_cons]
   exact ⟨fun _ _ _ _ _ _ h => h, fun _ _ _ _ _ _ h => h, fun _ h => by simp at h⟩
  simp only [List.take_succ_cons, List.drop_succ_cons, List.take_nil, List.drop_nil]
  refine wpM_plain rfl ?_
  go_big_quiet_step (fail)
  refine wpQuiet_nil ?_
  refine wpM_plain rfl ?_
  go_big_quiet_step (fail)
  refine wpQuiet_nil ?_
  refine wpM_spec _ rfl rfl (fun w2 hw2 _ => ?_) (fun va la ha ga1 ga2 _ hva => ?_)
  ·go_wp2_with (go_at_call 23; refine (whole_any hx (THR.out.ext (E.out.trans hw2))).mono ?_; rintro e w5 ⟨rfl, he5⟩)
   exact ⟨_, _, _, rfl, he5, Nat.le_refl _, he5.size, Nat.le_refl _, rfl⟩
  obtain ⟨_, rfl⟩ := hva
  simp only [Act.put, List.setIfInBounds_toArray, List.set_cons_succ, List.set_cons_zero]
  refine wpM_spec _ rfl rfl (fun w2 hw2 _ => ?_) (fun va la ha ga1 ga2 _ hva => ?_)
  ·go_wp2_with (go_at_call 22; refine (forward_any hx (THR.out.ext (E.out.trans hw2)) (R.whole x) (by omega)).mono ?_; rintro e w5 ⟨u, rfl, he5, -⟩; rw [HFW.out])
   exact ⟨_, _, _, rfl, he5, Nat.le_refl _, he5.size, Nat.le_refl _, u, rfl⟩
  obtain ⟨_, u, rfl⟩ := hva
  simp only [Act.put, List.setIfInBounds_toArray, List.set_cons_succ, List.set_cons_zero]
  refine wpM_plain rfl ?_
  go_big_quiet_step (fail)
  refine wpQuiet_nil ?_
  refine wpM_plain rfl ?_
  go_big_quiet_step (fail)
  refine wpQuiet_nil ?_
  refine wpM_plain rfl ?_
  go_big_quiet_step (fail)
  refine wpQuiet_nil ?_
  refine wpM_plain rfl ?_
  go_big_quiet_step (fail)
  refine wpQuiet_nil ?_
  refine wpM_plain rfl ?_
  go_big_quiet_step (fail)
  refine wpQuiet_nil ?_
  refine wpM_nil fun w6 hw6 _ => ?_
  have E := hid (E.out.trans hw6)
  have kG := (BG.ext E.out).cell
  have kGl := (BG.ext E.out).lt
  have kH := (BH.ext E.out).cell
  have kHl := (BH.ext E.out).lt
  have k3 := (B3.ext E.out).cell
  have k3l := (B3.ext E.out).lt
  have Q1 := hid (F.fewest_eq hx HFW.out)
  have Q2 := hid (F.must_eq hx HFW.out)
  have Q3 := hid (P.can_eq hx)
  have hl1 : (R.fewest x).length ≤ 1000 := by have := few_length x (R.whole x + 1); unfold R.fewest; omega
  have hl2 : (R.must x).length ≤ 1000 := by have := mustR_length x x.hands.toNat; unfold R.must; omega
  have hl3 : (R.can' x).length ≤ 1000 := by have := R.canL_length x x.hands.toNat; unfold R.can'; omega
  go_upto_region 9 with fail
  refine wp_region_mono 9 [(1, LsM (R.fewest x)), (3, LsM (R.must x)), (5, LsM (R.can' x))] (by kernel_rfl) (by kernel_rfl) (by kernel_rfl) ?hS ?_
  case hS =>
   simp only [List.forall_mem_cons]
   exact ⟨fun _ _ _ _ _ e h => SlR.ext h e, fun _ _ _ _ _ e h => SlR.ext h e, fun _ _ _ _ _ e h => SlR.ext h e, fun _ h => by simp at h⟩
  simp only [List.take_succ_cons, List.drop_succ_cons, List.take_nil, List.drop_nil]
  refine wpM_plain rfl ?_
  go_big_quiet_step (fail)
  refine wpQuiet_nil ?_
  refine wpM_spec _ rfl rfl (fun w2 hw2 _ => ?_) (fun va la ha ga1 ga2 _ _ => ?_)
  ·go_wp2_with (go_at_call 32; refine (fewestR_any hx (THR.out.ext (E.out.trans hw2))).mono ?_; rintro e w5 ⟨u, rfl, he5, hu⟩)
   exact ⟨_, _, _, rfl, he5, Nat.le_refl _, he5.size, Nat.le_refl _, hu⟩
  simp only [Act.put, List.setIfInBounds_toArray, List.set_cons_succ, List.set_cons_zero]
  refine wpM_plain rfl ?_
  go_big_quiet_step (fail)
  refine wpQuiet_nil ?_
  refine wpM_spec _ rfl rfl (fun w2 hw2 _ => ?_) (fun vb lb hb gb1 gb2 _ _ => ?_)
  ·go_wp2_with (go_at_call 33; refine (mustR_any hx (THR.out.ext (E.out.trans hw2))).mono ?_; rintro e w5 ⟨u, rfl, he5, hu⟩)
   exact ⟨_, _, _, rfl, he5, Nat.le_refl _, he5.size, Nat.le_refl _, hu⟩
  simp only [Act.put, List.setIfInBounds_toArray, List.set_cons_succ, List.set_cons_zero]
  refine wpM_plain rfl ?_
  go_big_quiet_step (fail)
  refine wpQuiet_nil ?_
  refine wpM_spec _ rfl rfl (fun w2 hw2 _ => ?_) (fun vc lc hc gc1 gc2 _ _ => ?_)
  ·go_wp2_with (go_at_call 34; refine (canR_any hx HFW.out (THC.out.ext (E.out.trans hw2))).mono ?_; rintro e w5 ⟨u, rfl, he5, hu⟩)
   exact ⟨_, _, _, rfl, he5, Nat.le_refl _, he5.size, Nat.le_refl _, hu⟩
  simp only [Act.put, List.setIfInBounds_toArray, List.set_cons_succ, List.set_cons_zero]
  refine wpM_plain rfl ?_
  go_big_quiet_step (fail)
  refine wpQuiet_nil ?_
  refine wpM_plain rfl ?_
  go_big_quiet_step (fail)
  refine wpQuiet_nil ?_
  refine wpM_plain rfl ?_
  go_big_quiet_step (fail)
  refine wpQuiet_nil ?_
  refine wpM_nil fun w7 hw7 hF => ?_
  simp only [List.forall_mem_cons] at hF
  obtain ⟨⟨-, f3⟩, ⟨-, f2⟩, ⟨-, f1⟩, -⟩ := hF
  have F1 := hid f1
  have F2 := hid f2
  have F3 := hid f3
  clear f1 f2 f3
  have E := hid (E.out.trans hw7)
  have kG := (BG.ext E.out).cell
  have kGl := (BG.ext E.out).lt
  have kH := (BH.ext E.out).cell
  have kHl := (BH.ext E.out).lt
  have k3 := (B3.ext E.out).cell
  have k3l := (B3.ext E.out).lt
  go_wp2_with (first
   | (go_at_call 35; refine (fewest_ok (OWN.out.ext E.out) h1 h2 h3 HT.out).mono ?_; rintro e w35 ⟨u35, rfl, he35, s35⟩; have E := hid (E.out.trans he35); have kG := (BG.ext E.out).cell; have kGl := (BG.ext E.out).lt; have kH := (BH.ext E.out).cell; have kHl := (BH.ext E.out).lt; have k3 := (B3.ext E.out).cell; have k3l := (B3.ext E.out).lt; have F1 := hid (F1.out.ext he35); have F2 := hid (F2.out.ext he35); have F3 := hid (F3.out.ext he35); rw [Q1.out] at s35; have S35 := hid s35; clear s35)
   | (go_at_call 36; refine (must_ok (OWN.out.ext E.out) h1 h2 h3 HT.out).mono ?_; rintro e w36 ⟨u36, rfl, he36, s36⟩; have E := hid (E.out.trans he36); have kG := (BG.ext E.out).cell; have kGl := (BG.ext E.out).lt; have kH := (BH.ext E.out).cell; have kHl := (BH.ext E.out).lt; have k3 := (B3.ext E.out).cell; have k3l := (B3.ext E.out).lt; have F1 := hid (F1.out.ext he36); have F2 := hid (F2.out.ext he36); have F3 := hid (F3.out.ext he36); have S35 := hid (S35.out.ext he36); rw [Q2.out] at s36; have S36 := hid s36; clear s36)
   | (go_at_call 37; refine (can_ok (OWN.out.ext E.out) h1 h2 h3 HT.out).mono ?_; rintro e w37 ⟨u37, rfl, he37, s37⟩; have E := hid (E.out.trans he37); have kG := (BG.ext E.out).cell; have kGl := (BG.ext E.out).lt; have kH := (BH.ext E.out).cell; have kHl := (BH.ext E.out).lt; have k3 := (B3.ext E.out).cell; have k3l := (B3.ext E.out).lt; have F1 := hid (F1.out.ext he37); have F2 := hid (F2.out.ext he37); have F3 := hid (F3.out.ext he37); have S35 := hid (S35.out.ext he37); have S36 := hid (S36.out.ext he37); rw [Q3.out] at s37; have S37 := hid s37; clear s37)
   | (go_at_call 38; refine (eq38_same (by first | exact S35.out | exact S36.out | exact S37.out) (by first | exact F1.out | exact F2.out | exact F3.out) (by first | exact hl1 | exact hl2 | exact hl3)).mono ?_; rintro e w38 ⟨rfl, he38⟩; have E := hid (E.out.trans he38); have kG := (BG.ext E.out).cell; have kGl := (BG.ext E.out).lt; have kH := (BH.ext E.out).cell; have kHl := (BH.ext E.out).lt; have k3 := (B3.ext E.out).cell; have k3l := (B3.ext E.out).lt; have F1 := hid (F1.out.ext he38); have F2 := hid (F2.out.ext he38); have F3 := hid (F3.out.ext he38); have S35 := hid (S35.out.ext he38); have S36 := hid (S36.out.ext he38); have S37 := hid (S37.out.ext he38))
   | (go_at_call 28; refine (same28 (OWN.out.ext E.out) (HV.out.ext (E5.out.trans E.out)) h1 h2 h3 rfl rfl rfl (eqB_refl _ _ _) (eqB_refl _ _ _) (eqB_refl _ _ _)).mono ?_; rintro e w19 ⟨rfl, he19⟩; have E := hid (E.out.trans he19); have kG := (BG.ext E.out).cell; have kGl := (BG.ext E.out).lt; have kH := (BH.ext E.out).cell; have kHl := (BH.ext E.out).lt; have k3 := (B3.ext E.out).cell; have k3l := (B3.ext E.out).lt)
   | (go_at_call 18; refine (awake_any _).mono ?_; rintro e w18 ⟨rfl, he18⟩; have E := hid (E.out.trans he18); have kG := (BG.ext E.out).cell; have kGl := (BG.ext E.out).lt; have kH := (BH.ext E.out).cell; have kHl := (BH.ext E.out).lt; have k3 := (B3.ext E.out).cell; have k3l := (B3.ext E.out).lt))
  go_ret
  exact ⟨rfl, E5.out.trans E.out⟩
end Go.Proofs.YtkhjmedfhobebaaGreat
