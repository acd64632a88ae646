/- Walks of the reference: whether a count can have a number of sacks, how many it can have, and as many smallest stretches as can be that are apart. The watch is right, as Ok says. -/
import Derived.Test.YtkhjmedfhobebaaGreatRefV
import Derived.Test.YtkhjmedfhobebaaGreatMathN
namespace Go.Proofs.YtkhjmedfhobebaaGreat
open Go.RowKit HandSpec
set_option maxHeartbeats 1600000
set_option maxRecDepth 100000
theorem fixed_any {x : WD} (hx : Ok x) {w : World} {v : Value} (hv : IsW w v x) {k : Nat} (hk : k < x.cn) {s : Int} (hs : 0 ≤ s ∧ s ≤ 500) :
  Calls Tryz.prog 141 #[v, .int .i64 (k : Int), .int .i64 s] w fun e w' => e = .returned (.bool (R.fixed x k s)) ∧ Ext w w' := by
 have HV := hid hv
 obtain ⟨A1, c1, A2, c2, A3, c3, rfl, r1, r2, r3⟩ := hv
 have hcn := hx.cn
 have hwb := whole_bd hx
 have hki : (k : Int) < (x.cn : Int) := by omega
 have R1 := hid r1
 have R2 := hid r2
 have R3 := hid r3
 have HX := hid (setc_ok hx k hs)
 clear r1 r2 r3
 go_enter Tryz.func141, Tryz.ntmps141
 go_upto_region 1 with fail
 refine wp_later fun w1 hw1 => ?_
 obtain ⟨E1, b1⟩ := hw1.newB
 have k1 := b1.cell
 have k1l := b1.lt
 clear hw1
 refine wp_region_mono 16 [(6, Emp), (9, NewM x.cn x.c), (15, PtI 34 z26)] (by kernel_rfl) (by kernel_rfl) (by kernel_rfl) ?hS ?_
 case hS =>
  simp only [List.forall_mem_cons]
  exact ⟨fun _ _ _ _ _ _ h => h, fun _ _ _ _ _ e h => ⟨h.1.ext e, h.2⟩, fun _ _ _ _ _ e h => PtI.ext h e, fun _ h => by simp at h⟩
 simp only [List.take_succ_cons, List.take_zero, List.drop_succ_cons, List.drop_zero]
 iterate 6
  refine wpM_plain rfl ?_
  go_big_quiet_step (fail)
  refine wpQuiet_nil ?_
 refine wpM_spec _ rfl rfl (fun w2 hw2 _ => ?_) (fun va la ha ga1 ga2 _ hva => ?_)
 ·go_wp2
  exact ⟨_, w2.heap.size, w2.heap.size + 1, rfl, (Ext.refl _).alloc _, Nat.le_refl _, Nat.le_succ _, by simp, rfl, rfl⟩
 simp only [Act.put, List.setIfInBounds_toArray, List.set_cons_succ, List.set_cons_zero]
 obtain ⟨_, rfl, rfl⟩ := hva
 iterate 2
  refine wpM_plain rfl ?_
  go_big_quiet_step (fail)
  refine wpQuiet_nil ?_
 refine wpM_spec _ rfl rfl (fun w2 hw2 _ => ?_) (fun vb lb hb gb1 gb2 db hvb => ?_)
 ·go_wp2_with (at_builtin; refine wpList_append_copy rfl _ _ 30 rfl el82 _ rfl rfl (R1.out.ext (E1.trans hw2)) (by omega) (by omega) ?_; intro v' C hn)
  exact ⟨_, w2.heap.size, w2.heap.size + 1, rfl, (Ext.refl _).drew.alloc _, Nat.le_refl _, Nat.le_succ _, by simp, hn, rfl⟩
 simp only [Act.put, List.setIfInBounds_toArray, List.set_cons_succ, List.set_cons_zero]
 obtain ⟨_, ⟨q, cur0, rfl, -⟩, rfl⟩ := hvb
 iterate 5
  refine wpM_plain rfl ?_
  go_big_quiet_step (fail)
  refine wpQuiet_nil ?_
 refine wpM_spec _ rfl rfl (fun w2 hw2 _ => ?_) (fun vg lg hg gg1 gg2 dg hvg => ?_)
 ·go_wp2
  exact ⟨_, w2.heap.size, w2.heap.size + 1, rfl, (Ext.refl _).alloc _, Nat.le_refl _, Nat.le_succ _, by simp, rfl, rfl, Blk.new _ _ _⟩
 simp only [Act.put, List.setIfInBounds_toArray, List.set_cons_succ, List.set_cons_zero]
 obtain ⟨_, rfl, rfl, -⟩ := hvg
 simp only [List.forall_mem_cons] at dg
 refine wpM_nil fun w4 hw4 hF => ?_
 simp only [List.forall_mem_cons] at hF
 obtain ⟨⟨-, -, -, bH⟩, ⟨hsz, ⟨⟨q2, cur, hq2, hnq, bG, hcur⟩, -⟩⟩, -⟩ := hF
 obtain rfl : q = q2 := by simpa using hq2
 have hne : lb ≠ lg := by omega
 have hGl := bG.lt
 have hHl := bH.lt
 have kG := bG.cell
 have kH := bH.cell
 have qG := bG.frozen
 have qH := bH.frozen
 have BH := hid bH
 have BG := hid bG
 have CUR := hid hcur
 clear bG bH hcur
 unfold z26 at kH
 go_upto_region 2 with fail
 refine wp_later fun w5 hw5 => ?_
 obtain ⟨e5, g5, h5⟩ := own_chain (w := w1) hw4 (by omega) hne BG.out BH.out hw5
 have kG := g5.cell
 have kH := h5.cell
 have kGl := g5.lt
 have kHl := h5.lt
 have qG := g5.frozen
 have hc1 : ∃ v1, cur[k * 3 + 1]? = some v1 := ⟨_, CUR.out k 1 hk (by omega)⟩
 have hc2 : ∃ v2, cur[k * 3 + 2]? = some v2 := ⟨_, CUR.out k 2 hk (by omega)⟩
 obtain ⟨v1, hc1⟩ := hc1
 obtain ⟨v2, hc2⟩ := hc2
 have kG1 : w5.cell? ⟨lb, k * 3 + 1, none⟩ = some v1 := by rw [kG, hc1]
 have kG2 : w5.cell? ⟨lb, k * 3 + 1 + 1, none⟩ = some v2 := by rw [kG]; exact hc2
 have kG3 : w5.cell? ⟨lb, k * 3 + 2, none⟩ = some v2 := kG2
 clear kG hw5 qH hGl hHl
 go_upto_region 3 with fail
 refine wp_later fun w6 hw6 => ?_
 obtain ⟨e6, g6, h6⟩ := two_chain (w := w1) e5 (by omega) hne g5 h5 hw6
 have hcur2 := cur_setc (x := x) (n := x.cn) CUR.out hk s
 have OWN : Hid (IsW w6 (.agg #[.int .i64 x.hours, .int .i64 x.allow, .int .i64 x.hands, .slice (some ⟨lb, 0, none⟩) x.cn q, .slice A2 x.bn c2, .slice A3 x.sn c3]) (setc x k s)) :=
  hid ⟨_, _, _, _, _, _, rfl, blk_rd g6 hcur2, R2.out.ext (E1.trans e6), R3.out.ext (E1.trans e6)⟩
 have E6 := hid (E1.trans e6)
 have k1 := (b1.ext e6).cell
 have k1l := (b1.ext e6).lt
 have kH := h6.cell
 have kHl := h6.lt
 clear kG1 kG2 kG3 hc1 hc2 kGl qG hw6 g6 h6 e6 e5 g5 h5 hcur2 CUR BG BH E1 b1
 refine wp_region_mono 9 [(2, fun v _ _ _ => v = .int .i64 ((R.whole x : Nat) : Int)), (3, fwB (R.fixed x k s))] (by kernel_rfl) (by kernel_rfl) (by kernel_rfl) ?hS ?_
 case hS =>
  simp only [List.forall_mem_cons]
  exact ⟨fun _ _ _ _ _ _ h => h, fun _ _ _ _ _ _ h => h, fun _ h => by simp at h⟩
 simp only [List.take_succ_cons, List.drop_succ_cons, List.take_nil, List.drop_nil]
 iterate 2
  refine wpM_plain rfl ?_
  go_big_quiet_step (fail)
  refine wpQuiet_nil ?_
 refine wpM_spec _ rfl rfl (fun w2 hw2 _ => ?_) (fun va la ha ga1 ga2 _ hva => ?_)
 ·go_wp2_with (go_at_call 23; refine (whole_w hx (HV.out.ext (E6.out.trans hw2))).mono ?_; rintro e w5 ⟨rfl, he5⟩)
  exact ⟨_, _, _, rfl, he5, Nat.le_refl _, he5.size, Nat.le_refl _, rfl⟩
 obtain ⟨_, rfl⟩ := hva
 simp only [Act.put, List.setIfInBounds_toArray, List.set_cons_succ, List.set_cons_zero]
 refine wpM_spec _ rfl rfl (fun w2 hw2 _ => ?_) (fun va la ha ga1 ga2 _ hva => ?_)
 ·go_wp2_with (go_at_call 22; refine (forward_any HX.out (OWN.out.ext hw2) (R.whole x) (Nat.lt_of_lt_of_le hwb.1 (by decide))).mono ?_; rintro e w5 ⟨u, rfl, he5, -⟩)
  exact ⟨_, _, _, rfl, he5, Nat.le_refl _, he5.size, Nat.le_refl _, u, rfl⟩
 obtain ⟨_, u, rfl⟩ := hva
 simp only [Act.put, List.setIfInBounds_toArray, List.set_cons_succ, List.set_cons_zero]
 iterate 5
  refine wpM_plain rfl ?_
  go_big_quiet_step (fail)
  refine wpQuiet_nil ?_
 refine wpM_nil fun w7 hw7 _ => ?_
 go_wp2_with fail
 go_ret
 exact ⟨rfl, E6.out.trans hw7⟩
/-- The number in a cell. -/
def cellI (w : World) (g o : Nat) : Int := match w.cell? ⟨g, o, none⟩ with | some (.int _ z) => z | _ => 0
theorem cellI0 {w : World} {g : Nat} {t : TypeId} {a b : Int} (h : Blk w g t #[.int .i64 a, .int .i64 b]) : cellI w g 0 = a := by unfold cellI; rw [h.cell]; rfl
theorem cellI1 {w : World} {g : Nat} {t : TypeId} {a b : Int} (h : Blk w g t #[.int .i64 a, .int .i64 b]) : cellI w g 1 = b := by unfold cellI; rw [h.cell]; rfl
theorem withinR_any {x : WD} (hx : Ok x) (hw : R.fwOk x (R.whole x) = true) {w : World} {v : Value} (hv : IsW w v x) {k : Nat} (hk : k < x.cn) :
  Calls Tryz.prog 46 #[v, .int .i64 (k : Int)] w fun e w' => e = .returned (.agg #[.int .i64 (P.lo x k), .int .i64 (P.hi x k)]) ∧ Ext w w' := by
 have HV := hid hv
 obtain ⟨A1, c1, A2, c2, A3, c3, rfl, r1, r2, r3⟩ := hv
 have hcn := hx.cn
 have g1 := hx.lo k hk
 have g2 := hx.hi k hk
 obtain ⟨g3, g4, g5⟩ := P.lo_bd hx hw hk
 have HF := hid (fun (s : Int) (p : x.c k 1 ≤ s) (q : s ≤ x.c k 2) => P.fixed_eq hx hw hk p q)
 have R1 := hid r1
 have hki : (k : Int) < (x.cn : Int) := by omega
 clear r1 r2 r3 hw
 go_enter Tryz.func46, Tryz.ntmps46
 go_upto_region 1 with fail
 refine wp_later fun w1 hw1 => ?_
 obtain ⟨E1, b1, b4⟩ := hw1.newB2
 have k1 := b1.cell
 have k1l := b1.lt
 clear hw1
 obtain ⟨cb, co, rfl, hcb, a0, a1, a2⟩ := (R1.out.ext E1).at3 hk
 go_wp2_with fail
 refine wp_later fun w2 hw2 => ?_
 obtain ⟨E2, b5⟩ := hw2.newB
 clear hw2 a0 a1 a2 hcb k1 k1l
 have hz : w1.heap.size < w2.heap.size := b5.lt
 have hz1 : w.heap.size + 1 < w1.heap.size := b4.lt
 go_loopw [] (fun wr => ∃ z : Int, x.c k 1 ≤ z ∧ z ≤ P.lo x k ∧ Ext w1 wr ∧ Blk wr w1.heap.size 67 #[.int .i64 z, .int .i64 (x.c k 2)]) (fun wr => (P.lo x k - cellI wr w1.heap.size 0).toNat)
 case atStart => exact ⟨_, Int.le_refl _, g3, E2, b5⟩
 case round =>
  clear b5 E2 hz
  obtain ⟨z, hz1, hz2, he, b5⟩ := hrel
  have k1 := (b1.ext he).cell
  have k1l := (b1.ext he).lt
  have k5 := b5.cell
  have k5l := b5.lt
  have f5 := b5.frozen
  have HM := hid (cellI0 b5)
  have HFZ := hid (HF.out z hz1 (by omega))
  by_cases hzl : z = P.lo x k
  ·subst hzl
   rw [decide_eq_true (show P.lo x k ≤ P.lo x k ∧ P.lo x k ≤ P.hi x k by omega)] at HFZ
   go_wp2_with (go_at_call 141; refine (fixed_any hx (HV.out.ext (E1.trans he)) hk ⟨by omega, by omega⟩).mono ?_; rintro e w5 ⟨rfl, he5⟩; rw [HFZ.out])
   have b6 := b5.ext he5
   have EE := hid (he.trans he5)
   clear k1 k1l k5 k5l f5 b5 HM HFZ he he5 hz1 hz2
   go_loopw [] (fun wr => ∃ z : Int, P.hi x k ≤ z ∧ z ≤ x.c k 2 ∧ Ext w1 wr ∧ Blk wr w1.heap.size 67 #[.int .i64 (P.lo x k), .int .i64 z]) (fun wr => (cellI wr w1.heap.size 1 - P.hi x k).toNat)
   case atStart => exact ⟨_, g5, Int.le_refl _, EE.out, b6⟩
   case round =>
    clear b6 EE
    obtain ⟨z, hz1, hz2, he, b5⟩ := hrel
    have k1 := (b1.ext he).cell
    have k1l := (b1.ext he).lt
    have k5 := b5.cell
    have k5l := b5.lt
    have f5 := b5.frozen
    have HM := hid (cellI1 b5)
    have HFZ := hid (HF.out z (by omega) hz2)
    by_cases hzl : z = P.hi x k
    ·subst hzl
     rw [decide_eq_true (show P.lo x k ≤ P.hi x k ∧ P.hi x k ≤ P.hi x k by omega)] at HFZ
     have k4 := (b4.ext he).cell
     have k4l := (b4.ext he).lt
     have f4 := (b4.ext he).frozen
     go_wp2_with (go_at_call 141; refine (fixed_any hx (HV.out.ext (E1.trans he)) hk ⟨by omega, by omega⟩).mono ?_; rintro e w5 ⟨rfl, he5⟩; rw [HFZ.out]; have k5 := (b5.ext he5).cell; have k5l := (b5.ext he5).lt; have f5 := (b5.ext he5).frozen; have k4 := ((b4.ext he).ext he5).cell; have k4l := ((b4.ext he).ext he5).lt; have f4 := ((b4.ext he).ext he5).frozen)
     try rw [Exit.noGoto_ret]
     exact bodyPost_ret (v := .agg #[.int .i64 (P.lo x k), .int .i64 (P.hi x k)]) (by simp [results, Tryz.results46, go_sem, k4]) rfl ⟨rfl, ((E1.trans (he.trans he5)).setCell _ (by simp)).setCell _ (by simp)⟩
    ·rw [decide_eq_false (show ¬ (P.lo x k ≤ z ∧ z ≤ P.hi x k) by omega)] at HFZ
     go_wp2_with (go_at_call 141; refine (fixed_any hx (HV.out.ext (E1.trans he)) hk ⟨by omega, by omega⟩).mono ?_; rintro e w5 ⟨rfl, he5⟩; rw [HFZ.out]; have k5 := (b5.ext he5).cell; have k5l := (b5.ext he5).lt; have f5 := (b5.ext he5).frozen)
     go_roundw
     case rel => exact ⟨z - 1, by omega, by omega, (he.trans he5).setCell _ (p := ⟨w1.heap.size, 1, none⟩) (Nat.le_refl _), (b5.ext he5).set_ 1 _⟩
     case measure => rw [HM.out, cellI1 ((b5.ext he5).set_ 1 (.int .i64 (z - 1)))]; omega
  ·rw [decide_eq_false (show ¬ (P.lo x k ≤ z ∧ z ≤ P.hi x k) by omega)] at HFZ
   go_wp2_with (go_at_call 141; refine (fixed_any hx (HV.out.ext (E1.trans he)) hk ⟨by omega, by omega⟩).mono ?_; rintro e w5 ⟨rfl, he5⟩; rw [HFZ.out]; have k5 := (b5.ext he5).cell; have k5l := (b5.ext he5).lt; have f5 := (b5.ext he5).frozen)
   go_roundw
   case rel => exact ⟨z + 1, by omega, by omega, (he.trans he5).setCell _ (p := ⟨w1.heap.size, 0, none⟩) (Nat.le_refl _), (b5.ext he5).set_ 0 _⟩
   case measure => rw [HM.out, cellI0 ((b5.ext he5).set_ 0 (.int .i64 (z + 1)))]; omega
end Go.Proofs.YtkhjmedfhobebaaGreat
namespace Go.Proofs.YtkhjmedfhobebaaGreat
open Go.RowKit HandSpec
set_option maxHeartbeats 1600000
set_option maxRecDepth 100000
def pwA (k : Nat) : Int := ((2 ^ k : Nat) : Int)
theorem pwA_step (k : Nat) : pwA (k+1) = 2 * pwA k := by unfold pwA; rw [Nat.pow_succ]; omega
theorem pwA_bd {k : Nat} (h : k ≤ 28) : 1 ≤ pwA k ∧ pwA k ≤ 268435456 := by
 have h1 : 2 ^ k ≤ 2 ^ 28 := Nat.pow_le_pow_right (by omega) (by omega)
 have h2 : 1 ≤ 2 ^ k := Nat.one_le_two_pow
 unfold pwA; omega
theorem rows_take_map {L : List (Nat × Nat)} {s : List Nat} {k : Nat} (h : k < s.length) : rows2 ((s.take (k+1)).map (nth L)) = rows2 ((s.take k).map (nth L)) ++ [[((nth L (s.getD k 0)).1 : Int), ((nth L (s.getD k 0)).2 : Int)]] := by
 have e : s.take (k+1) = s.take k ++ [s.getD k 0] := by
  rw [List.take_add_one, List.getElem?_eq_getElem h, List.getD_eq_getElem?_getD, List.getElem?_eq_getElem h]; rfl
 rw [e, List.map_append, rows2_append]
 rfl
theorem ap_succ (x : WD) (l : List (Nat × Nat)) (k : Nat) : R.ap x l (k+1) = if R.apOk x l (ones 62 k) && R.apB (R.ap x l k) (ones 62 k) then ones 62 k else R.ap x l k := rfl
theorem ap_lt {x : WD} {l : List (Nat × Nat)} (hn : l.length ≤ 62) {k : Nat} (hk : k ≤ 2 ^ l.length) {i : Nat} (hi : i ∈ R.ap x l k) : i < l.length := by
 rcases (R.ap_spec x l k).1 with h | ⟨m, h1, _, h⟩
 ·rw [h] at hi; simp at hi
 ·rw [h] at hi
  have := (F.inc_ones (show m < 2 ^ l.length by omega) hn).2 i hi
  omega
theorem cnt_succ (f : Nat → Bool) (k : Nat) : cntTo f (k+1) = cntTo f k + if f k then 1 else 0 := rfl
theorem apartR_any {x : WD} (hx : Ok x) {w : World} {v : Value} (hv : IsW w v x) :
  Calls Tryz.prog 44 #[v] w fun e w' => ∃ u, e = .returned u ∧ Ext w w' ∧ OwnR w' w.heap.size 65 2 u (rows2 (R.apart x)) := by
 have HV := hid hv
 obtain ⟨A1, c1, A2, c2, A3, c3, rfl, r1, r2, r3⟩ := hv
 clear r1 r2 r3
 have hcn := hx.cn
 have hhd := hx.hands
 have HL : Hid (R.apart x = (R.ap x (R.smallest x) (2 ^ (R.smallest x).length)).map (nth (R.smallest x))) := hid rfl
 have hll := smallest_len hx
 have HM := hid (fun p (hp : p ∈ R.smallest x) => smallest_mem (x := x) (p := p) (by rw [smallest_eq hx]; exact hp))
 obtain ⟨L, hL⟩ : ∃ L, R.smallest x = L := ⟨_, rfl⟩
 rw [hL] at HL hll HM
 have HLL := hid hL
 clear hL
 go_enter Tryz.func44, Tryz.ntmps44
 go_upto_region 2 with (go_at_call 43; refine (smallest_any hx (HV.out.ext ((Ext.refl _).alloc _))).mono ?_; rintro e w1 ⟨us, rfl, he1, hp⟩; rw [HLL.out] at hp; have SL := hid hp.slR; clear hp; obtain ⟨E1, b1⟩ := he1.newB; have k1 := b1.cell; have k1l := b1.lt; clear he1; obtain ⟨B, cap, rfl, hrL⟩ := SL.out; rw [rows2_length] at hrL ⊢)
 have HRL := hid hrL
 have B1 := hid b1
 have E1 := hid E1
 clear hrL SL b1
 go_wp2_with fail
 go_loop [4, 5] (fun s4 s5 => ∃ k : Nat, k ≤ L.length ∧ s5 = .int .i64 (k : Int) ∧ s4 = .int .i64 (pwA k)) (fun _ s5 => L.length - (intOf s5).toNat)
 case atStart => exact ⟨0, Nat.zero_le _, rfl, rfl⟩
 case round =>
  obtain ⟨k, hk, rfl, rfl⟩ := hrel
  by_cases hkl : k < L.length
  ·have hpb := pwA_bd (k := k) (by omega)
   have HS := hid (pwA_step k)
   have hki : (k : Int) < (L.length : Int) := by omega
   go_wp2
   go_round
   case rel => exact ⟨k + 1, by omega, by go_num, by rw [HS.out]⟩
   case measure => simp [intOf]; omega
  ·obtain rfl : k = L.length := by omega
   have hp62 : 2 ^ L.length ≤ 2 ^ 28 := Nat.pow_le_pow_right (by omega) hll
   clear k1 k1l
   go_wp2_with fail
   go_loopw [6, 7] (fun s6 s7 wr => ∃ m : Nat, m ≤ 2 ^ L.length ∧ s7 = .int .i64 (m : Int) ∧ SlR wr 1 s6 (rows1 (R.ap x L m)) ∧ Ext w1 wr) (fun _ s7 _ => 2 ^ L.length - (intOf s7).toNat)
   case atStart => exact ⟨0, Nat.zero_le _, rfl, ⟨none, 0, rfl, Rd.nil⟩, Ext.refl _⟩
   case round =>
    obtain ⟨m, hm, rfl, hs, he⟩ := hrel
    obtain ⟨A, q, rfl, hrS⟩ := hs
    have S : Hid (SlR wr 1 (.slice A (R.ap x L m).length q) (rows1 (R.ap x L m))) := hid ⟨A, q, by rw [rows1_length], hrS⟩
    rw [rows1_length]
    clear hrS
    have hal := R.ap_length x L m
    by_cases hml : m < 2 ^ L.length
    ·have hmi : (m : Int) < pwA L.length := by unfold pwA; omega
     have HO := hid (fun i (hi : i ∈ ones 62 m) => (F.inc_ones hml (show L.length ≤ 62 by omega)).2 i hi)
     have hol := ones_length 62 m
     go_upto_region 12 with (go_at_call 127; refine (members_any m (by omega) _).mono ?_; rintro e w2 ⟨vs, rfl, he2, ho2⟩; have HS := hid ho2.slR; clear ho2)
     obtain ⟨C, capC, rfl, hrC⟩ := HS.out
     rw [rows1_length] at hrC ⊢
     have HRC := hid hrC
     clear hrC
     have E2 := hid (E1.out.trans (he.trans he2))
     have HSUC := hid (ap_succ x L m)
     obtain ⟨s, hs⟩ : ∃ s, ones 62 m = s := ⟨_, rfl⟩
     rw [hs] at HO HS HRC hol HSUC ⊢
     have HSN := hid hs
     clear hs
     have HS : Hid (SlR w2 1 (.slice C s.length capC) (rows1 s)) := hid ⟨C, capC, by rw [rows1_length], by rw [rows1_length]; exact HRC.out⟩
     obtain ⟨wa, rfl⟩ : ∃ wa : World, wa = w2 := ⟨_, rfl⟩
     go_wp2_with fail
     go_loopw [9, 10] (fun s9 s10 wq => ∃ h : Nat, (h : Int) ≤ x.hands ∧ s10 = .int .i64 (h : Int) ∧ s9 = .bool (!anyTo (R.apQ x L s) h) ∧ Ext wa wq) (fun _ s10 _ => x.hands.toNat - (intOf s10).toNat)
     case atStart => exact ⟨0, by omega, rfl, rfl, Ext.refl _⟩
     case round =>
      obtain ⟨h, hh, rfl, rfl, hq⟩ := hrel
      have k1 := ((B1.out.ext (he.trans he2)).ext hq).cell
      have k1l := ((B1.out.ext (he.trans he2)).ext hq).lt
      by_cases hlh : (h : Int) < x.hands
      ·obtain ⟨wb, rfl⟩ : ∃ wb : World, wb = wr := ⟨_, rfl⟩
       have HQ := hid (show anyTo (R.apQ x L s) (h+1) = (anyTo (R.apQ x L s) h || decide (1 < cntTo (R.apF x L s h) s.length)) from rfl)
       obtain ⟨bq, hbq⟩ : ∃ bq, anyTo (R.apQ x L s) h = bq := ⟨_, rfl⟩
       rw [hbq] at HQ ⊢
       clear hbq
       go_wp2_with fail
       go_loopw [11, 12] (fun s11 s12 wz => ∃ i n : Nat, i ≤ s.length ∧ n ≤ i ∧ s12 = .int .i64 (i : Int) ∧ s11 = .int .i64 (n : Int) ∧ Hid (n = cntTo (R.apF x L s h) i) ∧ Ext wb wz) (fun _ s12 _ => s.length - (intOf s12).toNat)
       case atStart => exact ⟨0, 0, Nat.zero_le _, Nat.le_refl _, rfl, rfl, rfl, Ext.refl _⟩
       case round =>
        clear k1 k1l
        obtain ⟨i, n, hi, hn, rfl, rfl, hcnt, hz⟩ := hrel
        have EE := hid (he.trans (he2.trans (hq.trans hz)))
        have k1 := (B1.out.ext EE.out).cell
        have k1l := (B1.out.ext EE.out).lt
        by_cases hil : i < s.length
        ·obtain ⟨cb, co, rfl, hcb, c0⟩ := (HRC.out.ext (hq.trans hz)).atN hil
         have hmem : s.getD i 0 ∈ s := by rw [List.getD_eq_getElem?_getD, List.getElem?_eq_getElem hil]; exact List.getElem_mem hil
         have hjL := (HO.out _ hmem).2
         have HF := hid (show R.apF x L s h i = R.is x (nth L (s.getD i 0)).1 (nth L (s.getD i 0)).2 (h : Int) from rfl)
         obtain ⟨j, hj⟩ : ∃ j, j = s.getD i 0 := ⟨_, rfl⟩
         rw [← hj] at c0 hjL HF
         clear hmem hj
         obtain ⟨bb, bo, rfl, hbb, e0, e1⟩ := (HRL.out.ext EE.out).atP hjL
         have hv2 := HM.out (nth L j) (by rw [nth_get L hjL]; exact List.getElem_mem hjL)
         have HCS := hid (cnt_succ (R.apF x L s h) i)
         have hii : (i : Int) < (s.length : Int) := by omega
         have hji : (j : Int) < (L.length : Int) := by omega
         have hisc : ∀ n9 : Later wr, Calls Tryz.prog 126 #[.agg #[.int .i64 x.hours, .int .i64 x.allow, .int .i64 x.hands, .slice A1 x.cn c1, .slice A2 x.bn c2, .slice A3 x.sn c3], .agg #[.int .i64 ((nth L j).1 : Int), .int .i64 ((nth L j).2 : Int)], .int .i64 (h : Int)] n9.at_ fun e w' => e = .returned (.bool (R.apF x L s h i)) ∧ Ext n9.at_ w' := fun n9 => by
          rw [HF.out]
          exact is_any hx (HV.out.ext (E1.out.trans (EE.out.trans n9.ok))) _ _ (Nat.le_of_lt hv2.1) hv2.2 (h : Int)
         have HIS := hid hisc
         clear hisc
         cases hb : R.apF x L s h i
         all_goals
          rw [hb] at HIS HCS
          have HB := hid hb
          clear hb
          go_upto_region 20 with fail
          refine wp_region_later (by kernel_rfl) (by kernel_rfl) ?_
          repeat (go_big_quiet_step ((go_at_call 126; exact Calls.later (HIS.out _))))
          refine wpQuiet_nil ?_
          rintro _ ⟨⟨w7, he7⟩, rfl⟩
          go_wp2_with fail
          go_roundw
         case rel => exact ⟨i + 1, n, by omega, by omega, by go_num, rfl, hid (by rw [HCS.out, hcnt.out]; rfl), hz.trans he7⟩
         case measure => simp [intOf]; omega
         case rel => exact ⟨i + 1, n + 1, by omega, by omega, by go_num, by go_num, hid (by rw [HCS.out, hcnt.out]; rfl), hz.trans he7⟩
         case measure => simp [intOf]; omega
        ·obtain rfl : i = s.length := by omega
         have HQ2 := hid (show anyTo (R.apQ x L s) (h+1) = (bq || decide (1 < n)) by rw [HQ.out, hcnt.out])
         by_cases hn2 : n < 2
         ·have e1 : (n : Int) < 2 := by omega
          have HD := hid (show decide (1 < n) = false from decide_eq_false (by omega))
          cases bq
          all_goals
           go_wp2_with fail
           go_roundw
           case rel => exact ⟨h + 1, by omega, by go_num, by rw [HQ2.out, HD.out]; rfl, hq.trans hz⟩
           case measure => simp [intOf]; omega
         ·have e1 : ¬ (n : Int) < 2 := by omega
          have HD := hid (show decide (1 < n) = true from decide_eq_true (by omega))
          cases bq
          all_goals
           go_wp2_with fail
           go_roundw
           case rel => exact ⟨h + 1, by omega, by go_num, by rw [HQ2.out, HD.out]; rfl, hq.trans hz⟩
           case measure => simp [intOf]; omega
      ·have HOK := hid (show R.apOk x L s = !anyTo (R.apQ x L s) h by
        obtain rfl : h = x.hands.toNat := by omega
        rfl)
       rw [← HOK.out]
       have HAP := hid (show R.apB (R.ap x L m) s = (decide ((R.ap x L m).length < s.length) || (decide (s.length = (R.ap x L m).length) && aheadB s (R.ap x L m))) from rfl)
       have EQ := hid (he.trans (he2.trans hq))
       cases hok : R.apOk x L s
       ·rw [hok] at HSUC
        have HK := hid hok
        clear hok
        go_wp2_with fail
        go_roundw
        case rel => exact ⟨m + 1, by omega, by go_num, by rw [HSUC.out, Bool.false_and, if_neg Bool.false_ne_true]; exact (S.out.ext (he2.trans hq)), EQ.out⟩
        case measure => simp [intOf]; omega
       ·rw [hok] at HSUC
        have HK := hid hok
        clear hok
        rcases Nat.lt_trichotomy (R.ap x L m).length s.length with c | c | c
        ·have e1 : ((R.ap x L m).length : Int) < (s.length : Int) := by omega
         have HB := hid (show R.apB (R.ap x L m) s = true by rw [HAP.out, decide_eq_true c]; rfl)
         go_wp2_with fail
         go_roundw
         case rel => exact ⟨m + 1, by omega, by go_num, by rw [HSUC.out, HB.out]; exact HS.out.ext hq, EQ.out⟩
         case measure => simp [intOf]; omega
        ·have e1 : ¬ ((R.ap x L m).length : Int) < (s.length : Int) := by omega
         have e2 : ((s.length : Int) == ((R.ap x L m).length : Int)) = true := by simp; omega
         have HB := hid (show R.apB (R.ap x L m) s = aheadB s (R.ap x L m) by rw [HAP.out, decide_eq_false (show ¬ (R.ap x L m).length < s.length by omega), decide_eq_true (show s.length = (R.ap x L m).length by omega)]; simp)
         have hsl : s.length ≤ 1000 := by omega
         have hal2 : (R.ap x L m).length ≤ 1000 := by omega
         clear c
         cases ha : aheadB s (R.ap x L m)
         all_goals
          rw [ha] at HB
          have HAH := hid ha
          clear ha
          go_wp2_with (go_at_call 128; refine (ahead_any (HS.out.ext hq) (S.out.ext (he2.trans hq)) hsl hal2).mono ?_; rintro e w8 ⟨rfl, he8⟩; rw [HAH.out])
          go_roundw
         case rel => exact ⟨m + 1, by omega, by go_num, by rw [HSUC.out, HB.out]; exact S.out.ext ((he2.trans hq).trans he8), EQ.out.trans he8⟩
         case measure => simp [intOf]; omega
         case rel => exact ⟨m + 1, by omega, by go_num, by rw [HSUC.out, HB.out]; exact HS.out.ext (hq.trans he8), EQ.out.trans he8⟩
         case measure => simp [intOf]; omega
        ·have e1 : ¬ ((R.ap x L m).length : Int) < (s.length : Int) := by omega
         have e2 : ((s.length : Int) == ((R.ap x L m).length : Int)) = false := by rw [beq_eq_false_iff_ne]; omega
         have HB := hid (show R.apB (R.ap x L m) s = false by rw [HAP.out, decide_eq_false (show ¬ (R.ap x L m).length < s.length by omega), decide_eq_false (show ¬ s.length = (R.ap x L m).length by omega)]; rfl)
         go_wp2_with fail
         go_roundw
         case rel => exact ⟨m + 1, by omega, by go_num, by rw [HSUC.out, HB.out]; exact (S.out.ext (he2.trans hq)), EQ.out⟩
         case measure => simp [intOf]; omega
    ·obtain rfl : m = 2 ^ L.length := by omega
     have hmi : ¬ ((2 ^ L.length : Nat) : Int) < pwA L.length := by unfold pwA; omega
     have HOL := hid (fun i (hi : i ∈ R.ap x L (2 ^ L.length)) => ap_lt (show L.length ≤ 62 by omega) (Nat.le_refl _) hi)
     obtain ⟨out, ho⟩ : ∃ out, R.ap x L (2 ^ L.length) = out := ⟨_, rfl⟩
     rw [ho] at HL HOL S hal ⊢
     clear ho
     obtain ⟨A', q', hAe, hrC⟩ := S.out
     rw [rows1_length] at hrC hAe
     obtain ⟨rfl, rfl⟩ : A = A' ∧ q = q' := by simpa [rows1_length] using hAe
     have HRC := hid hrC
     clear hrC hAe
     obtain ⟨wa, rfl⟩ : ∃ wa : World, wa = wr := ⟨_, rfl⟩
     go_wp2_with fail
     go_loopw [13, 14] (fun s13 s14 wq => ∃ k : Nat, k ≤ out.length ∧ s14 = .int .i64 (k : Int) ∧ OwnR wq wa.heap.size 65 2 s13 (rows2 ((out.take k).map (nth L))) ∧ Ext wa wq) (fun _ s14 _ => out.length - (intOf s14).toNat)
     case atStart => exact ⟨0, Nat.zero_le _, rfl, by simpa [rows2] using OwnR.nil, Ext.refl _⟩
     case round =>
      obtain ⟨k, hk, rfl, hown, hq⟩ := hrel
      have HOWN := hid hown
      clear hown
      by_cases hlt : k < out.length
      ·obtain ⟨cb, co, rfl, hcb, c0⟩ := (HRC.out.ext hq).atN hlt
       have hmem : out.getD k 0 ∈ out := by rw [List.getD_eq_getElem?_getD, List.getElem?_eq_getElem hlt]; exact List.getElem_mem hlt
       have hiL := HOL.out _ hmem
       have HT := hid (rows_take_map (L := L) hlt)
       obtain ⟨i, hi⟩ : ∃ i, i = out.getD k 0 := ⟨_, rfl⟩
       rw [← hi] at c0 hiL HT
       clear hmem hi
       obtain ⟨bb, bo, rfl, hbb, e0, e1⟩ := (HRL.out.ext (he.trans hq)).atP hiL
       have hkk : (k : Int) < (out.length : Int) := by omega
       have hii : (i : Int) < (L.length : Int) := by omega
       go_wp2_with (at_builtin; refine wpList_append_rows rfl _ _ 53 rfl elem53 rfl (HOWN.out.ext (Ext.alloc (Ext.refl _) _)) _ 1 1 [[((nth L i).1 : Int), ((nth L i).2 : Int)]] rfl rfl (by simp) (by intro j; simp [cellsOf]) (by rw [rows2_length, List.length_map, List.length_take]; omega) (by have := hq.size; simp; omega) ?_; intro v' w8 hown2 hg2)
       go_roundw
       case rel => exact ⟨k + 1, by omega, by go_num, by rw [HT.out]; exact hown2, (hq.alloc _).grown hg2 fun g hg => HOWN.out.block hg⟩
       case measure => simp [intOf]; omega
      ·obtain rfl : k = out.length := by omega
       go_wp2_with fail
       go_ret
       have hsz := (E1.out.trans he).size
       exact ⟨_, rfl, E1.out.trans (he.trans hq), by rw [HL.out]; have h := HOWN.out.base hsz; rw [List.take_length] at h; exact h⟩
end Go.Proofs.YtkhjmedfhobebaaGreat
