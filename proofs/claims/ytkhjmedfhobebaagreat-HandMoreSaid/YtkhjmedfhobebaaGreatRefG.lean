/- Walks of the reference: forward. No condition. -/
import Derived.Test.YtkhjmedfhobebaaGreatRefA
import Derived.Test.YtkhjmedfhobebaaGreatCore
namespace Go.Proofs.YtkhjmedfhobebaaGreat
open Go.RowKit HandSpec
set_option maxHeartbeats 400000
set_option maxRecDepth 100000

set_option maxHeartbeats 1600000 in
theorem clashes_any {x : WD} (hx : Ok x) {w : World} {v : Value} (hv : IsW w v x) :
  Calls Tryz.prog 45 #[v] w fun e w' => e = .returned (.tuple #[.agg #[.int .i64 (((R.clashes x).getD (0, 0)).1 : Int), .int .i64 (((R.clashes x).getD (0, 0)).2 : Int)], .bool (R.clashes x).isSome]) ∧ Ext w w' := by
 have hv0 := hid hv
 obtain ⟨A1, c1, A2, c2, A3, c3, rfl, r1, r2, r3⟩ := hv
 have hcn := hx.cn
 clear r2 r3
 go_enter Tryz.func45, Tryz.ntmps45
 go_wp2_with (go_at_call 140; refine (all_any (by omega) (hv0.out.ext (Ext.alloc (Ext.alloc (Ext.refl _) _) _))).mono ?_; rintro e w1 ⟨u, rfl, he0, hu⟩)
 obtain ⟨he, hk1, hk2⟩ := he0.newB2
 have hs := hu.slR
 have hll : (stretches x.cn).length ≤ 64 := Nat.le_trans (stretches_length _) (Nat.mul_le_mul hcn.2 hcn.2)
 have HM : Hid (∀ k, k < (stretches x.cn).length → (nth (stretches x.cn) k).1 < (nth (stretches x.cn) k).2 ∧ (nth (stretches x.cn) k).2 < x.cn) := fun k hk => mem_stretches.1 (by simp [nth, hk])
 have HG : Hid (R.clashes x = (stretches x.cn).find? (R.clashB x)) := hid rfl
 clear hu he0
 obtain ⟨A, cap, rfl, hr⟩ := hs
 rw [rows2_length] at *
 generalize stretches x.cn = l at *
 have r1 := r1.ext he
 go_loopw [5, 6] (fun i _ wr => ∃ k : Nat, k ≤ l.length ∧ i = .int .i64 (k : Int) ∧ Hid (∀ j, j < k → R.clashB x (nth l j) = false) ∧ Ext w1 wr) (fun i _ _ => l.length - (intOf i).toNat)
 case atStart => exact ⟨0, Nat.zero_le _, rfl, fun _ h => absurd h (by omega), Ext.refl _⟩
 case round =>
  obtain ⟨k, hk, rfl, hf, he1⟩ := hrel
  have k1 := (hk1.ext he1).cell
  have k2 := (hk2.ext he1).cell
  have f2 := (hk2.ext he1).frozen
  by_cases hlt : k < l.length
  ·obtain ⟨b, o, rfl, hb, c1, c2⟩ := (hr.ext he1).atP hlt
   obtain ⟨m1, m2⟩ := HM.out k hlt
   obtain ⟨cb, co, rfl, hcb, _, _, d1⟩ := (r1.ext he1).at3 (Nat.lt_trans m1 m2)
   obtain ⟨_, _, hq, _, _, d2, _⟩ := (r1.ext he1).at3 m2
   obtain ⟨rfl, rfl⟩ := same_addr hq rfl
   have hbd := R.booked_bound hx (nth l k).1 (nth l k).2
   have hlo := hx.lo _ m2
   have hhi := hx.hi _ (Nat.lt_trans m1 m2)
   clear hr hq r1
   go_upto_region 6 with fail
   refine wp_later fun w2 he3 => ?_
   obtain ⟨he3, hk3⟩ := he3.newB
   have k3 := hk3.cell
   have k1 := ((hk1.ext he1).ext he3).cell
   have d1 := he3.some_ d1
   have d2 := he3.some_ d2
   have f2 := ((hk2.ext he1).ext he3).frozen
   have k2 := ((hk2.ext he1).ext he3).cell
   by_cases q1 : x.c (nth l k).1 2 + R.booked x (nth l k).1 (nth l k).2 < x.c (nth l k).2 1
   ·have e1 : decide (x.c (nth l k).1 2 + R.booked x (nth l k).1 (nth l k).2 < x.c (nth l k).2 1) = true := by simpa using q1
    refine wp_region_later (by kernel_rfl) (by kernel_rfl) ?_
    repeat (go_big_quiet_step ((go_at_call 56; exact Calls.later (booked_any hx ((hv0.out.ext (he.trans (he1.trans he3))).ext (Later.ext _)) _ _ (Nat.lt_trans m1 m2) m2))))
    refine wpQuiet_nil ?_
    rintro _ ⟨⟨w4, he4⟩, rfl⟩
    have f2 := (((hk2.ext he1).ext he3).ext he4).frozen
    have k2 := (((hk2.ext he1).ext he3).ext he4).cell
    have k3 := (hk3.ext he4).cell
    go_wp2
    have hcl : R.clashes x = some (nth l k) := by rw [HG.out]; exact find_first hlt hf.out (by simp [R.clashB, q1])
    exact bodyPost_ret (v := .tuple #[.agg #[.int .i64 ((nth l k).1 : Int), .int .i64 ((nth l k).2 : Int)], .bool true]) (by simp [results, Tryz.results45, go_sem, k2]) rfl ⟨by rw [hcl]; rfl, ((he.trans (he1.trans (he3.trans he4))).setCell _ (by simp)).setCell _ (by simp)⟩
   ·have e1 : decide (x.c (nth l k).1 2 + R.booked x (nth l k).1 (nth l k).2 < x.c (nth l k).2 1) = false := by simpa using q1
    by_cases q2 : 0 < R.gap x (nth l k).1 (nth l k).2
    ·have e2 : decide (0 < R.gap x (nth l k).1 (nth l k).2) = true := by simpa using q2
     refine wp_region_tail 29 (by kernel_rfl) (by kernel_rfl) ?_
     simp only [List.take_succ_cons, List.take_zero, List.drop_succ_cons, List.drop_zero]
     repeat (go_big_quiet_step ((first | (go_at_call 56; exact Calls.later (booked_any hx ((hv0.out.ext (he.trans (he1.trans he3))).ext (Later.ext _)) _ _ (Nat.lt_trans m1 m2) m2)) | (go_at_call 57; exact Calls.later (gap_any hx ((hv0.out.ext (he.trans (he1.trans he3))).ext (Later.ext _)) _ _ (Nat.lt_trans m1 m2) m2)))))
     refine wpQuiet_nil ?_
     rintro _ ⟨⟨w4, he4⟩, rfl⟩
     have hl0 : Hid ((R.there x (nth l k).1 (nth l k).2).isEmpty = decide ((R.there x (nth l k).1 (nth l k).2).length = 0)) := hid (by cases R.there x (nth l k).1 (nth l k).2 <;> simp)
     by_cases q3 : (R.there x (nth l k).1 (nth l k).2).length = 0
     ·have e3 : (((R.there x (nth l k).1 (nth l k).2).length : Int) == 0) = true := by simp [q3]
      have Q3 := hid q3
      clear q3
      go_wp2_with (go_at_call 58; refine (there_any hx (hv0.out.ext (he.trans (he1.trans (he3.trans he4)))) _ _ (Nat.le_of_lt m1) m2).mono ?_; rintro e w5 ⟨u, rfl, he5, hu⟩; obtain ⟨B, cb, rfl, _⟩ := hu.slR; rw [rows1_length]; have f2 := ((((hk2.ext he1).ext he3).ext he4).ext he5).frozen; have k2 := ((((hk2.ext he1).ext he3).ext he4).ext he5).cell; have k3 := ((hk3.ext he4).ext he5).cell)
      have hcl : R.clashes x = some (nth l k) := by rw [HG.out]; exact find_first hlt hf.out (by simp [R.clashB, q2, hl0.out, Q3.out])
      exact bodyPost_ret (v := .tuple #[.agg #[.int .i64 ((nth l k).1 : Int), .int .i64 ((nth l k).2 : Int)], .bool true]) (by simp [results, Tryz.results45, go_sem, k2]) rfl ⟨by rw [hcl]; rfl, ((he.trans (he1.trans (he3.trans (he4.trans he5)))).setCell _ (by simp)).setCell _ (by simp)⟩
     ·have e3 : (((R.there x (nth l k).1 (nth l k).2).length : Int) == 0) = false := by simpa using q3
      go_wp2_with (go_at_call 58; refine (there_any hx (hv0.out.ext (he.trans (he1.trans (he3.trans he4)))) _ _ (Nat.le_of_lt m1) m2).mono ?_; rintro e w5 ⟨u, rfl, he5, hu⟩; obtain ⟨B, cb, rfl, _⟩ := hu.slR; rw [rows1_length]; have f2 := ((((hk2.ext he1).ext he3).ext he4).ext he5).frozen; have k2 := ((((hk2.ext he1).ext he3).ext he4).ext he5).cell; have k3 := ((hk3.ext he4).ext he5).cell)
      go_roundw
      case rel => exact ⟨k + 1, by omega, by go_num, anyTo_step (p := fun j => R.clashB x (nth l j)) hf.out (by simp [R.clashB, Int.not_lt.2 q1, hl0.out, q3]), he1.trans (he3.trans (he4.trans he5))⟩
      case measure => simp [intOf]; omega
    ·have e2 : decide (0 < R.gap x (nth l k).1 (nth l k).2) = false := by simpa using q2
     refine wp_region_later (by kernel_rfl) (by kernel_rfl) ?_
     repeat (go_big_quiet_step ((first | (go_at_call 56; exact Calls.later (booked_any hx ((hv0.out.ext (he.trans (he1.trans he3))).ext (Later.ext _)) _ _ (Nat.lt_trans m1 m2) m2)) | (go_at_call 57; exact Calls.later (gap_any hx ((hv0.out.ext (he.trans (he1.trans he3))).ext (Later.ext _)) _ _ (Nat.lt_trans m1 m2) m2)))))
     refine wpQuiet_nil ?_
     rintro _ ⟨⟨w4, he4⟩, rfl⟩
     go_wp2
     go_roundw
     case rel => exact ⟨k + 1, by omega, by go_num, anyTo_step (p := fun j => R.clashB x (nth l j)) hf.out (by simp [R.clashB, q1, q2]), he1.trans (he3.trans he4)⟩
     case measure => simp [intOf]; omega
  ·go_wp2_with fail
   obtain rfl : k = l.length := by omega
   have hn := find_none hf.out
   exact bodyPost_ret (v := .tuple #[.agg #[.int .i64 0, .int .i64 0], .bool false]) (by simp [results, Tryz.results45, go_sem, k2]) rfl ⟨by rw [HG.out, hn]; rfl, ((he.trans he1).setCell _ (by simp)).setCell _ (by simp)⟩
end Go.Proofs.YtkhjmedfhobebaaGreat
namespace Go.Proofs.YtkhjmedfhobebaaGreat
open Go.RowKit HandSpec
set_option maxHeartbeats 400000
set_option maxRecDepth 100000

theorem elem38 : ElemOk Tryz.prog 38 67 2 16 := ⟨Tryz.underlying38, by
 obtain ⟨i, hi, h1, h2, h3⟩ := info_parts (show (Tryz.prog.info? 67).map (fun i => (i.zero, i.size, i.bytes)) = some (some (.agg #[.int .i64 0, .int .i64 0]), 2, 16) by kernel_rfl)
 exact ⟨i, _, hi, h1, h2, h3, rfl⟩, by omega, by omega⟩

theorem ret_pair {v : Value} {a b : Bool} (h : a = b) : Ending.returned (.tuple #[v, .bool a]) = .returned (.tuple #[v, .bool b]) := by rw [h]

set_option maxHeartbeats 3200000 in
theorem forward_any {x : WD} (hx : Ok x) {w : World} {v : Value} (hv : IsW w v x) (m : Nat) (hm : m < 2 ^ 62) :
  Calls Tryz.prog 22 #[v, .int .i64 (m : Int)] w fun e w' => ∃ u, e = .returned (.tuple #[u, .bool (R.fwOk x m)]) ∧ Ext w w' ∧ (R.fwOk x m = true → OwnR w' w.heap.size 67 2 u (R.rowsF x m (x.cn - 1))) := by
 have hv0 := hid hv
 obtain ⟨A1, c1, A2, c2, A3, c3, rfl, r1, r2, r3⟩ := hv
 have hcn := hx.cn
 obtain ⟨cb, co, rfl, hcb, ca0, ca1, ca2⟩ := r1.at3 (show 0 < x.cn by omega)
 simp only [Nat.zero_mul, Nat.add_zero] at ca0 ca1 ca2
 clear r2 r3
 go_enter Tryz.func22, Tryz.ntmps22
 go_wp2
 refine wp_later fun w1 hw1 => ?_
 have hown0 := OwnR.ext (OwnR.made (w := w.alloc _) (e := 67) (B := w.heap.size + 1) (c := 2) [[x.c 0 1, x.c 0 2]] (by simp) rfl (n := 1) rfl (by simp) (by omega)) hw1
 obtain ⟨he, hk1, _⟩ := hw1.newB2
 simp only [World.size_alloc] at hown0
 clear hw1
 have hsz := hk1.lt
 go_loopw [6, 7, 8, 9] (fun o i _ _ wr => ∃ k : Nat, k + 1 ≤ x.cn ∧ i = .int .i64 (k : Int) ∧ OwnR wr (w.heap.size + 1) 67 2 o (R.rowsF x m k) ∧ Hid (∀ j, j < k → decide ((R.fw x m (j+1)).2 < (R.fw x m (j+1)).1) = false) ∧ Ext w wr ∧ Blk wr w.heap.size 34 #[.int .i64 x.hours, .int .i64 x.allow, .int .i64 x.hands, .slice (some ⟨cb, co, none⟩) x.cn c1, .slice A2 x.bn c2, .slice A3 x.sn c3]) (fun _ i _ _ _ => x.cn - (intOf i).toNat)
 case atStart => exact ⟨0, by omega, rfl, hown0, fun _ h => absurd h (by omega), he, hk1⟩
 case round =>
  obtain ⟨k, hk, rfl, hown, hok, he1, hk1⟩ := hrel
  have k1 := hk1.cell
  have hsz := hk1.lt
  by_cases hlt : k + 1 < x.cn
  ·obtain ⟨A, cap, rfl, hr⟩ := hown.slR
   rw [R.rowsF_length] at *
   obtain ⟨ob, oo, rfl, hob, o0, o1⟩ := hr.at2 (show k < k + 1 by omega)
   have ho0 : rowsAt (R.rowsF x m k) k 0 = (R.fw x m k).1 := by unfold rowsAt; rw [R.rowsF_at x m k k (Nat.le_refl _)]; rfl
   have ho1 : rowsAt (R.rowsF x m k) k 1 = (R.fw x m k).2 := by unfold rowsAt; rw [R.rowsF_at x m k k (Nat.le_refl _)]; rfl
   rw [ho0] at o0
   rw [ho1] at o1
   obtain ⟨_, _, hq, _, d0, d1, d2⟩ := (r1.ext he1).at3 hlt
   obtain ⟨rfl, rfl⟩ := same_addr hq rfl
   have hf := R.fw_bound hx m k (by omega) hok.out
   have hbd := R.booked_bound hx k (k+1)
   have hlo := hx.lo (k+1) hlt
   have hhi := hx.hi (k+1) hlt
   have hal := hx.allow
   have hhr : -60 ≤ R.hours x k (k+1) ∧ R.hours x k (k+1) ≤ 60 := by
    have h1 := hx.hour k (by omega)
    have h2 := hx.hour (k+1) hlt
    have h3 := hx.hours
    unfold R.hours; omega
   have hmul : -1200 ≤ x.allow * R.hours x k (k+1) ∧ x.allow * R.hours x k (k+1) ≤ 1200 := by
    have h1 := Int.mul_le_mul_of_nonneg_left hhr.2 hal.1
    have h2 := Int.mul_le_mul_of_nonneg_left hhr.1 hal.1
    omega
   have HN : Hid (R.fw x m (k+1) = R.nxt x m k (R.fw x m k)) := hid rfl
   have HO := hid hown
   clear ho0 ho1 hr hq r1 hown
   go_upto_region 7 with fail
   refine wp_later fun w2 hw2 => ?_
   obtain ⟨he2, hk8, hk9⟩ := hw2.newB2
   have k1 := (hk1.ext he2).cell
   have k8 := hk8.cell
   have k9 := hk9.cell
   have f9 := hk9.frozen
   have o0' := he2.some_ o0
   have o1' := he2.some_ o1
   refine wp_region_tail 13 (by kernel_rfl) (by kernel_rfl) ?_
   simp only [List.take_succ_cons, List.take_zero, List.drop_succ_cons, List.drop_zero]
   repeat (go_big_quiet_step ((go_at_call 56; exact Calls.later (booked_any hx ((hv0.out.ext (he1.trans he2)).ext (Later.ext _)) k (k+1) (by omega) hlt))))
   refine wpQuiet_nil ?_
   rintro _ ⟨⟨w3, he3⟩, rfl⟩
   have k9 := (hk9.ext he3).cell
   have f9 := (hk9.ext he3).frozen
   go_upto_region 8 with fail
   refine wp_later fun w4 hw4 => ?_
   have hmin : (if (R.fw x m k).2 + R.booked x k (k+1) < x.c (k+1) 2 then (R.fw x m k).2 + R.booked x k (k+1) else x.c (k+1) 2) = (R.fw x m (k+1)).2 := by
    rw [HN.out]; simp only [R.nxt]; split <;> omega
   simp only [hmin] at hw4 ⊢
   have hb9 := ((hk9.ext he3).set_ 1 (.int .i64 (R.fw x m (k+1)).2)).ext hw4
   have hb8 := ((hk8.ext he3).far (p := ⟨wr.heap.size + 1, 1, none⟩) (by simp) (.int .i64 (R.fw x m (k+1)).2)).ext hw4
   have he4 : Ext wr w4 := ((he2.trans he3).setCell _ (by simp)).trans hw4
   clear hw4 hmin k9 f9
   simp only [List.setIfInBounds_toArray, List.set_cons_succ, List.set_cons_zero] at hb9
   have k9 := hb9.cell
   have f9 := hb9.frozen
   have k8 := hb8.cell
   have k1 := (hk1.ext he4).cell
   have o0 := he4.some_ o0
   cases hb : R.can x m k
   all_goals
    have HB := hid hb
    clear hb
   ·go_upto_region 9 with (go_at_call 118; refine (can_any hx (hv0.out.ext (he1.trans he4)) m hm k hlt).mono ?_; rintro e w5 ⟨rfl, he5⟩; rw [HB.out])
    have k9 := (hb9.ext he5).cell
    have f9 := (hb9.ext he5).frozen
    have k8 := (hb8.ext he5).cell
    have k1 := ((hk1.ext he4).ext he5).cell
    have o0 := he5.some_ o0
    refine wp_region_tail 20 (by kernel_rfl) (by kernel_rfl) ?_
    simp only [List.take_succ_cons, List.take_zero, List.drop_succ_cons, List.drop_zero]
    repeat (go_big_quiet_step ((first
     | (go_at_call 56; exact Calls.later (booked_any hx (((hv0.out.ext (he1.trans he4)).ext he5).ext (Later.ext _)) k (k+1) (by omega) hlt))
     | (go_at_call 119; exact Calls.later (hours_any hx (((hv0.out.ext (he1.trans he4)).ext he5).ext (Later.ext _)) k (k+1) (by omega) hlt)))))
    refine wpQuiet_nil ?_
    rintro _ ⟨⟨w6, he6⟩, rfl⟩
    have k9 := ((hb9.ext he5).ext he6).cell
    have f9 := ((hb9.ext he5).ext he6).frozen
    go_upto_region 10 with fail
    refine wp_later fun w7 hw7 => ?_
    have hmax : (if x.c (k+1) 1 < (R.fw x m k).1 + R.booked x k (k+1) - x.allow * R.hours x k (k+1) then (R.fw x m k).1 + R.booked x k (k+1) - x.allow * R.hours x k (k+1) else x.c (k+1) 1) = (R.fw x m (k+1)).1 := by
     rw [HN.out]; simp only [R.nxt, HB.out, Bool.false_eq_true, if_false]; split <;> omega
    simp only [hmax] at hw7 ⊢
    have hb9 := (((hb9.ext he5).ext he6).set_ 0 (.int .i64 (R.fw x m (k+1)).1)).ext hw7
    have he7 : Ext wr w7 := (((he4.trans he5).trans he6).setCell _ (by simp)).trans hw7
    clear hw7 hmax k9 f9
    simp only [List.setIfInBounds_toArray, List.set_cons_zero] at hb9
    have k9 := hb9.cell
    have hsz7 := he7.size
    by_cases q : (R.fw x m (k+1)).2 < (R.fw x m (k+1)).1
    ·go_wp2_with fail
     go_ret2
     have hno : R.fwOk x m = false := by
      unfold R.fwOk
      rw [Bool.not_eq_false', anyTo_true]
      exact ⟨k, by omega, by simpa using q⟩
     exact ⟨_, ret_pair hno.symm, he1.trans he7, fun h => by rw [hno] at h; cases h⟩
    ·go_wp2_with (at_builtin; refine wpList_append_rows rfl _ _ 38 rfl elem38 rfl ((HO.out.ext he7).ext (Ext.alloc (Ext.refl _) _)) _ 1 1 [[(R.fw x m (k+1)).1, (R.fw x m (k+1)).2]] rfl rfl (by simp) (by intro j; simp [cellsOf]) (by rw [R.rowsF_length]; omega) (by have := he1.size; simp; omega) ?_; intro v' w8 hown2 hg2)
     go_roundw
     case rel => exact ⟨k + 1, by omega, by go_num, by rw [R.rowsF_succ]; exact hown2, anyTo_step (p := fun j => decide ((R.fw x m (j+1)).2 < (R.fw x m (j+1)).1)) hok.out (by simpa using q), ((he1.trans he7).alloc _).grown hg2 fun g hg => Nat.le_of_succ_le ((HO.out.ext he7).block hg), ((hk1.ext he7).ext (Ext.alloc (Ext.refl _) _)).grown hg2 (fun e => by have := (HO.out.ext he7).block e.symm; omega)⟩
     case measure => simp [intOf]; omega
   ·go_upto_region 10 with (go_at_call 118; refine (can_any hx (hv0.out.ext (he1.trans he4)) m hm k hlt).mono ?_; rintro e w5 ⟨rfl, he5⟩; rw [HB.out])
    have hlo1 : x.c (k+1) 1 = (R.fw x m (k+1)).1 := by
     rw [HN.out]; simp only [R.nxt, HB.out, if_true]
    have hb9 := hb9.ext he5
    rw [hlo1] at hb9
    have he7 : Ext wr w5 := he4.trans he5
    clear hlo1
    have k9 := hb9.cell
    have hsz7 := he7.size
    by_cases q : (R.fw x m (k+1)).2 < (R.fw x m (k+1)).1
    ·go_wp2_with fail
     go_ret2
     have hno : R.fwOk x m = false := by
      unfold R.fwOk
      rw [Bool.not_eq_false', anyTo_true]
      exact ⟨k, by omega, by simpa using q⟩
     exact ⟨_, ret_pair hno.symm, he1.trans he7, fun h => by rw [hno] at h; cases h⟩
    ·go_wp2_with (at_builtin; refine wpList_append_rows rfl _ _ 38 rfl elem38 rfl ((HO.out.ext he7).ext (Ext.alloc (Ext.refl _) _)) _ 1 1 [[(R.fw x m (k+1)).1, (R.fw x m (k+1)).2]] rfl rfl (by simp) (by intro j; simp [cellsOf]) (by rw [R.rowsF_length]; omega) (by have := he1.size; simp; omega) ?_; intro v' w8 hown2 hg2)
     go_roundw
     case rel => exact ⟨k + 1, by omega, by go_num, by rw [R.rowsF_succ]; exact hown2, anyTo_step (p := fun j => decide ((R.fw x m (j+1)).2 < (R.fw x m (j+1)).1)) hok.out (by simpa using q), ((he1.trans he7).alloc _).grown hg2 fun g hg => Nat.le_of_succ_le ((HO.out.ext he7).block hg), ((hk1.ext he7).ext (Ext.alloc (Ext.refl _) _)).grown hg2 (fun e => by have := (HO.out.ext he7).block e.symm; omega)⟩
     case measure => simp [intOf]; omega
  ·go_wp2_with fail
   go_ret2
   have hyes : R.fwOk x m = true := by
    unfold R.fwOk
    rw [Bool.not_eq_true', anyTo_false]
    intro j hj
    exact hok.out j (by omega)
   obtain rfl : k = x.cn - 1 := by omega
   exact ⟨_, ret_pair hyes.symm, he1, fun _ => hown.base (Nat.le_succ _)⟩
end Go.Proofs.YtkhjmedfhobebaaGreat
