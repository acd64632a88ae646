/- Walk of the reference: the first stretch that shows a clash. The watch is right, as Ok says. -/
import Derived.Test.YtkhjmedfhobebaaGreatRefE
import Derived.Test.YtkhjmedfhobebaaGreatCore
namespace Go.Proofs.YtkhjmedfhobebaaGreat
open Go.RowKit HandSpec
set_option maxHeartbeats 400000
set_option maxRecDepth 100000

set_option maxHeartbeats 1600000 in
theorem clashes_any {x : WD} (hx : Ok x) {w : World} {v : Value} (hv : IsW w v x) :
    Calls Tryz.prog 45 #[v] w fun e w' => e = .returned (.tuple #[.agg #[.int .i64 (((R.clashes x).getD (0, 0)).1 : Int), .int .i64 (((R.clashes x).getD (0, 0)).2 : Int)], .bool (R.clashes x).isSome]) ∧ Ext w w' := by
  have hv0 := hid hv
  obtain ⟨A1, c1, A2, c2, A3, c3, rfl, r1, r2, r3⟩ := hv
  have hcn := hx.cn
  clear r2 r3
  go_enter Tryz.func45, Tryz.ntmps45
  go_wp2_with (go_at_call 140; refine (all_any (by omega) (hv0.out.ext (Ext.alloc (Ext.alloc (Ext.refl _) _) _))).mono ?_; rintro e w1 ⟨u, rfl, he0, hu⟩)
  obtain ⟨he, hk1, hk2⟩ := he0.newB2
  have hs := hu.slR
  have hll : (stretches x.cn).length ≤ 64 := Nat.le_trans (stretches_length _) (Nat.mul_le_mul hcn.2 hcn.2)
  have HM : Hid (∀ k, k < (stretches x.cn).length → (nth (stretches x.cn) k).1 < (nth (stretches x.cn) k).2 ∧ (nth (stretches x.cn) k).2 < x.cn) := fun k hk => mem_stretches.1 (by simp [nth, hk])
  have HG : Hid (R.clashes x = (stretches x.cn).find? (R.clashB x)) := hid rfl
  clear hu he0
  obtain ⟨A, cap, rfl, hr⟩ := hs
  rw [rows2_length] at *
  generalize stretches x.cn = l at *
  have r1 := r1.ext he
  go_loopw [5, 6] (fun i _ wr => ∃ k : Nat, k ≤ l.length ∧ i = .int .i64 (k : Int) ∧ Hid (∀ j, j < k → R.clashB x (nth l j) = false) ∧ Ext w1 wr) (fun i _ _ => l.length - (intOf i).toNat)
  case atStart => exact ⟨0, Nat.zero_le _, rfl, fun _ h => absurd h (by omega), Ext.refl _⟩
  case round =>
    obtain ⟨k, hk, rfl, hf, he1⟩ := hrel
    have k1 := (hk1.ext he1).cell
    have k2 := (hk2.ext he1).cell
    have f2 := (hk2.ext he1).frozen
    by_cases hlt : k < l.length
    · obtain ⟨b, o, rfl, hb, c1, c2⟩ := (hr.ext he1).atP hlt
      obtain ⟨m1, m2⟩ := HM.out k hlt
      obtain ⟨cb, co, rfl, hcb, _, _, d1⟩ := (r1.ext he1).at3 (Nat.lt_trans m1 m2)
      obtain ⟨_, _, hq, _, _, d2, _⟩ := (r1.ext he1).at3 m2
      obtain ⟨rfl, rfl⟩ := same_addr hq rfl
      have hbd := R.booked_bound hx (nth l k).1 (nth l k).2
      have hlo := hx.lo _ m2
      have hhi := hx.hi _ (Nat.lt_trans m1 m2)
      clear hr hq r1
      go_upto_region 6 with fail
      refine wp_later fun w2 he3 => ?_
      obtain ⟨he3, hk3⟩ := he3.newB
      have k3 := hk3.cell
      have k1 := ((hk1.ext he1).ext he3).cell
      have d1 := he3.some_ d1
      have d2 := he3.some_ d2
      have f2 := ((hk2.ext he1).ext he3).frozen
      have k2 := ((hk2.ext he1).ext he3).cell
      by_cases q1 : x.c (nth l k).1 2 + R.booked x (nth l k).1 (nth l k).2 < x.c (nth l k).2 1
      · have e1 : decide (x.c (nth l k).1 2 + R.booked x (nth l k).1 (nth l k).2 < x.c (nth l k).2 1) = true := by simpa using q1
        refine wp_region_later (by kernel_rfl) (by kernel_rfl) ?_
        repeat (go_big_quiet_step ((go_at_call 56; exact Calls.later (booked_any hx ((hv0.out.ext (he.trans (he1.trans he3))).ext (Later.ext _)) _ _ (Nat.lt_trans m1 m2) m2))))
        refine wpQuiet_nil ?_
        rintro _ ⟨⟨w4, he4⟩, rfl⟩
        have f2 := (((hk2.ext he1).ext he3).ext he4).frozen
        have k2 := (((hk2.ext he1).ext he3).ext he4).cell
        have k3 := (hk3.ext he4).cell
        go_wp2
        have hcl : R.clashes x = some (nth l k) := by rw [HG.out]; exact find_first hlt hf.out (by simp [R.clashB, q1])
        exact bodyPost_ret (v := .tuple #[.agg #[.int .i64 ((nth l k).1 : Int), .int .i64 ((nth l k).2 : Int)], .bool true]) (by simp [results, Tryz.results45, go_sem, k2]) rfl ⟨by rw [hcl]; rfl, ((he.trans (he1.trans (he3.trans he4))).setCell _ (by simp)).setCell _ (by simp)⟩
      · have e1 : decide (x.c (nth l k).1 2 + R.booked x (nth l k).1 (nth l k).2 < x.c (nth l k).2 1) = false := by simpa using q1
        by_cases q2 : 0 < R.gap x (nth l k).1 (nth l k).2
        · have e2 : decide (0 < R.gap x (nth l k).1 (nth l k).2) = true := by simpa using q2
          refine wp_region_tail 29 (by kernel_rfl) (by kernel_rfl) ?_
          simp only [List.take_succ_cons, List.take_zero, List.drop_succ_cons, List.drop_zero]
          repeat (go_big_quiet_step ((first | (go_at_call 56; exact Calls.later (booked_any hx ((hv0.out.ext (he.trans (he1.trans he3))).ext (Later.ext _)) _ _ (Nat.lt_trans m1 m2) m2)) | (go_at_call 57; exact Calls.later (gap_any hx ((hv0.out.ext (he.trans (he1.trans he3))).ext (Later.ext _)) _ _ (Nat.lt_trans m1 m2) m2)))))
          refine wpQuiet_nil ?_
          rintro _ ⟨⟨w4, he4⟩, rfl⟩
          have hl0 : Hid ((R.there x (nth l k).1 (nth l k).2).isEmpty = decide ((R.there x (nth l k).1 (nth l k).2).length = 0)) := hid (by cases R.there x (nth l k).1 (nth l k).2 <;> simp)
          by_cases q3 : (R.there x (nth l k).1 (nth l k).2).length = 0
          · have e3 : (((R.there x (nth l k).1 (nth l k).2).length : Int) == 0) = true := by simp [q3]
            have Q3 := hid q3
            clear q3
            go_wp2_with (go_at_call 58; refine (there_any hx (hv0.out.ext (he.trans (he1.trans (he3.trans he4)))) _ _ (Nat.le_of_lt m1) m2).mono ?_; rintro e w5 ⟨u, rfl, he5, hu⟩; obtain ⟨B, cb, rfl, _⟩ := hu.slR; rw [rows1_length]; have f2 := ((((hk2.ext he1).ext he3).ext he4).ext he5).frozen; have k2 := ((((hk2.ext he1).ext he3).ext he4).ext he5).cell; have k3 := ((hk3.ext he4).ext he5).cell)
            have hcl : R.clashes x = some (nth l k) := by rw [HG.out]; exact find_first hlt hf.out (by simp [R.clashB, q2, hl0.out, Q3.out])
            exact bodyPost_ret (v := .tuple #[.agg #[.int .i64 ((nth l k).1 : Int), .int .i64 ((nth l k).2 : Int)], .bool true]) (by simp [results, Tryz.results45, go_sem, k2]) rfl ⟨by rw [hcl]; rfl, ((he.trans (he1.trans (he3.trans (he4.trans he5)))).setCell _ (by simp)).setCell _ (by simp)⟩
          · have e3 : (((R.there x (nth l k).1 (nth l k).2).length : Int) == 0) = false := by simpa using q3
            go_wp2_with (go_at_call 58; refine (there_any hx (hv0.out.ext (he.trans (he1.trans (he3.trans he4)))) _ _ (Nat.le_of_lt m1) m2).mono ?_; rintro e w5 ⟨u, rfl, he5, hu⟩; obtain ⟨B, cb, rfl, _⟩ := hu.slR; rw [rows1_length]; have f2 := ((((hk2.ext he1).ext he3).ext he4).ext he5).frozen; have k2 := ((((hk2.ext he1).ext he3).ext he4).ext he5).cell; have k3 := ((hk3.ext he4).ext he5).cell)
            go_roundw
            case rel => exact ⟨k + 1, by omega, by go_num, anyTo_step (p := fun j => R.clashB x (nth l j)) hf.out (by simp [R.clashB, Int.not_lt.2 q1, hl0.out, q3]), he1.trans (he3.trans (he4.trans he5))⟩
            case measure => simp [intOf]; omega
        · have e2 : decide (0 < R.gap x (nth l k).1 (nth l k).2) = false := by simpa using q2
          refine wp_region_later (by kernel_rfl) (by kernel_rfl) ?_
          repeat (go_big_quiet_step ((first | (go_at_call 56; exact Calls.later (booked_any hx ((hv0.out.ext (he.trans (he1.trans he3))).ext (Later.ext _)) _ _ (Nat.lt_trans m1 m2) m2)) | (go_at_call 57; exact Calls.later (gap_any hx ((hv0.out.ext (he.trans (he1.trans he3))).ext (Later.ext _)) _ _ (Nat.lt_trans m1 m2) m2)))))
          refine wpQuiet_nil ?_
          rintro _ ⟨⟨w4, he4⟩, rfl⟩
          go_wp2
          go_roundw
          case rel => exact ⟨k + 1, by omega, by go_num, anyTo_step (p := fun j => R.clashB x (nth l j)) hf.out (by simp [R.clashB, q1, q2]), he1.trans (he3.trans he4)⟩
          case measure => simp [intOf]; omega
    · go_wp2_with fail
      obtain rfl : k = l.length := by omega
      have hn := find_none hf.out
      exact bodyPost_ret (v := .tuple #[.agg #[.int .i64 0, .int .i64 0], .bool false]) (by simp [results, Tryz.results45, go_sem, k2]) rfl ⟨by rw [HG.out, hn]; rfl, ((he.trans he1).setCell _ (by simp)).setCell _ (by simp)⟩
end Go.Proofs.YtkhjmedfhobebaaGreat
