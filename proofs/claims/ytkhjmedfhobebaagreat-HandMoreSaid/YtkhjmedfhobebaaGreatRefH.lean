/- The walk of the reference's check of a watch: it computes what the program's does. -/
import Derived.Test.YtkhjmedfhobebaaGreatChkC
namespace HandSpec
namespace R
def ord (x : WD) (k : Nat) : Bool := decide (x.c k 2 < x.c k 1) || (decide (0 < k) && decide (x.c k 0 ≤ x.c (k - 1) 0))
theorem ord_any (x : WD) : anyTo (ord x) x.cn = (anyTo (fun k => decide (x.c (k+1) 0 < x.c k 0)) (x.cn - 1) || anyTo (fun k => x.c (k+1) 0 == x.c k 0) (x.cn - 1) || anyTo (fun k => !P.lhOk x k) x.cn) := by
 rw [Bool.eq_iff_iff]
 simp only [Bool.or_eq_true, anyTo_true]
 constructor
 ·rintro ⟨k, hk, h⟩
  simp only [ord, Bool.or_eq_true, Bool.and_eq_true, decide_eq_true_eq] at h
  rcases h with h | ⟨h0, h⟩
  ·exact .inr ⟨k, hk, by simp [P.lhOk]; omega⟩
  ·obtain ⟨q, rfl⟩ : ∃ q, k = q + 1 := ⟨k - 1, by omega⟩
   simp only [Nat.add_sub_cancel] at h
   rcases Int.lt_or_eq_of_le h with h | h
   ·exact .inl (.inl ⟨q, by omega, by simpa using h⟩)
   ·exact .inl (.inr ⟨q, by omega, by simpa using h⟩)
 ·rintro ((⟨k, hk, h⟩ | ⟨k, hk, h⟩) | ⟨k, hk, h⟩)
  ·simp at h
   exact ⟨k + 1, by omega, by simp [ord]; omega⟩
  ·simp at h
   exact ⟨k + 1, by omega, by simp [ord]; omega⟩
  ·simp [P.lhOk] at h
   exact ⟨k, hk, by simp [ord, h]⟩
end R
theorem P.chk_eq (x : WD) : P.chk x = if P.mny x then 2 else if P.rng x then 3 else if anyTo (fun k => !P.cOk x k) x.cn then 3 else if anyTo (fun k => !P.bOk x k) x.bn then 3 else if anyTo (fun k => !P.sOk x k) x.sn then 3
  else if anyTo (fun k => !P.hOk x k) x.sn then 1 else if (anyTo (fun k => decide (x.c (k+1) 0 < x.c k 0)) (x.cn - 1) || anyTo (fun k => x.c (k+1) 0 == x.c k 0) (x.cn - 1) || anyTo (fun k => !P.lhOk x k) x.cn || anyTo (fun k => !P.ftOk x k) x.sn) then 4 else 0 := by
 unfold P.chk
 generalize anyTo (fun k => decide (x.c (k+1) 0 < x.c k 0)) (x.cn - 1) = a
 generalize anyTo (fun k => x.c (k+1) 0 == x.c k 0) (x.cn - 1) = b
 cases a <;> cases b <;> simp
theorem offB_eq (n lo hi : Int) : offB n lo hi = !inB n lo hi := by
 simp only [offB, inB, ← decide_not, decide_eq_decide]; omega
end HandSpec
namespace Go.Proofs.YtkhjmedfhobebaaGreat
open Go.RowKit HandSpec
set_option maxHeartbeats 1600000
set_option maxRecDepth 100000
theorem refcheck_any {w : World} {v : Value} {x : WD} (hv : IsW w v x) (h1 : x.cn ≤ 1000) (h2 : x.bn ≤ 1000) (h3 : x.sn ≤ 1000) :
  Calls Tryz.prog 21 #[v] w (fun e w' => e = .returned (.int .i64 (P.chk x)) ∧ Ext w w') := by
 obtain ⟨A1, c1, A2, c2, A3, c3, rfl, r1, r2, r3⟩ := hv
 have R1 := hid r1
 have R2 := hid r2
 have R3 := hid r3
 clear r1 r2 r3
 cases hm : P.mny x
 ·have HM := hid hm
  simp only [P.mny, Bool.or_eq_false_iff, Bool.not_eq_false', decide_eq_false_iff_not] at hm
  obtain ⟨⟨⟨m1, m2⟩, m3⟩, m4⟩ := hm
  have M1 := hid m1
  have M2 := hid m2
  have m3 : (x.bn : Int) ≤ 10 := by omega
  have m4 : (x.sn : Int) ≤ 12 := by omega
  clear m1 m2
  cases hr : P.rng x
  ·have HR := hid hr
   simp only [P.rng, Bool.or_eq_false_iff, Bool.not_eq_false'] at hr
   have M3 := hid hr.1
   have M4 := hid hr.2
   clear hr
   go_enter Tryz.func21, Tryz.ntmps21
   go_upto_region 5 with (go_at_call 117; refine (off_any _ _ _ _).mono ?_; rintro e w' ⟨rfl, rfl⟩; rw [offB_eq]; first | rw [M1.out] | rw [M2.out] | rw [M3.out] | rw [M4.out])
   refine wp_later fun w1 hw1 => ?_
   obtain ⟨E0, B1⟩ := hw1.newB
   clear hw1
   have HB := hid B1
   have hlw := B1.lt
   have k1 := B1.cell
   clear B1
   go_wp2
   go_loopw [4, 5] (fun o i wr => ∃ k : Nat, k ≤ x.cn ∧ i = .int .i64 k ∧ o = .bool (anyTo (R.ord x) k) ∧ Hid (∀ j, j < k → P.cOk x j = true) ∧ Ext w1 wr) (fun _ i _ => x.cn - (intOf i).toNat)
   case atStart => exact ⟨0, Nat.zero_le _, rfl, rfl, fun _ h => absurd h (by omega), Ext.refl _⟩
   case round =>
    obtain ⟨k, hk, rfl, rfl, hp, he⟩ := hrel
    have k1 := (HB.out.ext he).cell
    have hl := he.size
    have hlx : w.heap.size < wr.heap.size := by omega
    by_cases hlt : k < x.cn
    ·obtain ⟨b, o, rfl, hb, a0, a1, a2⟩ := ((R1.out.ext E0).ext he).at3 hlt
     cases p1 : inB (x.c k 0) 0 x.hours
     ·have P1 := hid p1
      clear p1
      go_wp2_with (go_at_call 117; refine (off_any _ _ _ _).mono ?_; rintro e w' ⟨rfl, rfl⟩; rw [offB_eq]; first | rw [P1.out])
      go_ret
      refine ⟨ret_int ?_, E0.trans (he.alloc _)⟩
      have hb : anyTo (fun k => !P.cOk x k) x.cn = true := anyTo_true.2 ⟨k, hlt, by simp [P.cOk, P1.out]⟩
      simp [P.chk, HM.out, HR.out, hb]
     ·have P1 := hid p1
      clear p1
      cases p2 : inB (x.c k 1) 0 500
      ·have P2 := hid p2
       clear p2
       go_wp2_with (go_at_call 117; refine (off_any _ _ _ _).mono ?_; rintro e w' ⟨rfl, rfl⟩; rw [offB_eq]; first | rw [P1.out] | rw [P2.out])
       go_ret
       refine ⟨ret_int ?_, E0.trans (he.alloc _)⟩
       have hb : anyTo (fun k => !P.cOk x k) x.cn = true := anyTo_true.2 ⟨k, hlt, by simp [P.cOk, P1.out, P2.out]⟩
       simp [P.chk, HM.out, HR.out, hb]
      ·have P2 := hid p2
       clear p2
       cases p3 : inB (x.c k 2) 0 500
       ·have P3 := hid p3
        clear p3
        go_wp2_with (go_at_call 117; refine (off_any _ _ _ _).mono ?_; rintro e w' ⟨rfl, rfl⟩; rw [offB_eq]; first | rw [P1.out] | rw [P2.out] | rw [P3.out])
        go_ret
        refine ⟨ret_int ?_, E0.trans (he.alloc _)⟩
        have hb : anyTo (fun k => !P.cOk x k) x.cn = true := anyTo_true.2 ⟨k, hlt, by simp [P.cOk, P1.out, P2.out, P3.out]⟩
        simp [P.chk, HM.out, HR.out, hb]
       ·have P3 := hid p3
        clear p3
        have HC : Hid (P.cOk x k = true) := hid (by simp [P.cOk, P1.out, P2.out, P3.out])
        have s0 := hid (fun (w' : World) (e : Ext wr w') => e.some_ a0)
        go_upto_region 12 with (go_at_call 117; refine (off_any _ _ _ _).mono ?_; rintro e w' ⟨rfl, rfl⟩; rw [offB_eq]; first | rw [P1.out] | rw [P2.out] | rw [P3.out])
        refine wp_later fun w2 hw2 => ?_
        obtain ⟨he2, hk2⟩ := hw2.newB
        have k1 := (HB.out.ext (he.trans he2)).cell
        have k2 := hk2.cell
        have hl2 := hk2.lt
        clear hw2 a0 a1 a2
        cases o1 : anyTo (R.ord x) k
        ·by_cases o2 : x.c k 2 < x.c k 1
         ·have q2 : decide (x.c k 1 > x.c k 2) = true := by simpa using o2
          have HO : Hid (anyTo (R.ord x) (k + 1) = true) := hid (by simp [anyTo, R.ord, o2])
          have O1 := hid o1
          clear o1
          refine wp_region_later (by kernel_rfl) (by kernel_rfl) ?_
          repeat (go_big_quiet_step (fail))
          refine wpQuiet_nil ?_
          rintro _ ⟨⟨w3, he3⟩, rfl⟩
          go_wp2
          go_roundw
          case rel => exact ⟨k + 1, by omega, by go_num, by rw [show anyTo (R.ord x) (k + 1) = true from HO.out], hid fun j hj => by (rcases Nat.lt_or_eq_of_le (Nat.le_of_lt_succ hj) with h | h; exact hp.out j h; subst h; exact HC.out), (he.trans he2).trans he3⟩
          case measure => simp [intOf]; omega
         ·have q2 : decide (x.c k 1 > x.c k 2) = false := by simpa using o2
          rcases Nat.eq_zero_or_pos k with hz | hz
          ·subst hz
           have HO : Hid (anyTo (R.ord x) (0 + 1) = false) := hid (by simp [anyTo, R.ord, o2])
           have O1 := hid o1
           clear o1
           refine wp_region_later (by kernel_rfl) (by kernel_rfl) ?_
           repeat (go_big_quiet_step (fail))
           refine wpQuiet_nil ?_
           rintro _ ⟨⟨w3, he3⟩, rfl⟩
           go_wp2
           go_roundw
           case rel => exact ⟨0 + 1, by omega, by go_num, by rw [show anyTo (R.ord x) (0 + 1) = false from HO.out], hid fun j hj => by (rcases Nat.lt_or_eq_of_le (Nat.le_of_lt_succ hj) with h | h; exact hp.out j h; subst h; exact HC.out), (he.trans he2).trans he3⟩
           case measure => simp [intOf]; omega
          ·obtain ⟨q, rfl⟩ : ∃ q, k = q + 1 := ⟨k - 1, by omega⟩
           obtain ⟨_, _, hq, _, b0, b1, b2⟩ := (((R1.out.ext E0).ext he).ext he2).at3 (k := q) (by omega)
           obtain ⟨rfl, rfl⟩ := same_addr hq rfl
           have q3 : decide (((q + 1 : Nat) : Int) > 0) = true := by simp
           have O1 := hid o1
           clear o1
           by_cases o4 : x.c (q+1) 0 ≤ x.c q 0
           ·have q4 : decide (x.c (q+1) 0 ≤ x.c q 0) = true := by simpa using o4
            have HO : Hid (anyTo (R.ord x) (q + 1 + 1) = true) := hid (by simp only [anyTo, R.ord]; simp [o4])
            refine wp_region_later (by kernel_rfl) (by kernel_rfl) ?_
            repeat (go_big_quiet_step (fail))
            refine wpQuiet_nil ?_
            rintro _ ⟨⟨w3, he3⟩, rfl⟩
            go_wp2
            go_roundw
            case rel => exact ⟨q + 1 + 1, by omega, by go_num, by rw [show anyTo (R.ord x) (q + 1 + 1) = true from HO.out], hid fun j hj => by (rcases Nat.lt_or_eq_of_le (Nat.le_of_lt_succ hj) with h | h; exact hp.out j h; subst h; exact HC.out), (he.trans he2).trans he3⟩
            case measure => simp [intOf]; omega
           ·have q4 : decide (x.c (q+1) 0 ≤ x.c q 0) = false := by simpa using o4
            have HO : Hid (anyTo (R.ord x) (q + 1 + 1) = false) := hid (by rw [anyTo, O1.out]; simp [R.ord, o4, o2])
            refine wp_region_later (by kernel_rfl) (by kernel_rfl) ?_
            repeat (go_big_quiet_step (fail))
            refine wpQuiet_nil ?_
            rintro _ ⟨⟨w3, he3⟩, rfl⟩
            go_wp2
            go_roundw
            case rel => exact ⟨q + 1 + 1, by omega, by go_num, by rw [show anyTo (R.ord x) (q + 1 + 1) = false from HO.out], hid fun j hj => by (rcases Nat.lt_or_eq_of_le (Nat.le_of_lt_succ hj) with h | h; exact hp.out j h; subst h; exact HC.out), (he.trans he2).trans he3⟩
            case measure => simp [intOf]; omega
        ·have HO : Hid (anyTo (R.ord x) (k + 1) = true) := hid (by simp [anyTo, o1])
         have O1 := hid o1
         clear o1
         refine wp_region_later (by kernel_rfl) (by kernel_rfl) ?_
         repeat (go_big_quiet_step (fail))
         refine wpQuiet_nil ?_
         rintro _ ⟨⟨w3, he3⟩, rfl⟩
         go_wp2
         go_roundw
         case rel => exact ⟨k + 1, by omega, by go_num, by rw [show anyTo (R.ord x) (k + 1) = true from HO.out], hid fun j hj => by (rcases Nat.lt_or_eq_of_le (Nat.le_of_lt_succ hj) with h | h; exact hp.out j h; subst h; exact HC.out), (he.trans he2).trans he3⟩
         case measure => simp [intOf]; omega
    ·go_wp2
     obtain rfl : k = x.cn := by omega
     have HCC : Hid (anyTo (fun k => !P.cOk x k) x.cn = false) := hid (anyTo_false.2 fun j hj => by rw [hp.out j hj]; rfl)
     clear hp
     have E1 := he
     clear he
     go_loopw [7] (fun i wr => ∃ k : Nat, k ≤ x.bn ∧ i = .int .i64 k ∧ Hid (∀ j, j < k → P.bOk x j = true) ∧ Ext w1 wr) (fun i _ => x.bn - (intOf i).toNat)
     case atStart => exact ⟨0, Nat.zero_le _, rfl, fun _ h => absurd h (by omega), E1⟩
     case round =>
      clear k1 E1 hl hlx
      obtain ⟨k, hk, rfl, hp, he⟩ := hrel
      have k1 := (HB.out.ext he).cell
      have hl := he.size
      have hlx : w.heap.size < wr.heap.size := by omega
      by_cases hlt : k < x.bn
      ·obtain ⟨b, o, rfl, hb, a0, a1⟩ := ((R2.out.ext E0).ext he).at2 hlt
       cases p1 : inB (x.b k 0) 0 x.hours
       ·have P1 := hid p1
        clear p1
        go_wp2_with (go_at_call 117; refine (off_any _ _ _ _).mono ?_; rintro e w' ⟨rfl, rfl⟩; rw [offB_eq]; first | rw [P1.out])
        go_ret
        refine ⟨ret_int ?_, E0.trans (he.alloc _)⟩
        have hb : anyTo (fun k => !P.bOk x k) x.bn = true := anyTo_true.2 ⟨k, hlt, by simp [P.bOk, P1.out]⟩
        simp [P.chk, HM.out, HR.out, HCC.out, hb]
       ·have P1 := hid p1
        clear p1
        cases p2 : inB (x.b k 1) (-200) 200
        ·have P2 := hid p2
         clear p2
         go_wp2_with (go_at_call 117; refine (off_any _ _ _ _).mono ?_; rintro e w' ⟨rfl, rfl⟩; rw [offB_eq]; first | rw [P1.out] | rw [P2.out])
         go_ret
         refine ⟨ret_int ?_, E0.trans (he.alloc _)⟩
         have hb : anyTo (fun k => !P.bOk x k) x.bn = true := anyTo_true.2 ⟨k, hlt, by simp [P.bOk, P1.out, P2.out]⟩
         simp [P.chk, HM.out, HR.out, HCC.out, hb]
        ·have P2 := hid p2
         clear p2
         by_cases p3 : x.b k 1 = 0
         ·have q3 : (x.b k 1 == 0) = true := by simp [p3]
          have HP3 := hid p3
          clear p3
          go_wp2_with (go_at_call 117; refine (off_any _ _ _ _).mono ?_; rintro e w' ⟨rfl, rfl⟩; rw [offB_eq]; first | rw [P1.out] | rw [P2.out])
          go_ret
          refine ⟨ret_int ?_, E0.trans (he.alloc _)⟩
          have hb : anyTo (fun k => !P.bOk x k) x.bn = true := anyTo_true.2 ⟨k, hlt, by simp [P.bOk, P1.out, HP3.out]⟩
          simp [P.chk, HM.out, HR.out, HCC.out, hb]
         ·have q3 : (x.b k 1 == 0) = false := by simp [p3]
          have HC : Hid (P.bOk x k = true) := hid (by simp [P.bOk, P1.out, P2.out, p3])
          go_wp2_with (go_at_call 117; refine (off_any _ _ _ _).mono ?_; rintro e w' ⟨rfl, rfl⟩; rw [offB_eq]; first | rw [P1.out] | rw [P2.out])
          go_roundw
          case rel => exact ⟨k + 1, by omega, by go_num, hid fun j hj => by (rcases Nat.lt_or_eq_of_le (Nat.le_of_lt_succ hj) with h | h; exact hp.out j h; subst h; exact HC.out), he.alloc _⟩
          case measure => simp [intOf]; omega
      ·go_wp2
       obtain rfl : k = x.bn := by omega
       have HBB : Hid (anyTo (fun k => !P.bOk x k) x.bn = false) := hid (anyTo_false.2 fun j hj => by rw [hp.out j hj]; rfl)
       clear hp
       have E1 := he
       clear he
       go_loopw [3, 4, 9] (fun h o i wr => ∃ k : Nat, k ≤ x.sn ∧ i = .int .i64 k ∧ h = .bool (anyTo (fun j => !P.hOk x j) k) ∧ o = .bool (anyTo (R.ord x) x.cn || anyTo (fun j => !P.ftOk x j) k) ∧ Hid (∀ j, j < k → P.sOk x j = true) ∧ Ext w1 wr) (fun _ _ i _ => x.sn - (intOf i).toNat)
       case atStart => exact ⟨0, Nat.zero_le _, rfl, rfl, by simp [anyTo], fun _ h => absurd h (by omega), E1⟩
       case round =>
        clear k1 E1 hl hlx
        obtain ⟨k, hk, rfl, rfl, rfl, hp, he⟩ := hrel
        have k1 := (HB.out.ext he).cell
        have hl := he.size
        have hlx : w.heap.size < wr.heap.size := by omega
        by_cases hlt : k < x.sn
        ·obtain ⟨b, o, rfl, hb, a0, a1, a2⟩ := ((R3.out.ext E0).ext he).at3 hlt
         cases p1 : inB (x.s k 1) 0 x.hours
         ·have P1 := hid p1
          clear p1
          go_wp2_with (go_at_call 117; refine (off_any _ _ _ _).mono ?_; rintro e w' ⟨rfl, rfl⟩; rw [offB_eq]; first | rw [P1.out])
          go_ret
          refine ⟨ret_int ?_, E0.trans (he.alloc _)⟩
          have hb : anyTo (fun k => !P.sOk x k) x.sn = true := anyTo_true.2 ⟨k, hlt, by simp [P.sOk, P1.out]⟩
          simp [P.chk, HM.out, HR.out, HCC.out, HBB.out, hb]
         ·have P1 := hid p1
          clear p1
          cases p2 : inB (x.s k 2) 0 x.hours
          ·have P2 := hid p2
           clear p2
           go_wp2_with (go_at_call 117; refine (off_any _ _ _ _).mono ?_; rintro e w' ⟨rfl, rfl⟩; rw [offB_eq]; first | rw [P1.out] | rw [P2.out])
           go_ret
           refine ⟨ret_int ?_, E0.trans (he.alloc _)⟩
           have hb : anyTo (fun k => !P.sOk x k) x.sn = true := anyTo_true.2 ⟨k, hlt, by simp [P.sOk, P1.out, P2.out]⟩
           simp [P.chk, HM.out, HR.out, HCC.out, HBB.out, hb]
          ·have P2 := hid p2
           clear p2
           have HC : Hid (P.sOk x k = true) := hid (by simp [P.sOk, P1.out, P2.out])
           have mh : 1 ≤ x.hands ∧ x.hands ≤ 6 := by have := M1.out; simpa [inB] using this
           have w64 : wrap64 (x.hands - 1) = x.hands - 1 := by unfold wrap64; omega
           have W64 := hid w64
           clear w64
           cases p3 : inB (x.s k 0) 0 (x.hands - 1) <;> cases h0 : anyTo (fun j => !P.hOk x j) k <;> by_cases p4 : x.s k 1 < x.s k 2 <;> cases o0 : (anyTo (R.ord x) x.cn || anyTo (fun j => !P.ftOk x j) k)
           all_goals
            have P3 := hid p3
            have P4 := hid p4
            have H0 := hid h0
            have O0 := hid o0
            have q4 : decide (x.s k 1 ≥ x.s k 2) = !decide (x.s k 1 < x.s k 2) := by rw [← decide_not, decide_eq_decide]; omega
            simp only [p4, decide_true, decide_false, Bool.not_true, Bool.not_false] at q4
            clear p3 p4 h0 o0
            go_wp2_with (go_at_call 117; refine (off_any _ _ _ _).mono ?_; rintro e w' ⟨rfl, rfl⟩; rw [offB_eq]; first | rw [P1.out] | rw [P2.out] | rw [P3.out])
            go_roundw
            case rel => exact ⟨k + 1, by omega, by go_num, by (congr 1; have hk' : P.hOk x k = inB (x.s k 0) 0 (x.hands - 1) := (by unfold P.hOk; rw [W64.out]); simp only [anyTo, H0.out, hk', P3.out]; rfl), by (congr 1; have := O0.out; simp [anyTo, P.ftOk, P4.out] at this ⊢ <;> simp [this]), hid fun j hj => by (rcases Nat.lt_or_eq_of_le (Nat.le_of_lt_succ hj) with h | h; exact hp.out j h; subst h; exact HC.out), he.alloc _⟩
            case measure => simp [intOf]; omega
        ·obtain rfl : k = x.sn := by omega
         have HSS : Hid (anyTo (fun k => !P.sOk x k) x.sn = false) := hid (anyTo_false.2 fun j hj => by rw [hp.out j hj]; rfl)
         have HO : Hid ((anyTo (R.ord x) x.cn || anyTo (fun j => !P.ftOk x j) x.sn) = (anyTo (fun k => decide (x.c (k+1) 0 < x.c k 0)) (x.cn - 1) || anyTo (fun k => x.c (k+1) 0 == x.c k 0) (x.cn - 1) || anyTo (fun k => !P.lhOk x k) x.cn || anyTo (fun k => !P.ftOk x k) x.sn)) := hid (by rw [R.ord_any])
         clear hp
         cases h0 : anyTo (fun j => !P.hOk x j) x.sn <;> cases o0 : (anyTo (R.ord x) x.cn || anyTo (fun j => !P.ftOk x j) x.sn)
         all_goals
          have H0 := hid h0
          have O0 := hid (HO.out.symm.trans o0)
          clear HO
          go_wp2
          go_ret
          refine ⟨ret_int ?_, E0.trans he⟩
          have o1 := O0.out
          rw [P.chk_eq, HM.out, HR.out, HCC.out, HBB.out, HSS.out, H0.out, o1]; rfl
  ·have HR := hid hr
   simp only [P.rng, Bool.or_eq_true, Bool.not_eq_true'] at hr
   cases p1 : inB x.hours 1 60
   all_goals cases p2 : inB x.allow 0 20
   all_goals
    have P1 := hid p1
    have P2 := hid p2
    first
     | (exfalso; rw [p1, p2] at hr; simp at hr; done)
     | (clear hr p1 p2
        go_enter Tryz.func21, Tryz.ntmps21
        go_wp2_with (go_at_call 117; refine (off_any _ _ _ _).mono ?_; rintro e w' ⟨rfl, rfl⟩; rw [offB_eq]; first | rw [M1.out] | rw [M2.out] | rw [P1.out] | rw [P2.out])
        go_ret
        exact ⟨ret_int (by simp [P.chk, HM.out, HR.out]), (Ext.refl _).alloc _⟩)
 ·have HM := hid hm
  simp only [P.mny, Bool.or_eq_true, Bool.not_eq_true', decide_eq_true_eq] at hm
  have q1 : P.chk x = 2 := by simp [P.chk, HM.out]
  rw [q1]
  clear q1 HM
  cases p1 : inB x.hands 1 6
  ·have P1 := hid p1
   clear p1 hm
   go_enter Tryz.func21, Tryz.ntmps21
   go_wp2_with (go_at_call 117; refine (off_any _ _ _ _).mono ?_; rintro e w' ⟨rfl, rfl⟩; rw [offB_eq]; rw [P1.out])
   go_ret
   exact ⟨rfl, (Ext.refl _).alloc _⟩
  ·have P1 := hid p1
   cases p2 : inB (x.cn : Int) 1 8
   ·have P2 := hid p2
    clear p1 p2 hm
    go_enter Tryz.func21, Tryz.ntmps21
    go_wp2_with (go_at_call 117; refine (off_any _ _ _ _).mono ?_; rintro e w' ⟨rfl, rfl⟩; rw [offB_eq]; first | rw [P1.out] | rw [P2.out])
    go_ret
    exact ⟨rfl, (Ext.refl _).alloc _⟩
   ·have P2 := hid p2
    rw [p1, p2] at hm
    clear p1 p2
    by_cases p3 : (10 : Int) < x.bn
    ·clear hm
     go_enter Tryz.func21, Tryz.ntmps21
     go_wp2_with (go_at_call 117; refine (off_any _ _ _ _).mono ?_; rintro e w' ⟨rfl, rfl⟩; rw [offB_eq]; first | rw [P1.out] | rw [P2.out])
     go_ret
     exact ⟨rfl, (Ext.refl _).alloc _⟩
    ·have p4 : (12 : Int) < x.sn := by simp at hm; omega
     have p3 : (x.bn : Int) ≤ 10 := by omega
     clear hm
     go_enter Tryz.func21, Tryz.ntmps21
     go_wp2_with (go_at_call 117; refine (off_any _ _ _ _).mono ?_; rintro e w' ⟨rfl, rfl⟩; rw [offB_eq]; first | rw [P1.out] | rw [P2.out])
     go_ret
     exact ⟨rfl, (Ext.refl _).alloc _⟩
end Go.Proofs.YtkhjmedfhobebaaGreat
