/- Walks of instances of library functions that compare lists. No condition. -/
import Derived.Test.YtbceepjjdfpfmaaGreatGenB
namespace Go.Proofs.YtbceepjjdfpfmaaGreat
open Go.RowKit HandSpec
set_option maxHeartbeats 400000
set_option maxRecDepth 100000

theorem equal138 {w : World} {A A' : Option Addr} {n cap n' cap' : Nat} {g h : Nat → Nat → Int} (hr : Rd w A n 2 g) (hr' : Rd w A' n' 2 h) (hn : n ≤ 1000) (hn' : n' ≤ 1000) :
  Calls Tryz.prog 138 #[.slice A n cap, .slice A' n' cap'] w fun e w' => e = .returned (.bool (eqB 2 n n' g h)) ∧ Ext w w' := by
 by_cases hl : n = n'
 ·subst hl
  go_enter Tryz.func138, Tryz.ntmps138
  go_wp2
  go_loopw [4, 5, 13] (fun r _ i wr => ∃ k : Nat, k ≤ n ∧ i = .int .i64 k ∧ r = .bool false ∧ Hid (∀ j, j < k → neB 2 g h j = false) ∧ Ext w wr) (fun _ _ i _ => n - (intOf i).toNat)
  case atStart => exact ⟨0, Nat.zero_le _, rfl, rfl, fun _ h => absurd h (by omega), Ext.refl _⟩
  case round =>
   obtain ⟨k, hk, rfl, rfl, hp, he⟩ := hrel
   by_cases hlt : k < n
   ·obtain ⟨b, o, rfl, hb, p0, p1⟩ := (hr.ext he).at2 hlt
    obtain ⟨b', o', rfl, hb', q0, q1⟩ := (hr'.ext he).at2 hlt
    have hu3 := Tryz.underlying3
    clear hr hr'
    by_cases e0 : g k 0 = h k 0
    ·have e0b : (g k 0 == h k 0) = true := by simp [e0]
     by_cases e1 : g k 1 = h k 1
     ·have e1b : (g k 1 == h k 1) = true := by simp [e1]
      have hne : neB 2 g h k = false := by simp [neB, anyTo, e0, e1]
      have HN := hid hne
      clear hne
      go_upto_region 6 with fail
      refine wp_region_later (by kernel_rfl) (by kernel_rfl) ?_
      repeat (go_big_quiet_step (fail))
      refine wpQuiet_nil ?_
      rintro _ ⟨⟨w3, he3⟩, rfl⟩
      go_wp2
      go_roundw
      case rel => exact ⟨k+1, by omega, by go_num, rfl, anyTo_step hp.out HN.out, he.trans he3⟩
      case measure => simp [intOf]; omega
     ·have e1b : (g k 1 == h k 1) = false := by simp [e1]
      have hne : neB 2 g h k = true := by simp [neB, anyTo, e1]
      have HN := hid hne
      clear hne
      go_upto_region 6 with fail
      refine wp_region_later (by kernel_rfl) (by kernel_rfl) ?_
      repeat (go_big_quiet_step (fail))
      refine wpQuiet_nil ?_
      rintro _ ⟨⟨w3, he3⟩, rfl⟩
      go_wp2
      go_ret
      refine ⟨ret_bool ?_, he.trans he3⟩
      simp only [eqB, decide_true, Bool.true_and]
      rw [anyTo_true.2 ⟨k, hlt, HN.out⟩]; rfl
    ·have e0b : (g k 0 == h k 0) = false := by simp [e0]
     have hne : neB 2 g h k = true := by simp [neB, anyTo, e0]
     have HN := hid hne
     clear hne
     go_upto_region 6 with fail
     refine wp_region_later (by kernel_rfl) (by kernel_rfl) ?_
     repeat (go_big_quiet_step (fail))
     refine wpQuiet_nil ?_
     rintro _ ⟨⟨w3, he3⟩, rfl⟩
     go_wp2
     go_ret
     refine ⟨ret_bool ?_, he.trans he3⟩
     simp only [eqB, decide_true, Bool.true_and]
     rw [anyTo_true.2 ⟨k, hlt, HN.out⟩]; rfl

   ·go_wp2_with fail
    go_ret
    obtain rfl : k = n := by omega
    refine ⟨ret_bool ?_, he⟩
    simp only [eqB, decide_true, Bool.true_and]
    rw [anyTo_false.2 hp.out]; rfl
 ·have e0 : ((n : Int) != (n' : Int)) = true := by rw [bne_iff_ne]; omega
  have e1 : (n != n') = true := by rw [bne_iff_ne]; exact hl
  go_enter Tryz.func138, Tryz.ntmps138
  go_wp2
  go_ret
  exact ⟨ret_bool (by simp [eqB, hl]), Ext.refl _⟩

theorem equal104 {w : World} {A A' : Option Addr} {n cap n' cap' : Nat} {g h : Nat → Nat → Int} (hr : Rd w A n 1 g) (hr' : Rd w A' n' 1 h) (hn : n ≤ 1000) (hn' : n' ≤ 1000) :
  Calls Tryz.prog 104 #[.slice A n cap, .slice A' n' cap'] w fun e w' => e = .returned (.bool (eqB 1 n n' g h)) ∧ Ext w w' := by
 by_cases hl : n = n'
 ·subst hl
  go_enter Tryz.func104, Tryz.ntmps104
  go_wp2
  go_loopw [4, 5, 13] (fun r _ i wr => ∃ k : Nat, k ≤ n ∧ i = .int .i64 k ∧ r = .bool false ∧ Hid (∀ j, j < k → neB 1 g h j = false) ∧ Ext w wr) (fun _ _ i _ => n - (intOf i).toNat)
  case atStart => exact ⟨0, Nat.zero_le _, rfl, rfl, fun _ h => absurd h (by omega), Ext.refl _⟩
  case round =>
   obtain ⟨k, hk, rfl, rfl, hp, he⟩ := hrel
   by_cases hlt : k < n
   ·obtain ⟨b, o, rfl, hb, p0⟩ := (hr.ext he).at1 hlt
    obtain ⟨b', o', rfl, hb', q0⟩ := (hr'.ext he).at1 hlt
    have hu3 := Tryz.underlying3
    clear hr hr'
    by_cases e0 : g k 0 = h k 0
    ·have e0b : (g k 0 == h k 0) = true := by simp [e0]
     have hne : neB 1 g h k = false := by simp [neB, anyTo, e0]
     have HN := hid hne
     clear hne
     go_upto_region 6 with fail
     refine wp_region_later (by kernel_rfl) (by kernel_rfl) ?_
     repeat (go_big_quiet_step (fail))
     refine wpQuiet_nil ?_
     rintro _ ⟨⟨w3, he3⟩, rfl⟩
     go_wp2
     go_roundw
     case rel => exact ⟨k+1, by omega, by go_num, rfl, anyTo_step hp.out HN.out, he.trans he3⟩
     case measure => simp [intOf]; omega
    ·have e0b : (g k 0 == h k 0) = false := by simp [e0]
     have hne : neB 1 g h k = true := by simp [neB, anyTo, e0]
     have HN := hid hne
     clear hne
     go_upto_region 6 with fail
     refine wp_region_later (by kernel_rfl) (by kernel_rfl) ?_
     repeat (go_big_quiet_step (fail))
     refine wpQuiet_nil ?_
     rintro _ ⟨⟨w3, he3⟩, rfl⟩
     go_wp2
     go_ret
     refine ⟨ret_bool ?_, he.trans he3⟩
     simp only [eqB, decide_true, Bool.true_and]
     rw [anyTo_true.2 ⟨k, hlt, HN.out⟩]; rfl

   ·go_wp2_with fail
    go_ret
    obtain rfl : k = n := by omega
    refine ⟨ret_bool ?_, he⟩
    simp only [eqB, decide_true, Bool.true_and]
    rw [anyTo_false.2 hp.out]; rfl
 ·have e0 : ((n : Int) != (n' : Int)) = true := by rw [bne_iff_ne]; omega
  have e1 : (n != n') = true := by rw [bne_iff_ne]; exact hl
  go_enter Tryz.func104, Tryz.ntmps104
  go_wp2
  go_ret
  exact ⟨ret_bool (by simp [eqB, hl]), Ext.refl _⟩

theorem equal164 {w : World} {A A' : Option Addr} {n cap n' cap' : Nat} {g h : Nat → Nat → Int} (hr : Rd w A n 3 g) (hr' : Rd w A' n' 3 h) (hn : n ≤ 1000) (hn' : n' ≤ 1000) :
  Calls Tryz.prog 164 #[.slice A n cap, .slice A' n' cap'] w fun e w' => e = .returned (.bool (eqB 3 n n' g h)) ∧ Ext w w' := by
 by_cases hl : n = n'
 ·subst hl
  go_enter Tryz.func164, Tryz.ntmps164
  go_wp2
  go_loopw [4, 5, 13] (fun r _ i wr => ∃ k : Nat, k ≤ n ∧ i = .int .i64 k ∧ r = .bool false ∧ Hid (∀ j, j < k → neB 3 g h j = false) ∧ Ext w wr) (fun _ _ i _ => n - (intOf i).toNat)
  case atStart => exact ⟨0, Nat.zero_le _, rfl, rfl, fun _ h => absurd h (by omega), Ext.refl _⟩
  case round =>
   obtain ⟨k, hk, rfl, rfl, hp, he⟩ := hrel
   by_cases hlt : k < n
   ·obtain ⟨b, o, rfl, hb, p0, p1, p2⟩ := (hr.ext he).at3 hlt
    obtain ⟨b', o', rfl, hb', q0, q1, q2⟩ := (hr'.ext he).at3 hlt
    have hu3 := Tryz.underlying3
    clear hr hr'
    by_cases e0 : g k 0 = h k 0
    ·have e0b : (g k 0 == h k 0) = true := by simp [e0]
     by_cases e1 : g k 1 = h k 1
     ·have e1b : (g k 1 == h k 1) = true := by simp [e1]
      by_cases e2 : g k 2 = h k 2
      ·have e2b : (g k 2 == h k 2) = true := by simp [e2]
       have hne : neB 3 g h k = false := by simp [neB, anyTo, e0, e1, e2]
       have HN := hid hne
       clear hne
       go_upto_region 6 with fail
       refine wp_region_later (by kernel_rfl) (by kernel_rfl) ?_
       repeat (go_big_quiet_step (fail))
       refine wpQuiet_nil ?_
       rintro _ ⟨⟨w3, he3⟩, rfl⟩
       go_wp2
       go_roundw
       case rel => exact ⟨k+1, by omega, by go_num, rfl, anyTo_step hp.out HN.out, he.trans he3⟩
       case measure => simp [intOf]; omega
      ·have e2b : (g k 2 == h k 2) = false := by simp [e2]
       have hne : neB 3 g h k = true := by simp [neB, anyTo, e2]
       have HN := hid hne
       clear hne
       go_upto_region 6 with fail
       refine wp_region_later (by kernel_rfl) (by kernel_rfl) ?_
       repeat (go_big_quiet_step (fail))
       refine wpQuiet_nil ?_
       rintro _ ⟨⟨w3, he3⟩, rfl⟩
       go_wp2
       go_ret
       refine ⟨ret_bool ?_, he.trans he3⟩
       simp only [eqB, decide_true, Bool.true_and]
       rw [anyTo_true.2 ⟨k, hlt, HN.out⟩]; rfl
     ·have e1b : (g k 1 == h k 1) = false := by simp [e1]
      have hne : neB 3 g h k = true := by simp [neB, anyTo, e1]
      have HN := hid hne
      clear hne
      go_upto_region 6 with fail
      refine wp_region_later (by kernel_rfl) (by kernel_rfl) ?_
      repeat (go_big_quiet_step (fail))
      refine wpQuiet_nil ?_
      rintro _ ⟨⟨w3, he3⟩, rfl⟩
      go_wp2
      go_ret
      refine ⟨ret_bool ?_, he.trans he3⟩
      simp only [eqB, decide_true, Bool.true_and]
      rw [anyTo_true.2 ⟨k, hlt, HN.out⟩]; rfl
    ·have e0b : (g k 0 == h k 0) = false := by simp [e0]
     have hne : neB 3 g h k = true := by simp [neB, anyTo, e0]
     have HN := hid hne
     clear hne
     go_upto_region 6 with fail
     refine wp_region_later (by kernel_rfl) (by kernel_rfl) ?_
     repeat (go_big_quiet_step (fail))
     refine wpQuiet_nil ?_
     rintro _ ⟨⟨w3, he3⟩, rfl⟩
     go_wp2
     go_ret
     refine ⟨ret_bool ?_, he.trans he3⟩
     simp only [eqB, decide_true, Bool.true_and]
     rw [anyTo_true.2 ⟨k, hlt, HN.out⟩]; rfl

   ·go_wp2_with fail
    go_ret
    obtain rfl : k = n := by omega
    refine ⟨ret_bool ?_, he⟩
    simp only [eqB, decide_true, Bool.true_and]
    rw [anyTo_false.2 hp.out]; rfl
 ·have e0 : ((n : Int) != (n' : Int)) = true := by rw [bne_iff_ne]; omega
  have e1 : (n != n') = true := by rw [bne_iff_ne]; exact hl
  go_enter Tryz.func164, Tryz.ntmps164
  go_wp2
  go_ret
  exact ⟨ret_bool (by simp [eqB, hl]), Ext.refl _⟩

theorem equal163 {w : World} {A A' : Option Addr} {n cap n' cap' : Nat} {g h : Nat → Nat → Int} (hr : Rd w A n 3 g) (hr' : Rd w A' n' 3 h) (hn : n ≤ 1000) (hn' : n' ≤ 1000) :
  Calls Tryz.prog 163 #[.slice A n cap, .slice A' n' cap'] w fun e w' => e = .returned (.bool (eqB 3 n n' g h)) ∧ Ext w w' := by
 by_cases hl : n = n'
 ·subst hl
  go_enter Tryz.func163, Tryz.ntmps163
  go_wp2
  go_loopw [4, 5, 13] (fun r _ i wr => ∃ k : Nat, k ≤ n ∧ i = .int .i64 k ∧ r = .bool false ∧ Hid (∀ j, j < k → neB 3 g h j = false) ∧ Ext w wr) (fun _ _ i _ => n - (intOf i).toNat)
  case atStart => exact ⟨0, Nat.zero_le _, rfl, rfl, fun _ h => absurd h (by omega), Ext.refl _⟩
  case round =>
   obtain ⟨k, hk, rfl, rfl, hp, he⟩ := hrel
   by_cases hlt : k < n
   ·obtain ⟨b, o, rfl, hb, p0, p1, p2⟩ := (hr.ext he).at3 hlt
    obtain ⟨b', o', rfl, hb', q0, q1, q2⟩ := (hr'.ext he).at3 hlt
    have hu3 := Tryz.underlying3
    clear hr hr'
    by_cases e0 : g k 0 = h k 0
    ·have e0b : (g k 0 == h k 0) = true := by simp [e0]
     by_cases e1 : g k 1 = h k 1
     ·have e1b : (g k 1 == h k 1) = true := by simp [e1]
      by_cases e2 : g k 2 = h k 2
      ·have e2b : (g k 2 == h k 2) = true := by simp [e2]
       have hne : neB 3 g h k = false := by simp [neB, anyTo, e0, e1, e2]
       have HN := hid hne
       clear hne
       go_upto_region 6 with fail
       refine wp_region_later (by kernel_rfl) (by kernel_rfl) ?_
       repeat (go_big_quiet_step (fail))
       refine wpQuiet_nil ?_
       rintro _ ⟨⟨w3, he3⟩, rfl⟩
       go_wp2
       go_roundw
       case rel => exact ⟨k+1, by omega, by go_num, rfl, anyTo_step hp.out HN.out, he.trans he3⟩
       case measure => simp [intOf]; omega
      ·have e2b : (g k 2 == h k 2) = false := by simp [e2]
       have hne : neB 3 g h k = true := by simp [neB, anyTo, e2]
       have HN := hid hne
       clear hne
       go_upto_region 6 with fail
       refine wp_region_later (by kernel_rfl) (by kernel_rfl) ?_
       repeat (go_big_quiet_step (fail))
       refine wpQuiet_nil ?_
       rintro _ ⟨⟨w3, he3⟩, rfl⟩
       go_wp2
       go_ret
       refine ⟨ret_bool ?_, he.trans he3⟩
       simp only [eqB, decide_true, Bool.true_and]
       rw [anyTo_true.2 ⟨k, hlt, HN.out⟩]; rfl
     ·have e1b : (g k 1 == h k 1) = false := by simp [e1]
      have hne : neB 3 g h k = true := by simp [neB, anyTo, e1]
      have HN := hid hne
      clear hne
      go_upto_region 6 with fail
      refine wp_region_later (by kernel_rfl) (by kernel_rfl) ?_
      repeat (go_big_quiet_step (fail))
      refine wpQuiet_nil ?_
      rintro _ ⟨⟨w3, he3⟩, rfl⟩
      go_wp2
      go_ret
      refine ⟨ret_bool ?_, he.trans he3⟩
      simp only [eqB, decide_true, Bool.true_and]
      rw [anyTo_true.2 ⟨k, hlt, HN.out⟩]; rfl
    ·have e0b : (g k 0 == h k 0) = false := by simp [e0]
     have hne : neB 3 g h k = true := by simp [neB, anyTo, e0]
     have HN := hid hne
     clear hne
     go_upto_region 6 with fail
     refine wp_region_later (by kernel_rfl) (by kernel_rfl) ?_
     repeat (go_big_quiet_step (fail))
     refine wpQuiet_nil ?_
     rintro _ ⟨⟨w3, he3⟩, rfl⟩
     go_wp2
     go_ret
     refine ⟨ret_bool ?_, he.trans he3⟩
     simp only [eqB, decide_true, Bool.true_and]
     rw [anyTo_true.2 ⟨k, hlt, HN.out⟩]; rfl

   ·go_wp2_with fail
    go_ret
    obtain rfl : k = n := by omega
    refine ⟨ret_bool ?_, he⟩
    simp only [eqB, decide_true, Bool.true_and]
    rw [anyTo_false.2 hp.out]; rfl
 ·have e0 : ((n : Int) != (n' : Int)) = true := by rw [bne_iff_ne]; omega
  have e1 : (n != n') = true := by rw [bne_iff_ne]; exact hl
  go_enter Tryz.func163, Tryz.ntmps163
  go_wp2
  go_ret
  exact ⟨ret_bool (by simp [eqB, hl]), Ext.refl _⟩

theorem eq34 {w : World} {A A' : Option Addr} {n cap n' cap' : Nat} {g h : Nat → Nat → Int} (hr : Rd w A n 1 g) (hr' : Rd w A' n' 1 h) (hn : n ≤ 1000) (hn' : n' ≤ 1000) :
  Calls Tryz.prog 34 #[.slice A n cap, .slice A' n' cap'] w fun e w' => e = .returned (.bool (eqB 1 n n' g h)) ∧ Ext w w' := by
 go_enter Tryz.func34, Tryz.ntmps34
 go_wp2_with (go_at_call 104; refine (equal104 hr hr' hn hn').mono ?_; rintro e w1 ⟨rfl, he1⟩)
 go_ret
 exact ⟨rfl, he1⟩

theorem eq46 {w : World} {A A' : Option Addr} {n cap n' cap' : Nat} {g h : Nat → Nat → Int} (hr : Rd w A n 2 g) (hr' : Rd w A' n' 2 h) (hn : n ≤ 1000) (hn' : n' ≤ 1000) :
  Calls Tryz.prog 46 #[.slice A n cap, .slice A' n' cap'] w fun e w' => e = .returned (.bool (eqB 2 n n' g h)) ∧ Ext w w' := by
 go_enter Tryz.func46, Tryz.ntmps46
 go_wp2_with (go_at_call 138; refine (equal138 hr hr' hn hn').mono ?_; rintro e w1 ⟨rfl, he1⟩)
 go_ret
 exact ⟨rfl, he1⟩

theorem eq105 {w : World} {A A' : Option Addr} {n cap n' cap' : Nat} {g h : Nat → Nat → Int} (hr : Rd w A n 3 g) (hr' : Rd w A' n' 3 h) (hn : n ≤ 1000) (hn' : n' ≤ 1000) :
  Calls Tryz.prog 105 #[.slice A n cap, .slice A' n' cap'] w fun e w' => e = .returned (.bool (eqB 3 n n' g h)) ∧ Ext w w' := by
 go_enter Tryz.func105, Tryz.ntmps105
 go_wp2_with (go_at_call 163; refine (equal163 hr hr' hn hn').mono ?_; rintro e w1 ⟨rfl, he1⟩)
 go_ret
 exact ⟨rfl, he1⟩

theorem eq106 {w : World} {A A' : Option Addr} {n cap n' cap' : Nat} {g h : Nat → Nat → Int} (hr : Rd w A n 3 g) (hr' : Rd w A' n' 3 h) (hn : n ≤ 1000) (hn' : n' ≤ 1000) :
  Calls Tryz.prog 106 #[.slice A n cap, .slice A' n' cap'] w fun e w' => e = .returned (.bool (eqB 3 n n' g h)) ∧ Ext w w' := by
 go_enter Tryz.func106, Tryz.ntmps106
 go_wp2_with (go_at_call 164; refine (equal164 hr hr' hn hn').mono ?_; rintro e w1 ⟨rfl, he1⟩)
 go_ret
 exact ⟨rfl, he1⟩

end Go.Proofs.YtbceepjjdfpfmaaGreat
namespace Go.Proofs.YtbceepjjdfpfmaaGreat
open Go.RowKit HandSpec
set_option maxHeartbeats 800000
set_option maxRecDepth 100000
theorem equal149 {w : World} {A A' : Option Addr} {n cap n' cap' : Nat} {g h : Nat → Nat → Int} (hr : Rd w A n 3 g) (hr' : Rd w A' n' 3 h) (hn : n ≤ 1000) (hn' : n' ≤ 1000) :
  Calls Tryz.prog 149 #[.slice A n cap, .slice A' n' cap'] w fun e w' => e = .returned (.bool (eqB 3 n n' g h)) ∧ Ext w w' := by
 by_cases hl : n = n'
 ·subst hl
  go_enter Tryz.func149, Tryz.ntmps149
  go_wp2
  go_loopw [4, 5, 13] (fun r _ i wr => ∃ k : Nat, k ≤ n ∧ i = .int .i64 k ∧ r = .bool false ∧ Hid (∀ j, j < k → neB 3 g h j = false) ∧ Ext w wr) (fun _ _ i _ => n - (intOf i).toNat)
  case atStart => exact ⟨0, Nat.zero_le _, rfl, rfl, fun _ h => absurd h (by omega), Ext.refl _⟩
  case round =>
   obtain ⟨k, hk, rfl, rfl, hp, he⟩ := hrel
   by_cases hlt : k < n
   ·obtain ⟨b, o, rfl, hb, p0, p1, p2⟩ := (hr.ext he).at3 hlt
    obtain ⟨b', o', rfl, hb', q0, q1, q2⟩ := (hr'.ext he).at3 hlt
    have hu3 := Tryz.underlying3
    clear hr hr'
    by_cases e0 : g k 0 = h k 0
    ·have e0b : (g k 0 == h k 0) = true := by simp [e0]
     by_cases e1 : g k 1 = h k 1
     ·have e1b : (g k 1 == h k 1) = true := by simp [e1]
      by_cases e2 : g k 2 = h k 2
      ·have e2b : (g k 2 == h k 2) = true := by simp [e2]
       have hne : neB 3 g h k = false := by simp [neB, anyTo, e0, e1, e2]
       have HN := hid hne
       clear hne
       go_upto_region 6 with fail
       refine wp_region_later (by kernel_rfl) (by kernel_rfl) ?_
       repeat (go_big_quiet_step (fail))
       refine wpQuiet_nil ?_
       rintro _ ⟨⟨w3, he3⟩, rfl⟩
       go_wp2
       go_roundw
       case rel => exact ⟨k+1, by omega, by go_num, rfl, anyTo_step hp.out HN.out, he.trans he3⟩
       case measure => simp [intOf]; omega
      ·have e2b : (g k 2 == h k 2) = false := by simp [e2]
       have hne : neB 3 g h k = true := by simp [neB, anyTo, e2]
       have HN := hid hne
       clear hne
       go_upto_region 6 with fail
       refine wp_region_later (by kernel_rfl) (by kernel_rfl) ?_
       repeat (go_big_quiet_step (fail))
       refine wpQuiet_nil ?_
       rintro _ ⟨⟨w3, he3⟩, rfl⟩
       go_wp2
       go_ret
       refine ⟨ret_bool ?_, he.trans he3⟩
       simp only [eqB, decide_true, Bool.true_and]
       rw [anyTo_true.2 ⟨k, hlt, HN.out⟩]; rfl
     ·have e1b : (g k 1 == h k 1) = false := by simp [e1]
      have hne : neB 3 g h k = true := by simp [neB, anyTo, e1]
      have HN := hid hne
      clear hne
      go_upto_region 6 with fail
      refine wp_region_later (by kernel_rfl) (by kernel_rfl) ?_
      repeat (go_big_quiet_step (fail))
      refine wpQuiet_nil ?_
      rintro _ ⟨⟨w3, he3⟩, rfl⟩
      go_wp2
      go_ret
      refine ⟨ret_bool ?_, he.trans he3⟩
      simp only [eqB, decide_true, Bool.true_and]
      rw [anyTo_true.2 ⟨k, hlt, HN.out⟩]; rfl
    ·have e0b : (g k 0 == h k 0) = false := by simp [e0]
     have hne : neB 3 g h k = true := by simp [neB, anyTo, e0]
     have HN := hid hne
     clear hne
     go_upto_region 6 with fail
     refine wp_region_later (by kernel_rfl) (by kernel_rfl) ?_
     repeat (go_big_quiet_step (fail))
     refine wpQuiet_nil ?_
     rintro _ ⟨⟨w3, he3⟩, rfl⟩
     go_wp2
     go_ret
     refine ⟨ret_bool ?_, he.trans he3⟩
     simp only [eqB, decide_true, Bool.true_and]
     rw [anyTo_true.2 ⟨k, hlt, HN.out⟩]; rfl

   ·go_wp2_with fail
    go_ret
    obtain rfl : k = n := by omega
    refine ⟨ret_bool ?_, he⟩
    simp only [eqB, decide_true, Bool.true_and]
    rw [anyTo_false.2 hp.out]; rfl
 ·have e0 : ((n : Int) != (n' : Int)) = true := by rw [bne_iff_ne]; omega
  have e1 : (n != n') = true := by rw [bne_iff_ne]; exact hl
  go_enter Tryz.func149, Tryz.ntmps149
  go_wp2
  go_ret
  exact ⟨ret_bool (by simp [eqB, hl]), Ext.refl _⟩
theorem eq63 {w : World} {A A' : Option Addr} {n cap n' cap' : Nat} {g h : Nat → Nat → Int} (hr : Rd w A n 3 g) (hr' : Rd w A' n' 3 h) (hn : n ≤ 1000) (hn' : n' ≤ 1000) :
  Calls Tryz.prog 63 #[.slice A n cap, .slice A' n' cap'] w fun e w' => e = .returned (.bool (eqB 3 n n' g h)) ∧ Ext w w' := by
 go_enter Tryz.func63, Tryz.ntmps63
 go_wp2_with (go_at_call 149; refine (equal149 hr hr' hn hn').mono ?_; rintro e w1 ⟨rfl, he1⟩)
 go_ret
 exact ⟨rfl, he1⟩
end Go.Proofs.YtbceepjjdfpfmaaGreat
