/- Walks of the program: errors, the greatest of two numbers, the most that can be missing in an interval, and the hands that can have taken something. The watch is right, as Ok says, or too wrong. -/
import Derived.Test.YtkhjmedfhobebaaGreatDoM
import Derived.Test.YtkhjmedfhobebaaGreatDoK
import Derived.Test.YtkhjmedfhobebaaGreatMathN
namespace Go.Proofs.YtkhjmedfhobebaaGreat
open Go.RowKit HandSpec
set_option maxHeartbeats 800000
set_option maxRecDepth 100000
theorem must_err {x : WD} {w : World} {v : Value} (hv : IsW w v x) (h1 : x.cn ≤ 1000) (h2 : x.bn ≤ 1000) (h3 : x.sn ≤ 1000) (he : P.toldE x false ≠ 0) :
  Calls Tryz.prog 36 #[v] w fun e w' => e = .returned (.tuple #[.slice none 0 0, .int .i64 (P.toldE x false)]) ∧ Ext w w' := by
 have HV := hid hv
 obtain ⟨A1, c1, A2, c2, A3, c3, rfl, r1, r2, r3⟩ := hv
 clear r1 r2 r3
 have hne : (P.toldE x false == 0) = false := by simpa using he
 have HE := hid he
 clear he
 go_enter Tryz.func36, Tryz.ntmps36
 go_wp2_with (go_at_call 120; refine (told_err (HV.out.ext ((Ext.refl _).alloc _)) h1 h2 h3 false HE.out).mono ?_; rintro e w1 ⟨rfl, he1⟩; obtain ⟨he1, hb⟩ := he1.newB)
 go_ret2
 exact ⟨rfl, he1⟩
theorem can_err {x : WD} {w : World} {v : Value} (hv : IsW w v x) (h1 : x.cn ≤ 1000) (h2 : x.bn ≤ 1000) (h3 : x.sn ≤ 1000) (he : P.toldE x false ≠ 0) :
  Calls Tryz.prog 37 #[v] w fun e w' => e = .returned (.tuple #[.slice none 0 0, .int .i64 (P.toldE x false)]) ∧ Ext w w' := by
 have HV := hid hv
 obtain ⟨A1, c1, A2, c2, A3, c3, rfl, r1, r2, r3⟩ := hv
 clear r1 r2 r3
 have hne : (P.toldE x false == 0) = false := by simpa using he
 have HE := hid he
 clear he
 go_enter Tryz.func37, Tryz.ntmps37
 go_wp2_with (go_at_call 120; refine (told_err (HV.out.ext ((Ext.refl _).alloc _)) h1 h2 h3 false HE.out).mono ?_; rintro e w1 ⟨rfl, he1⟩; obtain ⟨he1, hb⟩ := he1.newB)
 go_ret2
 exact ⟨rfl, he1⟩
theorem short_chk {x : WD} {w : World} {v : Value} (hv : IsW w v x) (h1 : x.cn ≤ 1000) (h2 : x.bn ≤ 1000) (h3 : x.sn ≤ 1000) (hc : P.chk x ≠ 0) :
  Calls Tryz.prog 47 #[v] w fun e w' => e = .returned (.tuple #[.slice none 0 0, .int .i64 (P.chk x)]) ∧ Ext w w' := by
 have HV := hid hv
 obtain ⟨A1, c1, A2, c2, A3, c3, rfl, r1, r2, r3⟩ := hv
 clear r1 r2 r3
 have hne : (P.chk x == 0) = false := by simpa using hc
 have HC := hid hc
 clear hc
 go_enter Tryz.func47, Tryz.ntmps47
 go_wp2_with (go_at_call 136; refine (opened_bad (HV.out.ext ((Ext.refl _).alloc _)) h1 h2 h3 HC.out).mono ?_; rintro e w1 ⟨rfl, he1⟩; obtain ⟨he1, hb⟩ := he1.newB)
 go_ret2
 exact ⟨rfl, he1⟩
theorem smallest_chk {x : WD} {w : World} {v : Value} (hv : IsW w v x) (h1 : x.cn ≤ 1000) (h2 : x.bn ≤ 1000) (h3 : x.sn ≤ 1000) (hc : P.chk x ≠ 0) :
  Calls Tryz.prog 48 #[v] w fun e w' => e = .returned (.tuple #[.slice none 0 0, .int .i64 (P.chk x)]) ∧ Ext w w' := by
 have HV := hid hv
 obtain ⟨A1, c1, A2, c2, A3, c3, rfl, r1, r2, r3⟩ := hv
 clear r1 r2 r3
 have hne : (P.chk x == 0) = false := by simpa using hc
 have HC := hid hc
 clear hc
 go_enter Tryz.func48, Tryz.ntmps48
 go_wp2_with (go_at_call 136; refine (opened_bad (HV.out.ext ((Ext.refl _).alloc _)) h1 h2 h3 HC.out).mono ?_; rintro e w1 ⟨rfl, he1⟩; obtain ⟨he1, hb⟩ := he1.newB)
 go_ret2
 exact ⟨rfl, he1⟩
theorem apart_chk {x : WD} {w : World} {v : Value} (hv : IsW w v x) (h1 : x.cn ≤ 1000) (h2 : x.bn ≤ 1000) (h3 : x.sn ≤ 1000) (hc : P.chk x ≠ 0) :
  Calls Tryz.prog 49 #[v] w fun e w' => e = .returned (.tuple #[.slice none 0 0, .int .i64 (P.chk x)]) ∧ Ext w w' := by
 have HV := hid hv
 obtain ⟨A1, c1, A2, c2, A3, c3, rfl, r1, r2, r3⟩ := hv
 clear r1 r2 r3
 have hne : (P.chk x == 0) = false := by simpa using hc
 have HC := hid hc
 clear hc
 go_enter Tryz.func49, Tryz.ntmps49
 go_wp2_with (go_at_call 136; refine (opened_bad (HV.out.ext ((Ext.refl _).alloc _)) h1 h2 h3 HC.out).mono ?_; rintro e w1 ⟨rfl, he1⟩; obtain ⟨he1, hb⟩ := he1.newB)
 go_ret2
 exact ⟨rfl, he1.alloc _⟩
end Go.Proofs.YtkhjmedfhobebaaGreat
namespace Go.Proofs.YtkhjmedfhobebaaGreat
open Go.RowKit HandSpec
set_option maxHeartbeats 1600000
set_option maxRecDepth 100000
theorem greatest_one {w : World} {g : Nat} {n m : Int} (hb : Blk w g 3 #[.int .i64 m]) :
  Calls Tryz.prog 148 #[.int .i64 n, .slice (some ⟨g, 0, none⟩) 1 1] w fun e w' => e = .returned (.int .i64 (max n m)) ∧ Ext w w' := by
 have k0 := hb.cell
 have kl := hb.lt
 go_enter Tryz.func148, Tryz.ntmps148
 go_wp2
 go_loop [0, 9] (fun a i => ∃ k : Nat, k ≤ 1 ∧ i = .int .i64 (k : Int) ∧ a = .int .i64 (if k = 0 then n else max n m)) (fun _ i => 1 - (intOf i).toNat)
 case atStart => exact ⟨0, Nat.zero_le _, rfl, rfl⟩
 case round =>
  obtain ⟨k, hk, rfl, rfl⟩ := hrel
  by_cases h : k = 0
  ·subst h
   have HM := hid (show (if n < m then m else n) = max n m by split <;> omega)
   go_wp2
   go_round
   case rel => exact ⟨1, Nat.le_refl _, by go_num, by congr 1⟩
   case measure => simp [intOf]
  ·obtain rfl : k = 1 := by omega
   go_wp2
   go_ret
   exact ⟨rfl, Ext.refl _⟩
def S1 (m : Int) : MSpec := fun v _ _ w => ∃ g, v = .slice (some ⟨g, 0, none⟩) 1 1 ∧ Blk w g 3 #[.int .i64 m]
theorem S1.ext {m : Int} {v : Value} {lo hi : Nat} {w w' : World} (h : S1 m v lo hi w) (e : Ext w w') : S1 m v lo hi w' := by
 obtain ⟨g, h1, h2⟩ := h
 exact ⟨g, h1, h2.ext e⟩
theorem slack_any {x : WD} (hx : Ok x) {w : World} {v : Value} (hv : IsD w v x) {i : Nat} (hi : i + 1 < x.cn) :
  Calls Tryz.prog 134 #[v, .int .i64 (i : Int)] w fun e w' => e = .returned (.int .i64 (P.slack x i)) ∧ Ext w w' := by
 have hv0 := hid hv
 obtain ⟨db, A1, c1, A2, c2, A3, c3, mb, L, rfl, hk, r1, -, -, -, -⟩ := hv
 have hcn := hx.cn
 obtain ⟨cb, co, rfl, hcb, a0, a1, a2⟩ := r1.at3 (k := i) (by omega)
 obtain ⟨_, _, hq, _, b0, b1, b2⟩ := r1.at3 (k := i + 1) hi
 obtain ⟨rfl, rfl⟩ := same_addr hq rfl
 have g1 := hx.hi i (by omega)
 have g2 := hx.lo (i+1) hi
 have g3 := P.sm_bound hx i
 have R1 := hid r1
 have k0 := hk.cell
 have hdb := hk.lt
 have hm1 : (i : Int) < x.cn := by omega
 have hm2 : (i : Int) + 1 < x.cn := by omega
 clear hq r1
 go_enter Tryz.func134, Tryz.ntmps134
 go_upto_region 1 with fail
 refine wp_region_later (by kernel_rfl) (by kernel_rfl) ?_
 repeat (go_big_quiet_step (fail))
 refine wpQuiet_nil ?_
 rintro _ ⟨⟨w1, he1⟩, rfl⟩
 have k0 := (hk.ext he1).cell
 have hdb := (hk.ext he1).lt
 clear a0 a1 a2 b0 b1 b2
 go_wp2_with fail
 go_loopw [5, 6, 36] (fun s5 s6 s36 wr => ∃ j : Nat, j ≤ x.cn ∧ s36 = .int .i64 (j : Int) ∧ s5 = .int .i64 (P.hiTo x i j) ∧ s6 = .int .i64 (P.loTo x i j) ∧ Ext w wr) (fun _ _ s36 _ => x.cn - (intOf s36).toNat)
 case atStart => exact ⟨0, Nat.zero_le _, rfl, rfl, rfl, he1⟩
 case round =>
  obtain ⟨j, hj, rfl, rfl, rfl, he⟩ := hrel
  have k0 := (hk.ext he).cell
  have hdb := (hk.ext he).lt
  have q1 := P.hiTo_bd hx (i := i) (by omega) hj
  have q2 := P.loTo_bd hx hi j hj
  by_cases hlt : j < x.cn
  ·obtain ⟨_, _, hq, hcb2, d0, d1, d2⟩ := (R1.out.ext he).at3 hlt
   obtain ⟨rfl, rfl⟩ := same_addr hq rfl
   clear hq
   have q3 := hx.hi j hlt
   have q4 := hx.lo j hlt
   go_upto_region 5 with fail
   refine wp_later fun w2 hw2 => ?_
   obtain ⟨E2, b2⟩ := hw2.newB
   have k2 := b2.cell
   have k2l := b2.lt
   clear hw2
   have hV := hid (hv0.out.ext (he.trans E2))
   have EE := hid (he.trans E2)
   clear k0 hdb hcb2 d0 d1 d2 he1
   rcases Nat.lt_trichotomy j i with c | c | c
   ·have c1 : (j : Int) < (i : Int) := by omega
    have c2 : ¬ (i : Int) + 1 < (j : Int) := by omega
    have q5 := P.books_bd hx j i (by omega)
    have HU := hid (show P.hiTo x i (j+1) = min (P.hiTo x i j) (x.c j 2 + P.books x j i) from if_pos c)
    have HL := hid (show P.loTo x i (j+1) = P.loTo x i j from if_neg (by omega))
    go_upto_region 6 with fail
    refine wp_region_later (by kernel_rfl) (by kernel_rfl) ?_
    repeat (go_big_quiet_step ((go_at_call 147; exact Calls.later (books_any hx (hV.out.ext (Later.ext _)) j i (by omega) (by omega)))))
    refine wpQuiet_nil ?_
    rintro _ ⟨⟨w3, he3⟩, rfl⟩
    go_wp2_with fail
    go_roundw
    case rel => exact ⟨j + 1, by omega, by go_num, by congr 1; rw [HU.out]; split <;> omega, by rw [HL.out], EE.out.trans he3⟩
    case measure => simp [intOf]; omega
   ·have c1 : ¬ (j : Int) < (i : Int) := by omega
    have c2 : ¬ (i : Int) + 1 < (j : Int) := by omega
    have HU := hid (show P.hiTo x i (j+1) = P.hiTo x i j from if_neg (by omega))
    have HL := hid (show P.loTo x i (j+1) = P.loTo x i j from if_neg (by omega))
    go_wp2_with fail
    go_roundw
    case rel => exact ⟨j + 1, by omega, by go_num, by rw [HU.out], by rw [HL.out], EE.out⟩
    case measure => simp [intOf]; omega
   ·have c1 : ¬ (j : Int) < (i : Int) := by omega
    have HU := hid (show P.hiTo x i (j+1) = P.hiTo x i j from if_neg (by omega))
    by_cases c3 : i + 1 < j
    ·have c2 : (i : Int) + 1 < (j : Int) := by omega
     have q5 := P.books_bd hx (i+1) j hlt
     have HL := hid (show P.loTo x i (j+1) = max (P.loTo x i j) (x.c j 1 - P.books x (i+1) j) from if_pos c3)
     have hcast : (i : Int) + 1 = ((i + 1 : Nat) : Int) := by omega
     have HC := hid hcast
     clear hcast
     go_upto_region 8 with fail
     refine wp_region_mono 13 [(9, fun v _ _ _ => v = .int .i64 (P.books x (i+1) j)), (11, S1 (x.c j 1 - P.books x (i+1) j)), (12, fun v _ _ _ => v = .int .i64 (max (P.loTo x i j) (x.c j 1 - P.books x (i+1) j)))] (by kernel_rfl) (by kernel_rfl) (by kernel_rfl) ?hS ?_
     case hS =>
      simp only [List.forall_mem_cons]
      exact ⟨fun _ _ _ _ _ _ h => h, fun _ _ _ _ _ e h => S1.ext h e, fun _ _ _ _ _ _ h => h, fun _ h => by simp at h⟩
     simp only [List.take_succ_cons, List.take_zero, List.drop_succ_cons, List.drop_zero]
     iterate 9
      refine wpM_plain rfl ?_
      go_big_quiet_step (fail)
      refine wpQuiet_nil ?_
     refine wpM_spec _ rfl rfl (fun w4 hw4 _ => ?_) (fun va la ha ga1 ga2 _ hva => ?_)
     ·go_wp2_with (go_at_call 147; rw [HC.out]; refine (books_any hx (hV.out.ext hw4) (i+1) j (by omega) hlt).mono ?_; rintro e w5 ⟨rfl, he5⟩)
      exact ⟨_, _, _, rfl, he5, Nat.le_refl _, he5.size, Nat.le_refl _, rfl⟩
     obtain ⟨_, rfl⟩ := hva
     simp only [Act.put, List.setIfInBounds_toArray, List.set_cons_succ, List.set_cons_zero]
     refine wpM_plain rfl ?_
     go_big_quiet_step (fail)
     refine wpQuiet_nil ?_
     refine wpM_spec _ rfl rfl (fun w4 hw4 _ => ?_) (fun va la ha ga1 ga2 _ hva => ?_)
     ·go_wp2
      exact ⟨_, w4.heap.size, w4.heap.size + 1, rfl, (Ext.refl _).alloc _, Nat.le_refl _, Nat.le_succ _, by simp, w4.heap.size, rfl, Blk.new _ _ _⟩
     simp only [Act.put, List.setIfInBounds_toArray, List.set_cons_succ, List.set_cons_zero]
     obtain ⟨_, gs, rfl, -⟩ := hva
     refine wpM_spec _ rfl rfl (fun w4 hw4 hF => ?_) (fun va la ha ga1 ga2 _ hva => ?_)
     ·simp only [List.forall_mem_cons] at hF
      obtain ⟨-, g2, hq2, hb2⟩ := hF.1 (by kernel_rfl)
      obtain rfl : gs = g2 := by simpa using hq2
      go_wp2_with (go_at_call 148; refine (greatest_one hb2).mono ?_; rintro e w5 ⟨rfl, he5⟩)
      exact ⟨_, _, _, rfl, he5, Nat.le_refl _, he5.size, Nat.le_refl _, rfl⟩
     obtain ⟨_, rfl⟩ := hva
     simp only [Act.put, List.setIfInBounds_toArray, List.set_cons_succ, List.set_cons_zero]
     refine wpM_nil fun w6 hw6 _ => ?_
     go_wp2_with fail
     go_roundw
     case rel => exact ⟨j + 1, by omega, by go_num, by rw [HU.out], by rw [HL.out], EE.out.trans hw6⟩
     case measure => simp [intOf]; omega
    ·have c2 : ¬ (i : Int) + 1 < (j : Int) := by omega
     have HL := hid (show P.loTo x i (j+1) = P.loTo x i j from if_neg (by omega))
     go_wp2_with fail
     go_roundw
     case rel => exact ⟨j + 1, by omega, by go_num, by rw [HU.out], by rw [HL.out], EE.out⟩
     case measure => simp [intOf]; omega
  ·obtain rfl : j = x.cn := by omega
   have h1 := sums_at (s := P.sm x) (hk.ext he) (show i < 8 by omega)
   have hi8 : (i : Int) < 8 := by omega
   clear k0
   go_wp2_with fail
   go_ret
   exact ⟨rfl, he⟩
theorem can_ok {x : WD} {w : World} {v : Value} (hv : IsW w v x) (h1 : x.cn ≤ 1000) (h2 : x.bn ≤ 1000) (h3 : x.sn ≤ 1000) (he : P.toldE x false = 0) :
  Calls Tryz.prog 37 #[v] w fun e w' => ∃ u, e = .returned (.tuple #[u, .int .i64 0]) ∧ Ext w w' ∧ SlR w' 1 u (rows1 (P.can x)) := by
 have HV := hid hv
 obtain ⟨A1, c1, A2, c2, A3, c3, rfl, r1, r2, r3⟩ := hv
 clear r1 r2 r3
 have hx := Ok.of_chk (P.toldE_ok he).1
 have HE := hid he
 clear he
 have hcn := hx.cn
 go_enter Tryz.func37, Tryz.ntmps37
 go_wp2_with (go_at_call 120; refine (told_ok (HV.out.ext ((Ext.refl _).alloc _)) h1 h2 h3 false HE.out).mono ?_; rintro e w1 ⟨va, rfl, he1, hu⟩; obtain ⟨he1, hb⟩ := he1.newB; have HU := hid hu; obtain ⟨db, B1, d1, B2, d2, B3, d3, mb, L, rfl, hd, -, -, -, hmp, hl⟩ := hu; have HL := hid hl; have kb := hb.cell; have kbl := hb.lt)
 clear kb kbl hl
 go_loopw [6, 20] (fun m i wr => ∃ k : Nat, k ≤ x.cn - 1 ∧ i = .int .i64 (k : Int) ∧ m = .int .i64 (P.canM x k : Int) ∧ Ext w1 wr) (fun _ i _ => x.cn - 1 - (intOf i).toNat)
 case atStart => exact ⟨0, Nat.zero_le _, rfl, rfl, Ext.refl _⟩
 case round =>
  obtain ⟨k, hk, rfl, rfl, he⟩ := hrel
  have kd := (hd.ext he).cell
  have kdl := (hd.ext he).lt
  have hM := P.canM_lt64 hx k
  by_cases hlt : k < x.cn - 1
  ·by_cases hs : 0 < P.slack x k
   ·have HS := hid (show P.canM x (k+1) = P.canM x k ||| P.th x k (k+1) from if_pos hs)
    have hor := or64 hM (P.th_lt hx k (k+1))
    go_upto_region 9 with (go_at_call 134; refine (slack_any hx (HU.out.ext he) (i := k) (by omega)).mono ?_; rintro e w2 ⟨rfl, he2⟩)
    have kd := (hd.ext (he.trans he2)).cell
    have kdl := (hd.ext (he.trans he2)).lt
    have hlk : (Instr.lookup 187 (.map (some mb)) (.agg #[.int .i64 (k : Int), .int .i64 ((k : Int) + 1)]) false).run Tryz.prog w2 = .ok (.int .i64 (P.th x k (k+1) : Int)) w2 := by
     have := lookup_run (hmp.ext (he.trans he2)) k (k+1)
     rw [HL.out k (k+1) (by omega) (by omega)] at this
     simpa using this
    go_wp2_with fail
    go_roundw
    case rel => exact ⟨k + 1, by omega, by go_num, by rw [HS.out], he.trans he2⟩
    case measure => simp [intOf]; omega
   ·have HS := hid (show P.canM x (k+1) = P.canM x k from if_neg hs)
    go_wp2_with (go_at_call 134; refine (slack_any hx (HU.out.ext he) (i := k) (by omega)).mono ?_; rintro e w2 ⟨rfl, he2⟩)
    go_roundw
    case rel => exact ⟨k + 1, by omega, by go_num, by rw [HS.out], he.trans he2⟩
    case measure => simp [intOf]; omega
  ·obtain rfl : k = x.cn - 1 := by omega
   have HO := hid (show ones 6 (P.canM x (x.cn - 1)) = P.can x from ones_of (k := 6) (N := 62) hM (Nat.lt_of_lt_of_le hM (by decide)))
   go_wp2_with (go_at_call 135; refine (membersP_any (P.canM x (x.cn - 1)) hM _).mono ?_; rintro e w2 ⟨vb, rfl, he2, hown⟩)
   go_ret2
   exact ⟨_, rfl, he1.trans (he.trans he2), by rw [← HO.out]; exact hown.slR⟩
end Go.Proofs.YtkhjmedfhobebaaGreat
