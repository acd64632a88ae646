/- Walks of the program's Least, Proof and Missing where they say an error, of Proof where it answers, and of what the law calls wide. -/
import Derived.Test.YtkhjmedfhobebaaGreatDoX
import Derived.Test.YtkhjmedfhobebaaGreatLawA
import Derived.Test.YtkhjmedfhobebaaGreatGenA
namespace Go.Proofs.YtkhjmedfhobebaaGreat
open Go.RowKit HandSpec
set_option maxHeartbeats 1600000
set_option maxRecDepth 100000
def toldU (E : Int) (x : WD) : MSpec := fun v _ _ w => ∃ u, v = .tuple #[u, .int .i64 E] ∧ IsD w u x
theorem toldU.ext {E : Int} {x : WD} {v : Value} {lo hi : Nat} {w w' : World} (h : toldU E x v lo hi w) (e : Ext w w') : toldU E x v lo hi w' := by
 obtain ⟨u, hv, hd⟩ := h
 exact ⟨u, hv, hd.ext e⟩
def badH (x : WD) (n : Int) : Bool := !inB n 0 (wrap64 (x.hands - 1))
theorem least_err {x : WD} {w : World} {v : Value} (hv : IsW w v x) (h1 : x.cn ≤ 1000) (h2 : x.bn ≤ 1000) (h3 : x.sn ≤ 1000) (n : Int) (he : P.toldE x (badH x n) ≠ 0) :
  Calls Tryz.prog 25 #[v, .int .i64 n] w fun e w' => e = .returned (.tuple #[.int .i64 0, .int .i64 (P.toldE x (badH x n))]) ∧ Ext w w' := by
 have HV := hid hv
 obtain ⟨A1, c1, A2, c2, A3, c3, rfl, r1, r2, r3⟩ := hv
 clear r1 r2 r3
 have hne : (P.toldE x (badH x n) == 0) = false := by simpa using he
 have hne2 : (P.toldE x (badH x n) != 0) = true := by simpa using he
 have HE := hid he
 clear he
 go_enter Tryz.func25, Tryz.ntmps25
 go_upto_region 1 with fail
 refine wp_later fun w0 hw0 => ?_
 obtain ⟨E0, b1⟩ := hw0.newB
 have k1 := b1.cell
 have k1l := b1.lt
 clear hw0
 refine wp_region_later (by kernel_rfl) (by kernel_rfl) ?_
 repeat (go_big_quiet_step ((first
  | (go_at_call 121; exact Calls.later (hand_any (HV.out.ext (E0.trans (Later.ext _))) n))
  | (go_at_call 120; exact Calls.later (told_err (HV.out.ext (E0.trans (Later.ext _))) h1 h2 h3 (badH x n) HE.out)))))
 refine wpQuiet_nil ?_
 rintro _ ⟨⟨w2, he2⟩, rfl⟩
 go_wp2
 go_ret2
 exact ⟨rfl, E0.trans he2⟩
theorem proof_err {x : WD} {w : World} {v : Value} (hv : IsW w v x) (h1 : x.cn ≤ 1000) (h2 : x.bn ≤ 1000) (h3 : x.sn ≤ 1000) (n : Int) (he : P.toldE x (badH x n) ≠ 0) :
  Calls Tryz.prog 26 #[v, .int .i64 n] w fun e w' => e = .returned (.tuple #[.slice none 0 0, .int .i64 (P.toldE x (badH x n))]) ∧ Ext w w' := by
 have HV := hid hv
 obtain ⟨A1, c1, A2, c2, A3, c3, rfl, r1, r2, r3⟩ := hv
 clear r1 r2 r3
 have hne : (P.toldE x (badH x n) == 0) = false := by simpa using he
 have hne2 : (P.toldE x (badH x n) != 0) = true := by simpa using he
 have HE := hid he
 clear he
 go_enter Tryz.func26, Tryz.ntmps26
 go_upto_region 1 with fail
 refine wp_later fun w0 hw0 => ?_
 obtain ⟨E0, b1⟩ := hw0.newB
 have k1 := b1.cell
 have k1l := b1.lt
 clear hw0
 refine wp_region_later (by kernel_rfl) (by kernel_rfl) ?_
 repeat (go_big_quiet_step ((first
  | (go_at_call 121; exact Calls.later (hand_any (HV.out.ext (E0.trans (Later.ext _))) n))
  | (go_at_call 120; exact Calls.later (told_err (HV.out.ext (E0.trans (Later.ext _))) h1 h2 h3 (badH x n) HE.out)))))
 refine wpQuiet_nil ?_
 rintro _ ⟨⟨w2, he2⟩, rfl⟩
 go_wp2
 go_ret2
 exact ⟨rfl, E0.trans he2⟩
theorem missing_err {x : WD} {w : World} {v : Value} (hv : IsW w v x) (h1 : x.cn ≤ 1000) (h2 : x.bn ≤ 1000) (h3 : x.sn ≤ 1000) (he : P.toldE x false ≠ 0) :
  Calls Tryz.prog 27 #[v] w fun e w' => e = .returned (.tuple #[.int .i64 0, .int .i64 (P.toldE x false)]) ∧ Ext w w' := by
 have HV := hid hv
 obtain ⟨A1, c1, A2, c2, A3, c3, rfl, r1, r2, r3⟩ := hv
 clear r1 r2 r3
 have hne : (P.toldE x false == 0) = false := by simpa using he
 have HE := hid he
 clear he
 go_enter Tryz.func27, Tryz.ntmps27
 go_wp2_with (go_at_call 120; refine (told_err (HV.out.ext ((Ext.refl _).alloc _)) h1 h2 h3 false HE.out).mono ?_; rintro e w1 ⟨rfl, he1⟩)
 go_ret2
 exact ⟨rfl, ((Ext.refl _).alloc _).trans he1⟩
theorem proof_ok26 {x : WD} {w : World} {v : Value} (hv : IsW w v x) (h1 : x.cn ≤ 1000) (h2 : x.bn ≤ 1000) (h3 : x.sn ≤ 1000) {h : Nat} (hh : (h : Int) < x.hands) (he : P.toldE x false = 0) :
  Calls Tryz.prog 26 #[v, .int .i64 (h : Int)] w fun e w' => ∃ u l', e = .returned (.tuple #[u, .int .i64 0]) ∧ Ext w w' ∧ l'.Perm (P.proof x (2 ^ h)) ∧ SortedTo l' l'.length ∧ OwnR w' w.heap.size 51 2 u (rows2 l') := by
 have HV := hid hv
 obtain ⟨A1, c1, A2, c2, A3, c3, rfl, r1, r2, r3⟩ := hv
 clear r1 r2 r3
 have hx := Ok.of_chk (P.toldE_ok he).1
 have hhd := hx.hands
 have hinb : inB (h : Int) 0 (wrap64 (x.hands - 1)) = true := by rw [IntWalk.wrap64_in _ (by omega)]; simp [inB]; omega
 have HI := hid hinb
 have HE := hid he
 clear he hinb
 have hm : 2 ^ h < 64 := Nat.pow_lt_pow_right (a := 2) (n := 6) (by omega) (by omega)
 have hw4 := wrap2 (i := h) (by omega)
 have hp := fun (w' : World) (u : Value) (hu : IsD w' u x) => prove_any hx hu hm
 rw [Int.natCast_pow] at hp
 have HP := hid hp
 clear hp hm
 go_enter Tryz.func26, Tryz.ntmps26
 go_upto_region 1 with fail
 refine wp_later fun w0 hw0 => ?_
 obtain ⟨E0, b1⟩ := hw0.newB
 have k1 := b1.cell
 have k1l := b1.lt
 clear hw0
 refine wp_region_mono 11 [(3, fun v _ _ _ => v = .bool true), (5, toldU 0 x)] (by kernel_rfl) (by kernel_rfl) (by kernel_rfl) ?hS ?_
 case hS =>
  simp only [List.forall_mem_cons]
  exact ⟨fun _ _ _ _ _ _ h => h, fun _ _ _ _ _ e h => toldU.ext h e, fun _ h => by simp at h⟩
 simp only [List.take_succ_cons, List.drop_succ_cons, List.take_nil, List.drop_nil]
 refine wpM_plain rfl ?_
 go_big_quiet_step (fail)
 refine wpQuiet_nil ?_
 refine wpM_plain rfl ?_
 go_big_quiet_step (fail)
 refine wpQuiet_nil ?_
 refine wpM_plain rfl ?_
 go_big_quiet_step (fail)
 refine wpQuiet_nil ?_
 refine wpM_spec _ rfl rfl (fun w2 hw2 _ => ?_) (fun va la ha ga1 ga2 _ hva => ?_)
 ·go_wp2_with (go_at_call 121; refine (hand_any (HV.out.ext (E0.trans hw2)) (h : Int)).mono ?_; rintro e w5 ⟨rfl, he5⟩; rw [HI.out])
  exact ⟨_, _, _, rfl, he5, Nat.le_refl _, he5.size, Nat.le_refl _, rfl⟩
 obtain ⟨_, rfl⟩ := hva
 simp only [Act.put, List.setIfInBounds_toArray, List.set_cons_succ, List.set_cons_zero]
 refine wpM_plain rfl ?_
 go_big_quiet_step (fail)
 refine wpQuiet_nil ?_
 refine wpM_spec _ rfl rfl (fun w2 hw2 _ => ?_) (fun va la ha ga1 ga2 _ hva => ?_)
 ·go_wp2_with (go_at_call 120; refine (told_ok (HV.out.ext (E0.trans hw2)) h1 h2 h3 false HE.out).mono ?_; rintro e w5 ⟨u, rfl, he5, hu⟩)
  exact ⟨_, _, _, rfl, he5, Nat.le_refl _, he5.size, Nat.le_refl _, u, rfl, hu⟩
 obtain ⟨_, u, rfl, -⟩ := hva
 simp only [Act.put, List.setIfInBounds_toArray, List.set_cons_succ, List.set_cons_zero]
 refine wpM_plain rfl ?_
 go_big_quiet_step (fail)
 refine wpQuiet_nil ?_
 refine wpM_plain rfl ?_
 go_big_quiet_step (fail)
 refine wpQuiet_nil ?_
 refine wpM_plain rfl ?_
 go_big_quiet_step (fail)
 refine wpQuiet_nil ?_
 refine wpM_plain rfl ?_
 go_big_quiet_step (fail)
 refine wpQuiet_nil ?_
 refine wpM_plain rfl ?_
 go_big_quiet_step (fail)
 refine wpQuiet_nil ?_
 refine wpM_nil fun w6 hw6 hF => ?_
 simp only [List.forall_mem_cons] at hF
 obtain ⟨⟨-, u', hq, hu⟩, -⟩ := hF
 obtain rfl : u = u' := by simpa using hq
 have HU := hid hu
 clear hq hu
 go_wp2_with (go_at_call 122; refine (HP.out _ _ HU.out).mono ?_; rintro e w7 ⟨vb, l', rfl, he7, p1, p2, p3⟩)
 go_ret2
 exact ⟨_, l', rfl, E0.trans (hw6.trans he7), p1, p2, p3.base (E0.trans hw6).size⟩
/-- What the law calls a wide count. -/
def wideC (x : WD) (k : Nat) : Bool := decide (0 ≤ x.c k 1) && decide (x.c k 2 ≤ 500) && decide (60 < wrap64 (x.c k 2 - x.c k 1))
theorem asks113 (x : WD) (w : World) : Asks w (.func (.func 113) #[] #[]) x.cn (enc3 x.c) (wideC x) := by
 refine ⟨_, _, rfl, enters_ Tryz.func113 (by kernel_rfl) rfl, fun k hk w' he => ?_⟩
 unfold enc3 wideC
 generalize x.c k 0 = a
 generalize x.c k 1 = b
 generalize x.c k 2 = c
 by_cases q1 : 0 ≤ b
 ·by_cases q2 : c ≤ 500
  ·go_enter Tryz.func113, Tryz.ntmps113
   go_wp2
   go_ret
   exact ⟨ret_bool (by first | rfl | simp [q1, q2]), (Ext.refl _).alloc _⟩
  ·have q3 : decide (c ≤ 500) = false := by simpa using q2
   go_enter Tryz.func113, Tryz.ntmps113
   go_wp2
   go_ret
   exact ⟨ret_bool (by first | rfl | simp [q3]), (Ext.refl _).alloc _⟩
 ·have q3 : decide (0 ≤ b) = false := by simpa using q1
  go_enter Tryz.func113, Tryz.ntmps113
  go_wp2
  go_ret
  exact ⟨ret_bool (by first | rfl | simp [q3]), (Ext.refl _).alloc _⟩
def wideB (x : WD) : Bool := greatB x || anyTo (wideC x) x.cn
theorem wide17 {x : WD} {w : World} {v : Value} (hv : IsW w v x) :
  Calls Tryz.prog 17 #[v] w fun e w' => e = .returned (.bool (wideB x)) ∧ Ext w w' := by
 have HV := hid hv
 obtain ⟨A1, c1, A2, c2, A3, c3, rfl, r1, r2, r3⟩ := hv
 have R1 := hid r1
 clear r1 r2 r3
 cases hg : greatB x
 ·have hcn : x.cn ≤ 1000 := by simp [greatB] at hg; omega
  have HB := hid (show wideB x = anyTo (wideC x) x.cn by unfold wideB; rw [hg, Bool.false_or])
  have HG := hid hg
  clear hg
  go_enter Tryz.func17, Tryz.ntmps17
  go_wp2_with (first
   | (go_at_call 31; refine (great31 (HV.out.ext ((Ext.refl _).alloc _))).mono ?_; rintro e w1 ⟨rfl, he1⟩; rw [HG.out]; obtain ⟨E1, b1⟩ := he1.newB; have k1 := b1.cell; have k1l := b1.lt)
   | (go_at_call 94; refine (containsFunc94 (R1.out.ext E1) hcn (asks113 x _)).mono ?_; rintro e w2 ⟨rfl, he2⟩))
  go_ret
  exact ⟨ret_bool HB.out.symm, E1.trans he2⟩
 ·have HB := hid (show wideB x = true by unfold wideB; rw [hg, Bool.true_or])
  have HG := hid hg
  clear hg
  go_enter Tryz.func17, Tryz.ntmps17
  go_wp2_with (go_at_call 31; refine (great31 (HV.out.ext ((Ext.refl _).alloc _))).mono ?_; rintro e w1 ⟨rfl, he1⟩; rw [HG.out])
  go_ret
  exact ⟨ret_bool HB.out.symm, ((Ext.refl _).alloc _).trans he1⟩
end Go.Proofs.YtkhjmedfhobebaaGreat
