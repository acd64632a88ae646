/- The walk of the program's check of a watch. -/
import Derived.Test.YtkhjmedfhobebaaGreatChkA
namespace HandSpec
namespace P
def mny (x : WD) : Bool := !inB x.hands 1 6 || !inB x.cn 1 8 || decide (10 < x.bn) || decide (12 < x.sn)
def rng (x : WD) : Bool := !inB x.hours 1 60 || !inB x.allow 0 20
/-- The error of a watch. -/
def chk (x : WD) : Int :=
 if mny x then 2 else if rng x then 3 else if anyTo (fun k => !cOk x k) x.cn then 3 else if anyTo (fun k => !bOk x k) x.bn then 3 else if anyTo (fun k => !sOk x k) x.sn then 3
 else if anyTo (fun k => !hOk x k) x.sn then 1 else if anyTo (fun k => decide (x.c (k+1) 0 < x.c k 0)) (x.cn - 1) then 4 else if anyTo (fun k => x.c (k+1) 0 == x.c k 0) (x.cn - 1) then 4
 else if anyTo (fun k => !lhOk x k) x.cn || anyTo (fun k => !ftOk x k) x.sn then 4 else 0
theorem hours_of {x : WD} (h : anyTo (fun k => !cOk x k) x.cn = false) (hm : inB x.hours 1 60 = true) : ∀ k, k < x.cn → 0 ≤ x.c k 0 ∧ x.c k 0 ≤ 1000 := by
 intro k hk
 have h1 := anyTo_false.1 h k hk
 simp [cOk, inB] at h1 hm
 omega
end P
end HandSpec
namespace Go.Proofs.YtkhjmedfhobebaaGreat
open Go.RowKit HandSpec
set_option maxHeartbeats 800000
set_option maxRecDepth 100000
theorem cloneA100 {w : World} {A : Option Addr} {n cap : Nat} {g : Nat → Nat → Int} (hr : Rd w A n 3 g) (hn : n ≤ 1000) (h0 : 0 < n) :
  Calls Tryz.prog 100 #[.slice A n cap] w fun e w' => ∃ b cap', e = .returned (.slice (some ⟨b, 0, none⟩) n cap') ∧ Ext w w' ∧ w.heap.size ≤ b ∧ n ≤ cap' ∧ Arr w' b (n * 3) (fun i => g (i / 3) (i % 3)) := by
 refine (clone100 hr hn).mono ?_
 rintro e w' ⟨u, rfl, he, ho⟩
 rcases OwnR.arr ho with ⟨_, h1⟩ | ⟨b, cp, rfl, hb, hcp, ha⟩
 ·have := congrArg List.length h1
  rw [rowsG_length] at this
  simp at this; omega
 ·rw [rowsG_length] at ha hcp
  refine ⟨b, cp, by rw [rowsG_length], he, hb, hcp, ha.congr fun i hi => rowsG_at (by omega) (by omega)⟩
theorem sm0_of {c : Nat → Nat → Int} {n m : Nat} {v : Bool} (h : decide (m < n) = anyTo (sm0 (fun i => c (i / 3) (i % 3))) (n - 1)) (hv : anyTo (fun k => c (k+1) 0 == c k 0) (n - 1) = v) : decide ((m : Int) < (n : Int)) = v := by
 have e : sm0 (fun i => c (i / 3) (i % 3)) = fun k => c (k+1) 0 == c k 0 := by
  funext k
  simp [sm0, Nat.mul_mod_left]
 rw [e, hv] at h
 rw [← h]
 simp
/-- The check. -/
theorem check_any {w : World} {v : Value} {x : WD} (hv : IsW w v x) (h1 : x.cn ≤ 1000) (h2 : x.bn ≤ 1000) (h3 : x.sn ≤ 1000) :
  Calls Tryz.prog 54 #[v] w (fun e w' => e = .returned (.int .i64 (P.chk x)) ∧ Ext w w') := by
 have HV := hid hv
 obtain ⟨A1, c1, A2, c2, A3, c3, rfl, r1, r2, r3⟩ := hv
 have hmf : ∀ (fn : Fn) (first cap : Array Value) (w : World), (Instr.makeFunc fn first cap).run Tryz.prog w = .ok (.func fn first cap) w := fun _ _ _ _ => rfl
 have hst : (store ⟨w.heap.size + 1, 0, none⟩ (.func (.func 121) #[.agg #[.int .i64 x.hours, .int .i64 x.allow, .int .i64 x.hands, .slice A1 x.cn c1, .slice A2 x.bn c2, .slice A3 x.sn c3]] #[])).run Tryz.prog ((w.alloc (.cells #[.int .i64 x.hours, .int .i64 x.allow, .int .i64 x.hands, .slice A1 x.cn c1, .slice A2 x.bn c2, .slice A3 x.sn c3] 26)).alloc (.cells #[.nilFunc] 139))
   = .ok () (((w.alloc (.cells #[.int .i64 x.hours, .int .i64 x.allow, .int .i64 x.hands, .slice A1 x.cn c1, .slice A2 x.bn c2, .slice A3 x.sn c3] 26)).alloc (.cells #[.nilFunc] 139)).setCell ⟨w.heap.size + 1, 0, none⟩ (.func (.func 121) #[.agg #[.int .i64 x.hours, .int .i64 x.allow, .int .i64 x.hands, .slice A1 x.cn c1, .slice A2 x.bn c2, .slice A3 x.sn c3]] #[])) := by
  have b2 := Blk.new (w.alloc (.cells #[.int .i64 x.hours, .int .i64 x.allow, .int .i64 x.hands, .slice A1 x.cn c1, .slice A2 x.bn c2, .slice A3 x.sn c3] 26)) 139 #[.nilFunc]
  have k := b2.cell 0
  have f := b2.frozen 0
  simp only [World.size_alloc] at k f
  rw [run_store _ _ _ _ _ (by rfl), k, f]; rfl
 have R1 := hid r1
 have R2 := hid r2
 have R3 := hid r3
 clear r1 r2 r3
 go_enter Tryz.func54, Tryz.ntmps54
 go_upto_region 2 with fail
 refine wp_later fun w1 hw1 => ?_
 obtain ⟨E0, B1, B2⟩ := hw1.newB2
 clear hw1 hst
 have k1 := B1.cell
 have k2 := B2.cell
 have HB1 := hid B1
 have HB2 := hid B2
 have hl := E0.size
 have hlt : w.heap.size + 1 < w1.heap.size := B2.lt
 clear B1 B2
 have BX : Hid (∀ (w' : World), Ext w1 w' → BoxW w' w.heap.size x) := hid fun w' e => ⟨_, _, _, _, _, _, HB1.out.ext e, (R1.out.ext E0).ext e, (R2.out.ext E0).ext e, (R3.out.ext E0).ext e⟩
 have E := Ext.refl w1
 cases hb1 : inB x.hands 1 6
 ·have Hb1 := hid hb1
  clear hb1
  go_wp2_with (first
    | (go_at_call 150; refine (in_any _ _ _ _).mono ?_; rintro e w' ⟨rfl, rfl⟩; first | rw [Hb1.out]))
  go_ret
  refine ⟨ret_int ?_, E0.trans E⟩
  simp [P.chk, P.mny, Hb1.out] <;> omega
 ·have Hb1 := hid hb1
  clear hb1
  cases hb2 : inB (x.cn : Int) 1 8
  ·have Hb2 := hid hb2
   clear hb2
   go_wp2_with (first
    | (go_at_call 150; refine (in_any _ _ _ _).mono ?_; rintro e w' ⟨rfl, rfl⟩; first | rw [Hb1.out] | rw [Hb2.out]))
   go_ret
   refine ⟨ret_int ?_, E0.trans E⟩
   simp [P.chk, P.mny, Hb1.out, Hb2.out] <;> omega
  ·have Hb2 := hid hb2
   clear hb2
   have qn : 0 < x.cn := by have := Hb2.out; simp [inB] at this; omega
   cases hb3 : decide ((10:Int) < (x.bn : Int))
   ·have Hb3 := hid hb3
    clear hb3
    have qb3 : (x.bn : Int) ≤ 10 := by have := Hb3.out; simp at this; omega
    cases hb4 : decide ((12:Int) < (x.sn : Int))
    ·have Hb4 := hid hb4
     clear hb4
     have qb4 : (x.sn : Int) ≤ 12 := by have := Hb4.out; simp at this; omega
     cases hb5 : inB x.hours 1 60
     ·have Hb5 := hid hb5
      clear hb5
      go_wp2_with (first
    | (go_at_call 150; refine (in_any _ _ _ _).mono ?_; rintro e w' ⟨rfl, rfl⟩; first | rw [Hb1.out] | rw [Hb2.out] | rw [Hb5.out]))
      go_ret
      refine ⟨ret_int ?_, E0.trans E⟩
      simp [P.chk, P.mny, P.rng, Hb1.out, Hb2.out, Hb5.out] <;> omega
     ·have Hb5 := hid hb5
      clear hb5
      cases hb6 : inB x.allow 0 20
      ·have Hb6 := hid hb6
       clear hb6
       go_wp2_with (first
    | (go_at_call 150; refine (in_any _ _ _ _).mono ?_; rintro e w' ⟨rfl, rfl⟩; first | rw [Hb1.out] | rw [Hb2.out] | rw [Hb5.out] | rw [Hb6.out]))
       go_ret
       refine ⟨ret_int ?_, E0.trans E⟩
       simp [P.chk, P.mny, P.rng, Hb1.out, Hb2.out, Hb5.out, Hb6.out] <;> omega
      ·have Hb6 := hid hb6
       clear hb6
       cases hb7 : anyTo (fun k => !P.cOk x k) x.cn
       ·have Hb7 := hid hb7
        clear hb7
        have HG := hid (P.hours_of Hb7.out Hb5.out)
        cases hb8 : anyTo (fun k => !P.bOk x k) x.bn
        ·have Hb8 := hid hb8
         clear hb8
         cases hb9 : anyTo (fun k => !P.sOk x k) x.sn
         ·have Hb9 := hid hb9
          clear hb9
          cases hb10 : anyTo (fun k => !P.hOk x k) x.sn
          ·have Hb10 := hid hb10
           clear hb10
           cases hb11 : anyTo (fun k => decide (x.c (k+1) 0 < x.c k 0)) (x.cn - 1)
           ·have Hb11 := hid hb11
            clear hb11
            cases hb12 : anyTo (fun k => x.c (k+1) 0 == x.c k 0) (x.cn - 1)
            ·have Hb12 := hid hb12
             clear hb12
             cases hb13 : anyTo (fun k => !P.lhOk x k) x.cn
             ·have Hb13 := hid hb13
              clear hb13
              cases hb14 : anyTo (fun k => !P.ftOk x k) x.sn
              ·have Hb14 := hid hb14
               clear hb14
               go_upto_region 16 with (first
    | (go_at_call 150; refine (in_any _ _ _ _).mono ?_; rintro e w' ⟨rfl, rfl⟩; first | rw [Hb1.out] | rw [Hb2.out] | rw [Hb5.out] | rw [Hb6.out])
    | (go_at_call 151; refine (every151 ((R1.out.ext E0).ext E) (by omega) (asks1 (BX.out _ E))).mono ?_; rintro e w' ⟨rfl, he⟩; rw [Hb7.out]; replace E := E.trans he; clear he; have k1 := (HB1.out.ext E).cell; have k2 := (HB2.out.ext E).cell)
    | (go_at_call 154; refine (every154 ((R2.out.ext E0).ext E) (by omega) (asks2 (BX.out _ E))).mono ?_; rintro e w' ⟨rfl, he⟩; rw [Hb8.out]; replace E := E.trans he; clear he; have k1 := (HB1.out.ext E).cell; have k2 := (HB2.out.ext E).cell)
    | (go_at_call 156; refine (every156 ((R3.out.ext E0).ext E) (by omega) (by first | with_reducible exact asks3 (BX.out _ E) | exact asks4 ((HV.out.ext E0).ext E) (HB2.out.ext E))).mono ?_; rintro e w' ⟨rfl, he⟩; (first | rw [Hb9.out] | rw [Hb10.out]); replace E := E.trans he; clear he; have k1 := (HB1.out.ext E).cell; have k2 := (HB2.out.ext E).cell)
    | (go_at_call 159; refine (sorted159 ((R1.out.ext E0).ext E) (by omega) (fun k hk => HG.out k hk)).mono ?_; rintro e w' ⟨rfl, he⟩; rw [show anyTo (dn x.c) (x.cn - 1) = _ from Hb11.out]; replace E := E.trans he; clear he; have k1 := (HB1.out.ext E).cell; have k2 := (HB2.out.ext E).cell))
               refine wp_later fun w5 e5 => ?_
               replace E := E.trans e5
               have k1 := (HB1.out.ext E).cell
               have k2 := (HB2.out.ext E).cell
               clear e5
               go_region_held3 (fun w' => Ext w5 w' ∧ ∀ b o, (w5.cell? ⟨b, o, none⟩).isSome = true → w'.cell? ⟨b, o, none⟩ = w5.cell? ⟨b, o, none⟩) (exact Ext.sees (by repeat (first | exact Ext.refl _ | assumption | refine Ext.drew ?_))) (first
                | (go_at_call 100; refine (cloneA100 ((R1.out.ext E0).ext (E.trans (And.left (by assumption)))) (by omega) qn).mono ?_; rintro e w6 ⟨gb, cp6, rfl, he6, hgb, hcp6, ha6⟩; replace hgb := Nat.le_trans (Ext.size (w := w5) (And.left (by assumption))) hgb; replace he6 : Ext w5 w6 := Ext.trans (And.left (by assumption)) he6)
                | (go_at_call 161; refine (compact161 he6 hgb ha6 (by omega) hcp6).mono ?_; rintro e w7 ⟨m7, cp7, rfl, hm7, he7⟩; have q12 := sm0_of hm7 Hb12.out; clear hm7; replace he6 := he7)
                | fail)
               all_goals
                replace E := E.trans he6
                have k1 := (HB1.out.ext E).cell
                have k2 := (HB2.out.ext E).cell
                have q12' : ¬ (m7 : Int) < (x.cn : Int) := by simpa using q12
                go_wp2_with (first
    | (go_at_call 150; refine (in_any _ _ _ _).mono ?_; rintro e w' ⟨rfl, rfl⟩; first | rw [Hb1.out] | rw [Hb2.out] | rw [Hb5.out] | rw [Hb6.out])
    | (go_at_call 151; refine (every151 ((R1.out.ext E0).ext E) (by omega) (asks7 x _)).mono ?_; rintro e w' ⟨rfl, he⟩; rw [Hb13.out]; replace E := E.trans he; clear he; have k1 := (HB1.out.ext E).cell; have k2 := (HB2.out.ext E).cell)
    | (go_at_call 156; refine (every156 ((R3.out.ext E0).ext E) (by omega) (asks8 x _)).mono ?_; rintro e w' ⟨rfl, he⟩; rw [Hb14.out]; replace E := E.trans he; clear he; have k1 := (HB1.out.ext E).cell; have k2 := (HB2.out.ext E).cell))
                go_ret
                refine ⟨ret_int ?_, E0.trans E⟩
                simp [P.chk, P.mny, P.rng, Hb1.out, Hb2.out, Hb5.out, Hb6.out, Hb7.out, Hb8.out, Hb9.out, Hb10.out, Hb11.out, Hb12.out, Hb13.out, Hb14.out] <;> omega
              ·have Hb14 := hid hb14
               clear hb14
               go_upto_region 16 with (first
    | (go_at_call 150; refine (in_any _ _ _ _).mono ?_; rintro e w' ⟨rfl, rfl⟩; first | rw [Hb1.out] | rw [Hb2.out] | rw [Hb5.out] | rw [Hb6.out])
    | (go_at_call 151; refine (every151 ((R1.out.ext E0).ext E) (by omega) (asks1 (BX.out _ E))).mono ?_; rintro e w' ⟨rfl, he⟩; rw [Hb7.out]; replace E := E.trans he; clear he; have k1 := (HB1.out.ext E).cell; have k2 := (HB2.out.ext E).cell)
    | (go_at_call 154; refine (every154 ((R2.out.ext E0).ext E) (by omega) (asks2 (BX.out _ E))).mono ?_; rintro e w' ⟨rfl, he⟩; rw [Hb8.out]; replace E := E.trans he; clear he; have k1 := (HB1.out.ext E).cell; have k2 := (HB2.out.ext E).cell)
    | (go_at_call 156; refine (every156 ((R3.out.ext E0).ext E) (by omega) (by first | with_reducible exact asks3 (BX.out _ E) | exact asks4 ((HV.out.ext E0).ext E) (HB2.out.ext E))).mono ?_; rintro e w' ⟨rfl, he⟩; (first | rw [Hb9.out] | rw [Hb10.out]); replace E := E.trans he; clear he; have k1 := (HB1.out.ext E).cell; have k2 := (HB2.out.ext E).cell)
    | (go_at_call 159; refine (sorted159 ((R1.out.ext E0).ext E) (by omega) (fun k hk => HG.out k hk)).mono ?_; rintro e w' ⟨rfl, he⟩; rw [show anyTo (dn x.c) (x.cn - 1) = _ from Hb11.out]; replace E := E.trans he; clear he; have k1 := (HB1.out.ext E).cell; have k2 := (HB2.out.ext E).cell))
               refine wp_later fun w5 e5 => ?_
               replace E := E.trans e5
               have k1 := (HB1.out.ext E).cell
               have k2 := (HB2.out.ext E).cell
               clear e5
               go_region_held3 (fun w' => Ext w5 w' ∧ ∀ b o, (w5.cell? ⟨b, o, none⟩).isSome = true → w'.cell? ⟨b, o, none⟩ = w5.cell? ⟨b, o, none⟩) (exact Ext.sees (by repeat (first | exact Ext.refl _ | assumption | refine Ext.drew ?_))) (first
                | (go_at_call 100; refine (cloneA100 ((R1.out.ext E0).ext (E.trans (And.left (by assumption)))) (by omega) qn).mono ?_; rintro e w6 ⟨gb, cp6, rfl, he6, hgb, hcp6, ha6⟩; replace hgb := Nat.le_trans (Ext.size (w := w5) (And.left (by assumption))) hgb; replace he6 : Ext w5 w6 := Ext.trans (And.left (by assumption)) he6)
                | (go_at_call 161; refine (compact161 he6 hgb ha6 (by omega) hcp6).mono ?_; rintro e w7 ⟨m7, cp7, rfl, hm7, he7⟩; have q12 := sm0_of hm7 Hb12.out; clear hm7; replace he6 := he7)
                | fail)
               all_goals
                replace E := E.trans he6
                have k1 := (HB1.out.ext E).cell
                have k2 := (HB2.out.ext E).cell
                have q12' : ¬ (m7 : Int) < (x.cn : Int) := by simpa using q12
                go_wp2_with (first
    | (go_at_call 150; refine (in_any _ _ _ _).mono ?_; rintro e w' ⟨rfl, rfl⟩; first | rw [Hb1.out] | rw [Hb2.out] | rw [Hb5.out] | rw [Hb6.out])
    | (go_at_call 151; refine (every151 ((R1.out.ext E0).ext E) (by omega) (asks7 x _)).mono ?_; rintro e w' ⟨rfl, he⟩; rw [Hb13.out]; replace E := E.trans he; clear he; have k1 := (HB1.out.ext E).cell; have k2 := (HB2.out.ext E).cell)
    | (go_at_call 156; refine (every156 ((R3.out.ext E0).ext E) (by omega) (asks8 x _)).mono ?_; rintro e w' ⟨rfl, he⟩; rw [Hb14.out]; replace E := E.trans he; clear he; have k1 := (HB1.out.ext E).cell; have k2 := (HB2.out.ext E).cell))
                go_ret
                refine ⟨ret_int ?_, E0.trans E⟩
                simp [P.chk, P.mny, P.rng, Hb1.out, Hb2.out, Hb5.out, Hb6.out, Hb7.out, Hb8.out, Hb9.out, Hb10.out, Hb11.out, Hb12.out, Hb13.out, Hb14.out] <;> omega
             ·have Hb13 := hid hb13
              clear hb13
              go_upto_region 16 with (first
    | (go_at_call 150; refine (in_any _ _ _ _).mono ?_; rintro e w' ⟨rfl, rfl⟩; first | rw [Hb1.out] | rw [Hb2.out] | rw [Hb5.out] | rw [Hb6.out])
    | (go_at_call 151; refine (every151 ((R1.out.ext E0).ext E) (by omega) (asks1 (BX.out _ E))).mono ?_; rintro e w' ⟨rfl, he⟩; rw [Hb7.out]; replace E := E.trans he; clear he; have k1 := (HB1.out.ext E).cell; have k2 := (HB2.out.ext E).cell)
    | (go_at_call 154; refine (every154 ((R2.out.ext E0).ext E) (by omega) (asks2 (BX.out _ E))).mono ?_; rintro e w' ⟨rfl, he⟩; rw [Hb8.out]; replace E := E.trans he; clear he; have k1 := (HB1.out.ext E).cell; have k2 := (HB2.out.ext E).cell)
    | (go_at_call 156; refine (every156 ((R3.out.ext E0).ext E) (by omega) (by first | with_reducible exact asks3 (BX.out _ E) | exact asks4 ((HV.out.ext E0).ext E) (HB2.out.ext E))).mono ?_; rintro e w' ⟨rfl, he⟩; (first | rw [Hb9.out] | rw [Hb10.out]); replace E := E.trans he; clear he; have k1 := (HB1.out.ext E).cell; have k2 := (HB2.out.ext E).cell)
    | (go_at_call 159; refine (sorted159 ((R1.out.ext E0).ext E) (by omega) (fun k hk => HG.out k hk)).mono ?_; rintro e w' ⟨rfl, he⟩; rw [show anyTo (dn x.c) (x.cn - 1) = _ from Hb11.out]; replace E := E.trans he; clear he; have k1 := (HB1.out.ext E).cell; have k2 := (HB2.out.ext E).cell))
              refine wp_later fun w5 e5 => ?_
              replace E := E.trans e5
              have k1 := (HB1.out.ext E).cell
              have k2 := (HB2.out.ext E).cell
              clear e5
              go_region_held3 (fun w' => Ext w5 w' ∧ ∀ b o, (w5.cell? ⟨b, o, none⟩).isSome = true → w'.cell? ⟨b, o, none⟩ = w5.cell? ⟨b, o, none⟩) (exact Ext.sees (by repeat (first | exact Ext.refl _ | assumption | refine Ext.drew ?_))) (first
               | (go_at_call 100; refine (cloneA100 ((R1.out.ext E0).ext (E.trans (And.left (by assumption)))) (by omega) qn).mono ?_; rintro e w6 ⟨gb, cp6, rfl, he6, hgb, hcp6, ha6⟩; replace hgb := Nat.le_trans (Ext.size (w := w5) (And.left (by assumption))) hgb; replace he6 : Ext w5 w6 := Ext.trans (And.left (by assumption)) he6)
               | (go_at_call 161; refine (compact161 he6 hgb ha6 (by omega) hcp6).mono ?_; rintro e w7 ⟨m7, cp7, rfl, hm7, he7⟩; have q12 := sm0_of hm7 Hb12.out; clear hm7; replace he6 := he7)
               | fail)
              all_goals
               replace E := E.trans he6
               have k1 := (HB1.out.ext E).cell
               have k2 := (HB2.out.ext E).cell
               have q12' : ¬ (m7 : Int) < (x.cn : Int) := by simpa using q12
               go_wp2_with (first
    | (go_at_call 150; refine (in_any _ _ _ _).mono ?_; rintro e w' ⟨rfl, rfl⟩; first | rw [Hb1.out] | rw [Hb2.out] | rw [Hb5.out] | rw [Hb6.out])
    | (go_at_call 151; refine (every151 ((R1.out.ext E0).ext E) (by omega) (asks7 x _)).mono ?_; rintro e w' ⟨rfl, he⟩; rw [Hb13.out]; replace E := E.trans he; clear he; have k1 := (HB1.out.ext E).cell; have k2 := (HB2.out.ext E).cell))
               go_ret
               refine ⟨ret_int ?_, E0.trans E⟩
               simp [P.chk, P.mny, P.rng, Hb1.out, Hb2.out, Hb5.out, Hb6.out, Hb7.out, Hb8.out, Hb9.out, Hb10.out, Hb11.out, Hb12.out, Hb13.out] <;> omega
            ·have Hb12 := hid hb12
             clear hb12
             go_upto_region 16 with (first
    | (go_at_call 150; refine (in_any _ _ _ _).mono ?_; rintro e w' ⟨rfl, rfl⟩; first | rw [Hb1.out] | rw [Hb2.out] | rw [Hb5.out] | rw [Hb6.out])
    | (go_at_call 151; refine (every151 ((R1.out.ext E0).ext E) (by omega) (asks1 (BX.out _ E))).mono ?_; rintro e w' ⟨rfl, he⟩; rw [Hb7.out]; replace E := E.trans he; clear he; have k1 := (HB1.out.ext E).cell; have k2 := (HB2.out.ext E).cell)
    | (go_at_call 154; refine (every154 ((R2.out.ext E0).ext E) (by omega) (asks2 (BX.out _ E))).mono ?_; rintro e w' ⟨rfl, he⟩; rw [Hb8.out]; replace E := E.trans he; clear he; have k1 := (HB1.out.ext E).cell; have k2 := (HB2.out.ext E).cell)
    | (go_at_call 156; refine (every156 ((R3.out.ext E0).ext E) (by omega) (by first | with_reducible exact asks3 (BX.out _ E) | exact asks4 ((HV.out.ext E0).ext E) (HB2.out.ext E))).mono ?_; rintro e w' ⟨rfl, he⟩; (first | rw [Hb9.out] | rw [Hb10.out]); replace E := E.trans he; clear he; have k1 := (HB1.out.ext E).cell; have k2 := (HB2.out.ext E).cell)
    | (go_at_call 159; refine (sorted159 ((R1.out.ext E0).ext E) (by omega) (fun k hk => HG.out k hk)).mono ?_; rintro e w' ⟨rfl, he⟩; rw [show anyTo (dn x.c) (x.cn - 1) = _ from Hb11.out]; replace E := E.trans he; clear he; have k1 := (HB1.out.ext E).cell; have k2 := (HB2.out.ext E).cell))
             refine wp_later fun w5 e5 => ?_
             replace E := E.trans e5
             have k1 := (HB1.out.ext E).cell
             have k2 := (HB2.out.ext E).cell
             clear e5
             go_region_held3 (fun w' => Ext w5 w' ∧ ∀ b o, (w5.cell? ⟨b, o, none⟩).isSome = true → w'.cell? ⟨b, o, none⟩ = w5.cell? ⟨b, o, none⟩) (exact Ext.sees (by repeat (first | exact Ext.refl _ | assumption | refine Ext.drew ?_))) (first
              | (go_at_call 100; refine (cloneA100 ((R1.out.ext E0).ext (E.trans (And.left (by assumption)))) (by omega) qn).mono ?_; rintro e w6 ⟨gb, cp6, rfl, he6, hgb, hcp6, ha6⟩; replace hgb := Nat.le_trans (Ext.size (w := w5) (And.left (by assumption))) hgb; replace he6 : Ext w5 w6 := Ext.trans (And.left (by assumption)) he6)
              | (go_at_call 161; refine (compact161 he6 hgb ha6 (by omega) hcp6).mono ?_; rintro e w7 ⟨m7, cp7, rfl, hm7, he7⟩; have q12 := sm0_of hm7 Hb12.out; clear hm7; replace he6 := he7)
              | fail)
             all_goals
              replace E := E.trans he6
              have k1 := (HB1.out.ext E).cell
              have k2 := (HB2.out.ext E).cell
              have q12' : (m7 : Int) < (x.cn : Int) := by simpa using q12
              go_wp2_with (first
    | (go_at_call 150; refine (in_any _ _ _ _).mono ?_; rintro e w' ⟨rfl, rfl⟩; first | rw [Hb1.out] | rw [Hb2.out] | rw [Hb5.out] | rw [Hb6.out]))
              go_ret
              refine ⟨ret_int ?_, E0.trans E⟩
              simp [P.chk, P.mny, P.rng, Hb1.out, Hb2.out, Hb5.out, Hb6.out, Hb7.out, Hb8.out, Hb9.out, Hb10.out, Hb11.out, Hb12.out] <;> omega
           ·have Hb11 := hid hb11
            clear hb11
            go_wp2_with (first
    | (go_at_call 150; refine (in_any _ _ _ _).mono ?_; rintro e w' ⟨rfl, rfl⟩; first | rw [Hb1.out] | rw [Hb2.out] | rw [Hb5.out] | rw [Hb6.out])
    | (go_at_call 151; refine (every151 ((R1.out.ext E0).ext E) (by omega) (asks1 (BX.out _ E))).mono ?_; rintro e w' ⟨rfl, he⟩; rw [Hb7.out]; replace E := E.trans he; clear he; have k1 := (HB1.out.ext E).cell; have k2 := (HB2.out.ext E).cell)
    | (go_at_call 154; refine (every154 ((R2.out.ext E0).ext E) (by omega) (asks2 (BX.out _ E))).mono ?_; rintro e w' ⟨rfl, he⟩; rw [Hb8.out]; replace E := E.trans he; clear he; have k1 := (HB1.out.ext E).cell; have k2 := (HB2.out.ext E).cell)
    | (go_at_call 156; refine (every156 ((R3.out.ext E0).ext E) (by omega) (by first | with_reducible exact asks3 (BX.out _ E) | exact asks4 ((HV.out.ext E0).ext E) (HB2.out.ext E))).mono ?_; rintro e w' ⟨rfl, he⟩; (first | rw [Hb9.out] | rw [Hb10.out]); replace E := E.trans he; clear he; have k1 := (HB1.out.ext E).cell; have k2 := (HB2.out.ext E).cell)
    | (go_at_call 159; refine (sorted159 ((R1.out.ext E0).ext E) (by omega) (fun k hk => HG.out k hk)).mono ?_; rintro e w' ⟨rfl, he⟩; rw [show anyTo (dn x.c) (x.cn - 1) = _ from Hb11.out]; replace E := E.trans he; clear he; have k1 := (HB1.out.ext E).cell; have k2 := (HB2.out.ext E).cell))
            go_ret
            refine ⟨ret_int ?_, E0.trans E⟩
            simp [P.chk, P.mny, P.rng, Hb1.out, Hb2.out, Hb5.out, Hb6.out, Hb7.out, Hb8.out, Hb9.out, Hb10.out, Hb11.out] <;> omega
          ·have Hb10 := hid hb10
           clear hb10
           go_wp2_with (first
    | (go_at_call 150; refine (in_any _ _ _ _).mono ?_; rintro e w' ⟨rfl, rfl⟩; first | rw [Hb1.out] | rw [Hb2.out] | rw [Hb5.out] | rw [Hb6.out])
    | (go_at_call 151; refine (every151 ((R1.out.ext E0).ext E) (by omega) (asks1 (BX.out _ E))).mono ?_; rintro e w' ⟨rfl, he⟩; rw [Hb7.out]; replace E := E.trans he; clear he; have k1 := (HB1.out.ext E).cell; have k2 := (HB2.out.ext E).cell)
    | (go_at_call 154; refine (every154 ((R2.out.ext E0).ext E) (by omega) (asks2 (BX.out _ E))).mono ?_; rintro e w' ⟨rfl, he⟩; rw [Hb8.out]; replace E := E.trans he; clear he; have k1 := (HB1.out.ext E).cell; have k2 := (HB2.out.ext E).cell)
    | (go_at_call 156; refine (every156 ((R3.out.ext E0).ext E) (by omega) (by first | with_reducible exact asks3 (BX.out _ E) | exact asks4 ((HV.out.ext E0).ext E) (HB2.out.ext E))).mono ?_; rintro e w' ⟨rfl, he⟩; (first | rw [Hb9.out] | rw [Hb10.out]); replace E := E.trans he; clear he; have k1 := (HB1.out.ext E).cell; have k2 := (HB2.out.ext E).cell))
           go_ret
           refine ⟨ret_int ?_, E0.trans E⟩
           simp [P.chk, P.mny, P.rng, Hb1.out, Hb2.out, Hb5.out, Hb6.out, Hb7.out, Hb8.out, Hb9.out, Hb10.out] <;> omega
         ·have Hb9 := hid hb9
          clear hb9
          go_wp2_with (first
    | (go_at_call 150; refine (in_any _ _ _ _).mono ?_; rintro e w' ⟨rfl, rfl⟩; first | rw [Hb1.out] | rw [Hb2.out] | rw [Hb5.out] | rw [Hb6.out])
    | (go_at_call 151; refine (every151 ((R1.out.ext E0).ext E) (by omega) (asks1 (BX.out _ E))).mono ?_; rintro e w' ⟨rfl, he⟩; rw [Hb7.out]; replace E := E.trans he; clear he; have k1 := (HB1.out.ext E).cell; have k2 := (HB2.out.ext E).cell)
    | (go_at_call 154; refine (every154 ((R2.out.ext E0).ext E) (by omega) (asks2 (BX.out _ E))).mono ?_; rintro e w' ⟨rfl, he⟩; rw [Hb8.out]; replace E := E.trans he; clear he; have k1 := (HB1.out.ext E).cell; have k2 := (HB2.out.ext E).cell)
    | (go_at_call 156; refine (every156 ((R3.out.ext E0).ext E) (by omega) (by first | with_reducible exact asks3 (BX.out _ E))).mono ?_; rintro e w' ⟨rfl, he⟩; (first | rw [Hb9.out]); replace E := E.trans he; clear he; have k1 := (HB1.out.ext E).cell; have k2 := (HB2.out.ext E).cell))
          go_ret
          refine ⟨ret_int ?_, E0.trans E⟩
          simp [P.chk, P.mny, P.rng, Hb1.out, Hb2.out, Hb5.out, Hb6.out, Hb7.out, Hb8.out, Hb9.out] <;> omega
        ·have Hb8 := hid hb8
         clear hb8
         go_wp2_with (first
    | (go_at_call 150; refine (in_any _ _ _ _).mono ?_; rintro e w' ⟨rfl, rfl⟩; first | rw [Hb1.out] | rw [Hb2.out] | rw [Hb5.out] | rw [Hb6.out])
    | (go_at_call 151; refine (every151 ((R1.out.ext E0).ext E) (by omega) (asks1 (BX.out _ E))).mono ?_; rintro e w' ⟨rfl, he⟩; rw [Hb7.out]; replace E := E.trans he; clear he; have k1 := (HB1.out.ext E).cell; have k2 := (HB2.out.ext E).cell)
    | (go_at_call 154; refine (every154 ((R2.out.ext E0).ext E) (by omega) (asks2 (BX.out _ E))).mono ?_; rintro e w' ⟨rfl, he⟩; rw [Hb8.out]; replace E := E.trans he; clear he; have k1 := (HB1.out.ext E).cell; have k2 := (HB2.out.ext E).cell))
         go_ret
         refine ⟨ret_int ?_, E0.trans E⟩
         simp [P.chk, P.mny, P.rng, Hb1.out, Hb2.out, Hb5.out, Hb6.out, Hb7.out, Hb8.out] <;> omega
       ·have Hb7 := hid hb7
        clear hb7
        go_wp2_with (first
    | (go_at_call 150; refine (in_any _ _ _ _).mono ?_; rintro e w' ⟨rfl, rfl⟩; first | rw [Hb1.out] | rw [Hb2.out] | rw [Hb5.out] | rw [Hb6.out])
    | (go_at_call 151; refine (every151 ((R1.out.ext E0).ext E) (by omega) (asks1 (BX.out _ E))).mono ?_; rintro e w' ⟨rfl, he⟩; rw [Hb7.out]; replace E := E.trans he; clear he; have k1 := (HB1.out.ext E).cell; have k2 := (HB2.out.ext E).cell))
        go_ret
        refine ⟨ret_int ?_, E0.trans E⟩
        simp [P.chk, P.mny, P.rng, Hb1.out, Hb2.out, Hb5.out, Hb6.out, Hb7.out] <;> omega
    ·have Hb4 := hid hb4
     clear hb4
     have qb4 : (12:Int) < x.sn := by have := Hb4.out; simp at this; omega
     go_wp2_with (first
    | (go_at_call 150; refine (in_any _ _ _ _).mono ?_; rintro e w' ⟨rfl, rfl⟩; first | rw [Hb1.out] | rw [Hb2.out]))
     go_ret
     refine ⟨ret_int ?_, E0.trans E⟩
     simp [P.chk, P.mny, P.rng, Hb1.out, Hb2.out] <;> omega
   ·have Hb3 := hid hb3
    clear hb3
    have qb3 : (10:Int) < x.bn := by have := Hb3.out; simp at this; omega
    go_wp2_with (first
    | (go_at_call 150; refine (in_any _ _ _ _).mono ?_; rintro e w' ⟨rfl, rfl⟩; first | rw [Hb1.out] | rw [Hb2.out]))
    go_ret
    refine ⟨ret_int ?_, E0.trans E⟩
    simp [P.chk, P.mny, P.rng, Hb1.out, Hb2.out] <;> omega
end Go.Proofs.YtkhjmedfhobebaaGreat
