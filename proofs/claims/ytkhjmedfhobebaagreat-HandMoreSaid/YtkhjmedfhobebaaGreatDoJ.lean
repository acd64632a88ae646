/- Walks of what the program finds about hands. No condition. -/
import Derived.Test.YtkhjmedfhobebaaGreatWork
import Derived.Test.YtkhjmedfhobebaaGreatSpec
import Derived.Test.YtkhjmedfhobebaaGreatDoF
namespace HandSpec
theorem Ok.of_chk {x : WD} (h : P.chk x = 0) : Ok x := by
 have h1 : P.mny x = false := by
  cases q : P.mny x
  ·rfl
  ·simp [P.chk, q] at h
 have h2 : P.rng x = false := by
  cases q : P.rng x
  ·rfl
  ·simp [P.chk, h1, q] at h
 have h3 : anyTo (fun k => !P.cOk x k) x.cn = false := by
  cases q : anyTo (fun k => !P.cOk x k) x.cn
  ·rfl
  ·simp [P.chk, h1, h2, q] at h
 have h4 : anyTo (fun k => !P.bOk x k) x.bn = false := by
  cases q : anyTo (fun k => !P.bOk x k) x.bn
  ·rfl
  ·simp [P.chk, h1, h2, h3, q] at h
 have h5 : anyTo (fun k => !P.sOk x k) x.sn = false := by
  cases q : anyTo (fun k => !P.sOk x k) x.sn
  ·rfl
  ·simp [P.chk, h1, h2, h3, h4, q] at h
 have h6 : anyTo (fun k => !P.hOk x k) x.sn = false := by
  cases q : anyTo (fun k => !P.hOk x k) x.sn
  ·rfl
  ·simp [P.chk, h1, h2, h3, h4, h5, q] at h
 have h7 : anyTo (fun k => decide (x.c (k+1) 0 < x.c k 0)) (x.cn - 1) = false := by
  cases q : anyTo (fun k => decide (x.c (k+1) 0 < x.c k 0)) (x.cn - 1)
  ·rfl
  ·simp [P.chk, h1, h2, h3, h4, h5, h6, q] at h
 have h8 : anyTo (fun k => x.c (k+1) 0 == x.c k 0) (x.cn - 1) = false := by
  cases q : anyTo (fun k => x.c (k+1) 0 == x.c k 0) (x.cn - 1)
  ·rfl
  ·simp [P.chk, h1, h2, h3, h4, h5, h6, h7, q] at h
 have h9 : (anyTo (fun k => !P.lhOk x k) x.cn || anyTo (fun k => !P.ftOk x k) x.sn) = false := by
  cases q : (anyTo (fun k => !P.lhOk x k) x.cn || anyTo (fun k => !P.ftOk x k) x.sn)
  ·rfl
  ·simp only [P.chk, h1, h2, h3, h4, h5, h6, h7, h8, q] at h
   simp at h
 rw [Bool.or_eq_false_iff] at h9
 simp [P.mny, inB] at h1
 simp [P.rng, inB] at h2
 rw [anyTo_false] at h3 h4 h5 h6 h7 h8
 have h10 := anyTo_false.1 h9.1
 have h11 := anyTo_false.1 h9.2
 have c3 : ∀ k, k < x.cn → (0 ≤ x.c k 0 ∧ x.c k 0 ≤ x.hours) ∧ (0 ≤ x.c k 1 ∧ x.c k 1 ≤ 500) ∧ (0 ≤ x.c k 2 ∧ x.c k 2 ≤ 500) := fun k hk => by
  have := h3 k hk
  simp [P.cOk, inB] at this
  omega
 have c4 : ∀ k, k < x.bn → (0 ≤ x.b k 0 ∧ x.b k 0 ≤ x.hours) ∧ (-200 ≤ x.b k 1 ∧ x.b k 1 ≤ 200) ∧ x.b k 1 ≠ 0 := fun k hk => by
  have := h4 k hk
  simp [P.bOk, inB] at this
  omega
 have c5 : ∀ k, k < x.sn → (0 ≤ x.s k 1 ∧ x.s k 1 ≤ x.hours) ∧ (0 ≤ x.s k 2 ∧ x.s k 2 ≤ x.hours) := fun k hk => by
  have := h5 k hk
  simp [P.sOk, inB] at this
  omega
 have c6 : ∀ k, k < x.sn → 0 ≤ x.s k 0 ∧ x.s k 0 ≤ x.hands - 1 := fun k hk => by
  have := h6 k hk
  rw [P.hOk, Go.IntWalk.wrap64_in _ (by omega)] at this
  simp [inB] at this
  omega
 refine ⟨by omega, by omega, by omega, by omega, by omega, by omega, fun k hk => (c3 k hk).1, fun k hk => (c3 k hk).2.1, fun k hk => (c3 k hk).2.2, fun k hk => (c4 k hk).1, fun k hk => (c4 k hk).2.1, c6, fun k hk => ?_, fun k hk => ?_, fun k hk => (c4 k hk).2.2, c5, fun k hk => ?_⟩
 ·have := h10 k hk
  simpa [P.lhOk] using this
 ·have a1 := h7 k (by omega)
  have a2 := h8 k (by omega)
  simp at a1 a2
  omega
 ·have := h11 k hk
  simpa [P.ftOk] using this
theorem R.there_empty {x : WD} (hx : Ok x) {a b : Nat} (hab : a < b) (hb : b < x.cn) : (R.there x a b).isEmpty = decide (P.th x a b = 0) := by
 rw [Bool.eq_iff_iff, decide_eq_true_eq, List.isEmpty_iff]
 unfold R.there
 rw [List.filter_eq_nil_iff]
 constructor
 ·intro h
  refine Nat.eq_of_testBit_eq fun i => ?_
  rw [Nat.zero_testBit]
  by_cases hi : i < x.hands.toNat
  ·have := h i (by simpa using hi)
   rw [← P.th_bit hx hab hb] at this
   simpa using this
  ·exact Nat.testBit_lt_two_pow (Nat.lt_of_lt_of_le (P.th_lt' hx a b) (Nat.pow_le_pow_right (by omega) (by omega)))
 ·intro h i _
  rw [← P.th_bit hx hab hb, h]
  simp
theorem pairsTo_more (i q : Nat) : ∀ d, ∃ r, pairsTo (q + d) i = pairsTo q i ++ r
 | 0 => ⟨[], by simp⟩
 | d+1 => by
  obtain ⟨r, hr⟩ := pairsTo_more i q d
  exact ⟨_, by rw [← Nat.add_assoc, pairsTo_succ, hr, List.append_assoc]⟩
theorem stretchesTo_more (n i : Nat) : ∀ d, ∃ r, stretchesTo n (i + d) = stretchesTo n i ++ r
 | 0 => ⟨[], by simp⟩
 | d+1 => by
  obtain ⟨r, hr⟩ := stretchesTo_more n i d
  exact ⟨_, by rw [← Nat.add_assoc, stretchesTo_succ, hr, List.append_assoc]⟩
theorem stretches_at {n i q : Nat} (h1 : i < q) (h2 : q < n) : ∃ r, stretches n = (stretchesTo n i ++ pairsTo q i) ++ (i, q) :: r := by
 obtain ⟨d, rfl⟩ := Nat.le.dest (show q + 1 ≤ n by omega)
 obtain ⟨r1, hr1⟩ := pairsTo_more i (q + 1) d
 obtain ⟨e, he⟩ := Nat.le.dest (show i + 1 ≤ q + 1 + d by omega)
 obtain ⟨r2, hr2⟩ := stretchesTo_more (q + 1 + d) (i + 1) e
 refine ⟨r1 ++ r2, ?_⟩
 show stretchesTo (q + 1 + d) (q + 1 + d) = _
 conv => lhs; arg 2; rw [← he]
 rw [hr2, stretchesTo_succ, hr1, pairsTo_succ, if_pos h1]
 simp
theorem find_at {n i q : Nat} {f : Nat × Nat → Bool} (h1 : i < q) (h2 : q < n) (h : ∀ p, p ∈ stretchesTo n i ++ pairsTo q i → f p = false) (hf : f (i, q) = true) : (stretches n).find? f = some (i, q) := by
 obtain ⟨r, hr⟩ := stretches_at h1 h2
 rw [hr, List.find?_append, List.find?_eq_none.2 (fun p hp => by simp [h p hp])]
 simp [hf]
namespace P
/-- The error of a watch that is told. -/
def toldE (x : WD) (bad : Bool) : Int := if P.chk x ≠ 0 then P.chk x else if bad then 1 else if (R.clashes x).isSome then 7 else 0
theorem toldE_ok {x : WD} {bad : Bool} (h : toldE x bad = 0) : P.chk x = 0 ∧ bad = false ∧ (R.clashes x).isSome = false := by
 unfold toldE at h
 by_cases h1 : P.chk x = 0
 ·cases bad
  ·cases h2 : (R.clashes x).isSome
   ·exact ⟨h1, rfl, rfl⟩
   ·simp [h1, h2] at h
  ·simp [h1] at h
 ·simp [h1] at h
/-- The error of a stretch. -/
def strE (x : WD) (a b : Int) : Int := if P.chk x ≠ 0 then P.chk x else if !inB a 0 (x.cn - 1) || !inB b 0 (x.cn - 1) then 1 else if b ≤ a then 4 else 0
end P
end HandSpec
namespace Go.Proofs.YtkhjmedfhobebaaGreat
open Go.RowKit HandSpec
set_option maxHeartbeats 800000
set_option maxRecDepth 100000

theorem opened_bad {x : WD} {w : World} {v : Value} (hv : IsW w v x) (h1 : x.cn ≤ 1000) (h2 : x.bn ≤ 1000) (h3 : x.sn ≤ 1000) (hc : P.chk x ≠ 0) :
  Calls Tryz.prog 136 #[v] w fun e w' => e = .returned (.tuple #[.pointer none, .int .i64 (P.chk x)]) ∧ Ext w w' := by
 have HV := hid hv
 obtain ⟨A1, c1, A2, c2, A3, c3, rfl, r1, r2, r3⟩ := hv
 clear r1 r2 r3
 have hb : (P.chk x == 0) = false := by simpa using hc
 go_enter Tryz.func136, Tryz.ntmps136
 go_wp2_with (go_at_call 54; refine (check_any (HV.out.ext (Ext.alloc (Ext.refl _) _)) h1 h2 h3).mono ?_; rintro e w1 ⟨rfl, he⟩)
 go_ret2
 exact ⟨rfl, ((Ext.refl _).alloc _).trans he⟩
theorem opened_ok {x : WD} {w : World} {v : Value} (hv : IsW w v x) (h1 : x.cn ≤ 1000) (h2 : x.bn ≤ 1000) (h3 : x.sn ≤ 1000) (hc : P.chk x = 0) :
  Calls Tryz.prog 136 #[v] w fun e w' => ∃ u, e = .returned (.tuple #[u, .int .i64 0]) ∧ Ext w w' ∧ IsD w' u x := by
 have HV := hid hv
 obtain ⟨A1, c1, A2, c2, A3, c3, rfl, r1, r2, r3⟩ := hv
 clear r1 r2 r3
 have hx := Ok.of_chk hc
 have HC := hid hc
 clear hc
 go_enter Tryz.func136, Tryz.ntmps136
 go_wp2_with (first
  | (go_at_call 54; refine (check_any (HV.out.ext (Ext.alloc (Ext.refl _) _)) h1 h2 h3).mono ?_; rintro e w1 ⟨rfl, he⟩; rw [HC.out]; obtain ⟨he, hb⟩ := he.newB; have k := hb.cell; have kl := hb.lt)
  | (go_at_call 203; refine (worked_any hx (HV.out.ext he)).mono ?_; rintro e w2 ⟨u, rfl, he2, hu⟩))
 go_ret2
 exact ⟨u, rfl, he.trans he2, hu⟩
theorem clashesP_any {x : WD} (hx : Ok x) {w : World} {v : Value} (hv : IsD w v x) :
  Calls Tryz.prog 145 #[v] w fun e w' => e = .returned (.tuple #[.agg #[.int .i64 (((R.clashes x).getD (0, 0)).1 : Int), .int .i64 (((R.clashes x).getD (0, 0)).2 : Int)], .bool (R.clashes x).isSome]) ∧ Ext w w' := by
 have hv0 := hid hv
 obtain ⟨db, A1, c1, A2, c2, A3, c3, mb, L, rfl, hk, r1, -, -, hm, hl⟩ := hv
 have hcn := hx.cn
 have HL := hid hl
 have HG : Hid (R.clashes x = (stretches x.cn).find? (R.clashB x)) := hid rfl
 have hdb := hk.lt
 clear hl
 have k0 := hk.cell
 go_enter Tryz.func145, Tryz.ntmps145
 go_wp2
 go_step3
 go_wp2
 go_step3
 go_wp2
 refine wp_later fun w1 hw1 => ?_
 obtain ⟨he, hb2, hb4⟩ := hw1.newB2
 clear k0 hw1
 have hs1 := he.size
 have b2l := hb2.lt
 have b4l := hb4.lt
 go_loopw [5, 16] (fun f i wr => ∃ k : Nat, k ≤ x.cn ∧ i = .int .i64 (k : Int) ∧ f = .bool false ∧ Hid (∀ p, p ∈ stretchesTo x.cn k → R.clashB x p = false) ∧ Ext w1 wr) (fun _ i _ => x.cn - (intOf i).toNat)
 case atStart => exact ⟨0, Nat.zero_le _, rfl, rfl, fun p hp => by simp [stretchesTo] at hp, Ext.refl _⟩
 case round =>
  obtain ⟨i, hi, rfl, rfl, hp, he1⟩ := hrel
  by_cases hlt : i < x.cn
  ·obtain ⟨wo, rfl⟩ : ∃ wo : World, wo = wr := ⟨_, rfl⟩
   obtain ⟨cb, co, rfl, hcb, a0, a1, a2⟩ := ((r1.ext he).ext he1).at3 hlt
   have R1 := hid r1
   clear r1
   go_wp2
   refine wp_later fun w2 hw2 => ?_
   obtain ⟨he2, hb7⟩ := hw2.newB
   clear hw2 a0 a1 a2
   go_loopw [5, 8] (fun f kk wr => ∃ k : Nat, i < k ∧ k ≤ x.cn ∧ kk = .int .i64 (k : Int) ∧ f = .bool false ∧ Hid (∀ p, p ∈ stretchesTo x.cn i ++ pairsTo k i → R.clashB x p = false) ∧ Ext w2 wr) (fun _ kk _ => x.cn - (intOf kk).toNat)
   case atStart => exact ⟨i + 1, by omega, by omega, rfl, rfl, by rw [pairsTo_empty i (i+1) (by omega)]; simpa using hp, Ext.refl _⟩
   case round =>
    obtain ⟨k, hik, hk', rfl, rfl, hp2, he3⟩ := hrel
    have HK := hid ((((hk.ext he).ext he1).ext he2).ext he3)
    have kd := HK.out.cell
    have kdl := HK.out.lt
    by_cases hks : k < x.cn
    ·go_upto_region 10 with fail
     refine wp_later fun w4 hw4 => ?_
     obtain ⟨he4, hb9⟩ := hw4.newB
     clear kd kdl hw4
     have E4 := hid (((he.trans he1).trans (he2.trans he3)).trans he4)
     have kd := (hk.ext E4.out).cell
     have kdl := (hk.ext E4.out).lt
     have k9 := hb9.cell
     have k9l := hb9.lt
     have k7 := ((hb7.ext he3).ext he4).cell
     have k7l := ((hb7.ext he3).ext he4).lt
     have R4 := R1.out.ext E4.out
     obtain ⟨_, _, hq, hcb4, b0, b1, b2⟩ := R4.at3 hks
     obtain ⟨rfl, rfl⟩ := same_addr hq rfl
     clear R4 hq
     have hbk : Hid (P.books x i k = R.booked x i k) := hid (P.books_eq hx (Nat.le_of_lt hik) hks)
     have hgp : Hid (P.gap x i k = R.gap x i k) := hid (P.gap_eq hx (Nat.le_of_lt hik) hks)
     have hte := hid (R.there_empty hx hik hks)
     have bb : -16000 ≤ P.books x i k ∧ P.books x i k ≤ 16000 := P.books_bound hx i (k - i) (by omega)
     have hhi := hx.hi i hlt
     have hlo := hx.lo k hks
     have D4 := hid (hv0.out.ext E4.out)
     have hlk : ∀ n : Later w4, (Instr.lookup 187 (.map (some mb)) (.agg #[.int .i64 (i : Int), .int .i64 (k : Int)]) false).run Tryz.prog n.at_ = .ok (.int .i64 (P.th x i k : Int)) n.at_ := fun n => by
      rw [lookup_run (hm.ext (E4.out.trans n.ok)), HL.out i k hik hks]
     by_cases q1 : x.c i 2 + P.books x i k < x.c k 1
     ·have e1 : decide (x.c i 2 + P.books x i k < x.c k 1) = true := by simpa using q1
      have HB : Hid (R.clashB x (i, k) = true) := hid (by simp only [R.clashB]; rw [← hbk.out, e1]; rfl)
      refine wp_region_later (by kernel_rfl) (by kernel_rfl) ?_
      repeat (go_big_quiet_step ((first | (go_at_call 147; exact Calls.later (books_any hx (D4.out.ext (Later.ext _)) i k (Nat.le_of_lt hik) hks)) | (go_at_call 138; exact Calls.later (gapP_any hx (D4.out.ext (Later.ext _)) i k (Nat.le_of_lt hik) hks)))))
      refine wpQuiet_nil ?_
      rintro _ ⟨⟨w5, he5⟩, rfl⟩
      have k9 := (hb9.ext he5).cell
      have k9l := (hb9.ext he5).lt
      have k4 := ((hb4.ext ((he1.trans he2).trans (he3.trans he4))).ext he5).cell
      have f4 := ((hb4.ext ((he1.trans he2).trans (he3.trans he4))).ext he5).frozen
      have k4l := ((hb4.ext ((he1.trans he2).trans (he3.trans he4))).ext he5).lt
      have k2 := ((hb2.ext ((he1.trans he2).trans (he3.trans he4))).ext he5).cell
      have f2 := ((hb2.ext ((he1.trans he2).trans (he3.trans he4))).ext he5).frozen
      have k2l := ((hb2.ext ((he1.trans he2).trans (he3.trans he4))).ext he5).lt
      have hcl : R.clashes x = some (i, k) := by rw [HG.out]; exact find_at hik hks (fun p hp => hp2.out p hp) HB.out
      have HCL := hid hcl
      clear hcl
      go_wp2
      try rw [Exit.noGoto_ret]
      exact bodyPost_ret (v := .tuple #[.agg #[.int .i64 (i : Int), .int .i64 (k : Int)], .bool true]) (by simp [results, Tryz.results145, go_sem, k2]) rfl ⟨by rw [HCL.out]; rfl, ((((E4.out.trans he5).setCell _ (by simp)).setCell _ (by simp)).setCell _ (by simp)).setCell _ (by simp)⟩
     ·have e1 : decide (x.c i 2 + P.books x i k < x.c k 1) = false := by simpa using q1
      by_cases q2 : 0 < P.gap x i k
      ·have e2 : decide (0 < P.gap x i k) = true := by simpa using q2
       by_cases q3 : P.th x i k = 0
       ·have e3 : ((P.th x i k : Int) == 0) = true := by simp [q3]
        have HB : Hid (R.clashB x (i, k) = true) := hid (by simp only [R.clashB]; rw [← hbk.out, ← hgp.out, hte.out, e1, e2]; simp [q3])
        clear q3
        refine wp_region_later (by kernel_rfl) (by kernel_rfl) ?_
        repeat (go_big_quiet_step ((first | (go_at_call 147; exact Calls.later (books_any hx (D4.out.ext (Later.ext _)) i k (Nat.le_of_lt hik) hks)) | (go_at_call 138; exact Calls.later (gapP_any hx (D4.out.ext (Later.ext _)) i k (Nat.le_of_lt hik) hks)))))
        refine wpQuiet_nil ?_
        rintro _ ⟨⟨w5, he5⟩, rfl⟩
        have k9 := (hb9.ext he5).cell
        have k9l := (hb9.ext he5).lt
        have k4 := ((hb4.ext ((he1.trans he2).trans (he3.trans he4))).ext he5).cell
        have f4 := ((hb4.ext ((he1.trans he2).trans (he3.trans he4))).ext he5).frozen
        have k4l := ((hb4.ext ((he1.trans he2).trans (he3.trans he4))).ext he5).lt
        have k2 := ((hb2.ext ((he1.trans he2).trans (he3.trans he4))).ext he5).cell
        have f2 := ((hb2.ext ((he1.trans he2).trans (he3.trans he4))).ext he5).frozen
        have k2l := ((hb2.ext ((he1.trans he2).trans (he3.trans he4))).ext he5).lt
        have hcl : R.clashes x = some (i, k) := by rw [HG.out]; exact find_at hik hks (fun p hp => hp2.out p hp) HB.out
        have HCL := hid hcl
        clear hcl
        go_wp2
        try rw [Exit.noGoto_ret]
        exact bodyPost_ret (v := .tuple #[.agg #[.int .i64 (i : Int), .int .i64 (k : Int)], .bool true]) (by simp [results, Tryz.results145, go_sem, k2]) rfl ⟨by rw [HCL.out]; rfl, ((((E4.out.trans he5).setCell _ (by simp)).setCell _ (by simp)).setCell _ (by simp)).setCell _ (by simp)⟩
       ·have e3 : ((P.th x i k : Int) == 0) = false := by simp [q3]
        have HB : Hid (R.clashB x (i, k) = false) := hid (by simp only [R.clashB]; rw [← hbk.out, ← hgp.out, hte.out, e1, e2]; simp [q3])
        clear q3
        refine wp_region_later (by kernel_rfl) (by kernel_rfl) ?_
        repeat (go_big_quiet_step ((first | (go_at_call 147; exact Calls.later (books_any hx (D4.out.ext (Later.ext _)) i k (Nat.le_of_lt hik) hks)) | (go_at_call 138; exact Calls.later (gapP_any hx (D4.out.ext (Later.ext _)) i k (Nat.le_of_lt hik) hks)))))
        refine wpQuiet_nil ?_
        rintro _ ⟨⟨w5, he5⟩, rfl⟩
        go_wp2
        go_roundw
        case rel => exact ⟨k + 1, by omega, by omega, by go_num, rfl, hid fun p hp => by
         rw [pairsTo_succ, if_pos hik, ← List.append_assoc, List.mem_append, List.mem_singleton] at hp
         rcases hp with hp | rfl
         ·exact hp2.out p hp
         ·exact HB.out, he3.trans (he4.trans he5)⟩
        case measure => simp [intOf]; omega
      ·have e2 : decide (0 < P.gap x i k) = false := by simpa using q2
       have HB : Hid (R.clashB x (i, k) = false) := hid (by simp only [R.clashB]; rw [← hbk.out, ← hgp.out, e1, e2]; rfl)
       refine wp_region_later (by kernel_rfl) (by kernel_rfl) ?_
       repeat (go_big_quiet_step ((first | (go_at_call 147; exact Calls.later (books_any hx (D4.out.ext (Later.ext _)) i k (Nat.le_of_lt hik) hks)) | (go_at_call 138; exact Calls.later (gapP_any hx (D4.out.ext (Later.ext _)) i k (Nat.le_of_lt hik) hks)))))
       refine wpQuiet_nil ?_
       rintro _ ⟨⟨w5, he5⟩, rfl⟩
       go_wp2
       go_roundw
       case rel => exact ⟨k + 1, by omega, by omega, by go_num, rfl, hid fun p hp => by
        rw [pairsTo_succ, if_pos hik, ← List.append_assoc, List.mem_append, List.mem_singleton] at hp
        rcases hp with hp | rfl
        ·exact hp2.out p hp
        ·exact HB.out, he3.trans (he4.trans he5)⟩
       case measure => simp [intOf]; omega
    ·go_wp2
     go_roundw
     case rel =>
      obtain rfl : k = x.cn := by omega
      exact ⟨i + 1, by omega, by go_num, rfl, by rw [stretchesTo_succ]; exact hp2, he1.trans (he2.trans he3)⟩
     case measure => simp [intOf]; omega
  ·obtain rfl : i = x.cn := by omega
   have k4 := (hb4.ext he1).cell
   have k4l := (hb4.ext he1).lt
   have k2 := (hb2.ext he1).cell
   have f2 := (hb2.ext he1).frozen
   have k2l := (hb2.ext he1).lt
   have hcl : R.clashes x = none := by
    rw [HG.out, List.find?_eq_none]
    intro p hq
    simp [hp.out p hq]
   have HCL := hid hcl
   clear hcl
   go_wp2
   try rw [Exit.noGoto_ret]
   exact bodyPost_ret (v := .tuple #[.agg #[.int .i64 0, .int .i64 0], .bool false]) (by simp [results, Tryz.results145, go_sem, k2]) rfl ⟨by rw [HCL.out]; rfl, ((he.trans he1).setCell _ (by simp)).setCell _ (by simp)⟩
end Go.Proofs.YtkhjmedfhobebaaGreat
namespace Go.Proofs.YtkhjmedfhobebaaGreat
open Go.RowKit HandSpec
set_option maxHeartbeats 800000
set_option maxRecDepth 100000
theorem told_err {x : WD} {w : World} {v : Value} (hv : IsW w v x) (h1 : x.cn ≤ 1000) (h2 : x.bn ≤ 1000) (h3 : x.sn ≤ 1000) (bad : Bool) (he : P.toldE x bad ≠ 0) :
  Calls Tryz.prog 120 #[v, .bool bad] w fun e w' => e = .returned (.tuple #[.pointer none, .int .i64 (P.toldE x bad)]) ∧ Ext w w' := by
 have HV := hid hv
 obtain ⟨A1, c1, A2, c2, A3, c3, rfl, r1, r2, r3⟩ := hv
 clear r1 r2 r3
 by_cases hc : P.chk x = 0
 ·have hx := Ok.of_chk hc
  have HC := hid hc
  cases bad
  ·cases hcl : (R.clashes x).isSome
   ·simp [P.toldE, hc, hcl] at he
   ·have HE : Hid (P.toldE x false = 7) := hid (by simp [P.toldE, hc, hcl])
    have HL := hid hcl
    clear hc he hcl
    go_enter Tryz.func120, Tryz.ntmps120
    go_wp2_with (first
     | (go_at_call 136; refine (opened_ok (HV.out.ext ((Ext.refl _).alloc _)) h1 h2 h3 HC.out).mono ?_; rintro e w1 ⟨u, rfl, he1, hu⟩; have hs1 := he1.size; obtain ⟨he1, hb⟩ := he1.newB; have HU := hid hu; clear hu)
     | (go_at_call 145; refine (clashesP_any hx HU.out).mono ?_; rintro e w2 ⟨rfl, he2⟩; rw [HL.out]))
    go_ret2
    rw [HE.out]
    exact ⟨rfl, he1.trans (he2.alloc _)⟩
  ·have HE : Hid (P.toldE x true = 1) := hid (by simp [P.toldE, hc])
   clear hc he
   go_enter Tryz.func120, Tryz.ntmps120
   go_wp2_with (first
     | (go_at_call 136; refine (opened_ok (HV.out.ext ((Ext.refl _).alloc _)) h1 h2 h3 HC.out).mono ?_; rintro e w1 ⟨u, rfl, he1, hu⟩; obtain ⟨he1, hb⟩ := he1.newB; have HU := hid hu; clear hu))
   go_ret2
   rw [HE.out]
   exact ⟨rfl, he1⟩
 ·have HC := hid hc
  have HE : Hid (P.toldE x bad = P.chk x) := hid (by simp [P.toldE, hc])
  have hne : (P.chk x == 0) = false := by simpa using hc
  clear hc he
  go_enter Tryz.func120, Tryz.ntmps120
  go_wp2_with (go_at_call 136; refine (opened_bad (HV.out.ext ((Ext.refl _).alloc _)) h1 h2 h3 HC.out).mono ?_; rintro e w1 ⟨rfl, he1⟩; obtain ⟨he1, hb⟩ := he1.newB)
  go_ret2
  rw [HE.out]
  exact ⟨rfl, he1⟩
theorem told_ok {x : WD} {w : World} {v : Value} (hv : IsW w v x) (h1 : x.cn ≤ 1000) (h2 : x.bn ≤ 1000) (h3 : x.sn ≤ 1000) (bad : Bool) (he : P.toldE x bad = 0) :
  Calls Tryz.prog 120 #[v, .bool bad] w fun e w' => ∃ u, e = .returned (.tuple #[u, .int .i64 0]) ∧ Ext w w' ∧ IsD w' u x := by
 have HV := hid hv
 obtain ⟨A1, c1, A2, c2, A3, c3, rfl, r1, r2, r3⟩ := hv
 clear r1 r2 r3
 obtain ⟨hc, rfl, hcl⟩ := P.toldE_ok he
 have hx := Ok.of_chk hc
 have HC := hid hc
 have HL := hid hcl
 clear hc he hcl
 go_enter Tryz.func120, Tryz.ntmps120
 go_wp2_with (first
  | (go_at_call 136; refine (opened_ok (HV.out.ext ((Ext.refl _).alloc _)) h1 h2 h3 HC.out).mono ?_; rintro e w1 ⟨u, rfl, he1, hu⟩; obtain ⟨he1, hb⟩ := he1.newB; have HU := hid hu; clear hu)
  | (go_at_call 145; refine (clashesP_any hx HU.out).mono ?_; rintro e w2 ⟨rfl, he2⟩; rw [HL.out]))
 go_ret2
 exact ⟨_, rfl, he1.trans (he2.alloc _), HU.out.ext (he2.alloc _)⟩
theorem str_err {x : WD} {w : World} {v : Value} (hv : IsW w v x) (h1 : x.cn ≤ 1000) (h2 : x.bn ≤ 1000) (h3 : x.sn ≤ 1000) (a b : Int) (he : P.strE x a b ≠ 0) :
  Calls Tryz.prog 137 #[v, .agg #[.int .i64 a, .int .i64 b]] w fun e w' => e = .returned (.tuple #[.pointer none, .int .i64 (P.strE x a b)]) ∧ Ext w w' := by
 have HV := hid hv
 obtain ⟨A1, c1, A2, c2, A3, c3, rfl, r1, r2, r3⟩ := hv
 clear r1 r2 r3
 by_cases hc : P.chk x = 0
 ·have HC := hid hc
  cases ha : inB a 0 (x.cn - 1)
  ·have Ha := hid ha
   have HE : Hid (P.strE x a b = 1) := hid (by simp [P.strE, hc, ha])
   clear hc he ha
   go_enter Tryz.func137, Tryz.ntmps137
   go_upto_region 1 with fail
   refine wp_later fun w1 hw1 => ?_
   obtain ⟨E0, B1, B2⟩ := hw1.newB2
   have k1 := B1.cell
   have k1l := B1.lt
   clear hw1
   go_wp2_with (first
    | (go_at_call 136; refine (opened_ok (HV.out.ext E0) h1 h2 h3 HC.out).mono ?_; rintro e w2 ⟨u, rfl, he2, hu⟩; have E := hid he2; have HU := hid hu; clear hu; have k1 := (B1.ext E.out).cell; have k1l := (B1.ext E.out).lt; have k2 := (B2.ext E.out).cell; have k2l := (B2.ext E.out).lt)
    | (go_at_call 146; refine (count_any (HV.out.ext (E0.trans E.out)) h1 _).mono ?_; rintro e w3 ⟨rfl, he3⟩; (first | rw [Ha.out] | rw [Hb.out]); have HU := hid (HU.out.ext he3); have E := hid (E.out.trans he3); have k1 := (B1.ext E.out).cell; have k1l := (B1.ext E.out).lt; have k2 := (B2.ext E.out).cell; have k2l := (B2.ext E.out).lt))
   go_ret2
   rw [HE.out]
   exact ⟨rfl, E0.trans E.out⟩
  ·cases hb : inB b 0 (x.cn - 1)
   ·have Ha := hid ha
    have Hb := hid hb
    have HE : Hid (P.strE x a b = 1) := hid (by simp [P.strE, hc, hb])
    clear hc he ha hb
    go_enter Tryz.func137, Tryz.ntmps137
    go_upto_region 1 with fail
    refine wp_later fun w1 hw1 => ?_
    obtain ⟨E0, B1, B2⟩ := hw1.newB2
    have k1 := B1.cell
    have k1l := B1.lt
    clear hw1
    go_wp2_with (first
     | (go_at_call 136; refine (opened_ok (HV.out.ext E0) h1 h2 h3 HC.out).mono ?_; rintro e w2 ⟨u, rfl, he2, hu⟩; have E := hid he2; have HU := hid hu; clear hu; have k1 := (B1.ext E.out).cell; have k1l := (B1.ext E.out).lt; have k2 := (B2.ext E.out).cell; have k2l := (B2.ext E.out).lt)
     | (go_at_call 146; refine (count_any (HV.out.ext (E0.trans E.out)) h1 _).mono ?_; rintro e w3 ⟨rfl, he3⟩; (first | rw [Ha.out] | rw [Hb.out]); have HU := hid (HU.out.ext he3); have E := hid (E.out.trans he3); have k1 := (B1.ext E.out).cell; have k1l := (B1.ext E.out).lt; have k2 := (B2.ext E.out).cell; have k2l := (B2.ext E.out).lt))
    go_ret2
    rw [HE.out]
    exact ⟨rfl, E0.trans E.out⟩
   ·have Ha := hid ha
    have Hb := hid hb
    by_cases hba : b ≤ a
    ·have HE : Hid (P.strE x a b = 4) := hid (by simp [P.strE, hc, ha, hb, hba])
     clear hc he ha hb
     go_enter Tryz.func137, Tryz.ntmps137
     go_upto_region 1 with fail
     refine wp_later fun w1 hw1 => ?_
     obtain ⟨E0, B1, B2⟩ := hw1.newB2
     have k1 := B1.cell
     have k1l := B1.lt
     clear hw1
     go_wp2_with (first
      | (go_at_call 136; refine (opened_ok (HV.out.ext E0) h1 h2 h3 HC.out).mono ?_; rintro e w2 ⟨u, rfl, he2, hu⟩; have E := hid he2; have HU := hid hu; clear hu; have k1 := (B1.ext E.out).cell; have k1l := (B1.ext E.out).lt; have k2 := (B2.ext E.out).cell; have k2l := (B2.ext E.out).lt)
      | (go_at_call 146; refine (count_any (HV.out.ext (E0.trans E.out)) h1 _).mono ?_; rintro e w3 ⟨rfl, he3⟩; (first | rw [Ha.out] | rw [Hb.out]); have HU := hid (HU.out.ext he3); have E := hid (E.out.trans he3); have k1 := (B1.ext E.out).cell; have k1l := (B1.ext E.out).lt; have k2 := (B2.ext E.out).cell; have k2l := (B2.ext E.out).lt))
     go_ret2
     rw [HE.out]
     exact ⟨rfl, E0.trans E.out⟩
    ·exact absurd (by simp [P.strE, hc, ha, hb, hba]) he
 ·have HC := hid hc
  have HE : Hid (P.strE x a b = P.chk x) := hid (by simp [P.strE, hc])
  have hne : (P.chk x == 0) = false := by simpa using hc
  clear hc he
  go_enter Tryz.func137, Tryz.ntmps137
  go_upto_region 1 with fail
  refine wp_later fun w1 hw1 => ?_
  obtain ⟨E0, B1, B2⟩ := hw1.newB2
  have k1 := B1.cell
  have k1l := B1.lt
  clear hw1
  go_wp2_with (go_at_call 136; refine (opened_bad (HV.out.ext E0) h1 h2 h3 HC.out).mono ?_; rintro e w1 ⟨rfl, he1⟩)
  go_ret2
  rw [HE.out]
  exact ⟨rfl, E0.trans he1⟩
theorem strE_ok {x : WD} {a b : Int} (h : P.strE x a b = 0) : P.chk x = 0 ∧ inB a 0 (x.cn - 1) = true ∧ inB b 0 (x.cn - 1) = true ∧ a < b := by
 unfold P.strE at h
 by_cases h1 : P.chk x = 0
 ·cases h2 : inB a 0 (x.cn - 1) <;> cases h3 : inB b 0 (x.cn - 1) <;> by_cases h4 : b ≤ a <;> simp [h1, h2, h3, h4] at h
  exact ⟨h1, rfl, rfl, by omega⟩
 ·simp [h1] at h
theorem str_ok {x : WD} {w : World} {v : Value} (hv : IsW w v x) (h1 : x.cn ≤ 1000) (h2 : x.bn ≤ 1000) (h3 : x.sn ≤ 1000) (a b : Int) (he : P.strE x a b = 0) :
  Calls Tryz.prog 137 #[v, .agg #[.int .i64 a, .int .i64 b]] w fun e w' => ∃ u, e = .returned (.tuple #[u, .int .i64 0]) ∧ Ext w w' ∧ IsD w' u x := by
 have HV := hid hv
 obtain ⟨A1, c1, A2, c2, A3, c3, rfl, r1, r2, r3⟩ := hv
 clear r1 r2 r3
 obtain ⟨hc, ha, hb, hab⟩ := strE_ok he
 have HC := hid hc
 have Ha := hid ha
 have Hb := hid hb
 have hba : ¬ b ≤ a := by omega
 clear hc he ha hb
 go_enter Tryz.func137, Tryz.ntmps137
 go_upto_region 1 with fail
 refine wp_later fun w1 hw1 => ?_
 obtain ⟨E0, B1, B2⟩ := hw1.newB2
 have k1 := B1.cell
 have k1l := B1.lt
 clear hw1
 go_wp2_with (first
  | (go_at_call 136; refine (opened_ok (HV.out.ext E0) h1 h2 h3 HC.out).mono ?_; rintro e w2 ⟨u, rfl, he2, hu⟩; have E := hid he2; have HU := hid hu; clear hu; have k1 := (B1.ext E.out).cell; have k1l := (B1.ext E.out).lt; have k2 := (B2.ext E.out).cell; have k2l := (B2.ext E.out).lt)
  | (go_at_call 146; refine (count_any (HV.out.ext (E0.trans E.out)) h1 _).mono ?_; rintro e w3 ⟨rfl, he3⟩; (first | rw [Ha.out] | rw [Hb.out]); have HU := hid (HU.out.ext he3); have E := hid (E.out.trans he3); have k1 := (B1.ext E.out).cell; have k1l := (B1.ext E.out).lt; have k2 := (B2.ext E.out).cell; have k2l := (B2.ext E.out).lt))
 go_ret2
 exact ⟨_, rfl, E0.trans E.out, HU.out⟩
end Go.Proofs.YtkhjmedfhobebaaGreat
