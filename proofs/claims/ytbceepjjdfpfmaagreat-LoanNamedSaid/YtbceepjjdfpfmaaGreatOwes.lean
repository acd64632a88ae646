/- What is owed and what is left, as the program tells. -/
import Derived.Test.YtbceepjjdfpfmaaGreatUntil
namespace Go.Proofs.YtbceepjjdfpfmaaGreat
open Go.RowKit HandSpec LoanSpec
attribute [local go_sem] Oper.semAt_some
set_option maxHeartbeats 4000000
set_option maxRecDepth 100000
/-- A ledger's box. -/
def ledC (x : LD) (p : LA) : Array Value := #[.int .i64 x.folk, .int .i64 x.years, .slice p.A1 x.bn p.c1, .slice p.A2 x.fn p.c2, .slice p.A3 x.ln p.c3, .slice p.A4 x.pn p.c4, .slice p.A5 x.mn p.c5]
theorem cnts99 {w0 w1 : World} {M : Nat → Prop} {g : Nat} {x : LD} {p : LA} (hl : IsLA w0 x p) {k1 k2 t1 t2 : Nat} {who : Int} (h1 : Blk w1 k1 t1 (ledC x p)) (m1 : ¬ M k1) (h2 : Blk w1 k2 t2 #[.int .i64 who]) (m2 : ¬ M k2) :
    Cnts w0 w1 M g x p (.func (.func 99) #[] #[.pointer (some ⟨k1, 0, none⟩), .pointer (some ⟨k2, 0, none⟩)]) (fun i => x.lo i 0 == who) := by
  refine ⟨_, _, rfl, enters_ Tryz.func99 (by kernel_rfl) rfl, fun i hi W hA => ?_⟩
  have k1c := (hA.blk h1 m1).cell
  have k1l := (hA.blk h1 m1).lt
  have k2c := (hA.blk h2 m2).cell
  have k2l := (hA.blk h2 m2).lt
  unfold ledC at k1c
  obtain ⟨A1, c1, A2, c2, A3, c3, A4, c4, A5, c5⟩ := p
  obtain ⟨ga, oa, hA3, hga, q0, q1, q2⟩ := (hl.r3.ext hA.e).at3 hi
  dsimp only at hA3
  subst hA3
  have hki : (i : Int) < (x.ln : Int) := by omega
  obtain ⟨z0, hz0⟩ : ∃ z, Hid (z = x.lo i 0) := ⟨_, hid rfl⟩
  rw [← hz0.out] at q0
  clear hA h1 h2 hl q1 q2
  go_enter Tryz.func99, Tryz.ntmps99
  go_upto_region 1 with fail
  refine wp_region_later (by kernel_rfl) (by kernel_rfl) ?_
  repeat (go_big_quiet_step (fail))
  refine wpQuiet_nil ?_
  rintro w2 ⟨⟨_, he2⟩, rfl⟩
  go_wp2
  go_ret
  exact ⟨ret_bool (by rw [← hz0.out]), he2⟩
theorem cnts117 {w0 w1 : World} {M : Nat → Prop} {g : Nat} {x : LD} {p : LA} {k1 t1 : Nat} {j : Nat} (h1 : Blk w1 k1 t1 #[.int .i64 (j : Int)]) (m1 : ¬ M k1) :
    Cnts w0 w1 M g x p (.func (.func 117) #[] #[.pointer (some ⟨k1, 0, none⟩)]) (fun i => i == j) := by
  refine ⟨_, _, rfl, enters_ Tryz.func117 (by kernel_rfl) rfl, fun i hi W hA => ?_⟩
  have k1c := (hA.blk h1 m1).cell
  have k1l := (hA.blk h1 m1).lt
  clear hA h1
  cases h : ((i : Int) == (j : Int))
  all_goals
    have H := hid h
    go_enter Tryz.func117, Tryz.ntmps117
    go_wp2
    go_ret
    exact ⟨ret_bool (by have := H.out; rw [Bool.eq_iff_iff] at this ⊢; simp at this ⊢; omega), Ext.refl _⟩
theorem cnts100 {w0 w1 : World} {M : Nat → Prop} {g : Nat} {x : LD} {p : LA} (hx : Ok x) (hbn : x.bn ≤ 1000) (hl : IsLA w0 x p) {k1 k2 k3 t1 t2 t3 : Nat} {who year : Int} (h1 : Blk w1 k1 t1 (ledC x p)) (m1 : ¬ M k1) (h2 : Blk w1 k2 t2 #[.int .i64 who]) (m2 : ¬ M k2) (h3 : Blk w1 k3 t3 #[.int .i64 year]) (m3 : ¬ M k3) :
    Cnts w0 w1 M g x p (.func (.func 100) #[] #[.pointer (some ⟨k1, 0, none⟩), .pointer (some ⟨k2, 0, none⟩), .pointer (some ⟨k3, 0, none⟩)]) (fun i => (x.lo i 0 == who) && (decide (0 ≤ P.due x i) && decide (P.due x i ≤ year))) := by
  refine ⟨_, _, rfl, enters_ Tryz.func100 (by kernel_rfl) rfl, fun i hi W hA => ?_⟩
  have k1c := (hA.blk h1 m1).cell
  have k1l := (hA.blk h1 m1).lt
  have k2c := (hA.blk h2 m2).cell
  have k2l := (hA.blk h2 m2).lt
  have k3c := (hA.blk h3 m3).cell
  have k3l := (hA.blk h3 m3).lt
  unfold ledC at k1c
  obtain ⟨A1, c1, A2, c2, A3, c3, A4, c4, A5, c5⟩ := p
  obtain ⟨ga, oa, hA3, hga, q0, q1, q2⟩ := (hl.r3.ext hA.e).at3 hi
  dsimp only at hA3
  subst hA3
  have hki : (i : Int) < (x.ln : Int) := by omega
  obtain ⟨z0, hz0⟩ : ∃ z, Hid (z = x.lo i 0) := ⟨_, hid rfl⟩
  rw [← hz0.out] at q0
  obtain ⟨dd, hdd⟩ : ∃ z, Hid (z = P.due x i) := ⟨_, hid rfl⟩
  have HDu : ∀ W', Ext W W' → Calls Tryz.prog 102 #[.agg #[.int .i64 x.folk, .int .i64 x.years, .slice A1 x.bn c1, .slice A2 x.fn c2, .slice (some ⟨ga, oa, none⟩) x.ln c3, .slice A4 x.pn c4, .slice A5 x.mn c5], .int .i64 (i : Int)] W' fun e w' => e = .returned (.int .i64 dd) ∧ Ext W' w' := fun W' e => by
    rw [hdd.out]; exact due102 hx ((hl.ext (hA.e.trans e)).isL) hbn hi
  have HDU := hid HDu
  clear hA h1 h2 h3 hl q1 q2 HDu
  cases h : (z0 == who)
  · have H := hid h
    go_enter Tryz.func100, Tryz.ntmps100
    go_upto_region 1 with fail
    refine wp_region_later (by kernel_rfl) (by kernel_rfl) ?_
    repeat (go_big_quiet_step (fail))
    refine wpQuiet_nil ?_
    rintro w2 ⟨⟨_, he2⟩, rfl⟩
    go_wp2
    go_ret
    exact ⟨ret_bool (by rw [← hz0.out, H.out]; rfl), he2⟩
  · have H := hid h
    go_enter Tryz.func100, Tryz.ntmps100
    go_upto_region 1 with fail
    refine wp_region_later (by kernel_rfl) (by kernel_rfl) ?_
    repeat (go_big_quiet_step (first
      | (go_at_call 102; exact Calls.later (HDU.out _ (Later.ext _)))
      | (go_at_call 101; exact Calls.later ((in_any _ _ _ _).mono fun e w' ⟨h1, h2⟩ => ⟨h1, h2 ▸ Ext.refl _⟩))))
    refine wpQuiet_nil ?_
    rintro w2 ⟨⟨_, he2⟩, rfl⟩
    go_wp2
    go_ret
    exact ⟨ret_bool (by rw [← hz0.out, H.out, ← hdd.out]; simp [HandSpec.inB]), he2⟩
/-- No list is too long to be looked at. -/
structure Sm (x : LD) : Prop where
  b : x.bn ≤ 1000
  f : x.fn ≤ 1000
  l : x.ln ≤ 1000
  p : x.pn ≤ 1000
  m : x.mn ≤ 1000
/-- The error of a ledger, of somebody, and of a year. -/
def P.errW (x : LD) (who year : Int) : Int := if x.chk = 0 then (if inB who 0 (x.folk - 1) && inB year 0 (x.years - 1) then 0 else 1) else x.chk
/-- The error of a ledger, and of a loan. -/
def P.errL (x : LD) (i : Int) : Int := if x.chk = 0 then (if inB i 0 ((x.ln : Int) - 1) then 0 else 1) else x.chk
theorem P.ok_of_errW {x : LD} {who year : Int} (hs : P.errW x who year = 0) : Ok x := by
  refine Ok.of_chk (Classical.byContradiction fun h => ?_)
  unfold P.errW at hs
  rw [if_neg h] at hs
  exact h hs
theorem P.ok_of_errL {x : LD} {i : Int} (hs : P.errL x i = 0) : Ok x ∧ x.chk = 0 ∧ ∃ j : Nat, i = (j : Int) ∧ j < x.ln := by
  have hk : x.chk = 0 := Classical.byContradiction fun h => by
    unfold P.errL at hs
    rw [if_neg h] at hs
    exact h hs
  refine ⟨Ok.of_chk hk, hk, i.toNat, ?_⟩
  unfold P.errL at hs
  rw [if_pos hk] at hs
  cases h : inB i 0 ((x.ln : Int) - 1)
  · rw [h] at hs; simp at hs
  · unfold HandSpec.inB at h
    have := of_decide_eq_true h
    omega
theorem ne_of_beq {s : Int} (h : (s == 0) = false) : s ≠ 0 := by simpa using h
theorem opened_e {x : LD} {p : LA} {w : World} (hl : IsLA w x p) (hm : Sm x) {s : Int} (hs : x.chk = s) (h0 : (s == 0) = false) :
    Calls Tryz.prog 136 #[.agg #[.int .i64 x.folk, .int .i64 x.years, .slice p.A1 x.bn p.c1, .slice p.A2 x.fn p.c2, .slice p.A3 x.ln p.c3, .slice p.A4 x.pn p.c4, .slice p.A5 x.mn p.c5]] w fun e w' => e = .returned (.tuple #[.pointer none, .int .i64 s]) ∧ Ext w w' :=
  opened_bad hl hs h0 hm.b hm.f hm.l hm.p hm.m
theorem opened_o {x : LD} {p : LA} {w : World} (hl : IsLA w x p) (hm : Sm x) (hs : x.chk = 0) :
    Calls Tryz.prog 136 #[.agg #[.int .i64 x.folk, .int .i64 x.years, .slice p.A1 x.bn p.c1, .slice p.A2 x.fn p.c2, .slice p.A3 x.ln p.c3, .slice p.A4 x.pn p.c4, .slice p.A5 x.mn p.c5]] w fun e w' => ∃ g, e = .returned (.tuple #[.pointer (some ⟨g, 0, none⟩), .int .i64 0]) ∧ Ext w w' ∧ w.heap.size ≤ g ∧ Blk w' g 177 (deskC x p fun _ => 0) :=
  opened_ok hl hs hm.b hm.f hm.l hm.p hm.m
theorem owing_err {x : LD} {p : LA} {w : World} (hl : IsLA w x p) (hm : Sm x) {who year s : Int} (hs : P.errW x who year = s) (h0 : (s == 0) = false) :
    Calls Tryz.prog 97 #[ledV x p, .int .i64 who, .int .i64 year] w fun e w' => e = .returned (.tuple #[.pointer none, .int .i64 s]) ∧ Ext w w' := by
  have HL := hid hl
  unfold ledV
  have E0 : Ext w (w.alloc (.cells (ledC x p) 27)) := (Ext.refl _).alloc _
  have B0 := hid (Blk.new w 27 (ledC x p))
  unfold ledC at E0 B0
  have h0n : (s != 0) = true := by simp [bne, h0]
  unfold P.errW at hs
  clear hl
  by_cases hk : x.chk = 0
  · rw [if_pos hk] at hs
    have hx := Ok.of_chk hk
    have HK := hid hk
    clear hk
    have hf := hx.folk
    have hy := hx.years
    obtain ⟨bw, hbw⟩ : ∃ b, Hid (b = inB who 0 (x.folk - 1)) := ⟨_, hid rfl⟩
    obtain ⟨by_, hby⟩ : ∃ b, Hid (b = inB year 0 (x.years - 1)) := ⟨_, hid rfl⟩
    rw [← hbw.out, ← hby.out] at hs
    have hor : bw = false ∨ (bw = true ∧ by_ = false) := by cases bw <;> cases by_ <;> simp at hs ⊢ <;> subst hs <;> simp at h0
    have hs1 : s = 1 := by rcases hor with h | ⟨h, h'⟩ <;> subst h <;> simp_all
    subst hs1
    clear hs h0 h0n
    rcases hor with rfl | ⟨rfl, rfl⟩
    · go_enter Tryz.func97, Tryz.ntmps97
      go_wp2_with (first
        | (go_at_call 136; refine (opened_o (HL.out.ext E0) hm HK.out).mono ?_; rintro e w2 ⟨g, rfl, he2, -, -⟩; have k0 := (B0.out.ext he2).cell; have k0l := (B0.out.ext he2).lt; have HV := hid ((HL.out.ext (E0.trans he2)).isL))
        | (go_at_call 118; refine (person118 HV.out (by omega) _).mono ?_; rintro e w3 ⟨rfl, he3⟩; rw [← hbw.out]))
      go_ret2
      exact ⟨rfl, E0.trans (he2.trans he3)⟩
    · go_enter Tryz.func97, Tryz.ntmps97
      go_wp2_with (first
        | (go_at_call 136; refine (opened_o (HL.out.ext E0) hm HK.out).mono ?_; rintro e w2 ⟨g, rfl, he2, -, -⟩; have k0 := (B0.out.ext he2).cell; have k0l := (B0.out.ext he2).lt; have HV := hid ((HL.out.ext (E0.trans he2)).isL))
        | (go_at_call 118; refine (person118 HV.out (by omega) _).mono ?_; rintro e w3 ⟨rfl, he3⟩; rw [← hbw.out]; have k0 := (B0.out.ext (he2.trans he3)).cell; have k0l := (B0.out.ext (he2.trans he3)).lt)
        | (go_at_call 115; refine (year115 (HV.out.ext he3) (by omega) _).mono ?_; rintro e w4 ⟨rfl, he4⟩; rw [← hby.out]))
      go_ret2
      exact ⟨rfl, E0.trans (he2.trans (he3.trans he4))⟩
  · rw [if_neg hk] at hs
    clear hk
    have HS := hid hs
    clear hs
    go_enter Tryz.func97, Tryz.ntmps97
    go_wp2_with (go_at_call 136; refine (opened_e (HL.out.ext E0) hm HS.out h0).mono ?_; rintro e w2 ⟨rfl, he2⟩)
    go_ret2
    exact ⟨rfl, E0.trans he2⟩
theorem owing_ok {x : LD} {p : LA} {w : World} (hl : IsLA w x p) (hm : Sm x) {who year : Int} (hs : P.errW x who year = 0) :
    Calls Tryz.prog 97 #[ledV x p, .int .i64 who, .int .i64 year] w fun e w' => ∃ g, e = .returned (.tuple #[.pointer (some ⟨g, 0, none⟩), .int .i64 0]) ∧ Ext w w' ∧ w.heap.size ≤ g ∧ Blk w' g 177 (deskC x p (P.booked x year)) := by
  have HL := hid hl
  unfold ledV
  have E0 : Ext w (w.alloc (.cells (ledC x p) 27)) := (Ext.refl _).alloc _
  have B0 := hid (Blk.new w 27 (ledC x p))
  unfold ledC at E0 B0
  unfold P.errW at hs
  clear hl
  have hk : x.chk = 0 := by
    rcases Classical.em (x.chk = 0) with h | h
    · exact h
    · rw [if_neg h] at hs; exact absurd hs h
  rw [if_pos hk] at hs
  have hx := Ok.of_chk hk
  have HK := hid hk
  clear hk
  have hf := hx.folk
  have hy := hx.years
  have hbw : inB who 0 (x.folk - 1) = true ∧ inB year 0 (x.years - 1) = true := by
    cases h1 : inB who 0 (x.folk - 1) <;> cases h2 : inB year 0 (x.years - 1) <;> rw [h1, h2] at hs <;> simp at hs ⊢
  obtain ⟨h1, h2⟩ := hbw
  have H1 := hid h1
  have H2 := hid h2
  clear hs h1 h2
  go_enter Tryz.func97, Tryz.ntmps97
  go_wp2_with (first
    | (go_at_call 136; refine (opened_o (HL.out.ext E0) hm HK.out).mono ?_; rintro e w2 ⟨g, rfl, he2, hg, hd⟩; have k0 := (B0.out.ext he2).cell; have k0l := (B0.out.ext he2).lt; have HV := hid ((HL.out.ext (E0.trans he2)).isL); have HG := hid hg; have HD := hid hd; clear hg hd)
    | (go_at_call 118; refine (person118 HV.out (by omega) _).mono ?_; rintro e w3 ⟨rfl, he3⟩; rw [H1.out]; have k0 := (B0.out.ext (he2.trans he3)).cell; have k0l := (B0.out.ext (he2.trans he3)).lt)
    | (go_at_call 115; refine (year115 (HV.out.ext he3) (by omega) _).mono ?_; rintro e w4 ⟨rfl, he4⟩; rw [H2.out])
    | (go_at_call 116; refine (until116 hx hm.f HL.out (E0.trans (he2.trans (he3.trans he4))) (Nat.le_trans E0.size HG.out) (HD.out.ext (he3.trans he4)) year).mono ?_; rintro e w5 ⟨⟨v, rfl⟩, hc5, hd5⟩))
  go_ret2
  exact ⟨g, rfl, hc5.e, Nat.le_trans E0.size HG.out, hd5⟩
theorem owes_err {x : LD} {p : LA} {w : World} (hl : IsLA w x p) (hm : Sm x) {who year s : Int} (hs : P.errW x who year = s) (h0 : (s == 0) = false) :
    Calls Tryz.prog 25 #[ledV x p, .int .i64 who, .int .i64 year] w fun e w' => e = .returned (.tuple #[.int .i64 0, .int .i64 s]) ∧ Ext w w' := by
  have HL := hid hl
  have h0n : (s != 0) = true := by simp [bne, h0]
  have HS := hid hs
  unfold ledV
  clear hl hs
  have HO : ∀ W, Ext w W → Calls Tryz.prog 97 #[.agg #[.int .i64 x.folk, .int .i64 x.years, .slice p.A1 x.bn p.c1, .slice p.A2 x.fn p.c2, .slice p.A3 x.ln p.c3, .slice p.A4 x.pn p.c4, .slice p.A5 x.mn p.c5], .int .i64 who, .int .i64 year] W fun e w' => e = .returned (.tuple #[.pointer none, .int .i64 s]) ∧ Ext W w' := fun W e => owing_err (HL.out.ext e) hm HS.out h0
  have HO := hid HO
  go_enter Tryz.func25, Tryz.ntmps25
  go_wp2_with (go_at_call 97; refine (HO.out _ (by repeat (first | exact Ext.refl _ | refine Ext.alloc ?_ _))).mono ?_; rintro e w2 ⟨rfl, he2⟩)
  go_ret2
  refine ⟨rfl, Ext.trans ?_ he2⟩
  repeat (first | exact Ext.refl _ | refine Ext.alloc ?_ _)
theorem overdue_err {x : LD} {p : LA} {w : World} (hl : IsLA w x p) (hm : Sm x) {who year s : Int} (hs : P.errW x who year = s) (h0 : (s == 0) = false) :
    Calls Tryz.prog 26 #[ledV x p, .int .i64 who, .int .i64 year] w fun e w' => e = .returned (.tuple #[.int .i64 0, .int .i64 s]) ∧ Ext w w' := by
  have HL := hid hl
  have h0n : (s != 0) = true := by simp [bne, h0]
  have HS := hid hs
  unfold ledV
  clear hl hs
  have HO : ∀ W, Ext w W → Calls Tryz.prog 97 #[.agg #[.int .i64 x.folk, .int .i64 x.years, .slice p.A1 x.bn p.c1, .slice p.A2 x.fn p.c2, .slice p.A3 x.ln p.c3, .slice p.A4 x.pn p.c4, .slice p.A5 x.mn p.c5], .int .i64 who, .int .i64 year] W fun e w' => e = .returned (.tuple #[.pointer none, .int .i64 s]) ∧ Ext W w' := fun W e => owing_err (HL.out.ext e) hm HS.out h0
  have HO := hid HO
  go_enter Tryz.func26, Tryz.ntmps26
  go_wp2_with (go_at_call 97; refine (HO.out _ (by repeat (first | exact Ext.refl _ | refine Ext.alloc ?_ _))).mono ?_; rintro e w2 ⟨rfl, he2⟩)
  go_ret2
  refine ⟨rfl, Ext.trans ?_ he2⟩
  repeat (first | exact Ext.refl _ | refine Ext.alloc ?_ _)
theorem owes_ok {x : LD} {p : LA} {w : World} (hl : IsLA w x p) (hm : Sm x) {who year : Int} (hs : P.errW x who year = 0) :
    Calls Tryz.prog 25 #[ledV x p, .int .i64 who, .int .i64 year] w fun e w' => e = .returned (.tuple #[.int .i64 (P.owes x who year), .int .i64 0]) ∧ Ext w w' := by
  have hx := P.ok_of_errW hs
  have HL := hid hl
  have HS := hid hs
  unfold ledV
  clear hl hs
  have HO : ∀ W, Ext w W → Calls Tryz.prog 97 #[.agg #[.int .i64 x.folk, .int .i64 x.years, .slice p.A1 x.bn p.c1, .slice p.A2 x.fn p.c2, .slice p.A3 x.ln p.c3, .slice p.A4 x.pn p.c4, .slice p.A5 x.mn p.c5], .int .i64 who, .int .i64 year] W fun e w' => ∃ g, e = .returned (.tuple #[.pointer (some ⟨g, 0, none⟩), .int .i64 0]) ∧ Ext W w' ∧ W.heap.size ≤ g ∧ Blk w' g 177 (deskC x p (P.booked x year)) := fun W e => owing_ok (HL.out.ext e) hm HS.out
  have HO := hid HO
  have hmf : ∀ (fn : Fn) (first cap : Array Value) (w : World), (Instr.makeFunc fn first cap).run Tryz.prog w = .ok (.func fn first cap) w := fun _ _ _ _ => rfl
  have B0 := hid ((Blk.new w 27 (ledC x p)).ext ((Ext.refl _).alloc (.cells #[.int .i64 who] 3)))
  have B1 := hid (Blk.new (w.alloc (.cells (ledC x p) 27)) 3 #[.int .i64 who])
  simp only [World.size_alloc] at B1
  unfold ledC at B0 B1
  go_enter Tryz.func25, Tryz.ntmps25
  go_wp2_with (first
    | (go_at_call 97; refine (HO.out _ (by repeat (first | exact Ext.refl _ | refine Ext.alloc ?_ _))).mono ?_; rintro e w2 ⟨g, rfl, he2, hg, hd⟩; have HD := hid hd; have HG := hid hg; have HE := hid he2; clear hd hg he2)
    | (go_at_call 98; refine (left98 hx hm.f (HL.out.ext (((Ext.refl _).alloc _).alloc _)) HE.out HD.out year (P.until_bd hx year _ (Nat.le_refl _)) (fun w1 e1 => cnts99 (HL.out.ext (((Ext.refl _).alloc _).alloc _)) ((B0.out.ext HE.out).ext e1) (by have := (B0.out.ext HE.out).lt; omega) ((B1.out.ext HE.out).ext e1) (by have := (B1.out.ext HE.out).lt; omega))).mono ?_; rintro e w3 ⟨rfl, he3⟩))
  go_ret2
  exact ⟨rfl, (((Ext.refl _).alloc _).alloc _).trans (HE.out.trans he3)⟩
theorem overdue_ok {x : LD} {p : LA} {w : World} (hl : IsLA w x p) (hm : Sm x) {who year : Int} (hs : P.errW x who year = 0) :
    Calls Tryz.prog 26 #[ledV x p, .int .i64 who, .int .i64 year] w fun e w' => e = .returned (.tuple #[.int .i64 (P.overdue x who year), .int .i64 0]) ∧ Ext w w' := by
  have hx := P.ok_of_errW hs
  have HL := hid hl
  have HS := hid hs
  unfold ledV
  clear hl hs
  have HO : ∀ W, Ext w W → Calls Tryz.prog 97 #[.agg #[.int .i64 x.folk, .int .i64 x.years, .slice p.A1 x.bn p.c1, .slice p.A2 x.fn p.c2, .slice p.A3 x.ln p.c3, .slice p.A4 x.pn p.c4, .slice p.A5 x.mn p.c5], .int .i64 who, .int .i64 year] W fun e w' => ∃ g, e = .returned (.tuple #[.pointer (some ⟨g, 0, none⟩), .int .i64 0]) ∧ Ext W w' ∧ W.heap.size ≤ g ∧ Blk w' g 177 (deskC x p (P.booked x year)) := fun W e => owing_ok (HL.out.ext e) hm HS.out
  have HO := hid HO
  have hmf : ∀ (fn : Fn) (first cap : Array Value) (w : World), (Instr.makeFunc fn first cap).run Tryz.prog w = .ok (.func fn first cap) w := fun _ _ _ _ => rfl
  have B0 := hid ((Blk.new w 27 (ledC x p)).ext (((Ext.refl _).alloc (.cells #[.int .i64 who] 3)).alloc (.cells #[.int .i64 year] 3)))
  have B1 := hid ((Blk.new (w.alloc (.cells (ledC x p) 27)) 3 #[.int .i64 who]).ext ((Ext.refl _).alloc (.cells #[.int .i64 year] 3)))
  have B2 := hid (Blk.new ((w.alloc (.cells (ledC x p) 27)).alloc (.cells #[.int .i64 who] 3)) 3 #[.int .i64 year])
  simp only [World.size_alloc] at B1 B2
  unfold ledC at B0 B1 B2
  go_enter Tryz.func26, Tryz.ntmps26
  go_wp2_with (first
    | (go_at_call 97; refine (HO.out _ (by repeat (first | exact Ext.refl _ | refine Ext.alloc ?_ _))).mono ?_; rintro e w2 ⟨g, rfl, he2, hg, hd⟩; have HD := hid hd; have HG := hid hg; have HE := hid he2; clear hd hg he2; have k2 := (B2.out.ext HE.out).cell; have k2l := (B2.out.ext HE.out).lt)
    | (go_at_call 98; refine (left98 hx hm.f (HL.out.ext ((((Ext.refl _).alloc _).alloc _).alloc _)) HE.out HD.out year (P.until_bd hx year _ (Nat.le_refl _)) (fun w1 e1 => cnts100 hx hm.b (HL.out.ext ((((Ext.refl _).alloc _).alloc _).alloc _)) ((B0.out.ext HE.out).ext e1) (by have := (B0.out.ext HE.out).lt; omega) ((B1.out.ext HE.out).ext e1) (by have := (B1.out.ext HE.out).lt; omega) ((B2.out.ext HE.out).ext e1) (by have := (B2.out.ext HE.out).lt; omega))).mono ?_; rintro e w3 ⟨rfl, he3⟩))
  go_ret2
  exact ⟨rfl, ((((Ext.refl _).alloc _).alloc _).alloc _).trans (HE.out.trans he3)⟩
theorem P.errL_bad {x : LD} {i s : Int} (hs : P.errL x i = s) (h0 : (s == 0) = false) : (x.chk = s) ∨ (x.chk = 0 ∧ inB i 0 ((x.ln : Int) - 1) = false ∧ s = 1) := by
  unfold P.errL at hs
  by_cases hk : x.chk = 0
  · rw [if_pos hk] at hs
    cases h : inB i 0 ((x.ln : Int) - 1) <;> rw [h] at hs
    · exact .inr ⟨hk, rfl, by simpa using hs.symm⟩
    · exact absurd hs (by have := ne_of_beq h0; simp; omega)
  · rw [if_neg hk] at hs; exact .inl hs
theorem known_err {x : LD} {p : LA} {w : World} (hl : IsLA w x p) (hm : Sm x) {i s : Int} (hs : P.errL x i = s) (h0 : (s == 0) = false) :
    Calls Tryz.prog 114 #[.agg #[.int .i64 x.folk, .int .i64 x.years, .slice p.A1 x.bn p.c1, .slice p.A2 x.fn p.c2, .slice p.A3 x.ln p.c3, .slice p.A4 x.pn p.c4, .slice p.A5 x.mn p.c5], .int .i64 i] w fun e w' => e = .returned (.tuple #[.pointer none, .int .i64 s]) ∧ Ext w w' := by
  have HL := hid hl
  have E0 : Ext w (w.alloc (.cells (ledC x p) 27)) := (Ext.refl _).alloc _
  have B0 := hid (Blk.new w 27 (ledC x p))
  unfold ledC at E0 B0
  have h0n : (s != 0) = true := by simp [bne, h0]
  have hb := P.errL_bad hs h0
  clear hl hs
  rcases hb with hk | ⟨hk, hi, rfl⟩
  · have HS := hid hk
    clear hk
    go_enter Tryz.func114, Tryz.ntmps114
    go_wp2_with (go_at_call 136; refine (opened_e (HL.out.ext E0) hm HS.out h0).mono ?_; rintro e w2 ⟨rfl, he2⟩)
    go_ret2
    exact ⟨rfl, E0.trans he2⟩
  · have HK := hid hk
    have HI := hid hi
    clear hk hi h0 h0n
    go_enter Tryz.func114, Tryz.ntmps114
    go_wp2_with (first
      | (go_at_call 136; refine (opened_o (HL.out.ext E0) hm HK.out).mono ?_; rintro e w2 ⟨g, rfl, he2, -, -⟩; have k0 := (B0.out.ext he2).cell; have k0l := (B0.out.ext he2).lt; have HV := hid ((HL.out.ext (E0.trans he2)).isL))
      | (go_at_call 126; refine (loan126 HV.out hm.l _).mono ?_; rintro e w3 ⟨rfl, he3⟩; rw [HI.out]))
    go_ret2
    exact ⟨rfl, E0.trans (he2.trans he3)⟩
theorem known_ok {x : LD} {p : LA} {w : World} (hl : IsLA w x p) (hm : Sm x) {i : Int} (hs : P.errL x i = 0) :
    Calls Tryz.prog 114 #[.agg #[.int .i64 x.folk, .int .i64 x.years, .slice p.A1 x.bn p.c1, .slice p.A2 x.fn p.c2, .slice p.A3 x.ln p.c3, .slice p.A4 x.pn p.c4, .slice p.A5 x.mn p.c5], .int .i64 i] w fun e w' => ∃ g, e = .returned (.tuple #[.pointer (some ⟨g, 0, none⟩), .int .i64 0]) ∧ Ext w w' ∧ w.heap.size ≤ g ∧ Blk w' g 177 (deskC x p fun _ => 0) := by
  have HL := hid hl
  have E0 : Ext w (w.alloc (.cells (ledC x p) 27)) := (Ext.refl _).alloc _
  have B0 := hid (Blk.new w 27 (ledC x p))
  unfold ledC at E0 B0
  obtain ⟨hx, hk, j, rfl, hj⟩ := P.ok_of_errL hs
  have HK := hid hk
  have HI := hid (show inB (j : Int) 0 ((x.ln : Int) - 1) = true from decide_eq_true (by omega))
  clear hl hs hk
  go_enter Tryz.func114, Tryz.ntmps114
  go_wp2_with (first
    | (go_at_call 136; refine (opened_o (HL.out.ext E0) hm HK.out).mono ?_; rintro e w2 ⟨g, rfl, he2, hg, hd⟩; have k0 := (B0.out.ext he2).cell; have k0l := (B0.out.ext he2).lt; have HV := hid ((HL.out.ext (E0.trans he2)).isL); have HG := hid hg; have HD := hid hd; clear hg hd)
    | (go_at_call 126; refine (loan126 HV.out hm.l _).mono ?_; rintro e w3 ⟨rfl, he3⟩; rw [HI.out]))
  go_ret2
  exact ⟨g, rfl, E0.trans (he2.trans he3), Nat.le_trans E0.size HG.out, HD.out.ext he3⟩
theorem asked_err {x : LD} {p : LA} {w : World} (hl : IsLA w x p) (hm : Sm x) {i s : Int} (hs : P.errL x i = s) (h0 : (s == 0) = false) :
    Calls Tryz.prog 39 #[ledV x p, .int .i64 i] w fun e w' => e = .returned (.tuple #[.int .i64 0, .int .i64 s]) ∧ Ext w w' := by
  have HL := hid hl
  have HS := hid hs
  unfold ledV
  have E0 : Ext w (w.alloc (.cells (ledC x p) 27)) := (Ext.refl _).alloc _
  unfold ledC at E0
  have h0n : (s != 0) = true := by simp [bne, h0]
  clear hl hs
  go_enter Tryz.func39, Tryz.ntmps39
  go_wp2_with (go_at_call 114; refine (known_err (HL.out.ext E0) hm HS.out h0).mono ?_; rintro e w2 ⟨rfl, he2⟩)
  go_ret2
  exact ⟨rfl, E0.trans he2⟩
theorem asked_ok {x : LD} {p : LA} {w : World} (hl : IsLA w x p) (hm : Sm x) {j : Nat} (hs : P.errL x (j : Int) = 0) :
    Calls Tryz.prog 39 #[ledV x p, .int .i64 (j : Int)] w fun e w' => e = .returned (.tuple #[.int .i64 (P.asked x j), .int .i64 0]) ∧ Ext w w' := by
  have HL := hid hl
  have HS := hid hs
  obtain ⟨hx, -, j', hjj, hj⟩ := P.ok_of_errL hs
  obtain rfl : j = j' := by omega
  unfold ledV
  have E0 : Ext w (w.alloc (.cells (ledC x p) 27)) := (Ext.refl _).alloc _
  have B0 := hid (Blk.new w 27 (ledC x p))
  unfold ledC at E0 B0
  clear hl hs hjj
  go_enter Tryz.func39, Tryz.ntmps39
  go_wp2_with (first
    | (go_at_call 114; refine (known_ok (HL.out.ext E0) hm HS.out).mono ?_; rintro e w2 ⟨g, rfl, he2, -, -⟩; have HE := hid he2; have k0 := (B0.out.ext he2).cell; have k0l := (B0.out.ext he2).lt; clear he2)
    | (go_at_call 135; refine (asked135 hx ((HL.out.ext (E0.trans HE.out)).isL) hm.f hj).mono ?_; rintro e w3 ⟨rfl, he3⟩))
  go_ret2
  exact ⟨rfl, E0.trans (HE.out.trans he3)⟩
theorem due_err {x : LD} {p : LA} {w : World} (hl : IsLA w x p) (hm : Sm x) {i s : Int} (hs : P.errL x i = s) (h0 : (s == 0) = false) :
    Calls Tryz.prog 44 #[ledV x p, .int .i64 i] w fun e w' => e = .returned (.tuple #[.int .i64 0, .int .i64 s]) ∧ Ext w w' := by
  have HL := hid hl
  have HS := hid hs
  unfold ledV
  have E0 : Ext w (w.alloc (.cells (ledC x p) 27)) := (Ext.refl _).alloc _
  unfold ledC at E0
  have h0n : (s != 0) = true := by simp [bne, h0]
  clear hl hs
  go_enter Tryz.func44, Tryz.ntmps44
  go_wp2_with (go_at_call 114; refine (known_err (HL.out.ext E0) hm HS.out h0).mono ?_; rintro e w2 ⟨rfl, he2⟩)
  go_ret2
  exact ⟨rfl, E0.trans he2⟩
theorem due_ok {x : LD} {p : LA} {w : World} (hl : IsLA w x p) (hm : Sm x) {j : Nat} (hs : P.errL x (j : Int) = 0) :
    Calls Tryz.prog 44 #[ledV x p, .int .i64 (j : Int)] w fun e w' => e = .returned (.tuple #[.int .i64 (P.due x j), .int .i64 0]) ∧ Ext w w' := by
  have HL := hid hl
  have HS := hid hs
  obtain ⟨hx, -, j', hjj, hj⟩ := P.ok_of_errL hs
  obtain rfl : j = j' := by omega
  unfold ledV
  have E0 : Ext w (w.alloc (.cells (ledC x p) 27)) := (Ext.refl _).alloc _
  have B0 := hid (Blk.new w 27 (ledC x p))
  unfold ledC at E0 B0
  clear hl hs hjj
  go_enter Tryz.func44, Tryz.ntmps44
  go_wp2_with (first
    | (go_at_call 114; refine (known_ok (HL.out.ext E0) hm HS.out).mono ?_; rintro e w2 ⟨g, rfl, he2, -, -⟩; have HE := hid he2; have k0 := (B0.out.ext he2).cell; have k0l := (B0.out.ext he2).lt; clear he2)
    | (go_at_call 102; refine (due102 hx ((HL.out.ext (E0.trans HE.out)).isL) hm.b hj).mono ?_; rintro e w3 ⟨rfl, he3⟩))
  go_ret2
  exact ⟨rfl, E0.trans (HE.out.trans he3)⟩
/-- The error of a ledger, of a loan, and of a year. -/
def P.errY (x : LD) (i year : Int) : Int := if P.errL x i = 0 then (if inB year 0 (x.years - 1) then 0 else 1) else P.errL x i
theorem left_err {x : LD} {p : LA} {w : World} (hl : IsLA w x p) (hm : Sm x) {i year s : Int} (hs : P.errY x i year = s) (h0 : (s == 0) = false) :
    Calls Tryz.prog 36 #[ledV x p, .int .i64 i, .int .i64 year] w fun e w' => e = .returned (.tuple #[.int .i64 0, .int .i64 s]) ∧ Ext w w' := by
  have HL := hid hl
  unfold P.errY at hs
  unfold ledV
  have E0 : Ext w ((w.alloc (.cells (ledC x p) 27)).alloc (.cells #[.int .i64 i] 3)) := ((Ext.refl _).alloc _).alloc _
  have B0 := hid ((Blk.new w 27 (ledC x p)).ext ((Ext.refl _).alloc (.cells #[.int .i64 i] 3)))
  unfold ledC at E0 B0
  have h0n : (s != 0) = true := by simp [bne, h0]
  clear hl
  by_cases hk : P.errL x i = 0
  · rw [if_pos hk] at hs
    obtain ⟨hx, -, j, hj⟩ := P.ok_of_errL hk
    have hyr := hx.years
    clear hj j
    have hb : inB year 0 (x.years - 1) = false ∧ s = 1 := by
      cases h : inB year 0 (x.years - 1) <;> rw [h] at hs
      · exact ⟨rfl, by simpa using hs.symm⟩
      · exact absurd hs (by have := ne_of_beq h0; simp; omega)
    obtain ⟨hb, rfl⟩ := hb
    have HB := hid hb
    have HK := hid hk
    clear hb hs h0 h0n hk
    go_enter Tryz.func36, Tryz.ntmps36
    go_wp2_with (first
      | (go_at_call 114; refine (known_ok (HL.out.ext E0) hm HK.out).mono ?_; rintro e w2 ⟨g, rfl, he2, -, -⟩; have HE := hid he2; have k0 := (B0.out.ext he2).cell; have k0l := (B0.out.ext he2).lt; clear he2)
      | (go_at_call 115; refine (year115 ((HL.out.ext (E0.trans HE.out)).isL) (by omega) _).mono ?_; rintro e w3 ⟨rfl, he3⟩; rw [HB.out]))
    go_ret2
    exact ⟨rfl, E0.trans (HE.out.trans he3)⟩
  · rw [if_neg hk] at hs
    have HS := hid hs
    clear hs hk
    go_enter Tryz.func36, Tryz.ntmps36
    go_wp2_with (go_at_call 114; refine (known_err (HL.out.ext E0) hm HS.out h0).mono ?_; rintro e w2 ⟨rfl, he2⟩)
    go_ret2
    exact ⟨rfl, E0.trans he2⟩
theorem left_ok {x : LD} {p : LA} {w : World} (hl : IsLA w x p) (hm : Sm x) {j : Nat} {year : Int} (hs : P.errY x (j : Int) year = 0) :
    Calls Tryz.prog 36 #[ledV x p, .int .i64 (j : Int), .int .i64 year] w fun e w' => e = .returned (.tuple #[.int .i64 (P.left x j year), .int .i64 0]) ∧ Ext w w' := by
  have HL := hid hl
  unfold P.errY at hs
  unfold ledV
  have E0 : Ext w ((w.alloc (.cells (ledC x p) 27)).alloc (.cells #[.int .i64 (j : Int)] 3)) := ((Ext.refl _).alloc _).alloc _
  have B0 := hid ((Blk.new w 27 (ledC x p)).ext ((Ext.refl _).alloc (.cells #[.int .i64 (j : Int)] 3)))
  have B1 := hid (Blk.new (w.alloc (.cells (ledC x p) 27)) 3 #[.int .i64 (j : Int)])
  simp only [World.size_alloc] at B1
  unfold ledC at E0 B0 B1
  have hmf : ∀ (fn : Fn) (first cap : Array Value) (w : World), (Instr.makeFunc fn first cap).run Tryz.prog w = .ok (.func fn first cap) w := fun _ _ _ _ => rfl
  clear hl
  have hk : P.errL x (j : Int) = 0 := Classical.byContradiction fun h => by rw [if_neg h] at hs; exact h hs
  rw [if_pos hk] at hs
  obtain ⟨hx, -, -⟩ := P.ok_of_errL hk
  have hyr := hx.years
  have hb : inB year 0 (x.years - 1) = true := by
    rcases Bool.eq_false_or_eq_true (inB year 0 (x.years - 1)) with h | h
    · exact h
    · rw [h] at hs; simp at hs
  have HB := hid hb
  have HK := hid hk
  clear hb hs hk
  go_enter Tryz.func36, Tryz.ntmps36
  go_wp2_with (first
    | (go_at_call 114; refine (known_ok (HL.out.ext E0) hm HK.out).mono ?_; rintro e w2 ⟨g, rfl, he2, hg, hd⟩; have HE := hid he2; have HG := hid hg; have HD := hid hd; have k0 := (B0.out.ext he2).cell; have k0l := (B0.out.ext he2).lt; clear he2 hg hd)
    | (go_at_call 115; refine (year115 ((HL.out.ext (E0.trans HE.out)).isL) (by omega) _).mono ?_; rintro e w3 ⟨rfl, he3⟩; rw [HB.out])
    | (go_at_call 116; refine (until116 hx hm.f (HL.out.ext E0) (HE.out.trans he3) HG.out (HD.out.ext he3) year).mono ?_; rintro e w5 ⟨⟨v, rfl⟩, hc5, hd5⟩)
    | (go_at_call 98; refine (left98 hx hm.f (HL.out.ext E0) hc5.e hd5 year (P.until_bd hx year _ (Nat.le_refl _)) (fun w1 e1 => cnts117 ((B1.out.ext hc5.e).ext e1) (by have := (B1.out.ext hc5.e).lt; omega))).mono ?_; rintro e w6 ⟨rfl, he6⟩))
  go_ret2
  exact ⟨rfl, E0.trans (hc5.e.trans he6)⟩
end Go.Proofs.YtbceepjjdfpfmaaGreat
