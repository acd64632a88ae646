/- A payment's parts, and when a loan is paid, as the program tells. -/
import Derived.Test.YtbceepjjdfpfmaaGreatOwes
import Derived.ChangeKeysEq
namespace Go.Proofs.YtbceepjjdfpfmaaGreat
open Go.RowKit HandSpec LoanSpec
set_option maxHeartbeats 4000000
set_option maxRecDepth 100000
/-- The error of a ledger, and of a payment. -/
def P.errB (x : LD) (i : Int) : Int := if x.chk = 0 then (if inB i 0 ((x.pn : Int) - 1) then 0 else 1) else x.chk
theorem P.errB_bad {x : LD} {i s : Int} (hs : P.errB x i = s) (h0 : (s == 0) = false) : (x.chk = s) ∨ (x.chk = 0 ∧ inB i 0 ((x.pn : Int) - 1) = false ∧ s = 1) := by
  unfold P.errB at hs
  by_cases hk : x.chk = 0
  · rw [if_pos hk] at hs
    cases h : inB i 0 ((x.pn : Int) - 1) <;> rw [h] at hs
    · exact .inr ⟨hk, rfl, by simpa using hs.symm⟩
    · exact absurd hs (by have := ne_of_beq h0; simp; omega)
  · rw [if_neg hk] at hs; exact .inl hs
theorem P.ok_of_errB {x : LD} {i : Int} (hs : P.errB x i = 0) : Ok x ∧ x.chk = 0 ∧ ∃ j : Nat, i = (j : Int) ∧ j < x.pn := by
  have hk : x.chk = 0 := Classical.byContradiction fun h => by
    unfold P.errB at hs
    rw [if_neg h] at hs
    exact h hs
  refine ⟨Ok.of_chk hk, hk, i.toNat, ?_⟩
  unfold P.errB at hs
  rw [if_pos hk] at hs
  cases h : inB i 0 ((x.pn : Int) - 1)
  · rw [h] at hs; simp at hs
  · unfold HandSpec.inB at h
    have := of_decide_eq_true h
    omega
theorem booked_err {x : LD} {p : LA} {w : World} (hl : IsLA w x p) (hm : Sm x) {i s : Int} (hs : P.errB x i = s) (h0 : (s == 0) = false) :
    Calls Tryz.prog 40 #[ledV x p, .int .i64 i] w fun e w' => e = .returned (.tuple #[.slice none 0 0, .int .i64 0, .int .i64 s]) ∧ Ext w w' := by
  have HL := hid hl
  have E0 : Ext w (w.alloc (.cells (ledC x p) 27)) := (Ext.refl _).alloc _
  have B0 := hid (Blk.new w 27 (ledC x p))
  unfold ledC at E0 B0
  unfold ledV
  have h0n : (s != 0) = true := by simp [bne, h0]
  have hb := P.errB_bad hs h0
  have hp := hm.p
  clear hl hs
  rcases hb with hk | ⟨hk, hi, rfl⟩
  · have HS := hid hk
    clear hk
    go_enter Tryz.func40, Tryz.ntmps40
    go_wp2_with (go_at_call 136; refine (opened_e (HL.out.ext E0) hm HS.out h0).mono ?_; rintro e w2 ⟨rfl, he2⟩)
    refine bodyPost_ret (results_tmp3 rfl _ _ _) rfl ?_
    exact ⟨rfl, E0.trans he2⟩
  · have HK := hid hk
    have HI := hid hi
    clear hk hi h0 h0n
    go_enter Tryz.func40, Tryz.ntmps40
    go_wp2_with (first
      | (go_at_call 136; refine (opened_o (HL.out.ext E0) hm HK.out).mono ?_; rintro e w2 ⟨g, rfl, he2, -, -⟩; have k0 := (B0.out.ext he2).cell; have k0l := (B0.out.ext he2).lt)
      | (go_at_call 101; refine (in_any _ _ _ _).mono ?_; rintro e w3 ⟨rfl, rfl⟩; rw [HI.out]))
    refine bodyPost_ret (results_tmp3 rfl _ _ _) rfl ?_
    exact ⟨rfl, E0.trans he2⟩
theorem booked_ok {x : LD} {p : LA} {w : World} (hl : IsLA w x p) (hm : Sm x) (hc : x.pn ≤ p.c4) {j : Nat} (hs : P.errB x (j : Int) = 0) :
    Calls Tryz.prog 40 #[ledV x p, .int .i64 (j : Int)] w fun e w' => ∃ u, e = .returned (.tuple #[u, .int .i64 (P.overOf x j), .int .i64 0]) ∧ Ext w w' ∧ OwnR w' w.heap.size 76 2 u (rowsP (P.partsOf x j)) := by
  have HL := hid hl
  obtain ⟨A1, c1, A2, c2, A3, c3, A4, c4, A5, c5⟩ := p
  have E0 : Ext w (w.alloc (.cells (ledC x ⟨A1, c1, A2, c2, A3, c3, A4, c4, A5, c5⟩) 27)) := (Ext.refl _).alloc _
  have B0 := hid (Blk.new w 27 (ledC x ⟨A1, c1, A2, c2, A3, c3, A4, c4, A5, c5⟩))
  unfold ledC at E0 B0
  unfold ledV
  obtain ⟨hx, hk, j', hjj, hj⟩ := P.ok_of_errB hs
  obtain rfl : j = j' := by omega
  have HK := hid hk
  have HI := hid (show inB (j : Int) 0 ((x.pn : Int) - 1) = true from decide_eq_true (by omega))
  have hpn := hx.pn
  have hjc : j ≤ c4 := by dsimp only at hc; omega
  obtain ⟨ga, oa, hA4, hga, q0, q1, q2⟩ := hl.r4.at3 hj
  dsimp only at hA4
  subst hA4
  have hjp : (j : Int) < (x.pn : Int) := by omega
  clear hl hs hk hjj hc
  go_enter Tryz.func40, Tryz.ntmps40
  go_wp2_with (first
    | (go_at_call 136; refine (opened_o (HL.out.ext E0) hm HK.out).mono ?_; rintro e w2 ⟨g, rfl, he2, hg, hd⟩; have HE := hid he2; have HG := hid hg; have HD := hid hd; have k0 := (B0.out.ext he2).cell; have k0l := (B0.out.ext he2).lt; clear he2 hg hd)
    | (go_at_call 101; refine (in_any _ _ _ _).mono ?_; rintro e w3 ⟨rfl, rfl⟩; rw [HI.out]))
  clear k0 k0l q0 q1 q2
  obtain ⟨wb, hwb⟩ : ∃ wb, wb = w.alloc (.cells #[.int .i64 x.folk, .int .i64 x.years, .slice A1 x.bn c1, .slice A2 x.fn c2, .slice A3 x.ln c3, .slice (some ⟨ga, oa, none⟩) x.pn c4, .slice A5 x.mn c5] 27) := ⟨_, rfl⟩
  rw [← hwb] at HE HG E0 B0
  clear hwb
  have HLb := hid (HL.out.ext E0)
  go_loopw [33] (fun i wr => ∃ k : Nat, k ≤ j ∧ i = .int .i64 (k : Int) ∧ ChD wb w2 g wr ∧ Hid (Blk wr g 177 (deskC x ⟨A1, c1, A2, c2, A3, c3, some ⟨ga, oa, none⟩, c4, A5, c5⟩ (P.untilTo x x.years k)))) (fun i _ => j - (intOf i).toNat)
  case atStart => exact ⟨0, by omega, rfl, ChD.refl HE.out g, HD⟩
  case round =>
    obtain ⟨k, hk, rfl, hc, hb⟩ := hrel
    by_cases hlt : k < j
    · obtain ⟨ga', oa', hA4, hga', q0, q1, q2⟩ := (HLb.out.r4.ext hc.e).at3 (show k < x.pn by omega)
      simp only [Option.some.injEq, Addr.mk.injEq] at hA4
      obtain ⟨rfl, rfl, -⟩ := hA4
      have hki : (k : Int) < (j : Int) := by omega
      have hbd := P.until_bd hx x.years k (by omega)
      have HY := hid (show P.untilTo x x.years (k+1) = (P.book x k (P.untilTo x x.years k)).1 from if_pos (by have := hx.pyear k (by omega); omega))
      go_wp2_with (go_at_call 137; refine (book_ch hx hm.f HLb.out (hc.e.trans ((Ext.refl _).alloc _)) (Nat.le_trans (Nat.le_refl _) HG.out) (hb.out.ext ((Ext.refl _).alloc _)) (show k < x.pn by omega) hbd).mono ?_; rintro e w3 ⟨u, rfl, hc3, hd3, -⟩)
      go_roundw
      case rel => exact ⟨k + 1, by omega, by go_num, (hc.ext ((Ext.refl _).alloc _)).trans hc3, hid (by rw [HY.out]; exact hd3)⟩
      case measure => simp [intOf]; omega
    · obtain rfl : k = j := by omega
      obtain ⟨ga', oa', hA4, hga', q0, q1, q2⟩ := (HLb.out.r4.ext hc.e).at3 hj
      simp only [Option.some.injEq, Addr.mk.injEq] at hA4
      obtain ⟨rfl, rfl, -⟩ := hA4
      have hbd := P.until_bd hx x.years k (by omega)
      have k0 := (B0.out.ext hc.e).cell
      have k0l := (B0.out.ext hc.e).lt
      go_wp2_with (go_at_call 137; refine (book_ch hx hm.f HLb.out hc.e HG.out hb.out hj hbd).mono ?_; rintro e w3 ⟨u, rfl, hc3, hd3, hu⟩)
      refine bodyPost_ret (results_tmp3 rfl _ _ _) rfl ?_
      exact ⟨u, rfl, E0.trans hc3.e, hu.base (Nat.le_trans E0.size hc.e.size)⟩
def arr10 (a : Nat → Int) : Array Value := #[.int .i64 (a 0), .int .i64 (a 1), .int .i64 (a 2), .int .i64 (a 3), .int .i64 (a 4), .int .i64 (a 5), .int .i64 (a 6), .int .i64 (a 7), .int .i64 (a 8), .int .i64 (a 9)]
theorem eql10 (a b : Nat → Int) (w : World) : (Op.equalIn 10000 175 (.agg (arr10 a)) (.agg (arr10 b))).run Tryz.prog w = .ok (!anyTo (fun i => a i != b i) 10) w := by
  obtain ⟨i, z, hi, hz, h1, h2, h3⟩ := el22.i
  have hc : Tryz.prog.cellsOf 3 = 1 := by kernel_rfl
  have hu : Tryz.prog.underlying 175 = some (.array 10 3) := by kernel_rfl
  have hp : ∀ (c : Nat → Int) (k : Nat) (w : World), k < 10 → (part 3 (arr10 c) k).run Tryz.prog w = .ok (.int .i64 (c k)) w := by
    intro c k w hk
    rcases (by omega : k = 0 ∨ k = 1 ∨ k = 2 ∨ k = 3 ∨ k = 4 ∨ k = 5 ∨ k = 6 ∨ k = 7 ∨ k = 8 ∨ k = 9) with rfl | rfl | rfl | rfl | rfl | rfl | rfl | rfl | rfl | rfl <;> kernel_rfl
  have he : ∀ (d : Nat) (p q : Int) (w : World), (Op.equalIn (d + 1) 3 (.int .i64 p) (.int .i64 q)).run Tryz.prog w = .ok (p == q) w := fun d p q w => run_equalIn_int w d 3 .i64 .i64 p q Tryz.underlying3
  have main : ∀ (l : List Nat) (w : World), (∀ k, k ∈ l → k < 10) → (Op.eqItems 9999 3 1 (arr10 a) (arr10 b) l).run Tryz.prog w = .ok (l.all fun k => a k == b k) w := by
    intro l
    induction l with
    | nil => intro w _; simp [Op.eqItems]
    | cons k l ih =>
      intro w h
      have hk := h k (List.mem_cons_self ..)
      simp only [Op.eqItems, Sem.run_bind, Nat.mul_one, hp _ k _ hk, Result.andThen_ok, he 9998, Sem.run_ite]
      cases hab : (a k == b k)
      · simp [hab]
      · simp only [Bool.not_true, Bool.false_eq_true, if_false, ih w fun k hk => h k (List.mem_cons_of_mem _ hk)]
        simp [hab]
  rw [show (10000 : Nat) = 9999 + 1 from rfl, run_equalIn_array w 9999 (arr10 a) (arr10 b) hu hi, hc, main (List.range 10) w fun k hk => List.mem_range.1 hk]
  congr 1
  rw [Bool.eq_iff_iff, Bool.not_eq_true', anyTo_false, List.all_eq_true]
  simp
theorem paid_err {x : LD} {p : LA} {w : World} (hl : IsLA w x p) (hm : Sm x) {i s : Int} (hs : P.errL x i = s) (h0 : (s == 0) = false) :
    Calls Tryz.prog 45 #[ledV x p, .int .i64 i] w fun e w' => e = .returned (.tuple #[.int .i64 0, .int .i64 s]) ∧ Ext w w' := by
  have HL := hid hl
  have HS := hid hs
  unfold ledV
  have E0 : Ext w (w.alloc (.cells (ledC x p) 27)) := (Ext.refl _).alloc _
  unfold ledC at E0
  have h0n : (s != 0) = true := by simp [bne, h0]
  clear hl hs
  go_enter Tryz.func45, Tryz.ntmps45
  go_wp2_with (go_at_call 114; refine (known_err (HL.out.ext E0) hm HS.out h0).mono ?_; rintro e w2 ⟨rfl, he2⟩)
  go_ret2
  exact ⟨rfl, E0.trans he2⟩
/-- The year in which a loan is paid, and the error, as numbers. -/
def P.paidV (x : LD) (j : Nat) : Int := (P.paid x j).getD 0
def P.paidE (x : LD) (j : Nat) : Int := if (P.paid x j).isSome then 0 else 6
/-- What is booked on a desk. -/
theorem deskB {w : World} {g : Nat} {x : LD} {p : LA} {b : Nat → Int} (h : Blk w g 177 (deskC x p b)) : ∀ k, k < 10 → w.cell? ⟨g, 7 + k, none⟩ = some (.int .i64 (b k)) := fun k hk => by rw [h.cell, deskC_at hk]
theorem paid_ok {x : LD} {p : LA} {w : World} (hl : IsLA w x p) (hm : Sm x) {j : Nat} (hs : P.errL x (j : Int) = 0) :
    Calls Tryz.prog 45 #[ledV x p, .int .i64 (j : Int)] w fun e w' => e = .returned (.tuple #[.int .i64 (P.paidV x j), .int .i64 (P.paidE x j)]) ∧ Ext w w' := by
  have HL := hid hl
  have HS := hid hs
  obtain ⟨hx, -, j', hjj, hj⟩ := P.ok_of_errL hs
  obtain rfl : j = j' := by omega
  obtain ⟨A1, c1, A2, c2, A3, c3, A4, c4, A5, c5⟩ := p
  obtain ⟨ga, oa, hA3, hga, q0, q1, q2⟩ := hl.r3.at3 hj
  dsimp only at hA3
  subst hA3
  unfold ledV
  have E0 : Ext w (w.alloc (.cells (ledC x ⟨A1, c1, A2, c2, some ⟨ga, oa, none⟩, c3, A4, c4, A5, c5⟩) 27)) := (Ext.refl _).alloc _
  have B0 := hid (Blk.new w 27 (ledC x ⟨A1, c1, A2, c2, some ⟨ga, oa, none⟩, c3, A4, c4, A5, c5⟩))
  unfold ledC at E0 B0
  have hyr := hx.years
  have hly := hx.lyear j hj
  have hln := hx.ln
  have hjl : (j : Int) < (x.ln : Int) := by omega
  have hj10 : (j : Int) < 10 := by omega
  have hjn : j < 10 := by omega
  obtain ⟨y0, hy0⟩ : ∃ y, Hid (y = x.lo j 1) := ⟨_, hid rfl⟩
  rw [← hy0.out] at q1 hly
  have Q1 := hid q1
  clear hl hs hjj q0 q1 q2
  go_enter Tryz.func45, Tryz.ntmps45
  go_upto_region 4 with (go_at_call 114; refine (known_ok (HL.out.ext E0) hm HS.out).mono ?_; rintro e w2 ⟨g0, rfl, he2, -, -⟩; have HE := hid he2; have k0 := (B0.out.ext he2).cell; have k0l := (B0.out.ext he2).lt; clear he2)
  go_upto_region 5 with fail
  obtain ⟨w3, hw3⟩ : ∃ w3, w3 = w2.alloc (.cells (deskC x ⟨A1, c1, A2, c2, some ⟨ga, oa, none⟩, c3, A4, c4, A5, c5⟩ fun _ => 0) 177) := ⟨_, rfl⟩
  have e23 : Ext w2 w3 := by rw [hw3]; exact (Ext.refl _).alloc _
  have hd3 : Blk w3 w2.heap.size 177 (deskC x ⟨A1, c1, A2, c2, some ⟨ga, oa, none⟩, c3, A4, c4, A5, c5⟩ fun _ => 0) := by rw [hw3]; exact Blk.new _ _ _
  have hw3' := hw3
  unfold deskC at hw3'
  rw [← hw3']
  clear hw3 hw3'
  have k0 := ((B0.out.ext HE.out).ext e23).cell
  have k0l := ((B0.out.ext HE.out).ext e23).lt
  have HD3 := hid hd3
  have HL2 := hid (HL.out.ext (E0.trans HE.out))
  clear hd3
  go_upto_region 6 with (go_at_call 116; refine (until116 hx hm.f HL2.out e23 (Nat.le_refl _) HD3.out (x.years - 1)).mono ?_; rintro e w4 ⟨⟨v, rfl⟩, hc4, hd4⟩; have HD4 := hid hd4; have HC4 := hid hc4; have k0 := ((B0.out.ext HE.out).ext hc4.e).cell; have k0l := ((B0.out.ext HE.out).ext hc4.e).lt; have Q14 := ((E0.trans HE.out).trans hc4.e).some_ Q1.out; clear hd4 hc4)
  go_upto_region 7 with fail
  clear k0 k0l Q14
  have HW := hid (E0.trans (HE.out.trans HC4.out.e))
  go_loopw [9] (fun c wr => ∃ y : Int, c = .int .i64 y ∧ y0 ≤ y ∧ y ≤ x.years ∧ Hid (P.paid x j = P.paidTo x j y (x.years - y).toNat) ∧ Ext w4 wr) (fun c _ => 20 - (intOf c).toNat)
  case atStart => exact ⟨y0, rfl, by omega, by omega, hid (by unfold P.paid; rw [← hy0.out]), Ext.refl _⟩
  case round =>
    obtain ⟨y, rfl, hy1, hy2, hp, he⟩ := hrel
    have k0 := ((B0.out.ext HE.out).ext (HC4.out.e.trans he)).cell
    have k0l := ((B0.out.ext HE.out).ext (HC4.out.e.trans he)).lt
    by_cases hlt : y < x.years
    · have hst : P.paidTo x j y (x.years - y).toNat = if P.booked x y j = P.asked x j then some y else if P.doneB x y then none else P.paidTo x j (y + 1) (x.years - (y + 1)).toNat := by
        rw [show (x.years - y).toNat = (x.years - (y + 1)).toNat + 1 by omega]; rfl
      have HST := hid hst
      clear hst
      have HLr := hid (HL.out.ext (HW.out.trans he))
      have HDr := hid (HD4.out.ext he)
      obtain ⟨a, ha⟩ : ∃ z, Hid (z = P.asked x j) := ⟨_, hid rfl⟩
      obtain ⟨b, hb⟩ : ∃ z, Hid (z = P.booked x y j) := ⟨_, hid rfl⟩
      have HAk : ∀ W', Ext w W' → Calls Tryz.prog 135 #[.agg #[.int .i64 x.folk, .int .i64 x.years, .slice A1 x.bn c1, .slice A2 x.fn c2, .slice (some ⟨ga, oa, none⟩) x.ln c3, .slice A4 x.pn c4, .slice A5 x.mn c5], .int .i64 (j : Int)] W' fun e w' => e = .returned (.int .i64 a) ∧ Ext W' w' := fun W' e => by
        rw [ha.out]; exact asked135 hx ((HL.out.ext e).isL) hm.f hj
      have HAK := hid HAk
      clear HAk
      go_upto_region 10 with fail
      obtain ⟨w5, hw5⟩ : ∃ w5, w5 = wr.alloc (.cells (deskC x ⟨A1, c1, A2, c2, some ⟨ga, oa, none⟩, c3, A4, c4, A5, c5⟩ fun _ => 0) 177) := ⟨_, rfl⟩
      have e5 : Ext wr w5 := by rw [hw5]; exact (Ext.refl _).alloc _
      have hd5 : Blk w5 wr.heap.size 177 (deskC x ⟨A1, c1, A2, c2, some ⟨ga, oa, none⟩, c3, A4, c4, A5, c5⟩ fun _ => 0) := by rw [hw5]; exact Blk.new _ _ _
      unfold deskC at hw5
      rw [← hw5]
      clear hw5 k0 k0l
      have HD5 := hid hd5
      clear hd5
      obtain ⟨g2, hg2⟩ : ∃ g2, Hid (g2 = wr.heap.size) := ⟨_, hid rfl⟩
      rw [← hg2.out] at HD5 ⊢
      go_upto_region 11 with (go_at_call 116; refine (until116 hx hm.f HLr.out e5 (Nat.le_of_eq hg2.out.symm) HD5.out y).mono ?_; rintro e w6 ⟨⟨v, rfl⟩, hc6, hd6⟩; have HD6 := hid hd6; have HC6 := hid hc6; clear hd6 hc6)
      have kd := HD6.out.cell
      have kdl := HD6.out.lt
      have kdj := deskB HD6.out j hjn
      rw [← hb.out] at kdj
      have kd0 := kd 0
      have kd1 := kd 1
      have kd2 := kd 2
      have kd3 := kd 3
      have kd4 := kd 4
      have kd5 := kd 5
      have kd6 := kd 6
      unfold deskC at kd0 kd1 kd2 kd3 kd4 kd5 kd6
      simp only [List.getElem?_toArray, List.getElem?_cons_zero, List.getElem?_cons_succ] at kd0 kd1 kd2 kd3 kd4 kd5 kd6
      clear kd
      go_upto_region 11 with fail
      by_cases hba : b = a
      · have hbb : (b == a) = true := by simpa using hba
        have HBA := hid hba
        clear hba
        refine wp_region_later (by kernel_rfl) (by kernel_rfl) ?_
        repeat (go_big_quiet_step ((go_at_call 135; exact Calls.later (HAK.out _ ((HW.out.trans (he.trans HC6.out.e)).trans (Later.ext _))))))
        refine wpQuiet_nil ?_
        rintro w7 ⟨⟨_, he7⟩, rfl⟩
        go_wp2_with fail
        go_ret2
        have hv : P.paid x j = some y := by rw [hp.out, HST.out, if_pos (by rw [← hb.out, ← ha.out, HBA.out])]
        exact ⟨by unfold P.paidV P.paidE; rw [hv]; rfl, HW.out.trans (he.trans (HC6.out.e.trans he7))⟩
      · have hbb : (b == a) = false := by simpa using hba
        have HBA := hid hba
        clear hba
        refine wp_region_later (by kernel_rfl) (by kernel_rfl) ?_
        repeat (go_big_quiet_step ((go_at_call 135; exact Calls.later (HAK.out _ ((HW.out.trans (he.trans HC6.out.e)).trans (Later.ext _))))))
        refine wpQuiet_nil ?_
        rintro w7 ⟨⟨_, he7⟩, rfl⟩
        clear kd0 kd1 kd2 kd3 kd4 kd5 kd6 kdj kdl
        go_upto_region 13 with fail
        have q2 := deskB (HD6.out.ext he7)
        have q2l := (HD6.out.ext he7).lt
        have q1 := deskB (HDr.out.ext (HC6.out.e.trans he7))
        have q1l := (HDr.out.ext (HC6.out.e.trans he7)).lt
        have heq := fun w => eql10 (P.booked x y) (P.booked x (x.years - 1)) w
        obtain ⟨dn, hdn⟩ : ∃ d, Hid (d = P.doneB x y) := ⟨_, hid rfl⟩
        have heq : ∀ w, (Op.equalIn 10000 175 (.agg (arr10 (P.booked x y))) (.agg (arr10 (P.booked x (x.years - 1))))).run Tryz.prog w = .ok dn w := fun w => by rw [hdn.out]; exact heq w
        unfold arr10 at heq
        obtain ⟨u, hu⟩ : ∃ u, Hid (u = P.booked x y) := ⟨_, hid rfl⟩
        obtain ⟨v, hv⟩ : ∃ u, Hid (u = P.booked x (x.years - 1)) := ⟨_, hid rfl⟩
        rw [← hu.out] at q2 heq
        rw [← hv.out] at q1 heq
        have a0 := q1 0 (by omega)
        have a1 := q1 1 (by omega)
        have a2 := q1 2 (by omega)
        have a3 := q1 3 (by omega)
        have a4 := q1 4 (by omega)
        have a5 := q1 5 (by omega)
        have a6 := q1 6 (by omega)
        have a7 := q1 7 (by omega)
        have a8 := q1 8 (by omega)
        have a9 := q1 9 (by omega)
        have b0 := q2 0 (by omega)
        have b1 := q2 1 (by omega)
        have b2 := q2 2 (by omega)
        have b3 := q2 3 (by omega)
        have b4 := q2 4 (by omega)
        have b5 := q2 5 (by omega)
        have b6 := q2 6 (by omega)
        have b7 := q2 7 (by omega)
        have b8 := q2 8 (by omega)
        have b9 := q2 9 (by omega)
        simp only [Nat.reduceAdd] at a0 a1 a2 a3 a4 a5 a6 a7 a8 a9 b0 b1 b2 b3 b4 b5 b6 b7 b8 b9
        clear q1 q2
        refine wp_region_later (by kernel_rfl) (by kernel_rfl) ?_
        repeat (go_big_quiet_step (fail))
        refine wpQuiet_nil ?_
        rintro w8 ⟨⟨_, he8⟩, rfl⟩
        clear a0 a1 a2 a3 a4 a5 a6 a7 a8 a9 b0 b1 b2 b3 b4 b5 b6 b7 b8 b9 heq
        cases dn
        · go_wp2_with fail
          go_roundw
          case rel => exact ⟨y + 1, rfl, by omega, by omega, hid (by rw [hp.out, HST.out, if_neg (by rw [← hb.out, ← ha.out]; exact HBA.out), if_neg (by rw [← hdn.out]; simp)]), he.trans (HC6.out.e.trans (he7.trans he8))⟩
          case measure => simp [intOf]; omega
        · go_wp2_with fail
          go_ret2
          have hv : P.paid x j = none := by rw [hp.out, HST.out, if_neg (by rw [← hb.out, ← ha.out]; exact HBA.out), if_pos (by rw [← hdn.out])]
          exact ⟨by unfold P.paidV P.paidE; rw [hv]; rfl, HW.out.trans (he.trans (HC6.out.e.trans (he7.trans he8)))⟩
    · go_wp2_with fail
      go_ret2
      have hv : P.paid x j = none := by rw [hp.out, show (x.years - y).toNat = 0 by omega]; rfl
      exact ⟨by unfold P.paidV P.paidE; rw [hv]; rfl, HW.out.trans he⟩
end Go.Proofs.YtbceepjjdfpfmaaGreat
