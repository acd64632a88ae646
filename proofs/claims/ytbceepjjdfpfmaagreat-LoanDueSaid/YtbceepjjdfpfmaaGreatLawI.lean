/- Walk of the law LoanDue (7): for every sack, hand and year it returns true. No condition. -/
import Derived.Test.YtbceepjjdfpfmaaGreatAwk
import Derived.Test.YtbceepjjdfpfmaaGreatMk
import Derived.Test.YtbceepjjdfpfmaaGreatByt
import Derived.Test.YtbceepjjdfpfmaaGreatDueP
namespace Go.Proofs.YtbceepjjdfpfmaaGreat
open Go.RowKit HandSpec LoanSpec
set_option maxHeartbeats 4000000
set_option maxRecDepth 100000
theorem errL_at {x : LD} (hx : Ok x) {i : Nat} (hi : i < x.ln) : P.errL x (i : Int) = 0 := by
  unfold P.errL
  rw [if_pos (chk_of_ok hx), show inB (i : Int) 0 ((x.ln : Int) - 1) = true from decide_eq_true (by omega)]
  rfl
theorem errY_at {x : LD} (hx : Ok x) {i : Nat} (hi : i < x.ln) {y : Int} (h0 : 0 ≤ y) (h1 : y < x.years) : P.errY x (i : Int) y = 0 := by
  unfold P.errY
  rw [if_pos (errL_at hx hi), show inB y 0 (x.years - 1) = true from decide_eq_true (by omega)]
  rfl
theorem errW_at {x : LD} (hx : Ok x) {a y : Int} (ha0 : 0 ≤ a) (ha : a < x.folk) (h0 : 0 ≤ y) (h1 : y < x.years) : P.errW x a y = 0 := by
  unfold P.errW
  rw [if_pos (chk_of_ok hx), show inB a 0 (x.folk - 1) = true from decide_eq_true (by omega), show inB y 0 (x.years - 1) = true from decide_eq_true (by omega)]
  rfl
/-- What is overdue of a loan. -/
def odF (x : LD) (who year : Int) (i : Nat) : Int := if x.lo i 0 = who ∧ 0 ≤ LoanSpec.P.due x i ∧ LoanSpec.P.due x i ≤ year then LoanSpec.P.left x i year else 0
theorem odF_bd {x : LD} (hx : Ok x) (who year : Int) {i : Nat} (hi : i < x.ln) : 0 ≤ odF x who year i ∧ odF x who year i ≤ 550 := by
  unfold odF
  split
  · rw [LoanSpec.P.left_eq hx hi]
    exact R.left_bd hx hi year
  · omega
theorem odF_sum {x : LD} (hx : Ok x) (who year : Int) : LoanSpec.P.overdue x who year = sumTo (odF x who year) x.ln := by
  rw [LoanSpec.P.overdue_eq hx]
  unfold R.overdue
  refine sumTo_congr fun i hi => ?_
  unfold odF
  rw [LoanSpec.P.left_eq hx hi]
theorem law7 {A : Option Addr} {n0 cap : Nat} {w : World} (hb : ByteS w A n0) {a1 a2 : Nat} (hj1 : a1 < 256) (hj2 : a2 < 256) :
    Calls Tryz.prog 7 #[.slice A n0 cap, .int .u8 (a1 : Int), .int .u8 (a2 : Int)] w fun e w' => e = .returned (.bool true) ∧ Ext w w' := by
  have HB := hid hb
  clear hb
  go_enter Tryz.func7, Tryz.ntmps7
  go_upto_region 2 with (first
    | (go_at_call 31; refine (fill31 _).mono ?_; rintro e wa ⟨rfl, hea, hsa⟩; have ST := hid (start_of HB.out hea hsa); have EA := hid hea; clear hsa hea)
    | (go_at_call 30; (with_reducible refine (made30 ST.out (fk := 5) (ys := 9) (lm := 8) (pm := 10) (mm := 0) (by omega) (by omega) (by omega) (by omega) (by omega)).mono ?_); rintro e wb ⟨x, p, rfl, hsx, hla, hok, hsm, hcap, hf2, -⟩; have HSX := hid hsx; have HL0 := hid hla; have hx := hid hok; have HSM := hid hsm; unfold ledV; clear hsx hla hok hsm))
  refine wp_later fun w1 hw1 => ?_
  obtain ⟨e1, b3⟩ := hw1.newB
  obtain ⟨N3, hN3⟩ : ∃ N, Hid (N = wb.heap.size) := ⟨_, hid rfl⟩
  rw [← hN3.out] at b3 ⊢
  have B3 : Hid (Blk w1 N3 27 #[.int .i64 x.folk, .int .i64 x.years, .slice p.A1 x.bn p.c1, .slice p.A2 x.fn p.c2, .slice p.A3 x.ln p.c3, .slice p.A4 x.pn p.c4, .slice p.A5 x.mn p.c5]) := hid b3
  have HL := hid (HL0.out.ext e1)
  have EW := hid ((HSX.out.ext EA.out (Nat.le_refl _)).trans e1)
  have E := hid (Ext.refl w1)
  clear hw1 e1 b3 HL0 HSX ST EA
  have k3 := B3.out.cell
  have k3l := B3.out.lt
  have hfk := hx.out.folk
  have hyr := hx.out.years
  have hlnb := hx.out.ln
  have nf : x.folk ≠ 0 := by omega
  have ny : x.years ≠ 0 := by omega
  obtain ⟨who, hwho⟩ : ∃ z, Hid ((a1 : Int) % x.folk = z) := ⟨_, hid rfl⟩
  obtain ⟨yr, hyrr⟩ : ∃ z, Hid ((a2 : Int) % x.years = z) := ⟨_, hid rfl⟩
  have hw0 := Int.emod_nonneg (a1 : Int) nf
  have hw1 := Int.emod_lt_of_pos (a1 : Int) (show (0 : Int) < x.folk by omega)
  have hy0 := Int.emod_nonneg (a2 : Int) ny
  have hy1 := Int.emod_lt_of_pos (a2 : Int) (show (0 : Int) < x.years by omega)
  rw [hwho.out] at hw0 hw1
  rw [hyrr.out] at hy0 hy1
  refine wp_region_later (by kernel_rfl) (by kernel_rfl) ?_
  repeat (go_big_quiet_step (fail))
  refine wpQuiet_nil ?_
  rintro w2 ⟨⟨_, he2⟩, rfl⟩
  rw [hwho.out, hyrr.out]
  clear nf ny E k3 k3l
  have EW := hid (EW.out.trans he2)
  have B3 := hid (B3.out.ext he2)
  have HL := hid (HL.out.ext he2)
  clear he2
  have hS := hid (odF_sum hx.out who yr)
  have E := hid (Ext.refl w2)
  have k3 := B3.out.cell
  have k3l := B3.out.lt
  go_upto_region 5 with fail
  clear k3 k3l
  go_loopw [10, 48] (fun s i W => ∃ (j : Nat) (z : Int), j ≤ x.ln ∧ i = .int .i64 (j : Int) ∧ s = .int .i64 z ∧ Hid (z = sumTo (odF x who yr) j) ∧ Hid (Ext w2 W)) (fun _ i _ => x.ln - (intOf i).toNat)
  case atStart => exact ⟨0, 0, Nat.zero_le _, rfl, rfl, hid rfl, hid (Ext.refl _)⟩
  case round =>
    clear E
    obtain ⟨j, z, hj, rfl, rfl, hz, E⟩ := hrel
    have k3 := (B3.out.ext E.out).cell
    have k3l := (B3.out.ext E.out).lt
    have hzb := HandSpec.P.sumTo_bd (f := odF x who yr) (B := 550) j fun i hi => by
      have := odF_bd hx.out who yr (show i < x.ln by omega)
      omega
    have hzb2 : -5500 ≤ z ∧ z ≤ 5500 := by rw [hz.out]; omega
    clear hzb
    by_cases hlj : j < x.ln
    · obtain ⟨bl, ol, hAl, hbl, l0, l1, l2⟩ := ((HL.out.ext E.out).r3).at3 hlj
      have hst := hid (sumTo_succ (odF x who yr) j)
      rw [← hz.out] at hst
      have hob := odF_bd hx.out who yr hlj
      have hly := hx.out.lyear j hlj
      have hls := hx.out.lsack j hlj
      have eL := hid (errL_at hx.out hlj)
      have eY := hid (fun y h0 h1 => errY_at hx.out hlj (y := y) h0 h1)
      obtain ⟨hdb, hdl⟩ := due_law hx.out hlj
      have HDL := hid hdl
      have HAL := hid (asked_law hx.out hlj)
      have HPL := hid (paid_law hx.out hlj)
      have hod := hid (show odF x who yr j = if x.lo j 0 = who ∧ 0 ≤ LoanSpec.P.due x j ∧ LoanSpec.P.due x j ≤ yr then LoanSpec.P.left x j yr else 0 from rfl)
      have hvb : 0 ≤ LoanSpec.P.left x j yr ∧ LoanSpec.P.left x j yr ≤ 550 := by
        rw [LoanSpec.P.left_eq hx.out hlj]; exact R.left_bd hx.out hlj yr
      have hpb : -100000 ≤ LoanSpec.P.asked x j ∧ LoanSpec.P.asked x j ≤ 100000 := by
        rcases hh : hasB x.fo x.fn j
        · have := (asked_law hx.out hlj).2 hh
          omega
        · have := (asked_law hx.out hlj).1 hh
          omega
      clear hdl
      obtain ⟨y0, hy0'⟩ : ∃ z, Hid (x.lo j 0 = z) := ⟨_, hid rfl⟩
      obtain ⟨y1, hy1'⟩ : ∃ z, Hid (x.lo j 1 = z) := ⟨_, hid rfl⟩
      obtain ⟨y2, hy2'⟩ : ∃ z, Hid (x.lo j 2 = z) := ⟨_, hid rfl⟩
      obtain ⟨du, hdu⟩ : ∃ z, Hid (LoanSpec.P.due x j = z) := ⟨_, hid rfl⟩
      obtain ⟨vl, hvl⟩ : ∃ z, Hid (LoanSpec.P.left x j yr = z) := ⟨_, hid rfl⟩
      obtain ⟨od, hodv⟩ : ∃ z, Hid (odF x who yr j = z) := ⟨_, hid rfl⟩
      obtain ⟨va, has⟩ : ∃ z, Hid (LoanSpec.P.asked x j = z) := ⟨_, hid rfl⟩
      rw [hy0'.out] at l0 hod
      rw [hy1'.out] at l1 hly HDL HPL
      rw [hy2'.out] at l2 hls HAL
      rw [hdu.out] at hdb HDL hod
      rw [hvl.out] at hvb hod
      rw [hodv.out] at hst hob hod
      rw [has.out] at HAL hpb
      rw [hAl] at k3 ⊢
      go_upto_region 7 with fail
      refine wp_later fun w4 hw4 => ?_
      obtain ⟨e4, b12⟩ := hw4.newB
      obtain ⟨N12, hN12⟩ : ∃ N, Hid (N = wr.heap.size) := ⟨_, hid rfl⟩
      rw [← hN12.out] at b12 ⊢
      have B12 : Hid (Blk w4 N12 68 #[.int .i64 y0, .int .i64 y1, .int .i64 y2]) := hid b12
      have E4 := hid (E.out.trans e4)
      have G := hid (Ext.refl w4)
      clear hw4 e4 b12 k3 k3l hbl l0 l1 l2
      have HAl := hid hAl
      rw [← hAl]
      clear hAl
      have k3 := (B3.out.ext (E4.out.trans G.out)).cell
      have k3l := (B3.out.ext (E4.out.trans G.out)).lt
      have k12 := (B12.out.ext G.out).cell
      have k12l := (B12.out.ext G.out).lt
      go_upto_region 8 with (go_at_call 44; refine (due_ok (HL.out.ext (E4.out.trans G.out)) HSM.out eL.out).mono ?_; rintro e wz ⟨rfl, he⟩; have G := hid (G.out.trans he); have k3 := (B3.out.ext (E4.out.trans G.out)).cell; have k3l := (B3.out.ext (E4.out.trans G.out)).lt; have k12 := (B12.out.ext G.out).cell; have k12l := (B12.out.ext G.out).lt; rw [hdu.out]; clear he)
      go_upto_region 9 with (go_at_call 39; refine (asked_ok (HL.out.ext (E4.out.trans G.out)) HSM.out eL.out).mono ?_; rintro e wz ⟨rfl, he⟩; have G := hid (G.out.trans he); have k3 := (B3.out.ext (E4.out.trans G.out)).cell; have k3l := (B3.out.ext (E4.out.trans G.out)).lt; have k12 := (B12.out.ext G.out).cell; have k12l := (B12.out.ext G.out).lt; rw [has.out]; clear he)
      go_upto_region 10 with (go_at_call 36; refine (left_ok (HL.out.ext (E4.out.trans G.out)) HSM.out (eY.out yr hy0 hy1)).mono ?_; rintro e wz ⟨rfl, he⟩; have G := hid (G.out.trans he); have k3 := (B3.out.ext (E4.out.trans G.out)).cell; have k3l := (B3.out.ext (E4.out.trans G.out)).lt; have k12 := (B12.out.ext G.out).cell; have k12l := (B12.out.ext G.out).lt; rw [hvl.out]; clear he)
      go_upto_region 13 with fail
      obtain ⟨w5, rfl⟩ : ∃ W : World, W = wz := ⟨_, rfl⟩
      have G5 := hid G.out
      clear k3 k3l k12 k12l
      go_loopw [84] (fun i W => ∃ y : Nat, (y : Int) ≤ x.years ∧ i = .int .i64 (y : Int) ∧ Hid (Ext w5 W)) (fun i _ => x.years.toNat - (intOf i).toNat)
      case atStart => exact ⟨0, by omega, rfl, hid (Ext.refl _)⟩
      case round =>
        clear G
        obtain ⟨y, hyle, rfl, G6⟩ := hrel
        have G := hid (G5.out.trans G6.out)
        have k3 := (B3.out.ext (E4.out.trans G.out)).cell
        have k3l := (B3.out.ext (E4.out.trans G.out)).lt
        have k12 := (B12.out.ext G.out).cell
        have k12l := (B12.out.ext G.out).lt
        by_cases hyy : (y : Int) < x.years
        · obtain ⟨hd1, hd2⟩ := HDL.out (y : Int) (by omega) hyy
          by_cases hl1 : y1 ≤ (y : Int)
          · rcases hhb : hasB x.bad x.bn (y : Int)
            · obtain ⟨hd3, hd4⟩ := hd2 hl1 hhb
              have HHB := hid hhb
              have td0 : ¬ du < 0 := by omega
              have td1 : ¬ (y : Int) < du := by omega
              clear hd1 hd2 hhb
              by_cases hde : du = (y : Int)
              · have tde : (du == (y : Int)) = true := by simpa using hde
                clear hde
                go_wp2_with (go_at_call 47; refine (has47 (HL.out.ext (E4.out.trans G.out)).r1 HSM.out.1 (y : Int)).mono ?_; rintro e wz ⟨rfl, he⟩; rw [HHB.out]; have G := hid (G.out.trans he); have k3 := (B3.out.ext (E4.out.trans G.out)).cell; have k3l := (B3.out.ext (E4.out.trans G.out)).lt; have k12 := (B12.out.ext G.out).cell; have k12l := (B12.out.ext G.out).lt; have G6 := hid (G6.out.trans he); clear he)
                go_roundw
                case rel => exact ⟨y + 1, by omega, by go_num, G6⟩
                case measure => simp [intOf]; omega
              · have tde : (du == (y : Int)) = false := by simpa using hde
                clear hde
                go_wp2_with (go_at_call 47; refine (has47 (HL.out.ext (E4.out.trans G.out)).r1 HSM.out.1 (y : Int)).mono ?_; rintro e wz ⟨rfl, he⟩; rw [HHB.out]; have G := hid (G.out.trans he); have k3 := (B3.out.ext (E4.out.trans G.out)).cell; have k3l := (B3.out.ext (E4.out.trans G.out)).lt; have k12 := (B12.out.ext G.out).cell; have k12l := (B12.out.ext G.out).lt; have G6 := hid (G6.out.trans he); clear he)
                go_roundw
                case rel => exact ⟨y + 1, by omega, by go_num, G6⟩
                case measure => simp [intOf]; omega
            · have hde : ¬ du = (y : Int) := fun h => by
                have := (hd1 h).2
                rw [hhb] at this
                cases this
              have tde : (du == (y : Int)) = false := by simpa using hde
              have HHB := hid hhb
              clear hd1 hd2 hhb hde
              go_wp2_with (go_at_call 47; refine (has47 (HL.out.ext (E4.out.trans G.out)).r1 HSM.out.1 (y : Int)).mono ?_; rintro e wz ⟨rfl, he⟩; rw [HHB.out]; have G := hid (G.out.trans he); have k3 := (B3.out.ext (E4.out.trans G.out)).cell; have k3l := (B3.out.ext (E4.out.trans G.out)).lt; have k12 := (B12.out.ext G.out).cell; have k12l := (B12.out.ext G.out).lt; have G6 := hid (G6.out.trans he); clear he)
              go_roundw
              case rel => exact ⟨y + 1, by omega, by go_num, G6⟩
              case measure => simp [intOf]; omega
          · have hde : ¬ du = (y : Int) := fun h => hl1 (hd1 h).1
            have tde : (du == (y : Int)) = false := by simpa using hde
            clear hd1 hd2 hde
            go_wp2_with fail
            go_roundw
            case rel => exact ⟨y + 1, by omega, by go_num, G6⟩
            case measure => simp [intOf]; omega
        · have td0 : ¬ du < -1 := by omega
          have td1 : ¬ x.years ≤ du := by omega
          go_upto_region 22 with (go_at_call 47; refine (has47 (HL.out.ext (E4.out.trans G.out)).r2 HSM.out.2 (j : Int)).mono ?_; rintro e wz ⟨rfl, he⟩; have G := hid (G.out.trans he); have k3 := (B3.out.ext (E4.out.trans G.out)).cell; have k3l := (B3.out.ext (E4.out.trans G.out)).lt; have k12 := (B12.out.ext G.out).cell; have k12l := (B12.out.ext G.out).lt; have G6 := hid (G6.out.trans he); clear he)
          obtain ⟨w6, rfl⟩ : ∃ W : World, W = wz := ⟨_, rfl⟩
          have G7 := hid G.out
          have F7 := hid G6.out
          obtain ⟨tf, htf⟩ : ∃ b, Hid (hasB x.fo x.fn (j : Int) = b) := ⟨_, hid rfl⟩
          have hal := HAL.out
          rw [htf.out] at hal ⊢
          go_cut [155] (fun s W => s = .bool false ∧ Hid (W = w6))
          case first =>
            as_aux_lemma =>
              cases tf
              · obtain ⟨ha1, ha2⟩ := hal.2 rfl
                have ta1 : ¬ 10 * va < 11 * y2 := by omega
                have ta2 : ¬ 11 * y2 + 9 < 10 * va := by omega
                go_wp2_with fail
                go_meet
                exact ⟨rfl, hid rfl⟩
              · have ha1 := hal.1 rfl
                subst ha1
                go_wp2_with fail
                go_meet
                exact ⟨rfl, hid rfl⟩
          case rest =>
            obtain ⟨rfl, h0⟩ := hcut
            have h0 := h0.out
            subst h0
            have G := G7
            have G6 := F7
            clear hal HAL HDL
            have td0 := hdb
            clear k3 k3l k12 k12l
            have k3 := (B3.out.ext (E4.out.trans G.out)).cell
            have k3l := (B3.out.ext (E4.out.trans G.out)).lt
            have k12 := (B12.out.ext G.out).cell
            have k12l := (B12.out.ext G.out).lt
            obtain ⟨tv, htv⟩ : ∃ b, Hid (decide (y0 = who ∧ 0 ≤ du ∧ du ≤ yr) = b) := ⟨_, hid rfl⟩
            obtain ⟨W7, hW7⟩ : ∃ W : World, Hid (W = wc) := ⟨_, hid rfl⟩
            go_upto_region 24 with fail
            go_cut [168] (fun s W => s = .bool tv ∧ Hid (W = W7))
            case first =>
              as_aux_lemma =>
                by_cases c0 : y0 = who
                · have t0 : (y0 == who) = true := by simpa using c0
                  by_cases c1 : 0 ≤ du
                  · by_cases c2 : du ≤ yr
                    · have := htv.out
                      rw [decide_eq_true ⟨c0, c1, c2⟩] at this
                      subst this
                      clear c0
                      go_wp2_with fail
                      go_meet
                      exact ⟨rfl, hid hW7.out.symm⟩
                    · have := htv.out
                      rw [decide_eq_false (fun h => c2 h.2.2)] at this
                      subst this
                      clear c0
                      go_wp2_with fail
                      go_meet
                      exact ⟨rfl, hid hW7.out.symm⟩
                  · have := htv.out
                    rw [decide_eq_false (fun h => c1 h.2.1)] at this
                    subst this
                    clear c0
                    go_wp2_with fail
                    go_meet
                    exact ⟨rfl, hid hW7.out.symm⟩
                · have t0 : (y0 == who) = false := by simpa using c0
                  have := htv.out
                  rw [decide_eq_false (fun h => c0 h.1)] at this
                  subst this
                  clear c0
                  go_wp2_with fail
                  go_meet
                  exact ⟨rfl, hid hW7.out.symm⟩
            case rest =>
              obtain ⟨rfl, h1⟩ := hcut
              have h1 := h1.out
              rw [hW7.out] at h1
              subst h1
              clear hW7
              have hodz := hod.out
              have hyl := hid (eY.out (x.years - 1) (by omega) (by omega))
              go_upto_if 168 with fail
              go_cut [10] (fun s W => s = .int .i64 (z + od) ∧ Hid (W = wc))
              case first =>
                as_aux_lemma =>
                  have hc := htv.out
                  cases tv
                  · rw [if_neg (of_decide_eq_false hc)] at hodz
                    subst hodz
                    go_wp2_with fail
                    go_meet
                    exact ⟨by rw [Int.add_zero], hid rfl⟩
                  · rw [if_pos (of_decide_eq_true hc)] at hodz
                    subst hodz
                    go_wp2_with fail
                    go_meet
                    exact ⟨by go_num, hid rfl⟩
              case rest =>
                obtain ⟨rfl, h1⟩ := hcut
                have h1 := h1.out
                subst h1
                clear hodz htv hob
                obtain ⟨lv, hlv⟩ : ∃ z, Hid (LoanSpec.P.left x j (x.years - 1) = z) := ⟨_, hid rfl⟩
                obtain ⟨pv, hpv⟩ : ∃ z, Hid (P.paidV x j = z) := ⟨_, hid rfl⟩
                rcases HPL.out with ⟨hp0, hp1⟩ | ⟨yp, hp0, hp1, hp2, hp3, hp4, hp5⟩
                · have v0 := hid (show P.paidE x j = 6 by unfold P.paidE; rw [hp0]; rfl)
                  rw [hlv.out] at hp1
                  have tl : (lv == 0) = false := by simpa using hp1
                  clear hp0 hp1
                  go_wp2_with (first
                    | (go_at_call 45; refine (paid_ok (HL.out.ext (E4.out.trans G.out)) HSM.out eL.out).mono ?_; rintro e wz ⟨rfl, he⟩; have G := hid (G.out.trans he); have k3 := (B3.out.ext (E4.out.trans G.out)).cell; have k3l := (B3.out.ext (E4.out.trans G.out)).lt; have k12 := (B12.out.ext G.out).cell; have k12l := (B12.out.ext G.out).lt; rw [v0.out, hpv.out]; clear he)
                    | (go_at_call 36; refine (left_ok (HL.out.ext (E4.out.trans G.out)) HSM.out hyl.out).mono ?_; rintro e wz ⟨rfl, he⟩; have G := hid (G.out.trans he); have k3 := (B3.out.ext (E4.out.trans G.out)).cell; have k3l := (B3.out.ext (E4.out.trans G.out)).lt; have k12 := (B12.out.ext G.out).cell; have k12l := (B12.out.ext G.out).lt; rw [hlv.out]; clear he))
                  rw [HAl.out]
                  go_roundw
                  case rel => exact ⟨j + 1, z + od, by omega, by go_num, by go_num, hid hst.out.symm, hid (E4.out.trans G.out)⟩
                  case measure => simp [intOf]; omega
                · have v0 := hid (show P.paidE x j = 0 by unfold P.paidE; rw [hp0]; rfl)
                  have v1 : P.paidV x j = yp := by unfold P.paidV; rw [hp0]; rfl
                  rw [hpv.out] at v1
                  rw [hlv.out] at hp1
                  subst v1
                  subst hp1
                  have hy4 := hid hp4
                  have hyp := hid (eY.out pv (by omega) (by omega))
                  clear hp0 hp4
                  by_cases hgt : y1 < pv
                  · obtain ⟨lq, hlq⟩ : ∃ z, Hid (LoanSpec.P.left x j (pv - 1) = z) := ⟨_, hid rfl⟩
                    have hp6 := hp5 hgt
                    rw [hlq.out] at hp6
                    have tq : (lq == 0) = false := by simpa using hp6
                    have hyq := hid (eY.out (pv - 1) (by omega) (by omega))
                    clear hp5 hp6
                    go_upto_region 28 with (first
                      | (go_at_call 45; refine (paid_ok (HL.out.ext (E4.out.trans G.out)) HSM.out eL.out).mono ?_; rintro e wz ⟨rfl, he⟩; have G := hid (G.out.trans he); have k3 := (B3.out.ext (E4.out.trans G.out)).cell; have k3l := (B3.out.ext (E4.out.trans G.out)).lt; have k12 := (B12.out.ext G.out).cell; have k12l := (B12.out.ext G.out).lt; rw [v0.out, hpv.out]; clear he)
                      | (go_at_call 36; refine (left_ok (HL.out.ext (E4.out.trans G.out)) HSM.out hyl.out).mono ?_; rintro e wz ⟨rfl, he⟩; have G := hid (G.out.trans he); have k3 := (B3.out.ext (E4.out.trans G.out)).cell; have k3l := (B3.out.ext (E4.out.trans G.out)).lt; have k12 := (B12.out.ext G.out).cell; have k12l := (B12.out.ext G.out).lt; rw [hlv.out]; clear he))
                    go_upto_region 32 with (go_at_call 36; refine (left_ok (HL.out.ext (E4.out.trans G.out)) HSM.out hyp.out).mono ?_; rintro e wz ⟨rfl, he⟩; have G := hid (G.out.trans he); have k3 := (B3.out.ext (E4.out.trans G.out)).cell; have k3l := (B3.out.ext (E4.out.trans G.out)).lt; have k12 := (B12.out.ext G.out).cell; have k12l := (B12.out.ext G.out).lt; rw [hy4.out]; clear he)
                    go_wp2_with (go_at_call 36; refine (left_ok (HL.out.ext (E4.out.trans G.out)) HSM.out hyq.out).mono ?_; rintro e wz ⟨rfl, he⟩; have G := hid (G.out.trans he); have k3 := (B3.out.ext (E4.out.trans G.out)).cell; have k3l := (B3.out.ext (E4.out.trans G.out)).lt; have k12 := (B12.out.ext G.out).cell; have k12l := (B12.out.ext G.out).lt; rw [hlq.out]; clear he)
                    rw [HAl.out]
                    go_roundw
                    case rel => exact ⟨j + 1, z + od, by omega, by go_num, by go_num, hid hst.out.symm, hid (E4.out.trans G.out)⟩
                    case measure => simp [intOf]; omega
                  · clear hp5
                    go_upto_region 28 with (first
                      | (go_at_call 45; refine (paid_ok (HL.out.ext (E4.out.trans G.out)) HSM.out eL.out).mono ?_; rintro e wz ⟨rfl, he⟩; have G := hid (G.out.trans he); have k3 := (B3.out.ext (E4.out.trans G.out)).cell; have k3l := (B3.out.ext (E4.out.trans G.out)).lt; have k12 := (B12.out.ext G.out).cell; have k12l := (B12.out.ext G.out).lt; rw [v0.out, hpv.out]; clear he)
                      | (go_at_call 36; refine (left_ok (HL.out.ext (E4.out.trans G.out)) HSM.out hyl.out).mono ?_; rintro e wz ⟨rfl, he⟩; have G := hid (G.out.trans he); have k3 := (B3.out.ext (E4.out.trans G.out)).cell; have k3l := (B3.out.ext (E4.out.trans G.out)).lt; have k12 := (B12.out.ext G.out).cell; have k12l := (B12.out.ext G.out).lt; rw [hlv.out]; clear he))
                    go_wp2_with (go_at_call 36; refine (left_ok (HL.out.ext (E4.out.trans G.out)) HSM.out hyp.out).mono ?_; rintro e wz ⟨rfl, he⟩; have G := hid (G.out.trans he); have k3 := (B3.out.ext (E4.out.trans G.out)).cell; have k3l := (B3.out.ext (E4.out.trans G.out)).lt; have k12 := (B12.out.ext G.out).cell; have k12l := (B12.out.ext G.out).lt; rw [hy4.out]; clear he)
                    rw [HAl.out]
                    go_roundw
                    case rel => exact ⟨j + 1, z + od, by omega, by go_num, by go_num, hid hst.out.symm, hid (E4.out.trans G.out)⟩
                    case measure => simp [intOf]; omega
    · have hjl : j = x.ln := by omega
      have hzv := hid (show LoanSpec.P.overdue x who yr = z by rw [hS.out, hz.out, hjl])
      have hew := hid (errW_at hx.out hw0 hw1 hy0 hy1)
      clear hjl
      go_wp2_with (first
        | (go_at_call 26; refine (overdue_ok (HL.out.ext E.out) HSM.out hew.out).mono ?_; rintro e wz ⟨rfl, he⟩; have E := hid (E.out.trans he); rw [hzv.out]; clear he)
        | (go_at_call 18; refine (awake_any _).mono ?_; rintro e wz ⟨rfl, he⟩; have E := hid (E.out.trans he); clear he))
      go_ret
      exact ⟨rfl, EW.out.trans E.out⟩
end Go.Proofs.YtbceepjjdfpfmaaGreat
