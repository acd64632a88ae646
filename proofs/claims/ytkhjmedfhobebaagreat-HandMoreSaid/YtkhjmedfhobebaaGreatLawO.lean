/- Walk of the law of one count more: for all numbers, any hour and any number it returns true. No condition. -/
import Derived.Test.YtkhjmedfhobebaaGreatMoreW
import Derived.Test.YtkhjmedfhobebaaGreatLawB
import Derived.Test.YtkhjmedfhobebaaGreatDoK
import Derived.Test.YtkhjmedfhobebaaGreatDoQ
namespace Go.Proofs.YtkhjmedfhobebaaGreat
open Go.RowKit HandSpec
set_option maxHeartbeats 4800000
set_option maxRecDepth 100000
/-- Without the count that was added, the counts are those of before. -/
theorem del_rd {x : WD} {w9 : World} {b p : Nat} {h lo hi : Int} (ha : Arr w9 b (x.cn * 3) (fun q => if q < p * 3 then (insC x p h lo hi).c (q / 3) (q % 3) else (insC x p h lo hi).c ((q + 3) / 3) ((q + 3) % 3))) : Rd w9 (some ⟨b, 0, none⟩) x.cn 3 x.c := by
  refine (ha.rd (o := 0) (n := x.cn) (c := 3) (by omega)).congr fun k hk j hj => ?_
  rw [Nat.zero_add]
  by_cases hkp : k < p
  · rw [if_pos (by omega), show (k * 3 + j) / 3 = k by omega, show (k * 3 + j) % 3 = j by omega, insC_lt j hkp]
  · rw [if_neg (by omega), show (k * 3 + j + 3) / 3 = k + 1 by omega, show (k * 3 + j + 3) % 3 = j by omega, insC_gt j (by omega)]
theorem law14 {A : Option Addr} {n cap : Nat} {w : World} (hb : ByteS w A n) {am mm : Nat} (ham : am < 256) (hmm : mm < 256) :
    Calls Tryz.prog 14 #[.slice A n cap, .int .u8 (am : Int), .int .u8 (mm : Int)] w fun e w' => e = .returned (.bool true) ∧ Ext w w' := by
  have HB := hid hb
  clear hb
  go_enter Tryz.func14, Tryz.ntmps14
  go_upto_region 2 with (first
    | (go_at_call 67; refine (fill67 _).mono ?_; rintro e wa ⟨rfl, hea, hsa⟩; have ST := hid (start_of HB.out hea hsa); have EA := hid hea; clear hsa hea)
    | (go_at_call 72; refine (made_more ST.out EA.out (mc := 7) (mh := 6) (by omega) (by omega)).mono ?_; rintro e wb ⟨x, s, t, A3, c3, A4, c4, A5, c5, v6, v7, rfl, hiw, hcap, hx, hT, hcm, heb⟩))
  refine wp_later fun w1 hw1 => ?_
  obtain ⟨E1, b7⟩ := hw1.newB
  have HW := hid (L.truth_fw hx hT)
  have T0 := hid (L.moreP.told_of hx HW.out)
  have IW := hid (hiw.ext E1)
  have EW := hid (heb.trans E1)
  have h1 : x.cn ≤ 1000 := by have := hx.cn; omega
  have h2 : x.bn ≤ 1000 := by have := hx.bn; omega
  have h3 : x.sn ≤ 1000 := by have := hx.sn; omega
  have HX := hid hx
  have hcn1 := hx.cn
  have hcn7 : x.cn ≤ 7 := by omega
  have hhd := hx.hands
  have hho := hx.hours
  have HCAP := hid hcap
  obtain ⟨g7, hg7⟩ : ∃ g, Hid (g = wb.heap.size) := ⟨_, hid rfl⟩
  rw [← hg7.out] at b7 ⊢
  have B7 := hid b7
  clear hiw hx hT heb hw1 E1 ST EA b7 hcm hcap
  have k7 := B7.out.cell
  have k7l := B7.out.lt
  obtain ⟨hmk, hmk2⟩ := tmodN am (show 0 < x.hours + 1 by omega)
  obtain ⟨hr, hhr⟩ : ∃ h, h = am % (x.hours + 1).toNat := ⟨_, rfl⟩
  rw [← hhr] at hmk hmk2
  have hne : x.hours + 1 ≠ 0 := by omega
  clear hhr
  go_upto_region 3 with fail
  refine wp_later fun w2 hw2 => ?_
  obtain ⟨E2, b10⟩ := hw2.newB
  obtain ⟨g10, hg10⟩ : ∃ g, Hid (g = w1.heap.size) := ⟨_, hid rfl⟩
  rw [← hg10.out] at b10 ⊢
  have B10 := hid b10
  have E := hid E2
  clear hw2 E2 b10 k7 k7l hmk hne
  have k7 := (B7.out.ext E.out).cell
  have k7l := (B7.out.ext E.out).lt
  obtain ⟨hB, hhB⟩ : ∃ b, Hid (b = hasB x (hr : Int)) := ⟨_, hid rfl⟩
  have HAS : Hid (anyTo (fun k => x.c k 0 == (hr : Int)) x.cn = hB) := hid (by rw [hhB.out]; rfl)
  go_upto_if 54 with (go_at_call 94; refine (containsFunc94 (IsW.rdC (IW.out.ext E.out)) h1 (asks95 B10.out x.c x.cn)).mono ?_; rintro e w3 ⟨rfl, he3⟩; rw [HAS.out]; have E := hid (E.out.trans he3); have B10 := hid (B10.out.ext he3); have k7 := (B7.out.ext E.out).cell; have k7l := (B7.out.ext E.out).lt; have k10 := B10.out.cell; have k10l := B10.out.lt; clear he3)
  have IR := hid (IsWR.of (IW.out.ext E.out) HCAP.out)
  cases hB
  · have HNB : Hid (hasB x (hr : Int) = false) := hid hhB.out.symm
    obtain ⟨p, hp⟩ : ∃ p, Hid (p = pos x (hr : Int)) := ⟨_, hid rfl⟩
    obtain ⟨y, hy⟩ : ∃ y, Hid (y = insC x (pos x (hr : Int)) (hr : Int) 0 500) := ⟨_, hid rfl⟩
    have HOK : Hid (Ok y) := hid (by rw [hy.out]; exact L.insC_ok HX.out (by omega) HNB.out ⟨by omega, by omega⟩ (by omega))
    have HE : Hid (addE x (hr : Int) 0 500 = 0) := hid (by rw [addE_ins (chk_of HX.out) (by omega) HNB.out]; have := chk_of HOK.out; rw [hy.out] at this; exact this)
    have HYE : Hid (addW x (hr : Int) 0 500 = y) := hid (by rw [addW_ins HE.out, hy.out])
    have HYC : Hid (y.cn = x.cn + 1) := hid (by rw [hy.out]; rfl)
    have hpx : p ≤ x.cn := by rw [hp.out]; exact pos_le x _
    have g1 : y.cn ≤ 1000 := by have := HOK.out.cn; omega
    have g2 : y.bn ≤ 1000 := by have := HOK.out.bn; omega
    have g3 : y.sn ≤ 1000 := by have := HOK.out.sn; omega
    have hpy : p < y.cn := by have := HYC.out; omega
    go_upto_region 7 with (go_at_call 59; refine (add59 IR.out h1 h2 h3 (hr : Int) 0 500).mono ?_; rintro e w4 ⟨u, rfl, he4, hu4⟩; rw [HE.out]; rw [HYE.out] at hu4; have OY := hid hu4.isW; obtain ⟨D1, q1, D2, q2, D3, q3, l1, l2, l3, m1, m2, m3, rfl, -⟩ := hu4; have E := hid (E.out.trans he4); have B10 := hid (B10.out.ext he4); clear he4)
    refine wp_later fun w5 hw5 => ?_
    obtain ⟨E5, b13⟩ := hw5.newB
    obtain ⟨g13, hg13⟩ : ∃ g, Hid (g = w4.heap.size) := ⟨_, hid rfl⟩
    rw [← hg13.out] at b13 ⊢
    have B13 := hid b13
    have IY := hid (OY.out.ext E5)
    have E := hid (E.out.trans E5)
    have B10 := hid (B10.out.ext E5)
    clear hw5 E5 b13 OY IR k7 k7l k10 k10l
    have k13 := B13.out.cell
    have k13l := B13.out.lt
    have HIX : Hid (firstI (fun k => y.c k 0 == (hr : Int)) y.cn = (p : Int)) := hid (by rw [HYC.out, hy.out, hp.out]; exact first_pos HX.out)
    go_upto_region 10 with (go_at_call 96; refine (indexFunc96 (IsW.rdC IY.out) g1 (asks97 B10.out y.c y.cn)).mono ?_; rintro e w6 ⟨rfl, he6⟩; rw [HIX.out]; have E := hid (E.out.trans he6); have B13 := hid (B13.out.ext he6); have IY := hid (IY.out.ext he6); clear he6)
    refine wp_later fun w7 hw7 => ?_
    obtain ⟨E7, b15⟩ := hw7.newB
    obtain ⟨g15, hg15⟩ : ∃ g, Hid (g = w6.heap.size) := ⟨_, hid rfl⟩
    rw [← hg15.out] at b15 ⊢
    have B15 := hid b15
    have IY := hid (IY.out.ext E7)
    have B13 := hid (B13.out.ext E7)
    have E := hid (E.out.trans E7)
    clear hw7 E7 b15 k13 k13l
    go_cut [95] (fun s wx => s = .bool false ∧ Hid (Ext w7 wx))
    case first =>
      have k7 := (B7.out.ext E.out).cell
      have k7l := (B7.out.ext E.out).lt
      have k13 := B13.out.cell
      have k13l := B13.out.lt
      have k15 := B15.out.cell
      have k15l := B15.out.lt
      have hp0 : ¬ (p : Int) < 0 := by omega
      have hwr : IntKind.i64.wrap ((p : Int) + 1) = (p : Int) + 1 := IntWalk.i64_in _ (by omega)
      go_region_held3 (fun w' => Ext w7 w' ∧ ∀ b o, (w7.cell? ⟨b, o, none⟩).isSome = true → w'.cell? ⟨b, o, none⟩ = w7.cell? ⟨b, o, none⟩) (exact Ext.sees (by repeat (first | exact Ext.refl _ | assumption | refine Ext.drew ?_))) (first
        | (go_at_call 100; refine (cloneA100 ((IsW.rdC IY.out).ext (And.left (by assumption))) g1 (by omega)).mono ?_; rintro e wa ⟨b, cap', rfl, hea, hba, hca, haa⟩; replace hba := Nat.le_trans (Ext.size (w := w7) (And.left (by assumption))) hba; replace hea : Ext w7 wa := Ext.trans (And.left (by assumption)) hea)
        | (go_at_call 99; refine (delete99 (w0 := w7) hea hba g1 hca hpy rfl (by first | rfl | exact hwr) haa).mono ?_; rintro e wd ⟨rfl, hea', -, had⟩; have RD : Hid (Rd wd (some ⟨b, 0, none⟩) x.cn 3 x.c) := hid (by rw [HYC.out, Nat.add_sub_cancel, hy.out, ← hp.out] at had; exact del_rd had); rw [show y.cn - 1 = x.cn by have := HYC.out; omega]; clear had; replace hea := hea')
        | (go_at_call 98; refine (equal98 RD.out ((IsW.rdC IW.out).ext (E.out.trans hea)) h1 h1).mono ?_; rintro e we ⟨rfl, hee⟩; rw [eqB_refl]; replace hea := hea.trans hee)
        | fail)
      all_goals
        go_wp2_with fail
        go_meet
        exact ⟨rfl, hid hea⟩
    case rest =>
      obtain ⟨rfl, E10⟩ := hcut
      obtain ⟨w8, rfl⟩ : ∃ W, W = wc := ⟨_, rfl⟩
      have IY := hid (IY.out.ext E10.out)
      have B13 := hid (B13.out.ext E10.out)
      have B15 := hid (B15.out.ext E10.out)
      have E := hid (E.out.trans E10.out)
      clear E10
      have k13 := B13.out.cell
      have k13l := B13.out.lt
      have k15 := B15.out.cell
      have k15l := B15.out.lt
      have HBC : Hid (badC y (p : Int) = false) := hid (by have : ¬ (p : Int) < 0 := (by omega); simp [badC, inB]; omega)
      cases hcl : R.clashes y with
      | some cs =>
        have HTO : Hid (P.toldE y false = 7) := hid (by unfold P.toldE; rw [if_neg (fun h => h (chk_of HOK.out)), if_neg (by simp), hcl]; rfl)
        have WN : Hid (P.toldE y (badC y (p : Int)) ≠ 0) := hid (by rw [HBC.out, HTO.out]; decide)
        clear hcl
        go_upto_region 13 with (go_at_call 51; refine (within_err IY.out g1 g2 g3 (p : Int) WN.out).mono ?_; rintro e w9 ⟨rfl, he9⟩; rw [HBC.out, HTO.out]; have E := hid (E.out.trans he9); clear he9)
        refine wp_later fun w10 hw10 => ?_
        obtain ⟨E10, -⟩ := hw10.newB
        clear hw10
        go_wp2_with (go_at_call 18; refine (awake_any _).mono ?_; rintro e w11 ⟨rfl, he11⟩)
        go_ret
        exact ⟨rfl, EW.out.trans (E.out.trans (E10.trans he11))⟩
      | none =>
        have HWY : Hid (R.fwOk y (R.whole y) = true) := hid (by have := L.clash_iff HOK.out; rw [hcl] at this; cases h : R.fwOk y (R.whole y) with | true => rfl | false => rw [h] at this; cases this)
        have TY := hid (L.moreP.told_of HOK.out HWY.out)
        clear hcl
        obtain ⟨lo, hlo⟩ : ∃ z, Hid (z = P.lo y p) := ⟨_, hid rfl⟩
        obtain ⟨hi, hhi⟩ : ∃ z, Hid (z = P.hi y p) := ⟨_, hid rfl⟩
        obtain ⟨hbd1, hbd2, hbd3⟩ := P.lo_bd HOK.out HWY.out hpy
        have c1 : y.c p 1 = 0 := by rw [hy.out, hp.out]; exact insC_1 ..
        have c2 : y.c p 2 = 500 := by rw [hy.out, hp.out]; exact insC_2 ..
        rw [c1, ← hlo.out] at hbd1
        rw [← hlo.out, ← hhi.out] at hbd2
        rw [c2, ← hhi.out] at hbd3
        clear c1 c2
        go_upto_region 13 with (go_at_call 51; refine (within_ok IY.out g1 g2 g3 hpy TY.out).mono ?_; rintro e w9 ⟨rfl, he9⟩; rw [← hlo.out, ← hhi.out]; have E := hid (E.out.trans he9); have IY := hid (IY.out.ext he9); have B13 := hid (B13.out.ext he9); have B15 := hid (B15.out.ext he9); clear he9)
        refine wp_later fun w10 hw10 => ?_
        obtain ⟨E10, b16⟩ := hw10.newB
        have E := hid (E.out.trans E10)
        have IY := hid (IY.out.ext E10)
        have B13 := hid (B13.out.ext E10)
        have B15 := hid (B15.out.ext E10)
        have k16 := b16.cell
        have k16l := b16.lt
        clear hw10 E10 k13 k13l k15 k15l
        have hgt : ¬ lo > hi := by omega
        go_upto_region 17 with fail
        obtain ⟨hmk, hmk2⟩ := tmodN mm (show 0 < hi - lo + 1 by omega)
        obtain ⟨dm, hdm⟩ : ∃ h, h = mm % (hi - lo + 1).toNat := ⟨_, rfl⟩
        rw [← hdm] at hmk hmk2
        have hne : hi - lo + 1 ≠ 0 := by omega
        clear hdm
        refine wp_region_later (by kernel_rfl) (by kernel_rfl) ?_
        repeat (go_big_quiet_step (fail))
        refine wpQuiet_nil ?_
        rintro w11 ⟨⟨_, he11⟩, rfl⟩
        obtain ⟨nn, hnn⟩ : ∃ z, Hid (z = lo + (dm : Int)) := ⟨_, hid rfl⟩
        rw [← hnn.out]
        have hn1 : lo ≤ nn := by have := hnn.out; omega
        have hn2 : nn ≤ hi := by have := hnn.out; omega
        have E := hid (E.out.trans he11)
        have IY := hid (IY.out.ext he11)
        have B13 := hid (B13.out.ext he11)
        have B15 := hid (B15.out.ext he11)
        clear he11 hmk hmk2 hne k16 k16l b16
        have k13 := B13.out.cell
        have k13l := B13.out.lt
        go_upto_region 19 with (go_at_call 19; refine (own19O IY.out g1 g2 g3).mono ?_; rintro e w12 ⟨u, rfl, he12, D4, d4, D5, d5, D6, d6, rfl, o4, o5, o6⟩)
        refine wp_later fun w13 hw13 => ?_
        obtain ⟨E13, b18⟩ := hw13.newB
        obtain ⟨g18, hg18⟩ : ∃ g, Hid (g = w12.heap.size) := ⟨_, hid rfl⟩
        rw [← hg18.out] at b18 ⊢
        obtain ⟨gD, rfl, hgD, aD⟩ := own_arr (by omega) (o4.ext E13)
        have hIS := hid (setC hpy nn (o4.ext E13) (o5.ext E13) (o6.ext E13))
        have e13 := he12.trans E13
        have hDl := aD.1
        have hD18 : ¬ gD = g18 := by have := o4.lt (g := gD) rfl; have := hg18.out; omega
        have ED := hid ((e13.setCell (p := ⟨gD, p * 3 + 1, none⟩) (.int .i64 nn) (by show w11.heap.size ≤ gD; omega)).setCell (p := ⟨gD, p * 3 + 2, none⟩) (.int .i64 nn) (by show w11.heap.size ≤ gD; omega))
        have B18 := hid ((b18.far (p := ⟨gD, p * 3 + 1, none⟩) (fun e => hD18 e.symm) (.int .i64 nn)).far (p := ⟨gD, p * 3 + 2, none⟩) (fun e => hD18 e.symm) (.int .i64 nn))
        obtain ⟨m1, f1⟩ := aD.2 (p * 3 + 1) (by omega)
        obtain ⟨m2, f2⟩ := aD.2 (p * 3 + 2) (by omega)
        have k18 := b18.cell
        have k18l := b18.lt
        have k15 := (B15.out.ext e13).cell
        have k15l := (B15.out.ext e13).lt
        have hpyi : (p : Int) < (y.cn : Int) := by omega
        clear hw13 E13 he12 o4 o5 o6 k13 k13l e13
        go_upto_region 20 with fail
        obtain ⟨wS, hwS⟩ : ∃ W, W = (w13.setCell ⟨gD, p * 3 + 1, none⟩ (.int .i64 nn)).setCell ⟨gD, p * 3 + 1 + 1, none⟩ (.int .i64 nn) := ⟨_, rfl⟩
        rw [← hwS]
        obtain ⟨z, hz⟩ : ∃ z, Hid (z = setc y p nn) := ⟨_, hid rfl⟩
        have ES : Hid (Ext w11 wS) := hid (by rw [hwS]; exact ED.out)
        have IZ : Hid (IsW wS (.agg #[.int .i64 y.hours, .int .i64 y.allow, .int .i64 y.hands, .slice (some ⟨gD, 0, none⟩) y.cn d4, .slice D5 y.bn d5, .slice D6 y.sn d6]) z) := hid (by rw [hwS, hz.out]; exact hIS.out)
        have BZ : Hid (Blk wS g18 26 #[.int .i64 y.hours, .int .i64 y.allow, .int .i64 y.hands, .slice (some ⟨gD, 0, none⟩) y.cn d4, .slice D5 y.bn d5, .slice D6 y.sn d6]) := hid (by rw [hwS]; exact B18.out)
        have MP : Hid (L.MoreP x z p) := hid (by
          have := L.moreP HX.out HW.out (h := (hr : Int)) (n := nn) (by omega) HNB.out ⟨by omega, by omega⟩ (by have := HWY.out; rw [hy.out] at this; exact this) (by rw [← hy.out, ← hp.out, ← hlo.out]; exact hn1) (by rw [← hy.out, ← hp.out, ← hhi.out]; exact hn2)
          rw [hz.out, hy.out, hp.out]; exact this)
        have z1 : z.cn ≤ 1000 := by have := MP.out.ok.cn; omega
        have z2 : z.bn ≤ 1000 := by have := MP.out.ok.bn; omega
        have z3 : z.sn ≤ 1000 := by have := MP.out.ok.sn; omega
        have E := hid (E.out.trans ES.out)
        have B15 := hid (B15.out.ext ES.out)
        clear hwS hIS ED B18 m1 f1 m2 f2 k18 k18l k15 k15l ES b18 aD hD18 hDl hgD hbd1 hbd2 hbd3 hmk2 hgt
        have k7 := (B7.out.ext E.out).cell
        have k7l := (B7.out.ext E.out).lt
        go_upto_region 21 with (go_at_call 47; refine (short_ok (IW.out.ext E.out) h1 h2 h3 (chk_of HX.out)).mono ?_; rintro e v1 ⟨u, rfl, f1, A19, c19, rfl, r19⟩; rw [rows2_length] at r19 ⊢; have F := hid f1; have R19 := hid r19; clear f1 r19)
        obtain ⟨ns, hns⟩ : ∃ m, Hid (m = (R.short x).length) := ⟨_, hid rfl⟩
        rw [← hns.out] at R19 ⊢
        clear k7 k7l
        have k18 := (BZ.out.ext F.out).cell
        have k18l := (BZ.out.ext F.out).lt
        go_upto_region 22 with (go_at_call 47; refine (short_ok (IZ.out.ext F.out) z1 z2 z3 MP.out.chk).mono ?_; rintro e v2 ⟨u, rfl, f2, A20, c20, rfl, r20⟩; rw [rows2_length] at r20 ⊢; have F := hid (F.out.trans f2); have R19 := hid (R19.out.ext f2); have R20 := hid r20; clear f2 r20)
        obtain ⟨n20, hn20⟩ : ∃ m, Hid (m = (R.short z).length) := ⟨_, hid rfl⟩
        rw [← hn20.out] at R20 ⊢
        clear k18 k18l
        have k7 := (B7.out.ext (E.out.trans F.out)).cell
        have k7l := (B7.out.ext (E.out.trans F.out)).lt
        go_upto_region 23 with (go_at_call 36; refine (must_ok (IW.out.ext (E.out.trans F.out)) h1 h2 h3 T0.out).mono ?_; rintro e v3 ⟨u, rfl, f3, A22, c22, rfl, r22⟩; rw [rows1_length] at r22 ⊢; have F := hid (F.out.trans f3); have R19 := hid (R19.out.ext f3); have R20 := hid (R20.out.ext f3); have R22 := hid r22; clear f3 r22)
        obtain ⟨n22, hn22⟩ : ∃ m, Hid (m = (P.must x).length) := ⟨_, hid rfl⟩
        rw [← hn22.out] at R22 ⊢
        clear k7 k7l
        have k18 := (BZ.out.ext F.out).cell
        have k18l := (BZ.out.ext F.out).lt
        go_upto_region 24 with (go_at_call 36; refine (must_ok (IZ.out.ext F.out) z1 z2 z3 MP.out.told).mono ?_; rintro e v4 ⟨u, rfl, f4, s24⟩; have S24 := hid s24; obtain ⟨A24, c24, rfl, -⟩ := s24; rw [rows1_length] at S24 ⊢; have F := hid (F.out.trans f4); have R19 := hid (R19.out.ext f4); have R20 := hid (R20.out.ext f4); have R22 := hid (R22.out.ext f4); clear f4)
        obtain ⟨n24, hn24⟩ : ∃ m, Hid (m = (P.must z).length) := ⟨_, hid rfl⟩
        rw [← hn24.out] at S24 ⊢
        refine wp_later fun v5 hv5 => ?_
        obtain ⟨e5, b24⟩ := hv5.newB
        obtain ⟨g24, hg24⟩ : ∃ g, Hid (g = v4.heap.size) := ⟨_, hid rfl⟩
        rw [← hg24.out] at b24 ⊢
        have B24 := hid b24
        have F := hid (F.out.trans e5)
        have R19 := hid (R19.out.ext e5)
        have R20 := hid (R20.out.ext e5)
        have R22 := hid (R22.out.ext e5)
        have S24 := hid (S24.out.ext e5)
        clear hv5 e5 b24 k18 k18l
        have k7 := (B7.out.ext (E.out.trans F.out)).cell
        have k7l := (B7.out.ext (E.out.trans F.out)).lt
        go_upto_region 25 with (go_at_call 37; refine (can_ok (IW.out.ext (E.out.trans F.out)) h1 h2 h3 T0.out).mono ?_; rintro e v6 ⟨u, rfl, f6, s26⟩; have S26 := hid s26; obtain ⟨A26, c26, rfl, -⟩ := s26; rw [rows1_length] at S26 ⊢; have F := hid (F.out.trans f6); have R19 := hid (R19.out.ext f6); have R20 := hid (R20.out.ext f6); have R22 := hid (R22.out.ext f6); have S24 := hid (S24.out.ext f6); have B24 := hid (B24.out.ext f6); clear f6)
        obtain ⟨n26, hn26⟩ : ∃ m, Hid (m = (P.can x).length) := ⟨_, hid rfl⟩
        rw [← hn26.out] at S26 ⊢
        refine wp_later fun v7 hv7 => ?_
        obtain ⟨e7, b26⟩ := hv7.newB
        obtain ⟨g26, hg26⟩ : ∃ g, Hid (g = v6.heap.size) := ⟨_, hid rfl⟩
        rw [← hg26.out] at b26 ⊢
        have B26 := hid b26
        have F := hid (F.out.trans e7)
        have R19 := hid (R19.out.ext e7)
        have R20 := hid (R20.out.ext e7)
        have R22 := hid (R22.out.ext e7)
        have S24 := hid (S24.out.ext e7)
        have B24 := hid (B24.out.ext e7)
        have S26 := hid (S26.out.ext e7)
        clear hv7 e7 b26 k7 k7l
        have k18 := (BZ.out.ext F.out).cell
        have k18l := (BZ.out.ext F.out).lt
        go_upto_region 26 with (go_at_call 37; refine (can_ok (IZ.out.ext F.out) z1 z2 z3 MP.out.told).mono ?_; rintro e v8 ⟨u, rfl, f8, A28, c28, rfl, r28⟩; rw [rows1_length] at r28 ⊢; have F := hid (F.out.trans f8); have R19 := hid (R19.out.ext f8); have R20 := hid (R20.out.ext f8); have R22 := hid (R22.out.ext f8); have S24 := hid (S24.out.ext f8); have B24 := hid (B24.out.ext f8); have S26 := hid (S26.out.ext f8); have B26 := hid (B26.out.ext f8); have R28 := hid r28; clear f8 r28)
        obtain ⟨n28, hn28⟩ : ∃ m, Hid (m = (P.can z).length) := ⟨_, hid rfl⟩
        rw [← hn28.out] at R28 ⊢
        clear k18 k18l
        have B15 := hid (B15.out.ext F.out)
        have l22 : n22 ≤ 6 := by rw [hn22.out]; exact must_len6 HX.out
        have l24 : (P.must z).length ≤ 1000 := by have := must_len6 MP.out.ok; omega
        have l26 : (P.can x).length ≤ 1000 := by have := can_len6 HX.out; omega
        have l28 : n28 ≤ 6 := by rw [hn28.out]; exact can_len6 MP.out.ok
        go_cut [208] (fun s wx => s = .bool false ∧ Hid (Ext v8 wx))
        case first =>
          have k7 := (B7.out.ext (E.out.trans F.out)).cell
          have k7l := (B7.out.ext (E.out.trans F.out)).lt
          have k15 := B15.out.cell
          have k15l := B15.out.lt
          have k24 := B24.out.cell
          have k24l := B24.out.lt
          have k26 := B26.out.cell
          have k26l := B26.out.lt
          have M85 := hid (containsFunc85 (cap := c22) R22.out (by omega) (asks101 B24.out S24.out l24 hn22.out))
          rw [sub_any MP.out.must hn22.out] at M85
          have hcs : (p = 0 ∨ (0 < p ∧ p < x.cn)) ∨ (0 < p ∧ ¬ p < x.cn) := by omega
          rcases hcs with (h0 | h0) | h0
          · have d1 : decide ((0 : Int) < (p : Int)) = false := decide_eq_false (by omega)
            have d2 : decide (0 < p) = false := decide_eq_false (by omega)
            clear h0
            go_wp2_with (go_at_call 85; refine M85.out.mono ?_; rintro e v9 ⟨rfl, f9⟩; have F9 := hid f9; have k15 := (B15.out.ext f9).cell; have k15l := (B15.out.ext f9).lt; clear f9)
            go_meet
            exact ⟨rfl, F9⟩
          · have M86 := hid (fun W (e : Ext v8 W) => (by have h := containsFunc85 (cap := c28) (R28.out.ext e) (by omega) (asks102 (B26.out.ext e) (S26.out.ext e) l26 hn28.out); rw [sub_any (MP.out.can h0.1 h0.2) hn28.out] at h; exact h : Calls Tryz.prog 85 #[.slice A28 n28 c28, .func (.func 102) #[] #[.pointer (some ⟨g26, 0, none⟩)]] W fun e w' => e = .returned (.bool false) ∧ Ext W w'))
            have d1 : decide ((0 : Int) < (p : Int)) = true := decide_eq_true (by omega)
            have d2 : decide (0 < p) = true := decide_eq_true (by omega)
            have d3 : decide ((p : Int) < (x.cn : Int)) = true := decide_eq_true (by omega)
            have d4 : decide (p < x.cn) = true := decide_eq_true (by omega)
            clear h0
            go_wp2_with (first
              | (go_at_call 85; (fail_if_success (have := F9)); refine M85.out.mono ?_; rintro e v9 ⟨rfl, f9⟩; have F9 := hid f9; have k15 := (B15.out.ext f9).cell; have k15l := (B15.out.ext f9).lt; have k7 := (B7.out.ext (E.out.trans (F.out.trans f9))).cell; have k7l := (B7.out.ext (E.out.trans (F.out.trans f9))).lt; have k26 := (B26.out.ext f9).cell; have k26l := (B26.out.ext f9).lt; clear f9)
              | (go_at_call 85; refine (M86.out _ F9.out).mono ?_; rintro e v10 ⟨rfl, f10⟩; have F10 := hid (F9.out.trans f10)))
            go_meet
            exact ⟨rfl, F10⟩
          · have d1 : decide ((0 : Int) < (p : Int)) = true := decide_eq_true (by omega)
            have d2 : decide (0 < p) = true := decide_eq_true (by omega)
            have d3 : decide ((p : Int) < (x.cn : Int)) = false := decide_eq_false (by omega)
            have d4 : decide (p < x.cn) = false := decide_eq_false (by omega)
            clear h0
            go_wp2_with (go_at_call 85; refine M85.out.mono ?_; rintro e v9 ⟨rfl, f9⟩; have F9 := hid f9; have k15 := (B15.out.ext f9).cell; have k15l := (B15.out.ext f9).lt; have k7 := (B7.out.ext (E.out.trans (F.out.trans f9))).cell; have k7l := (B7.out.ext (E.out.trans (F.out.trans f9))).lt; clear f9)
            go_meet
            exact ⟨rfl, F9⟩
        case rest =>
          obtain ⟨rfl, E26⟩ := hcut
          obtain ⟨v9, rfl⟩ : ∃ W, W = wc := ⟨_, rfl⟩
          have F := hid (F.out.trans E26.out)
          have R19 := hid (R19.out.ext E26.out)
          have R20 := hid (R20.out.ext E26.out)
          have B15 := hid (B15.out.ext E26.out)
          clear R22 S24 B24 S26 B26 R28 l22 l24 l26 l28 hn22 hn24 hn26 hn28 E26
          have hns1 : ns ≤ 64 := by rw [hns.out]; exact Nat.le_trans (short_len HX.out) (by omega)
          have hn201 : n20 ≤ 64 := by rw [hn20.out]; exact Nat.le_trans (short_len MP.out.ok) (by omega)
          go_upto_region 30 with fail
          go_loopw [212] (fun j W => ∃ q : Nat, q ≤ ns ∧ j = .int .i64 (q : Int) ∧ Ext v9 W) (fun j _ => ns - (intOf j).toNat)
          case atStart => exact ⟨0, by omega, rfl, Ext.refl _⟩
          case round =>
            obtain ⟨q, hq, rfl, he⟩ := hrel
            by_cases hqn : q < ns
            · have hql : q < (R.short x).length := by have := hns.out; omega
              obtain ⟨bs, os, rfl, hbs, q0, q1⟩ := (R19.out.ext he).at2 hqn
              rw [rows2_at0 _ hql] at q0
              rw [rows2_at1 _ hql] at q1
              have hmem : nth (R.short x) q ∈ R.short x := L.nth_mem hql
              obtain ⟨a, ha⟩ : ∃ a, Hid (a = (nth (R.short x) q).1) := ⟨_, hid rfl⟩
              obtain ⟨b, hb⟩ : ∃ b, Hid (b = (nth (R.short x) q).2) := ⟨_, hid rfl⟩
              have hab2 : nth (R.short x) q = (a, b) := by rw [ha.out, hb.out]
              rw [hab2] at hmem
              rw [← ha.out] at q0
              rw [← hb.out] at q1
              obtain ⟨hlt1, hlt2⟩ : a < b ∧ b < x.cn := (R.mem_short.1 hmem).1
              have HM := hid (decide_eq_true (MP.out.short a b hmem))
              have hqi : (q : Int) < (ns : Int) := by omega
              clear hmem hab2 hql
              go_upto_region 32 with fail
              refine wp_later fun v10 hv10 => ?_
              obtain ⟨e10, b32⟩ := hv10.newB
              have H15 := hid (B15.out.ext (he.trans e10))
              have H20 := hid (R20.out.ext (he.trans e10))
              have k32 := b32.cell
              have k32l := b32.lt
              have k15 := H15.out.cell
              have k15l := H15.out.lt
              have C104 := hid (fun W (e : Ext v10 W) => (by rw [← HM.out]; exact contains104 (H20.out.ext e) hn20.out (by omega) _ _ : Calls Tryz.prog 104 #[.slice A20 n20 c20, .agg #[.int .i64 ((L.upN p a : Nat) : Int), .int .i64 ((L.upN p b : Nat) : Int)]] W fun e w' => e = .returned (.bool true) ∧ Ext W w'))
              clear hv10 q0 q1
              refine wp_region_later (by kernel_rfl) (by kernel_rfl) ?_
              repeat (go_big_quiet_step (first | (go_at_call 103; exact Calls.later (run103 _ _ (H15.out.ext (Later.ext _)) (by omega))) | (go_at_call 104; exact Calls.later (C104.out _ (Later.ext _)))))
              refine wpQuiet_nil ?_
              rintro v11 ⟨⟨_, f11⟩, rfl⟩
              go_wp2_with fail
              go_roundw
              case rel => exact ⟨q + 1, by omega, by go_num, he.trans (e10.trans f11)⟩
              case measure => simp [intOf]; omega
            · have hqi : ¬ (q : Int) < (ns : Int) := by omega
              obtain ⟨v12, rfl⟩ : ∃ W, W = wr := ⟨_, rfl⟩
              have F := hid (F.out.trans he)
              clear R19 R20 B15 hq he
              have k7 := (B7.out.ext (E.out.trans F.out)).cell
              have k7l := (B7.out.ext (E.out.trans F.out)).lt
              go_upto_region 36 with fail
              clear k7 k7l
              go_loopw [231] (fun j W => ∃ h : Nat, (h : Int) ≤ x.hands ∧ j = .int .i64 (h : Int) ∧ Ext v12 W) (fun j _ => x.hands.toNat - (intOf j).toNat)
              case atStart => exact ⟨0, by omega, rfl, Ext.refl _⟩
              case round =>
                obtain ⟨h, hle, rfl, he⟩ := hrel
                have F := hid (F.out.trans he)
                by_cases hlt : (h : Int) < x.hands
                · have k7 := (B7.out.ext (E.out.trans F.out)).cell
                  have k7l := (B7.out.ext (E.out.trans F.out)).lt
                  obtain ⟨la, hla⟩ : ∃ m, Hid (m = P.proved x (2 ^ h)) := ⟨_, hid rfl⟩
                  obtain ⟨lb, hlb⟩ : ∃ m, Hid (m = P.proved z (2 ^ h)) := ⟨_, hid rfl⟩
                  have hlz : (h : Int) < z.hands := by rw [MP.out.hands]; exact hlt
                  go_upto_region 39 with (go_at_call 25; refine (least_ok (IW.out.ext (E.out.trans F.out)) h1 h2 h3 hlt T0.out).mono ?_; rintro e v13 ⟨rfl, f13⟩; rw [← hla.out]; have G := hid f13; have k18 := (BZ.out.ext (F.out.trans f13)).cell; have k18l := (BZ.out.ext (F.out.trans f13)).lt; clear f13)
                  have hab : ¬ lb < la := by have := MP.out.least h (by omega); rw [hla.out, hlb.out]; omega
                  go_upto_region 40 with (go_at_call 25; refine (least_ok (IZ.out.ext (F.out.trans G.out)) z1 z2 z3 hlz MP.out.told).mono ?_; rintro e v14 ⟨rfl, f14⟩; rw [← hlb.out]; have G := hid (G.out.trans f14); clear f14)
                  go_wp2_with fail
                  go_roundw
                  case rel => exact ⟨h + 1, by omega, by go_num, he.trans G.out⟩
                  case measure => simp [intOf]; omega
                · go_wp2_with (go_at_call 18; refine (awake_any _).mono ?_; rintro e w6 ⟨rfl, he6⟩)
                  go_ret
                  exact ⟨rfl, EW.out.trans (E.out.trans (F.out.trans he6))⟩
  · have HE : Hid (addE x (hr : Int) 0 0 = 5) := hid (addE_has (chk_of HX.out) (by omega) hhB.out.symm)
    go_upto_region 5 with (go_at_call 59; refine (add59 IR.out h1 h2 h3 (hr : Int) 0 0).mono ?_; rintro e w4 ⟨u, rfl, he4, hu4⟩; rw [HE.out]; obtain ⟨D1, q1, D2, q2, D3, q3, l1, l2, l3, m1, m2, m3, rfl, -⟩ := hu4; have E := hid (E.out.trans he4))
    refine wp_later fun w5 hw5 => ?_
    obtain ⟨E5, -⟩ := hw5.newB
    go_wp2_with (go_at_call 18; refine (awake_any _).mono ?_; rintro e w6 ⟨rfl, he6⟩)
    go_ret
    exact ⟨rfl, EW.out.trans (E.out.trans (E5.trans he6))⟩
end Go.Proofs.YtkhjmedfhobebaaGreat
