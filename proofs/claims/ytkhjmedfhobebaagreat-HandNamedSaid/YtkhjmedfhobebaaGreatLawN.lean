/- Walk of the law of names (under way). No condition. -/
import Derived.Test.YtkhjmedfhobebaaGreatNameW
import Derived.Test.YtkhjmedfhobebaaGreatLawB
import Derived.Test.YtkhjmedfhobebaaGreatAllowP
import Derived.Test.YtkhjmedfhobebaaGreatDoX
import Derived.Test.YtkhjmedfhobebaaGreatDoK
import Derived.Test.YtkhjmedfhobebaaGreatDoQ
import Derived.Test.YtkhjmedfhobebaaGreatDoY
namespace Go.Proofs.YtkhjmedfhobebaaGreat
open Go.RowKit HandSpec
set_option maxHeartbeats 3200000
set_option maxRecDepth 100000
theorem any_nth (l : List (Nat × Nat)) (p : Nat × Nat → Bool) : anyTo (fun k => p (nth l k)) l.length = l.any p := by
  rw [Bool.eq_iff_iff, anyTo_true, List.any_eq_true]
  constructor
  · rintro ⟨k, hk, h1⟩
    rw [nth_get l hk] at h1
    exact ⟨_, List.getElem_mem hk, h1⟩
  · rintro ⟨s, hs, h1⟩
    obtain ⟨k, hk, rfl⟩ := List.getElem_of_mem hs
    exact ⟨k, hk, by rw [nth_get l hk]; exact h1⟩
theorem asks106 {W : World} {g : Nat} (l : List (Nat × Nat)) {n a b : Nat} (hn : n = l.length) (hb : Blk W g 51 #[.int .i64 (a : Int), .int .i64 (b : Int)]) :
    Asks W (.func (.func 106) #[] #[.pointer (some ⟨g, 0, none⟩)]) n (enc2 (rowsAt (rows2 l))) (fun k => P.innerB (a, b) (nth l k)) := by
  subst hn
  exact ⟨_, _, rfl, enters_ Tryz.func106 (by kernel_rfl) rfl, fun k hk W' e => by
    unfold enc2
    rw [rows2_at0 _ hk, rows2_at1 _ hk]
    exact run106 _ _ a b (hb.ext e)⟩
theorem bytes_on {w w' : World} {A : Option Addr} {n : Nat} (h : ByteS w A n) (e : Ext w w') : ByteS w' A n := fun hn => by
  obtain ⟨b, o, h1, h2, h3⟩ := h hn
  exact ⟨b, o, h1, Nat.lt_of_lt_of_le h2 e.size, fun k hk => by
    obtain ⟨c, hc⟩ := h3 k hk
    exact ⟨c, e.some_ hc⟩⟩
theorem law15 {A : Option Addr} {n cap : Nat} {A' : Option Addr} {n' cap' : Nat} {w : World} (hb : ByteS w A n) (hb' : ByteS w A' n') :
    Calls Tryz.prog 15 #[.slice A n cap, .slice A' n' cap'] w fun e w' => e = .returned (.bool true) ∧ Ext w w' := by
  have HB := hid hb
  have HB' := hid hb'
  clear hb hb'
  go_enter Tryz.func15, Tryz.ntmps15
  go_upto_region 2 with (first
    | (go_at_call 67; refine (fill67 _).mono ?_; rintro e wa ⟨rfl, hea, hsa⟩; have ST := hid (start_of HB.out hea hsa); have EA := hid hea; clear hsa hea)
    | (go_at_call 72; refine (made_any ST.out EA.out (mc := 8) (mh := 6) (by omega) (by omega)).mono ?_; rintro e wb ⟨x, s, t, A3, c3, A4, c4, A5, c5, A6, c6, lc, nh, rfl, hiw, hx, hT, -, -, -, -, -, heb⟩))
  refine wp_later fun w1 hw1 => ?_
  obtain ⟨E1, b5⟩ := hw1.newB
  have HW := hid (L.truth_fw hx hT)
  have IW := hid (hiw.ext E1)
  have EW := hid (heb.trans E1)
  have h1 : x.cn ≤ 1000 := by have := hx.cn; omega
  have h2 : x.bn ≤ 1000 := by have := hx.bn; omega
  have h3 : x.sn ≤ 1000 := by have := hx.sn; omega
  have HX := hid hx
  have hcn1 := hx.cn
  have hhd := hx.hands
  obtain ⟨g5, hg5⟩ : ∃ g, Hid (g = wb.heap.size) := ⟨_, hid rfl⟩
  rw [← hg5.out] at b5 ⊢
  have B5 := hid b5
  clear hiw hx hT heb hw1 E1 ST EA b5
  have k5 := B5.out.cell
  have k5l := B5.out.lt
  have T0 := hid (L.told_fw HX.out HW.out)
  have HC := hid (chk_of HX.out)
  have E := hid (Ext.refl w1)
  obtain ⟨nf, hnf⟩ : ∃ m, Hid (m = (P.fewest x).length) := ⟨_, hid rfl⟩
  obtain ⟨na, hna⟩ : ∃ m, Hid (m = (P.apart x).length) := ⟨_, hid rfl⟩
  have hna1 : na ≤ 64 := by have := L.apart_few HX.out HW.out; have := F.inc_length (L.few_holds HX.out HW.out).1; have := hna.out; omega
  have haf : na ≤ nf := by have := L.apart_few HX.out HW.out; have := hnf.out; have := hna.out; omega
  go_upto_region 6 with (first
    | (go_at_call 47; refine (short_ok (IW.out.ext E.out) h1 h2 h3 HC.out).mono ?_; rintro e w2 ⟨u8, rfl, he2, hs8⟩; have E := hid (E.out.trans he2); have F2 := hid he2; have S8 := hid hs8; have k5 := (B5.out.ext E.out).cell; have k5l := (B5.out.ext E.out).lt; clear hs8 he2)
    | (go_at_call 48; refine (smallestX_ok (IW.out.ext E.out) h1 h2 h3 HC.out).mono ?_; rintro e w3 ⟨u10, rfl, he3, hs10⟩; have E := hid (E.out.trans he3); have F3 := hid he3; have S10 := hid hs10; have k5 := (B5.out.ext E.out).cell; have k5l := (B5.out.ext E.out).lt; clear hs10 he3)
    | (go_at_call 35; refine (fewest_ok (IW.out.ext E.out) h1 h2 h3 T0.out).mono ?_; rintro e w4 ⟨u12, rfl, he4, hs12⟩; have E := hid (E.out.trans he4); have F4 := hid he4; have S12 := hid hs12; have k5 := (B5.out.ext E.out).cell; have k5l := (B5.out.ext E.out).lt; clear hs12 he4)
    | (go_at_call 49; refine (apart_own (IW.out.ext E.out) h1 h2 h3 HC.out).mono ?_; rintro e w5 ⟨u14, B14, rfl, he5, ho14⟩; have hs14 := ho14.slR; have O14 := hid ho14; have E := hid (E.out.trans he5); have S14 := hid hs14; have F5 := hid he5; have k5 := (B5.out.ext E.out).cell; have k5l := (B5.out.ext E.out).lt; clear hs14 he5 ho14))
  have I5 := hid (IW.out.ext E.out)
  have W5 := hid (EW.out.trans E.out)
  have BB := hid (B5.out.ext E.out)
  have R8 := hid (S8.out.ext (F3.out.trans (F4.out.trans F5.out)))
  have R10 := hid (S10.out.ext (F4.out.trans F5.out))
  have R12 := hid (S12.out.ext F5.out)
  obtain ⟨A8, c8, hu8, -⟩ := S8.out
  obtain ⟨A10, c10, hu10, -⟩ := S10.out
  obtain ⟨A12, c12, hu12, -⟩ := S12.out
  obtain ⟨A14, c14, hu14, -⟩ := S14.out
  subst hu8 hu10 hu12 hu14
  obtain ⟨nh, hnh⟩ : ∃ m, Hid (m = (R.short x).length) := ⟨_, hid rfl⟩
  obtain ⟨nm, hnm⟩ : ∃ m, Hid (m = (P.smallest x).length) := ⟨_, hid rfl⟩
  have D8 : Hid (Rd w5 A8 nh 2 (rowsAt (rows2 (R.short x)))) := hid (by
    obtain ⟨A, c, e, hr⟩ := R8.out
    simp only [Value.slice.injEq] at e
    obtain ⟨rfl, -, -⟩ := e
    rw [rows2_length] at hr
    rw [hnh.out]; exact hr)
  have D10 : Hid (Rd w5 A10 nm 2 (rowsAt (rows2 (P.smallest x)))) := hid (by
    obtain ⟨A, c, e, hr⟩ := R10.out
    simp only [Value.slice.injEq] at e
    obtain ⟨rfl, -, -⟩ := e
    rw [rows2_length] at hr
    rw [hnm.out]; exact hr)
  have D12 : Hid (Rd w5 A12 nf 1 (rowsAt (rows1 (P.fewest x)))) := hid (by
    obtain ⟨A, c, e, hr⟩ := R12.out
    simp only [Value.slice.injEq] at e
    obtain ⟨rfl, -, -⟩ := e
    rw [rows1_length] at hr
    rw [hnf.out]; exact hr)
  have D14 : Hid (Rd w5 A14 na 2 (rowsAt (rows2 (P.apart x)))) := hid (by
    obtain ⟨A, c, e, hr⟩ := S14.out
    simp only [Value.slice.injEq] at e
    obtain ⟨rfl, -, -⟩ := e
    rw [rows2_length] at hr
    rw [hna.out]; exact hr)
  have l8 : (rows2 (R.short x)).length = nh := by rw [rows2_length, hnh.out]
  have l10 : (rows2 (P.smallest x)).length = nm := by rw [rows2_length, hnm.out]
  have l12 : (rows1 (P.fewest x)).length = nf := by rw [rows1_length, hnf.out]
  have l14 : (rows2 (P.apart x)).length = na := by rw [rows2_length, hna.out]
  rw [l8, l10, l12, l14]
  have hc14 : na ≤ c14 := by have := own_cap O14.out; omega
  clear O14
  clear l8 l10 l12 l14 R8 R10 R12 S8 S10 S12 S14 F2 F3 F4 F5 IW EW B5 k5 k5l E
  have k5 := BB.out.cell
  have k5l := BB.out.lt
  go_upto_region 8 with (go_at_call 54; refine (check_any I5.out h1 h2 h3).mono ?_; rintro e w6 ⟨rfl, he6⟩; rw [HC.out]; have F6 := hid he6; have k5 := (BB.out.ext F6.out).cell; have k5l := (BB.out.ext F6.out).lt)
  go_upto_region 10 with (go_at_call 73; refine (all73 (I5.out.ext F6.out) hcn1.2).mono ?_; rintro e w7 ⟨u, rfl, he7, hst⟩; have F7 := hid (F6.out.trans he7); have ST := hid hst; obtain ⟨As, cs, rfl, hrs⟩ := hst.slR; rw [rows2_length] at hrs ⊢; have RS := hid hrs; clear hst hrs he7 he6)
  obtain ⟨ns, hns⟩ : ∃ m, Hid (m = (stretches x.cn).length) := ⟨_, hid rfl⟩
  rw [← hns.out] at RS ⊢
  have hns1 : ns ≤ 64 := by rw [hns.out]; have := stretches_length x.cn; have := Nat.mul_le_mul hcn1.2 hcn1.2; omega
  clear k5 k5l ST F6
  go_loopw [16, 94] (fun u j wr => ∃ q : Nat, q ≤ ns ∧ j = .int .i64 (q : Int) ∧ Hid (OwnR wr w7.heap.size 51 2 u (rows2 (((stretches x.cn).take q).filter fun p => decide (0 < R.gap x p.1 p.2)))) ∧ Ext w7 wr) (fun _ j _ => ns - (intOf j).toNat)
  case atStart => exact ⟨0, by omega, rfl, hid OwnR.nil, Ext.refl _⟩
  case round =>
    obtain ⟨q, hq, rfl, HO, he⟩ := hrel
    by_cases hqn : q < ns
    · have hql : q < (stretches x.cn).length := by have := hns.out; omega
      obtain ⟨bs, os, rfl, hbs, q0, q1⟩ := (RS.out.ext he).at2 hqn
      rw [rows2_at0 _ hql] at q0
      rw [rows2_at1 _ hql] at q1
      obtain ⟨hab, hbn⟩ := mem_stretches.1 (show nth (stretches x.cn) q ∈ stretches x.cn by rw [nth_get _ hql]; exact List.getElem_mem hql)
      obtain ⟨a, ha⟩ : ∃ a, Hid (a = (nth (stretches x.cn) q).1) := ⟨_, hid rfl⟩
      obtain ⟨b, hb⟩ : ∃ b, Hid (b = (nth (stretches x.cn) q).2) := ⟨_, hid rfl⟩
      rw [← ha.out] at hab q0
      rw [← hb.out] at hab hbn q1
      obtain ⟨gp, hgp⟩ : ∃ z, Hid (z = R.gap x a b) := ⟨_, hid rfl⟩
      have hnx : Hid (((stretches x.cn).take (q + 1)).filter (fun p => decide (0 < R.gap x p.1 p.2)) = ((stretches x.cn).take q).filter (fun p => decide (0 < R.gap x p.1 p.2)) ++ if decide (0 < gp) = true then [(a, b)] else []) := hid (by
        rw [filter_take hql, hgp.out, ha.out, hb.out])
      have hqi : (q : Int) < (ns : Int) := by omega
      obtain ⟨Au, cu, rfl, -⟩ := HO.out.slR
      have hlen : (rows2 (((stretches x.cn).take q).filter fun p => decide (0 < R.gap x p.1 p.2))).length ≤ 64 := by
        rw [rows2_length]
        exact Nat.le_trans (List.length_filter_le _ _) (by simp; omega)
      go_upto_region 12 with fail
      refine wp_later fun w8 hw8 => ?_
      obtain ⟨E8, b19⟩ := hw8.newB
      have e8 := he.trans E8
      have k19 := b19.cell
      have k19l := b19.lt
      have k5 := (BB.out.ext (F7.out.trans e8)).cell
      have k5l := (BB.out.ext (F7.out.trans e8)).lt
      have O8 := hid (HO.out.ext E8)
      clear hw8 q0 q1 hbs hql
      have C74 := hid (by have := gap74 HX.out (I5.out.ext (F7.out.trans e8)) hab hbn; rw [← hgp.out] at this; exact this)
      by_cases hg : 0 < gp
      · have hsz8 := e8.size
        go_wp2_with (first
          | (go_at_call 74; refine C74.out.mono ?_; rintro e w9 ⟨rfl, he9⟩; have hsz9 := he9.size; have F9 := hid (e8.trans he9); have k19 := (b19.ext he9).cell; have k19l := (b19.ext he9).lt; have OX := hid ((O8.out.ext he9).ext ((Ext.refl _).alloc (.cells #[.int .i64 (a : Int), .int .i64 (b : Int)] 51))))
          | (at_builtin; go_loud (refine wpList_append_rows rfl _ _ 45 rfl elem45 rfl OX.out _ 1 1 [[_, _]] rfl rfl (by simp) (row2 (Blk.new _ _ _)) (by omega) (by simp; omega) ?_; intro v' w10 hown2 hg2; have HO2 := hid hown2; have EX := hid (Ext.grown (F9.out.alloc _) hg2 (fun j hj => OX.out.block hj)); clear hown2 hg2)))
        go_roundw
        case rel =>
          refine ⟨q + 1, by omega, by go_num, hid ?_, EX.out⟩
          rw [hnx.out, if_pos (by simpa using hg), rows2_append]
          exact HO2.out
        case measure => simp [intOf]; omega
      · go_wp2_with (go_at_call 74; refine C74.out.mono ?_; rintro e w9 ⟨rfl, he9⟩)
        go_roundw
        case rel =>
          refine ⟨q + 1, by omega, by go_num, hid ?_, e8.trans he9⟩
          rw [hnx.out, if_neg (by simpa using hg), List.append_nil]
          exact O8.out.ext he9
        case measure => simp [intOf]; omega
    · obtain rfl : ns = q := by omega
      have hws : ((stretches x.cn).take ns).filter (fun p => decide (0 < R.gap x p.1 p.2)) = R.short x := by rw [hns.out, List.take_length]; rfl
      rw [hws] at HO
      clear hws
      obtain ⟨Aw, cw, rfl, hrw⟩ := HO.out.slR
      have lw : (rows2 (R.short x)).length = nh := by rw [rows2_length, hnh.out]
      rw [lw] at hrw HO ⊢
      have RW := hid hrw
      have hnh1 : nh ≤ 64 := by rw [hnh.out]; exact Nat.le_trans (List.length_filter_le _ _) (by rw [← hns.out]; exact hns1)
      clear lw hrw hqn hq
      go_upto_region 16 with fail
      obtain ⟨wv, rfl⟩ : ∃ W, W = wr := ⟨_, rfl⟩
      go_loopw [17, 109] (fun u j wr2 => ∃ q : Nat, q ≤ nh ∧ j = .int .i64 (q : Int) ∧ Hid (OwnR wr2 wv.heap.size 51 2 u (rows2 (((R.short x).take q).filter (P.smQ (R.short x))))) ∧ Ext wv wr2) (fun _ j _ => nh - (intOf j).toNat)
      case atStart => exact ⟨0, by omega, rfl, hid OwnR.nil, Ext.refl _⟩
      case round =>
        obtain ⟨q, hq, rfl, HS, he2⟩ := hrel
        by_cases hqn : q < nh
        · have hql : q < (R.short x).length := by have := hnh.out; omega
          obtain ⟨bw, ow, rfl, hbw, q0, q1⟩ := (RW.out.ext he2).at2 hqn
          rw [rows2_at0 _ hql] at q0
          rw [rows2_at1 _ hql] at q1
          obtain ⟨a, ha⟩ : ∃ a, Hid (a = (nth (R.short x) q).1) := ⟨_, hid rfl⟩
          obtain ⟨b, hb⟩ : ∃ b, Hid (b = (nth (R.short x) q).2) := ⟨_, hid rfl⟩
          rw [← ha.out] at q0
          rw [← hb.out] at q1
          obtain ⟨sq, hsq⟩ : ∃ z, Hid (z = P.smQ (R.short x) (a, b)) := ⟨_, hid rfl⟩
          have hnx : Hid (((R.short x).take (q + 1)).filter (P.smQ (R.short x)) = ((R.short x).take q).filter (P.smQ (R.short x)) ++ if sq = true then [(a, b)] else []) := hid (by
            rw [filter_take hql, hsq.out, ha.out, hb.out])
          have hqi : (q : Int) < (nh : Int) := by omega
          obtain ⟨Au, cu, rfl, -⟩ := HS.out.slR
          have hlen : (rows2 (((R.short x).take q).filter (P.smQ (R.short x)))).length ≤ 64 := by
            rw [rows2_length]
            exact Nat.le_trans (List.length_filter_le _ _) (by simp; omega)
          go_upto_region 18 with fail
          refine wp_later fun w8 hw8 => ?_
          obtain ⟨E8, b21⟩ := hw8.newB
          have e8 := he2.trans E8
          have k21 := b21.cell
          have k21l := b21.lt
          have O8 := hid (HS.out.ext E8)
          clear hw8 q0 q1 hbw hql
          have HSQ : Hid (anyTo (fun k => P.innerB (a, b) (nth (R.short x) k)) nh = !sq) := hid (by
            rw [hnh.out, any_nth, hsq.out]
            unfold P.smQ
            rw [Bool.not_not])
          have C105 := hid (containsFunc105 (cap := cw) (RW.out.ext e8) (by omega) (asks106 (R.short x) hnh.out b21))
          have hsz8 := e8.size
          cases sq
          · go_wp2_with (go_at_call 105; refine C105.out.mono ?_; rintro e w9 ⟨rfl, he9⟩; rw [HSQ.out])
            go_roundw
            case rel =>
              refine ⟨q + 1, by omega, by go_num, hid ?_, e8.trans he9⟩
              rw [hnx.out, if_neg (by simp), List.append_nil]
              exact O8.out.ext he9
            case measure => simp [intOf]; omega
          · go_wp2_with (first
              | (go_at_call 105; refine C105.out.mono ?_; rintro e w9 ⟨rfl, he9⟩; rw [HSQ.out]; have hsz9 := he9.size; have F9 := hid (e8.trans he9); have k21 := (b21.ext he9).cell; have k21l := (b21.ext he9).lt; have OX := hid ((O8.out.ext he9).ext ((Ext.refl _).alloc (.cells #[.int .i64 (a : Int), .int .i64 (b : Int)] 51))))
              | (at_builtin; go_loud (refine wpList_append_rows rfl _ _ 45 rfl elem45 rfl OX.out _ 1 1 [[_, _]] rfl rfl (by simp) (row2 (Blk.new _ _ _)) (by omega) (by simp; omega) ?_; intro v' w10 hown2 hg2; have HO2 := hid hown2; have EX := hid (Ext.grown (F9.out.alloc _) hg2 (fun j hj => OX.out.block hj)); clear hown2 hg2)))
            go_roundw
            case rel =>
              refine ⟨q + 1, by omega, by go_num, hid ?_, EX.out⟩
              rw [hnx.out, if_pos trivial, rows2_append]
              exact HO2.out
            case measure => simp [intOf]; omega
        · obtain rfl : nh = q := by omega
          have hsm : ((R.short x).take nh).filter (P.smQ (R.short x)) = P.smallest x := by rw [hnh.out, List.take_length]; rfl
          rw [hsm] at HS
          clear hsm
          obtain ⟨Am, cm, rfl, hrm⟩ := HS.out.slR
          have lm : (rows2 (P.smallest x)).length = nm := by rw [rows2_length, hnm.out]
          rw [lm] at hrm HS ⊢
          have RM := hid hrm
          have hnm1 : nm ≤ 64 := by
            rw [hnm.out]
            exact Nat.le_trans (List.length_filter_le _ _) (by rw [← hnh.out]; exact hnh1)
          clear lm hrm hqn hq
          have FV := hid (F7.out.trans (he.trans he2))
          go_upto_region 23 with (first
            | (go_at_call 70; (fail_if_success (have := F9)); refine (equal70 (D8.out.ext FV.out) (RW.out.ext he2) (by omega) (by omega)).mono ?_; rintro e w9 ⟨rfl, he9⟩; rw [eqB_refl]; have F9 := hid he9)
            | (go_at_call 70; refine (equal70 (D10.out.ext (FV.out.trans F9.out)) (RM.out.ext F9.out) (by omega) (by omega)).mono ?_; rintro e w10 ⟨rfl, he10⟩; rw [eqB_refl]; have F10 := hid (F9.out.trans he10)))
          have GX := hid (FV.out.trans F10.out)
          have I10 := hid (I5.out.ext GX.out)
          have B10 := hid (BB.out.ext GX.out)
          have W10 := hid (W5.out.trans GX.out)
          have Q12 := hid (D12.out.ext GX.out)
          have Q14 := hid (D14.out.ext GX.out)
          have QW := hid (RW.out.ext (he2.trans F10.out))
          have QM := hid (RM.out.ext F10.out)
          clear I5 BB W5 D8 D10 D12 D14 RW RM HO HS GX FV F9 F10 RS he he2
          go_upto_region 25 with (go_at_call 67; refine (fill67 _).mono ?_; rintro e w11 ⟨rfl, he11, hs11⟩; have S11 := hid (start_of (bytes_on HB'.out W10.out) he11 hs11); have F11 := hid he11; clear hs11 he11)
          obtain ⟨d, hd⟩ : ∃ d : SackD, Hid (d = ⟨w10.heap.size, A', n', cap'⟩) := ⟨_, hid rfl⟩
          have hdb : Hid (d.blk = w10.heap.size) := hid (by rw [hd.out])
          rw [← hd.out] at S11
          rw [← hdb.out]
          go_loopw [134] (fun j wr => ∃ i : Nat, i ≤ 10 ∧ j = .int .i64 (i : Int) ∧ Hid (Sx d (20 * i) w11 wr)) (fun j _ => 10 - (intOf j).toNat)
          case atStart => exact ⟨0, by omega, rfl, hid (Sx.refl _ _)⟩
          case round =>
            obtain ⟨i, hi, rfl, X⟩ := hrel
            by_cases hi10 : i < 10
            · have hi10' : (i : Int) < 10 := by omega
              have hd5 : d.blk < w11.heap.size := S11.out.lt
              have hwr := X.out.2.1
              go_upto_region 28 with fail
              refine wp_later fun w12 hw12 => ?_
              obtain ⟨E12, b24⟩ := hw12.newB
              obtain ⟨g24, hg24⟩ : ∃ g, g = wr.heap.size := ⟨_, rfl⟩
              rw [← hg24] at b24 ⊢
              have hgw : w11.heap.size ≤ g24 := by omega
              have X12 := hid ((X.out.trans (Sx.ofExt E12)).mono (show 20 * i + 0 ≤ 20 * i by omega))
              have B24 := hid b24
              clear hw12 hg24 b24 E12 X hwr
              have FW := hid (L.few_holds HX.out HW.out)
              go_upto_if 139 with fail
              go_cut [24] (fun s24 wx => ∃ (t : List Nat) (At : Option Addr) (ct : Nat), s24 = .pointer (some ⟨g24, 0, none⟩) ∧ Hid (TR x d w11 g24 (20 * i + 6) At ct t wx) ∧ Hid (i = 0 → t = P.fewest x))
              case first =>
                have EC := hid (X12.out.ext F11.out (by rw [hdb.out]; exact Nat.le_refl _))
                by_cases h0 : 0 < (i : Int)
                · have k24 := B24.out.cell
                  have k24l := B24.out.lt
                  have f24 := B24.out.frozen
                  have hg5 : g5 < g24 := by have := B10.out.lt; have := F11.out.size; omega
                  have T0 : Hid (TL d w11 g24 (20 * i) 0 none 0 [] (w12.setCell ⟨g24, 0, none⟩ (.slice none 0 0))) := hid ⟨X12.out.setCellG _ _ _ hgw (by omega), B24.out.set_ 0 _, OwnR.nil, List.Pairwise.nil, fun _ h => by cases h⟩
                  have B5 := hid ((B10.out.ext EC.out).far (p := ⟨g24, 0, none⟩) (show g5 ≠ g24 by omega) (.slice none 0 0))
                  go_upto_region 30 with fail
                  obtain ⟨w13, hw13⟩ : ∃ W, W = w12.setCell ⟨g24, 0, none⟩ (.slice none 0 0) := ⟨_, rfl⟩
                  rw [← hw13] at T0 B5 ⊢
                  clear hw13 k24 k24l f24
                  have k5 := B5.out.cell
                  have k5l := B5.out.lt
                  go_upto_region 31 with fail
                  have H0 := hid h0
                  simp only [show decide (0 < i) = true from decide_eq_true (by omega)]
                  clear k5 k5l h0
                  go_loopw [142] (fun j W => ∃ (h : Nat) (Ah : Option Addr) (ch : Nat) (t : List Nat), (h : Int) ≤ x.hands ∧ j = .int .i64 (h : Int) ∧ Hid (TL d w11 g24 (20 * i) h Ah ch t W)) (fun j _ => x.hands.toNat - (intOf j).toNat)
                  case atStart => exact ⟨0, none, 0, [], by omega, rfl, T0⟩
                  case round =>
                    clear T0 B5
                    obtain ⟨h, Ah, ch, t, hle, rfl, TT⟩ := hrel
                    by_cases hlt : (h : Int) < x.hands
                    · have htl := F.inc_length TT.out.inc
                      go_upto_if 146 with (go_at_call 107; refine (rare_b S11.out TT.out.x (by omega) 2 (by omega)).mono ?_; rintro e wg ⟨b, rfl, xg⟩; have TG := hid (TT.out.sx xg hd5 hgw); clear xg)
                      cases b
                      · go_wp2_with fail
                        go_roundw
                        case rel => exact ⟨h + 1, Ah, ch, t, by omega, by go_num, TG⟩
                        case measure => simp [intOf]; omega
                      · have k24 := TG.out.b.cell
                        have k24l := TG.out.b.lt
                        have hsz := TG.out.b.lt
                        have OX := hid (TG.out.o.ext ((Ext.refl _).alloc (.cells #[.int .i64 (h : Int)] 3)))
                        have BX := hid (TG.out.b.ext ((Ext.refl _).alloc (.cells #[.int .i64 (h : Int)] 3)))
                        go_wp2_with (at_builtin; go_loud (refine wpList_append_rows rfl _ _ 56 rfl el56 rfl OX.out _ 1 1 [[_]] rfl rfl (by simp) (row1 (Blk.new _ _ _)) (by rw [rows1_length]; omega) (by simp; omega) ?_; intro v' w5 hown2 hg2; have HO2 := hid hown2; have HG2 := hid hg2; have BY := hid (BX.out.grown hg2 (fun e => by have := OX.out.block e.symm; omega)); obtain ⟨G3, q3, rfl, -⟩ := hown2.slR; clear hown2 hg2; have k3 := BY.out.cell; have fz3 := BY.out.frozen; have k3l := BY.out.lt))
                        go_roundw
                        case rel =>
                          have hO := HO2.out
                          rw [show rows1 t ++ [[(h : Int)]] = rows1 (t ++ [h]) from (rows1_append t [h]).symm] at hO
                          rw [show (rows1 t).length + 1 = (t ++ [h]).length by rw [rows1_length]; simp]
                          rw [rows1_length] at hO
                          have c5 := Ch.ofSet w5 g24 0 (.slice G3 (t ++ [h]).length q3)
                          refine ⟨h + 1, G3, q3, t ++ [h], by omega, by go_num, hid ⟨?_, BY.out.set_ 0 _, c5.own hO fun b hb he => hO.ne_blk BY.out (by decide) (hb.trans (congrArg some he)), L.inc_push TT.out.inc⟩⟩
                          exact (((TG.out.x.trans (Sx.ofExt ((Ext.refl _).alloc _))).grown HG2.out fun j hj => by have := OX.out.block hj; omega).setCellG g24 0 _ hgw (by omega)).mono (by omega)
                        case measure => simp [intOf]; omega
                    · have hq : Hid (h = x.hands.toNat) := hid (by omega)
                      go_wp2_with fail
                      go_meet
                      exact ⟨t, Ah, ch, rfl, hid ⟨TT.out.x.mono (by omega), TT.out.b, TT.out.o.slR, by rw [← hq.out]; exact TT.out.inc⟩, hid fun h => by have := H0.out; omega⟩
                · go_wp2_with fail
                  go_meet
                  exact ⟨P.fewest x, A12, c12, rfl, hid ⟨X12.out.mono (by omega), by rw [← hnf.out]; exact B24.out, ⟨A12, c12, by rw [rows1_length], by rw [rows1_length, ← hnf.out]; exact Q12.out.ext EC.out⟩, FW.out.1⟩, hid fun _ => rfl⟩
              case rest =>
                clear X12 B24
                obtain ⟨t, At, ct, rfl, T1, hz⟩ := hcut
                obtain ⟨wD, rfl⟩ : ∃ W, W = wc := ⟨_, rfl⟩
                have EC := hid (T1.out.sx.ext F11.out (by rw [hdb.out]; exact Nat.le_refl _))
                have IC := hid (I10.out.ext EC.out)
                have BC := hid (B10.out.ext EC.out)
                obtain ⟨nt, hnt⟩ : ∃ m, Hid (m = t.length) := ⟨_, hid rfl⟩
                have C24 : Hid (Blk wD g24 56 #[.slice At nt ct]) := hid (by rw [hnt.out]; exact T1.out.b)
                have S24 : Hid (SlR wD 1 (.slice At nt ct) (rows1 t)) := hid (by rw [hnt.out]; exact T1.out.r)
                have R24 : Hid (Rd wD At nt 1 (rowsAt (rows1 t))) := hid (by
                  obtain ⟨A, c, e, hr⟩ := T1.out.r
                  simp only [Value.slice.injEq] at e
                  obtain ⟨rfl, -, -⟩ := e
                  rw [rows1_length] at hr
                  rw [hnt.out]; exact hr)
                have hnt6 : nt ≤ 6 := by have := F.inc_length T1.out.inc; have := hnt.out; omega
                have htn : t.length ≤ 1000 := by have := hnt.out; omega
                have HLE : Hid (lE x (rowsAt (rows1 t)) nt = 0) := hid (by rw [hnt.out]; exact L.inc_listE HX.out T1.out.inc)
                have HNL : Hid (natL (rowsAt (rows1 t)) nt = t) := hid (by rw [hnt.out]; exact L.natL_rows1 t)
                obtain ⟨ex, hex⟩ : ∃ b, Hid (b = (P.left x (P.set t)).isEmpty) := ⟨_, hid rfl⟩
                obtain ⟨nl, hnl⟩ : ∃ m, Hid (m = (P.left x (P.set t)).length) := ⟨_, hid rfl⟩
                have HNZ : Hid (ex = decide (nl = 0)) := hid (by rw [hex.out, hnl.out]; exact L.left_nil)
                have hnl1 : nl ≤ 64 := by
                  rw [hnl.out]
                  exact Nat.le_trans (List.length_filter_le _ _) (by rw [← hnm.out]; exact hnm1)
                have HCS : Hid ((R.clashes x).isSome = false) := hid (by rw [L.clash_iff HX.out, HW.out]; rfl)
                have HAN : Hid (anyTo (fun k => !L.metL x t (nth (R.short x) k)) nh = !ex) := hid (by rw [hnh.out, any_nth (R.short x) (fun s => !L.metL x t s), hex.out, L.left_all HX.out, Bool.not_not])
                have k5 := BC.out.cell
                have k5l := BC.out.lt
                have k24 := C24.out.cell
                have k24l := C24.out.lt
                go_upto_region 37 with (go_at_call 78; refine (explains_ok IC.out h1 h2 h3 R24.out (by omega) HLE.out HCS.out).mono ?_; rintro e w13 ⟨rfl, he13⟩; rw [HNL.out, ← hex.out]; have E := hid he13; have k5 := (BC.out.ext E.out).cell; have k5l := (BC.out.ext E.out).lt; have k24 := (C24.out.ext E.out).cell; have k24l := (C24.out.ext E.out).lt; clear he13)
                go_upto_region 38 with (go_at_call 79; refine (leftX_ok (IC.out.ext E.out) h1 h2 h3 (R24.out.ext E.out) (by omega) HLE.out).mono ?_; rintro e w14 ⟨u, rfl, he14, hs14⟩; rw [HNL.out] at hs14; obtain ⟨A28, c28, rfl, hr28⟩ := hs14; rw [rows2_length, ← hnl.out] at hr28 ⊢; have R28 := hid hr28; have E := hid (E.out.trans he14); have F28 := hid he14; have k5 := (BC.out.ext E.out).cell; have k5l := (BC.out.ext E.out).lt; have k24 := (C24.out.ext E.out).cell; have k24l := (C24.out.ext E.out).lt; clear hr28 he14)
                go_upto_region 39 with (go_at_call 105; refine (containsFunc105 (QW.out.ext (EC.out.trans E.out)) (by omega) (asks108 HX.out (BC.out.ext E.out) (IC.out.ext E.out) (C24.out.ext E.out) (S24.out.ext E.out) htn (fun s hs => (R.mem_short.1 hs).1) hnh.out)).mono ?_; rintro e w15 ⟨rfl, he15⟩; rw [HAN.out]; have E := hid (E.out.trans he15); have R28 := hid (R28.out.ext he15); have k5 := (BC.out.ext E.out).cell; have k5l := (BC.out.ext E.out).lt; have k24 := (C24.out.ext E.out).cell; have k24l := (C24.out.ext E.out).lt; clear he15)
                go_cut [26, 30, 216] (fun _ _ s wx => s = .bool false ∧ Hid (Ext w15 wx))
                case first =>
                  cases hx0 : ex
                  · have hnl0 : (((nl : Nat) : Int) == 0) = false := by have h := HNZ.out; rw [hx0] at h; have h := (decide_eq_false_iff_not.1 h.symm); simp; omega
                    have hi0 : (((i : Nat) : Int) == 0) = false := by
                      have h : ¬ i = 0 := fun h => by
                        have h2 := hex.out
                        rw [hx0, hz.out h, FW.out.2] at h2
                        cases h2
                      simp; omega
                    go_wp2_with fail
                    go_meet
                    exact ⟨rfl, hid (Ext.refl _)⟩
                  · have hnl0 : (((nl : Nat) : Int) == 0) = true := by have h := HNZ.out; rw [hx0] at h; have h := (decide_eq_true_iff.1 h.symm); simp; omega
                    have CF := hid (cmp_few HX.out HW.out T1.out.inc (by rw [← hex.out, hx0]) hnt.out hnf.out)
                    obtain ⟨z, hzc⟩ : ∃ z, Hid (z = L.cmpZ t (P.fewest x)) := ⟨_, hid rfl⟩
                    have hlt1 : ¬ (nt : Int) < (nf : Int) := by have := CF.out.1; omega
                    by_cases hle : nt = nf
                    · have hz0 : decide (z < 0) = false := decide_eq_false (by rw [hzc.out]; exact CF.out.2 hle)
                      have hle1 : (((nt : Nat) : Int) == (nf : Int)) = true := by simp; omega
                      have C109 := hid (compare109 (ca := ct) (cb := c12) (R24.out.ext E.out) (by have := Q12.out.ext (EC.out.trans E.out); rw [← hle] at this; exact this) (by omega) hnt.out (by rw [hle]; exact hnf.out))
                      rw [← hzc.out, show Value.slice A12 nt c12 = Value.slice A12 nf c12 by rw [hle]] at C109
                      clear hle
                      cases hib : (((i : Nat) : Int) == 0)
                      all_goals
                        go_wp2_with (go_at_call 109; refine C109.out.mono ?_; rintro e w16 ⟨rfl, he16⟩)
                        go_meet
                        exact ⟨rfl, hid he16⟩
                    · have hle1 : (((nt : Nat) : Int) == (nf : Int)) = false := by simp; omega
                      clear hle
                      cases hib : (((i : Nat) : Int) == 0)
                      all_goals
                        go_wp2_with fail
                        go_meet
                        exact ⟨rfl, hid (Ext.refl _)⟩
                case rest =>
                  obtain ⟨rfl, E39⟩ := hcut
                  obtain ⟨wF, rfl⟩ : ∃ W, W = wc := ⟨_, rfl⟩
                  have EF := hid (E.out.trans E39.out)
                  have R28 := hid (R28.out.ext E39.out)
                  clear k5 k5l k24 k24l
                  go_upto_region 42 with fail
                  go_loopw [219] (fun j wr3 => ∃ q : Nat, q ≤ nm ∧ j = .int .i64 (q : Int) ∧ Ext wF wr3) (fun j _ => nm - (intOf j).toNat)
                  case atStart => exact ⟨0, by omega, rfl, Ext.refl _⟩
                  case round =>
                    obtain ⟨q, hq, rfl, he3⟩ := hrel
                    by_cases hqn : q < nm
                    · have hql : q < (P.smallest x).length := by have := hnm.out; omega
                      obtain ⟨bm, om, rfl, hbm, q0, q1⟩ := (QM.out.ext (EC.out.trans (EF.out.trans he3))).at2 hqn
                      rw [rows2_at0 _ hql] at q0
                      rw [rows2_at1 _ hql] at q1
                      have hmem : nth (P.smallest x) q ∈ P.smallest x := L.nth_mem hql
                      have hst := (R.mem_short.1 (L.sm_short hmem)).1
                      obtain ⟨a, ha⟩ : ∃ a, Hid (a = (nth (P.smallest x) q).1) := ⟨_, hid rfl⟩
                      obtain ⟨b, hb⟩ : ∃ b, Hid (b = (nth (P.smallest x) q).2) := ⟨_, hid rfl⟩
                      have hab2 : nth (P.smallest x) q = (a, b) := by rw [ha.out, hb.out]
                      rw [hab2] at hmem hst
                      rw [← ha.out] at q0
                      rw [← hb.out] at q1
                      have HST := hid hst
                      obtain ⟨mt, hmt⟩ : ∃ m, Hid (m = L.metL x t (a, b)) := ⟨_, hid rfl⟩
                      have HLM := hid (left_met HX.out hmem hmt.out)
                      have hqi : (q : Int) < (nm : Int) := by omega
                      clear hmem hab2 hst
                      go_upto_region 44 with fail
                      refine wp_later fun w16 hw16 => ?_
                      obtain ⟨E16, b32⟩ := hw16.newB
                      have E17 := he3.trans E16
                      have k32 := b32.cell
                      have k32l := b32.lt
                      have k5 := (BC.out.ext (EF.out.trans E17)).cell
                      have k5l := (BC.out.ext (EF.out.trans E17)).lt
                      have k24 := (C24.out.ext (EF.out.trans E17)).cell
                      have k24l := (C24.out.ext (EF.out.trans E17)).lt
                      have C104 := hid (fun W (e : Ext w16 W) => (by rw [← HLM.out]; exact contains104 (R28.out.ext (E17.trans e)) hnl.out (by omega) a b : Calls Tryz.prog 104 #[.slice A28 nl c28, .agg #[.int .i64 (a : Int), .int .i64 (b : Int)]] W fun e w' => e = .returned (.bool (!mt)) ∧ Ext W w'))
                      have C93 := hid (fun W (e : Ext w16 W) => (by rw [hmt.out]; exact met93 HX.out (IC.out.ext (EF.out.trans (E17.trans e))) HST.out.1 HST.out.2 (S24.out.ext (EF.out.trans (E17.trans e))) htn : Calls Tryz.prog 93 #[.agg #[.int .i64 x.hours, .int .i64 x.allow, .int .i64 x.hands, .slice A3 x.cn c3, .slice A4 x.bn c4, .slice A5 x.sn c5], .slice At nt ct, .agg #[.int .i64 (a : Int), .int .i64 (b : Int)]] W fun e w' => e = .returned (.bool mt) ∧ Ext W w'))
                      clear hw16 q0 q1 hql hmt HLM
                      cases mt
                      all_goals
                        refine wp_region_later (by kernel_rfl) (by kernel_rfl) ?_
                        repeat (go_big_quiet_step (first | (go_at_call 104; exact Calls.later (C104.out _ (Later.ext _))) | (go_at_call 93; exact Calls.later (C93.out _ (Later.ext _)))))
                        refine wpQuiet_nil ?_
                        rintro w17 ⟨⟨_, he17⟩, rfl⟩
                        go_wp2_with fail
                        go_roundw
                        case rel => exact ⟨q + 1, by omega, by go_num, E17.trans he17⟩
                        case measure => simp [intOf]; omega
                    · have hqi : ¬ (q : Int) < (nm : Int) := by omega
                      go_wp2_with fail
                      go_roundw
                      case rel => exact ⟨i + 1, by omega, by go_num, hid ((T1.out.sx.trans (Sx.ofExt (EF.out.trans he3))).mono (by omega))⟩
                      case measure => simp [intOf]; omega
            · have EC := hid (X.out.ext F11.out (by rw [hdb.out]; exact Nat.le_refl _))
              have hi10' : ¬ (i : Int) < 10 := by omega
              clear X S11 F11 hi hi10
              obtain ⟨wq, rfl⟩ : ∃ W, W = wr := ⟨_, rfl⟩
              go_upto_region 49 with fail
              go_loopw [235] (fun j W => ∃ q : Nat, q ≤ na ∧ j = .int .i64 (q : Int) ∧ Ext wq W) (fun j _ => na - (intOf j).toNat)
              case atStart => exact ⟨0, by omega, rfl, Ext.refl _⟩
              case round =>
                obtain ⟨q, hq, rfl, he3⟩ := hrel
                have ED := hid (EC.out.trans he3)
                by_cases hqn : q < na
                · have hql : q < (P.apart x).length := by have := hna.out; omega
                  have HQL := hid hql
                  obtain ⟨bp, op, rfl, hbp, q0, q1⟩ := (Q14.out.ext ED.out).at2 hqn
                  rw [rows2_at0 _ hql] at q0
                  rw [rows2_at1 _ hql] at q1
                  have hmem := (L.apart_spec HX.out).1 _ (L.nth_mem hql)
                  have hst := (R.mem_short.1 (L.sm_short hmem)).1
                  obtain ⟨a, ha⟩ : ∃ a, Hid (a = (nth (P.apart x) q).1) := ⟨_, hid rfl⟩
                  obtain ⟨b, hb⟩ : ∃ b, Hid (b = (nth (P.apart x) q).2) := ⟨_, hid rfl⟩
                  have hab2 : nth (P.apart x) q = (a, b) := by rw [ha.out, hb.out]
                  have HAB := hid hab2
                  rw [hab2] at hmem hst
                  rw [← ha.out] at q0
                  rw [← hb.out] at q1
                  have HST := hid hst
                  have HM := hid (decide_eq_true hmem)
                  have hqi : (q : Int) < (na : Int) := by omega
                  clear hmem hab2 hst hql
                  go_upto_region 51 with fail
                  refine wp_later fun w16 hw16 => ?_
                  obtain ⟨E16, b34⟩ := hw16.newB
                  have hbp16 : bp < w16.heap.size := Nat.lt_of_lt_of_le hbp E16.size
                  have EG := hid (ED.out.trans E16)
                  have C104 := hid (fun W (e : Ext w16 W) => (by rw [← HM.out]; exact contains104 (QM.out.ext (EG.out.trans e)) hnm.out (by omega) a b : Calls Tryz.prog 104 #[.slice Am nm cm, .agg #[.int .i64 (a : Int), .int .i64 (b : Int)]] W fun e w' => e = .returned (.bool true) ∧ Ext W w'))
                  clear hw16 q0 q1 hbp
                  have B34 := hid b34
                  clear b34
                  go_cut [258] (fun s wx => s = .bool false ∧ Hid (Ext w16 wx))
                  case first =>
                    have k34 := B34.out.cell
                    have k34l := B34.out.lt
                    rcases Nat.eq_zero_or_pos q with h0 | h0
                    · have h0' : decide ((0 : Int) < (q : Int)) = false := decide_eq_false (by omega)
                      have h0'' : decide (0 < q) = false := decide_eq_false (by omega)
                      clear h0
                      refine wp_region_later (by kernel_rfl) (by kernel_rfl) ?_
                      repeat (go_big_quiet_step ((go_at_call 104; exact Calls.later (C104.out _ (Later.ext _)))))
                      refine wpQuiet_nil ?_
                      rintro w17 ⟨⟨_, he17⟩, rfl⟩
                      go_wp2_with fail
                      go_meet
                      exact ⟨rfl, hid he17⟩
                    · have h0' : decide ((0 : Int) < (q : Int)) = true := decide_eq_true (by omega)
                      have h0'' : decide (0 < q) = true := decide_eq_true (by omega)
                      obtain ⟨r, hr⟩ : ∃ r, Hid (q = r + 1) := ⟨q - 1, hid (by omega)⟩
                      have hrl : r < (P.apart x).length := by have := HQL.out; have := hr.out; omega
                      have hrn : r < na := by have := hr.out; omega
                      obtain ⟨_, _, e, -, p0, -⟩ := (Q14.out.ext EG.out).at2 hrn
                      simp only [Option.some.injEq, Addr.mk.injEq] at e
                      obtain ⟨rfl, rfl, -⟩ := e
                      rw [rows2_at0 _ hrl] at p0
                      obtain ⟨a', ha'⟩ : ∃ a, Hid (a = (nth (P.apart x) r).1) := ⟨_, hid rfl⟩
                      have hlt := (List.pairwise_iff_getElem.1 (L.apart_spec HX.out).2 r q hrl HQL.out (by have := hr.out; omega)).1
                      rw [← nth_get _ hrl, ← nth_get _ HQL.out, ← ha'.out, HAB.out] at hlt
                      rw [← ha'.out] at p0
                      have hle : ¬ (a : Int) ≤ (a' : Int) := by have hlt : a' < a := hlt; omega
                      have hri : (r : Int) < (na : Int) := by omega
                      have hqr : (q : Int) - 1 = (r : Int) := by have := hr.out; omega
                      clear hlt h0 hrl
                      refine wp_region_later (by kernel_rfl) (by kernel_rfl) ?_
                      repeat (go_big_quiet_step ((go_at_call 104; exact Calls.later (C104.out _ (Later.ext _)))))
                      refine wpQuiet_nil ?_
                      rintro w17 ⟨⟨_, he17⟩, rfl⟩
                      go_wp2_with fail
                      go_meet
                      exact ⟨rfl, hid he17⟩
                  case rest =>
                    obtain ⟨rfl, E17⟩ := hcut
                    obtain ⟨wF, rfl⟩ : ∃ W, W = wc := ⟨_, rfl⟩
                    have BF := hid (B34.out.ext E17.out)
                    have EF := hid (EG.out.trans E17.out)
                    have hqc : (q : Int) ≤ (c14 : Int) := by omega
                    go_upto_region 54 with fail
                    go_loopw [263] (fun j W => ∃ p : Nat, p ≤ q ∧ j = .int .i64 (p : Int) ∧ Ext wF W) (fun j _ => q - (intOf j).toNat)
                    case atStart => exact ⟨0, by omega, rfl, Ext.refl _⟩
                    case round =>
                      obtain ⟨p, hp, rfl, he4⟩ := hrel
                      by_cases hpq : p < q
                      · have hpl : p < (P.apart x).length := by have := HQL.out; omega
                        have hpn : p < na := by omega
                        obtain ⟨_, _, e, hbp4, p0, p1⟩ := (Q14.out.ext (EF.out.trans he4)).at2 hpn
                        simp only [Option.some.injEq, Addr.mk.injEq] at e
                        obtain ⟨rfl, rfl, -⟩ := e
                        rw [rows2_at0 _ hpl] at p0
                        rw [rows2_at1 _ hpl] at p1
                        have hst2 := (R.mem_short.1 (L.sm_short ((L.apart_spec HX.out).1 _ (L.nth_mem hpl)))).1
                        obtain ⟨c, hc⟩ : ∃ a, Hid (a = (nth (P.apart x) p).1) := ⟨_, hid rfl⟩
                        obtain ⟨f, hf⟩ : ∃ b, Hid (b = (nth (P.apart x) p).2) := ⟨_, hid rfl⟩
                        rw [← hc.out, ← hf.out] at hst2
                        have HST2 := hid hst2
                        have NB : Hid (∀ h : Nat, (R.is x a b h && R.is x c f h) = false) := hid (fun h => by have := no_both HX.out hpq HQL.out h; rw [HAB.out, ← hc.out, ← hf.out] at this; exact this)
                        rw [← hc.out] at p0
                        rw [← hf.out] at p1
                        have hpi : (p : Int) < (q : Int) := by omega
                        clear hst2
                        go_upto_region 56 with fail
                        refine wp_later fun w18 hw18 => ?_
                        obtain ⟨E18, b36⟩ := hw18.newB
                        have EH := hid (EF.out.trans (he4.trans E18))
                        have B36 := hid b36
                        have BG := hid (BF.out.ext (he4.trans E18))
                        clear hw18 b36 p0 p1 hbp4
                        have k5 := (B10.out.ext EH.out).cell
                        have k5l := (B10.out.ext EH.out).lt
                        go_upto_region 57 with fail
                        clear k5 k5l
                        go_loopw [269] (fun j W => ∃ h : Nat, (h : Int) ≤ x.hands ∧ j = .int .i64 (h : Int) ∧ Ext w18 W) (fun j _ => x.hands.toNat - (intOf j).toNat)
                        case atStart => exact ⟨0, by omega, rfl, Ext.refl _⟩
                        case round =>
                          obtain ⟨h, hle, rfl, he5⟩ := hrel
                          have k5 := (B10.out.ext (EH.out.trans he5)).cell
                          have k5l := (B10.out.ext (EH.out.trans he5)).lt
                          have k34 := (BG.out.ext he5).cell
                          have k34l := (BG.out.ext he5).lt
                          have k36 := (B36.out.ext he5).cell
                          have k36l := (B36.out.ext he5).lt
                          by_cases hlt : (h : Int) < x.hands
                          · obtain ⟨v1, hv1⟩ : ∃ v, Hid (v = R.is x a b h) := ⟨_, hid rfl⟩
                            obtain ⟨v2, hv2⟩ : ∃ v, Hid (v = R.is x c f h) := ⟨_, hid rfl⟩
                            have hnb := NB.out h
                            rw [← hv1.out, ← hv2.out] at hnb
                            have C1 := hid (there84 HX.out (I10.out.ext (EH.out.trans he5)) HST.out.1 HST.out.2 h)
                            rw [← hv1.out] at C1
                            cases v1
                            · go_wp2_with (go_at_call 84; refine C1.out.mono ?_; rintro e w19 ⟨rfl, he19⟩)
                              go_roundw
                              case rel => exact ⟨h + 1, by omega, by go_num, he5.trans he19⟩
                              case measure => simp [intOf]; omega
                            · rw [Bool.true_and] at hnb
                              subst hnb
                              go_wp2_with (first
                                | (go_at_call 84; (fail_if_success (have := M1)); refine C1.out.mono ?_; rintro e w19 ⟨rfl, he19⟩; have M1 := hid he19; have k5 := (B10.out.ext (EH.out.trans (he5.trans he19))).cell; have k5l := (B10.out.ext (EH.out.trans (he5.trans he19))).lt; have k36 := (B36.out.ext (he5.trans he19)).cell; have k36l := (B36.out.ext (he5.trans he19)).lt)
                                | (go_at_call 84; refine (there84 HX.out (I10.out.ext (EH.out.trans (he5.trans M1.out))) HST2.out.1 HST2.out.2 h).mono ?_; rintro e w20 ⟨rfl, he20⟩; rw [← hv2.out]))
                              go_roundw
                              case rel => exact ⟨h + 1, by omega, by go_num, he5.trans (M1.out.trans he20)⟩
                              case measure => simp [intOf]; omega
                          · go_wp2_with fail
                            go_roundw
                            case rel => exact ⟨p + 1, by omega, by go_num, he4.trans (E18.trans he5)⟩
                            case measure => simp [intOf]; omega
                      · have hpi : ¬ (p : Int) < (q : Int) := by omega
                        go_wp2_with fail
                        go_roundw
                        case rel => exact ⟨q + 1, by omega, by go_num, he3.trans (E16.trans (E17.out.trans he4))⟩
                        case measure => simp [intOf]; omega
                · have hqi : ¬ (q : Int) < (na : Int) := by omega
                  go_wp2_with (go_at_call 18; refine (awake_any _).mono ?_; rintro e w20 ⟨rfl, he20⟩)
                  go_ret
                  exact ⟨rfl, W10.out.trans (ED.out.trans he20)⟩
end Go.Proofs.YtkhjmedfhobebaaGreat
