/- Walk of the law of truths: for all numbers, and any count, it returns true. No condition. -/
import Derived.Test.YtkhjmedfhobebaaGreatTrueP
import Derived.Test.YtkhjmedfhobebaaGreatLawB
import Derived.Test.YtkhjmedfhobebaaGreatDoK
import Derived.Test.YtkhjmedfhobebaaGreatDoP
import Derived.Test.YtkhjmedfhobebaaGreatDoQ
import Derived.Test.YtkhjmedfhobebaaGreatDoX
namespace Go.Proofs.YtkhjmedfhobebaaGreat
open Go.RowKit HandSpec
set_option maxHeartbeats 3200000
set_option maxRecDepth 100000
theorem law12 {A : Option Addr} {n cap : Nat} {w : World} (hb : ByteS w A n) {wh : Nat} (hwh : wh < 256) :
    Calls Tryz.prog 12 #[.slice A n cap, .int .u8 (wh : Int)] w fun e w' => e = .returned (.bool true) ∧ Ext w w' := by
  have HB := hid hb
  clear hb
  go_enter Tryz.func12, Tryz.ntmps12
  go_upto_region 2 with (first
    | (go_at_call 67; refine (fill67 _).mono ?_; rintro e wa ⟨rfl, hea, hsa⟩; have ST := hid (start_of HB.out hea hsa); have EA := hid hea; clear hsa hea)
    | (go_at_call 72; refine (made_any ST.out EA.out (mc := 7) (mh := 6) (by omega) (by omega)).mono ?_; rintro e wb ⟨x, s, t, A3, c3, A4, c4, A5, c5, A6, c6, lc, nh, rfl, hiw, hx, hT, r6, rt, hcn, hnh, hnh6, heb⟩; have HN0 := hid hnh; clear hnh))
  refine wp_later fun w1 hw1 => ?_
  obtain ⟨E1, b5⟩ := hw1.newB
  have TP := hid (L.trueP hx hT)
  have IW := hid (hiw.ext E1)
  have EW := hid (heb.trans E1)
  have R6 := hid (r6.ext E1)
  have RT := hid (rt.ext E1)
  have E := hid (Ext.refl w1)
  have h1 : x.cn ≤ 1000 := by have := hx.cn; omega
  have h2 : x.bn ≤ 1000 := by have := hx.bn; omega
  have h3 : x.sn ≤ 1000 := by have := hx.sn; omega
  have HN := hid (show x.hands = (nh : Int) ∧ x.hands.toNat = nh from ⟨HN0.out, by have := HN0.out; omega⟩)
  have hnh0 : 0 ≤ x.hands ∧ x.hands ≤ 6 := by have := HN0.out; omega
  have HX := hid hx
  have HT := hid hT
  have hcn1 := hx.cn
  obtain ⟨g5, hg5⟩ : ∃ g5, g5 = wb.heap.size := ⟨_, rfl⟩
  rw [← hg5] at b5 ⊢
  clear hiw hx hT r6 rt heb hw1 E1 hg5 ST EA HN0
  obtain ⟨ms, HM⟩ : ∃ ms, Hid (ms = P.proved x (2 ^ x.hands.toNat - 1)) := ⟨_, hid rfl⟩
  have hms0 : ¬ ms < 0 := by have := TP.out.miss; have := HM.out; omega
  have k5 := b5.cell
  have k5l := b5.lt
  go_upto_region 6 with (first
    | (go_at_call 36; refine (must_ok (IW.out.ext E.out) h1 h2 h3 TP.out.told).mono ?_; rintro e w2 ⟨u8, rfl, he2, hs8⟩; have E := hid (E.out.trans he2); have S8 := hid hs8; have k5 := (b5.ext E.out).cell; have k5l := (b5.ext E.out).lt; clear hs8)
    | (go_at_call 37; refine (can_ok (IW.out.ext E.out) h1 h2 h3 TP.out.told).mono ?_; rintro e w3 ⟨u10, rfl, he3, hs10⟩; have E := hid (E.out.trans he3); have S10 := hid hs10; have k5 := (b5.ext E.out).cell; have k5l := (b5.ext E.out).lt; clear hs10)
    | (go_at_call 27; refine (missing_ok (IW.out.ext E.out) h1 h2 h3 TP.out.told).mono ?_; rintro e w4 ⟨rfl, he4⟩; have E := hid (E.out.trans he4); have k5 := (b5.ext E.out).cell; have k5l := (b5.ext E.out).lt; rw [← HM.out])
    | (go_at_call 50; refine (clashesX_none (IW.out.ext E.out) h1 h2 h3 TP.out.chk TP.out.none).mono ?_; rintro e w5 ⟨rfl, he5⟩; have E := hid (E.out.trans he5); have k5 := (b5.ext E.out).cell; have k5l := (b5.ext E.out).lt))
  refine wp_later fun w6 hw6 => ?_
  obtain ⟨E6, -⟩ := hw6.newB
  replace E := hid (E.out.trans E6)
  have S8' := hid (S8.out.ext ((he3.trans he4).trans (he5.trans E6)))
  have S10' := hid (S10.out.ext (he4.trans (he5.trans E6)))
  obtain ⟨A8, c8, hu8, -⟩ := S8.out
  obtain ⟨A10, c10, hu10, -⟩ := S10.out
  subst hu8
  subst hu10
  have hl8 : (rows1 (P.must x)).length = (P.must x).length := rows1_length _
  have hl10 : (rows1 (P.can x)).length = (P.can x).length := rows1_length _
  rw [hl8] at S8' ⊢
  rw [hl10] at S10' ⊢
  have IW6 := hid (IW.out.ext E.out)
  have R66 := hid (R6.out.ext E.out)
  have RT6 := hid (RT.out.ext E.out)
  have B5 := hid (b5.ext E.out)
  have EW6 := hid (EW.out.trans E.out)
  have hlen := TP.out.len
  have hlens := TP.out.lens
  clear he2 he3 he4 he5 hw6 E6 k5 k5l S8 S10 hl8 hl10 IW R6 RT b5 EW E
  have k5 := B5.out.cell
  have k5l := B5.out.lt
  go_upto_region 10 with fail
  go_loopw [16, 17, 76] (fun sm ls j wr => ∃ q : Nat, q ≤ nh ∧ j = .int .i64 (q : Int) ∧ sm = .int .i64 (sumTo (fun h => sumTo (t h) (x.cn - 1)) q) ∧ ls = .int .i64 (sumTo (fun h => P.proved x (2 ^ h)) q) ∧ Ext w6 wr) (fun _ _ j _ => nh - (intOf j).toNat)
  case atStart => exact ⟨0, by omega, rfl, rfl, rfl, Ext.refl _⟩
  case round =>
    clear k5 k5l
    obtain ⟨q, hq, rfl, rfl, rfl, he⟩ := hrel
    have E := hid he
    have k5 := (B5.out.ext he).cell
    have k5l := (B5.out.ext he).lt
    by_cases hlq : q < nh
    · have hqx : q < x.hands.toNat := by have := HN.out; omega
      have hqh : (q : Int) < x.hands := by omega
      have hsb := L.bd_sum (f := fun h => sumTo (t h) (x.cn - 1)) (B := 20000) q (fun h hh => ⟨(L.took_bd HX.out HT.out (show h < x.hands.toNat by omega) (x.cn - 1) (Nat.le_refl _)).1, TP.out.took h (by omega)⟩)
      have hlb := L.bd_sum (f := fun h => P.proved x (2 ^ h)) (B := 20000) q (fun h hh => ⟨(TP.out.least h (by omega)).1, by have := (TP.out.least h (by omega)).2; have := TP.out.took h (by omega); omega⟩)
      obtain ⟨sm, HS⟩ : ∃ z, Hid (z = sumTo (fun h => sumTo (t h) (x.cn - 1)) q) := ⟨_, hid rfl⟩
      obtain ⟨ls, HL⟩ : ∃ z, Hid (z = sumTo (fun h => P.proved x (2 ^ h)) q) := ⟨_, hid rfl⟩
      obtain ⟨m, Hm⟩ : ∃ z, Hid (z = P.proved x (2 ^ q)) := ⟨_, hid rfl⟩
      obtain ⟨nq, Hn⟩ : ∃ z, Hid (z = sumTo (t q) (x.cn - 1)) := ⟨_, hid rfl⟩
      have hmn := TP.out.least q hqx
      have hnb := TP.out.took q hqx
      have Hmu := hid (TP.out.must q hqx)
      have Hca := hid (TP.out.can q hqx)
      rw [← Hm.out] at hmn Hmu
      rw [← Hn.out] at hmn hnb Hca
      rw [← HS.out] at hsb ⊢
      rw [← HL.out] at hlb ⊢
      obtain ⟨b, o, hA, hbl, ct⟩ := (RT6.out.ext he).at1 hlq
      simp only [Option.some.injEq, Addr.mk.injEq, and_true] at hA
      obtain ⟨rfl, rfl⟩ := hA
      rw [← Hn.out, Nat.zero_add] at ct
      rcases (show 0 < m ∨ (m = 0 ∧ 0 < nq) ∨ (m = 0 ∧ nq = 0) by omega) with h0 | ⟨h0, h00⟩ | ⟨h0, h00⟩
      · have M8 := hid (Hmu.out.trans (decide_eq_true h0))
        have C10 := hid (Hca.out (by omega))
        have h00 : 0 < nq := by omega
        go_wp2_with (first
            | (go_at_call 25; refine (least_ok (IW6.out.ext E.out) h1 h2 h3 hqh TP.out.told).mono ?_; rintro e wz ⟨rfl, hez⟩; have E := hid (E.out.trans hez); have k5 := (B5.out.ext E.out).cell; have k5l := (B5.out.ext E.out).lt; rw [← Hm.out])
            | (go_at_call 87; (with_reducible refine (inList (S8'.out.ext E.out) (by omega) q).mono ?_); rintro e wz ⟨rfl, hez⟩; have E := hid (E.out.trans hez); rw [M8.out])
            | (go_at_call 87; (with_reducible refine (inList (S10'.out.ext E.out) (by omega) q).mono ?_); rintro e wz ⟨rfl, hez⟩; have E := hid (E.out.trans hez); rw [C10.out]))
        go_roundw
        case rel => exact ⟨q + 1, by omega, by go_num, by simp only [sumTo]; rw [← HS.out, ← Hn.out] <;> congr 1 <;> omega, by simp only [sumTo]; rw [← HL.out, ← Hm.out] <;> congr 1 <;> omega, E.out⟩
        case measure => simp [intOf]; omega
      · subst h0
        have M8 := hid (Hmu.out.trans (decide_eq_false (by omega)))
        have C10 := hid (Hca.out h00)
        go_wp2_with (first
            | (go_at_call 25; refine (least_ok (IW6.out.ext E.out) h1 h2 h3 hqh TP.out.told).mono ?_; rintro e wz ⟨rfl, hez⟩; have E := hid (E.out.trans hez); have k5 := (B5.out.ext E.out).cell; have k5l := (B5.out.ext E.out).lt; rw [← Hm.out])
            | (go_at_call 87; (with_reducible refine (inList (S8'.out.ext E.out) (by omega) q).mono ?_); rintro e wz ⟨rfl, hez⟩; have E := hid (E.out.trans hez); rw [M8.out])
            | (go_at_call 87; (with_reducible refine (inList (S10'.out.ext E.out) (by omega) q).mono ?_); rintro e wz ⟨rfl, hez⟩; have E := hid (E.out.trans hez); rw [C10.out]))
        go_roundw
        case rel => exact ⟨q + 1, by omega, by go_num, by simp only [sumTo]; rw [← HS.out, ← Hn.out] <;> congr 1 <;> omega, by simp only [sumTo]; rw [← HL.out, ← Hm.out] <;> congr 1 <;> omega, E.out⟩
        case measure => simp [intOf]; omega
      · subst h0
        have M8 := hid (Hmu.out.trans (decide_eq_false (by omega)))
        have C10 := hid h00
        go_wp2_with (first
            | (go_at_call 25; refine (least_ok (IW6.out.ext E.out) h1 h2 h3 hqh TP.out.told).mono ?_; rintro e wz ⟨rfl, hez⟩; have E := hid (E.out.trans hez); have k5 := (B5.out.ext E.out).cell; have k5l := (B5.out.ext E.out).lt; rw [← Hm.out])
            | (go_at_call 87; (with_reducible refine (inList (S8'.out.ext E.out) (by omega) q).mono ?_); rintro e wz ⟨rfl, hez⟩; have E := hid (E.out.trans hez); rw [M8.out])
            | (go_at_call 87; (with_reducible refine (inList (S10'.out.ext E.out) (by omega) q).mono ?_); rintro e wz ⟨rfl, hez⟩; have E := hid (E.out.trans hez)))
        go_roundw
        case rel => exact ⟨q + 1, by omega, by go_num, by simp only [sumTo]; rw [← HS.out, ← Hn.out] <;> congr 1 <;> omega, by simp only [sumTo]; rw [← HL.out, ← Hm.out] <;> congr 1 <;> omega, E.out⟩
        case measure => simp [intOf]; omega
    · obtain rfl : nh = q := by omega
      have hs1 := TP.out.sum
      have hs2 := TP.out.leasts
      rw [← HM.out, HN.out.2] at hs1 hs2
      obtain ⟨sm, HS⟩ : ∃ z, Hid (z = sumTo (fun h => sumTo (t h) (x.cn - 1)) nh) := ⟨_, hid rfl⟩
      obtain ⟨ls, HL⟩ : ∃ z, Hid (z = sumTo (fun h => P.proved x (2 ^ h)) nh) := ⟨_, hid rfl⟩
      rw [← HS.out] at hs1 ⊢
      rw [← HL.out] at hs2 ⊢
      have hlen' : ((P.must x).length : Int) ≤ ((P.can x).length : Int) := by omega
      have hne : (x.cn : Int) ≠ 0 := by omega
      obtain ⟨k, hkd⟩ : ∃ k, k = wh % x.cn := ⟨_, rfl⟩
      have hk : k < x.cn := by rw [hkd]; exact Nat.mod_lt _ (by omega)
      have hmod : Int.tmod (wh : Int) (x.cn : Int) = (k : Int) := by rw [hkd]; rfl
      clear hkd
      obtain ⟨lo, HLO⟩ : ∃ z, Hid (z = P.lo x k) := ⟨_, hid rfl⟩
      obtain ⟨hi, HHI⟩ : ∃ z, Hid (z = P.hi x k) := ⟨_, hid rfl⟩
      go_upto_region 21 with (go_at_call 51; refine (within_ok (IW6.out.ext E.out) h1 h2 h3 hk TP.out.told).mono ?_; rintro e wz ⟨rfl, hez⟩; have E := hid (E.out.trans hez); have k5 := (B5.out.ext E.out).cell; have k5l := (B5.out.ext E.out).lt; rw [← HLO.out, ← HHI.out])
      refine wp_later fun w8 hw8 => ?_
      obtain ⟨E8, b23⟩ := hw8.newB
      have hwi := TP.out.within k hk
      rw [← HLO.out, ← HHI.out] at hwi
      have hc1 := HX.out.lo k hk
      have hc2 := HX.out.hi k hk
      have E8' := hid (E.out.trans E8)
      obtain ⟨g23, hg23⟩ : ∃ g, g = wz.heap.size := ⟨_, rfl⟩
      rw [← hg23] at b23 ⊢
      obtain ⟨bc, oc, rfl, hbc, -, q1, q2⟩ := (IsW.rdC (IW6.out.ext E8'.out)).at3 hk
      obtain ⟨bs, os, rfl, hbs, qs⟩ := (R66.out.ext E8'.out).at1 hk
      have k5 := (B5.out.ext E8'.out).cell
      have k5l := (B5.out.ext E8'.out).lt
      have k23 := b23.cell
      have k23l := b23.lt
      have hki : (k : Int) < (x.cn : Int) := by omega
      have hk0 : (0 : Int) ≤ (k : Int) := by omega
      clear E he hez hw8 E8 hg23 hlq hq hlen hlens hlen' hs1 hs2 hmod hne
      have t1 : decide (s k < lo) = false := decide_eq_false (by omega)
      have t2 : decide (hi < s k) = false := decide_eq_false (by omega)
      have t3 : decide (lo < x.c k 1) = false := decide_eq_false (by omega)
      have t4 : decide (x.c k 2 < hi) = false := decide_eq_false (by omega)
      refine wp_region_later (by kernel_rfl) (by kernel_rfl) ?_
      repeat (go_big_quiet_step (fail))
      refine wpQuiet_nil ?_
      rintro w9 ⟨⟨_, he9⟩, rfl⟩
      replace b23 := b23.ext he9
      have k23 := b23.cell
      have k23l := b23.lt
      have E9 := hid (E8'.out.trans he9)
      clear t1 t2 t3 t4 q1 q2 qs he9 hbc hbs k5 k5l E8'
      go_upto_region 24 with fail
      refine wp_later fun w10 hw10 => ?_
      obtain ⟨E10, b4⟩ := hw10.newB
      have E := hid (E9.out.trans E10)
      have B23 := hid (b23.ext E10)
      obtain ⟨g4, hg4⟩ : ∃ g, g = w9.heap.size := ⟨_, rfl⟩
      rw [← hg4] at b4 ⊢
      have B4 := hid b4
      have IW10 := hid (IW6.out.ext E.out)
      have B10 := hid (B5.out.ext E.out)
      have EW10 := hid (EW6.out.trans E.out)
      clear hw10 E10 b4 b23 k23 k23l hg4 E9 IW6 B5 R66 RT6 EW6 S8' S10' k5 k5l E
      go_loopw [216] (fun j wr => ∃ q : Nat, q ≤ 4 ∧ j = .int .i64 (q : Int) ∧ Ext w10 wr) (fun j _ => 4 - (intOf j).toNat)
      case atStart => exact ⟨0, by omega, rfl, Ext.refl _⟩
      case round =>
        obtain ⟨q, hq, rfl, he⟩ := hrel
        have E := hid he
        have k5 := (B10.out.ext he).cell
        have k5l := (B10.out.ext he).lt
        have k23 := (B23.out.ext he).cell
        have k23l := (B23.out.ext he).lt
        have k4l := (B4.out.ext he).lt
        by_cases hlq : q < 4
        · obtain ⟨z, k4, hz⟩ : ∃ z : Int, wr.cell? ⟨g4, q, none⟩ = some (.int .i64 z) ∧ -1 ≤ z ∧ z ≤ 501 := by
            have h4 := (B4.out.ext he).cell q
            match q, hlq with
            | 0, _ => exact ⟨_, h4, by omega⟩
            | 1, _ => exact ⟨_, h4, by omega⟩
            | 2, _ => exact ⟨_, h4, by omega⟩
            | 3, _ => exact ⟨_, h4, by omega⟩
          have hq4 : (q : Int) < 4 := by omega
          have hq0 : (0 : Int) ≤ (q : Int) := by omega
          obtain ⟨b', o', hA, -, -, q1, q2⟩ := (IsW.rdC (IW10.out.ext he)).at3 hk
          simp only [Option.some.injEq, Addr.mk.injEq, and_true] at hA
          obtain ⟨rfl, rfl⟩ := hA
          rcases (show z < x.c k 1 ∨ (x.c k 1 ≤ z ∧ x.c k 2 < z) ∨ (x.c k 1 ≤ z ∧ z ≤ x.c k 2) by omega) with h0 | ⟨h0, h00⟩ | ⟨h0, h00⟩
          · go_wp2_with fail
            go_roundw
            case rel => exact ⟨q + 1, by omega, by go_num, he⟩
            case measure => simp [intOf]; omega
          · go_wp2_with fail
            go_roundw
            case rel => exact ⟨q + 1, by omega, by go_num, he⟩
            case measure => simp [intOf]; omega
          · obtain ⟨hok, hcl⟩ := TP.out.fix k hk z h0 h00
            rw [← HLO.out, ← HHI.out] at hcl
            have HCL := hid hcl
            have HCK := hid (chk_of hok)
            clear hcl hok
            go_upto_region 28 with (go_at_call 19; refine (own19O (IW10.out.ext he) h1 h2 h3).mono ?_; rintro e wo ⟨u, rfl, heo, D1, d1, D2, d2, D3, d3, rfl, o1, o2, o3⟩)
            refine wp_later fun w11 hw11 => ?_
            obtain ⟨E11, b26⟩ := hw11.newB
            have e11 := hid (E.out.trans (heo.trans E11))
            have p1 := o1.ext E11
            have p2 := hid (o2.ext E11)
            have p3 := hid (o3.ext E11)
            obtain ⟨gD, rfl, hgD, aD⟩ := own_arr (by omega) p1
            have P1 := hid p1
            have hsz := he.size
            have hIS := hid (setC hk z P1.out p2.out p3.out)
            have ED := hid ((e11.out.setCell (p := ⟨gD, k * 3 + 1, none⟩) (.int .i64 z) (by show w10.heap.size ≤ gD; omega)).setCell (p := ⟨gD, k * 3 + 2, none⟩) (.int .i64 z) (by show w10.heap.size ≤ gD; omega))
            obtain ⟨m1, f1⟩ := aD.2 (k * 3 + 1) (by omega)
            obtain ⟨m2, f2⟩ := aD.2 (k * 3 + 2) (by omega)
            have k26 := b26.cell
            have k26l := b26.lt
            have hDl := aD.1
            have hD26 : ¬ gD = wo.heap.size := by have := o1.lt (g := gD) rfl; omega
            clear hw11 E11 heo o1 o2 o3 p1 aD k5 k5l q1 q2 k4 k4l
            cases hr : R.clashes (setc x k z) with
            | none =>
              have hCL := HCL.out
              rw [hr] at hCL
              have hin : lo ≤ z ∧ z ≤ hi := by simpa using hCL
              have HR := hid hr
              clear hr hCL
              go_wp2_with (go_at_call 50; refine (clashesX_none hIS.out h1 h2 h3 HCK.out HR.out).mono ?_; rintro e wc ⟨rfl, hec⟩; have E := hid (ED.out.trans hec); have k23 := (B23.out.ext E.out).cell; have k23l := (B23.out.ext E.out).lt)
              go_roundw
              case rel => exact ⟨q + 1, by omega, by go_num, E.out.alloc _⟩
              case measure => simp [intOf]; omega
            | some cs =>
              have hCL := HCL.out
              rw [hr] at hCL
              have hin : ¬ (lo ≤ z ∧ z ≤ hi) := fun h => by rw [decide_eq_true h] at hCL; simp at hCL
              have HR := hid hr
              clear hr hCL
              rcases (show z < lo ∨ (lo ≤ z ∧ hi < z) by omega) with hz1 | ⟨hz1, hz2⟩
              all_goals
                clear hin
                go_wp2_with (go_at_call 50; refine (clashesX_ok hIS.out h1 h2 h3 HCK.out HR.out).mono ?_; rintro e wc ⟨rfl, hec⟩; have E := hid (ED.out.trans hec); have k23 := (B23.out.ext E.out).cell; have k23l := (B23.out.ext E.out).lt)
                go_roundw
                case rel => exact ⟨q + 1, by omega, by go_num, E.out.alloc _⟩
                case measure => simp [intOf]; omega
        · obtain rfl : q = 4 := by omega
          go_wp2_with (go_at_call 18; refine (awake_any _).mono ?_; rintro e wy ⟨rfl, hey⟩)
          go_ret
          exact ⟨rfl, EW10.out.trans (he.trans hey)⟩
end Go.Proofs.YtkhjmedfhobebaaGreat
