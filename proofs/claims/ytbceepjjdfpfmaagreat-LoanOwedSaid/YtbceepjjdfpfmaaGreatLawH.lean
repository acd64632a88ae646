/- Walk of the law LoanOwed (4): for every sack it returns true. No condition. -/
import Derived.Test.YtbceepjjdfpfmaaGreatAwk
import Derived.Test.YtbceepjjdfpfmaaGreatMk
import Derived.Test.YtbceepjjdfpfmaaGreatByt
import Derived.Test.YtbceepjjdfpfmaaGreatOwdP
import Derived.Test.YtbceepjjdfpfmaaGreatRefC
namespace Go.Proofs.YtbceepjjdfpfmaaGreat
open Go.RowKit HandSpec LoanSpec
set_option maxHeartbeats 4000000
set_option maxRecDepth 100000
theorem prom_step (x : LD) (a b k : Nat) : prom x a b (k + 1) = prom x a b k + if x.pr k 0 = (a : Int) ∧ x.pr k 1 = (b : Int) then x.pr k 2 else 0 := rfl
theorem prom_bd {x : LD} (hx : Ok x) (a b : Nat) : ∀ k, k ≤ x.mn → 0 ≤ prom x a b k ∧ prom x a b k ≤ 500 * k
  | 0, _ => ⟨Int.le_refl _, by show (0 : Int) ≤ _; omega⟩
  | k + 1, hk => by
    have ih := prom_bd hx a b k (by omega)
    have h := hx.msack k (by omega)
    rw [prom_step]
    push_cast
    split <;> omega
theorem promG_step (x : LD) (k : Nat) : promG x (k + 1) = promG x k + ((if x.pr k 1 = 0 then x.pr k 2 else 0) - (if x.pr k 0 = 0 then x.pr k 2 else 0)) := rfl
theorem promG_bd {x : LD} (hx : Ok x) : ∀ k, k ≤ x.mn → -(500 * (k : Int)) ≤ promG x k ∧ promG x k ≤ 500 * k
  | 0, _ => ⟨by show _ ≤ (0 : Int); omega, by show (0 : Int) ≤ _; omega⟩
  | k + 1, hk => by
    have ih := promG_bd hx k (by omega)
    have h := hx.msack k (by omega)
    rw [promG_step]
    push_cast
    split <;> split <;> omega
theorem errW_in {x : LD} (hx : Ok x) {a : Nat} (ha : a < x.folk.toNat) : P.errW x (a : Int) (x.years - 1) = 0 := by
  have h1 := hx.years
  unfold P.errW
  rw [if_pos (chk_of_ok hx), show inB (a : Int) 0 (x.folk - 1) = true from decide_eq_true (by omega), show inB (x.years - 1) 0 (x.years - 1) = true from decide_eq_true (by omega)]
  rfl
theorem errY_in {x : LD} (hx : Ok x) {i : Nat} (hi : i < x.ln) : P.errY x (i : Int) (x.years - 1) = 0 := by
  have h1 := hx.years
  have h0 : P.errL x (i : Int) = 0 := by
    unfold P.errL
    rw [if_pos (chk_of_ok hx), show inB (i : Int) 0 ((x.ln : Int) - 1) = true from decide_eq_true (by omega)]
    rfl
  unfold P.errY
  rw [if_pos h0, show inB (x.years - 1) 0 (x.years - 1) = true from decide_eq_true (by omega)]
  rfl
theorem law4 {A : Option Addr} {n0 cap : Nat} {w : World} (hb : ByteS w A n0) :
    Calls Tryz.prog 4 #[.slice A n0 cap] w fun e w' => e = .returned (.bool true) ∧ Ext w w' := by
  have HB := hid hb
  clear hb
  go_enter Tryz.func4, Tryz.ntmps4
  go_upto_region 2 with (first
    | (go_at_call 31; refine (fill31 _).mono ?_; rintro e wa ⟨rfl, hea, hsa⟩; have ST := hid (start_of HB.out hea hsa); have EA := hid hea; clear hsa hea)
    | (go_at_call 30; (with_reducible refine (made30 ST.out (fk := 7) (ys := 6) (lm := 10) (pm := 12) (mm := 12) (by omega) (by omega) (by omega) (by omega) (by omega)).mono ?_); rintro e wb ⟨x, p, rfl, hsx, hla, hok, hsm, hcap, hf2, -⟩; have HSX := hid hsx; have HL0 := hid hla; have hx := hid hok; have HSM := hid hsm; unfold ledV; clear hsx hla hok hsm))
  refine wp_later fun w1 hw1 => ?_
  obtain ⟨e1, b3⟩ := hw1.newB
  obtain ⟨N3, hN3⟩ : ∃ N, Hid (N = wb.heap.size) := ⟨_, hid rfl⟩
  rw [← hN3.out] at b3 ⊢
  have B3 : Hid (Blk w1 N3 27 #[.int .i64 x.folk, .int .i64 x.years, .slice p.A1 x.bn p.c1, .slice p.A2 x.fn p.c2, .slice p.A3 x.ln p.c3, .slice p.A4 x.pn p.c4, .slice p.A5 x.mn p.c5]) := hid b3
  have HL := hid (HL0.out.ext e1)
  have EW := hid ((HSX.out.ext EA.out (Nat.le_refl _)).trans e1)
  have E := hid (Ext.refl w1)
  clear hw1 e1 b3 HL0 HSX ST EA
  have k3 := B3.out.cell
  have k3l := B3.out.lt
  obtain ⟨n, hn⟩ : ∃ n, Hid (x.folk.toNat = n) := ⟨_, hid rfl⟩
  have hfk := hx.out.folk
  have hfn : ((n : Nat) : Int) = x.folk := by rw [← hn.out]; omega
  have hn7 : 2 ≤ n ∧ n ≤ 7 := by omega
  have tfn : (((n : Nat) : Int) != x.folk) = false := by rw [hfn]; simp
  clear hfn hf2
  have hyr := hx.out.years
  have hlnb := hx.out.ln
  have hmnb := hx.out.mn
  have HD0 := hid (owed_debts hx.out)
  have HG0 := hid (net_granary hx.out)
  have HS0 := hid (nets_sum x)
  rw [hn.out] at HD0 HG0 HS0
  have hdok := hid (chkD_zero HD0.out).1
  obtain ⟨D, hD⟩ : ∃ D, Hid (P.owed x = D) := ⟨_, hid rfl⟩
  rw [hD.out] at HD0 HG0 HS0 hdok
  obtain ⟨f, hf⟩ : ∃ f, Hid (netTo D n n = f) := ⟨_, hid rfl⟩
  rw [hf.out] at HG0 HS0
  have hDv := hid (fun a b => show D a b = base x a b + prom x a b x.mn by rw [← hD.out]; exact owed_parts x a b)
  have hfb := hid (fun i => show -49000000 ≤ f i ∧ f i ≤ 49000000 by
    have h := netTo_bd hdok.out.hd (by omega) n (Nat.le_refl _) i
    rw [hf.out] at h
    omega)
  go_upto_region 3 with ((go_at_call 27; refine (owed_ok (HL.out.ext E.out) HSM.out (chk_of_ok hx.out)).mono ?_; rintro e wz ⟨u, rfl, he, hu⟩; obtain ⟨gu, ru, cu, capu, rfl, hmu⟩ := hu; have HD := hid hmu.rdN; rw [hn.out, hD.out] at HD; rw [hn.out]; have E := hid (E.out.trans he); have k3 := (B3.out.ext E.out).cell; have k3l := (B3.out.ext E.out).lt; clear he hmu))
  go_upto_region 4 with ((go_at_call 32; refine (net32 HD.out (by omega) (fun _ _ => show n ≤ 1000 by omega)).mono ?_; rintro e wz ⟨u, rfl, he, hu⟩; rw [HD0.out]; obtain ⟨Gn, rfl, -, ha⟩ := hu HD0.out; rw [hf.out] at ha; have HN := hid (ha.rd fun _ => rfl); have E := hid (E.out.trans he); have k3 := (B3.out.ext E.out).cell; have k3l := (B3.out.ext E.out).lt; have HD := hid (HD.out.ext he); clear he ha hu))
  go_upto_region 6 with (first
    | (go_at_call 33; refine (checkDebts33 HD.out (by omega) (fun _ _ => show n ≤ 1000 by omega)).mono ?_; rintro e wz ⟨rfl, he⟩; have E := hid (E.out.trans he); have k3 := (B3.out.ext E.out).cell; have k3l := (B3.out.ext E.out).lt; rw [HD0.out]; have HD := hid (HD.out.ext he); have HN := hid (HN.out.ext he); clear he)
    | (go_at_call 35; refine (nets35 HD.out hdok.out).mono ?_; rintro e wz ⟨Gm, rfl, he, -, ha⟩; rw [hf.out] at ha; have HN2 := hid (ha.rd fun _ => rfl); have E := hid (E.out.trans he); have k3 := (B3.out.ext E.out).cell; have k3l := (B3.out.ext E.out).lt; have HD := hid (HD.out.ext he); have HN := hid (HN.out.ext he); clear he ha)
    | (go_at_call 34; refine (eq34 HN.out HN2.out (by omega) (by omega)).mono ?_; rintro e wz ⟨rfl, he⟩; have E := hid (E.out.trans he); have k3 := (B3.out.ext E.out).cell; have k3l := (B3.out.ext E.out).lt; rw [eqB_same]; have HD := hid (HD.out.ext he); have HN := hid (HN.out.ext he); clear he))
  clear HN2
  have E0 := hid E.out
  obtain ⟨w2, rfl⟩ : ∃ W : World, W = wz := ⟨_, rfl⟩
  go_upto_region 8 with fail
  clear k3 k3l
  go_loopw [8, 71] (fun s i W => ∃ (a : Nat) (z : Int), a ≤ n ∧ i = .int .i64 (a : Int) ∧ s = .int .i64 z ∧ Hid (z = sumTo f a) ∧ Hid (Ext w2 W)) (fun _ i _ => n - (intOf i).toNat)
  case atStart => exact ⟨0, 0, Nat.zero_le _, rfl, rfl, hid rfl, hid (Ext.refl _)⟩
  case round =>
    clear E
    obtain ⟨a, zs, ha, rfl, rfl, hzs, F⟩ := hrel
    have E := hid (E0.out.trans F.out)
    have k3 := (B3.out.ext E.out).cell
    have k3l := (B3.out.ext E.out).lt
    by_cases hla : a < n
    · obtain ⟨br, or_, Br, Cr, hAd, hbr, hcr, hRr⟩ := (HD.out.ext F.out).at_ hla
      cases hAd
      rw [Nat.zero_add] at hcr
      have HRr := hid hRr
      clear hRr
      go_upto_region 11 with fail
      clear hbr hcr
      obtain ⟨w3, rfl⟩ : ∃ W : World, W = wr := ⟨_, rfl⟩
      have F3 := F
      clear F E k3 k3l
      go_loopw [78] (fun i W => ∃ b : Nat, b ≤ n ∧ i = .int .i64 (b : Int) ∧ Hid (Ext w3 W)) (fun i _ => n - (intOf i).toNat)
      case atStart => exact ⟨0, Nat.zero_le _, rfl, hid (Ext.refl _)⟩
      case round =>
        obtain ⟨b, hb, rfl, F4⟩ := hrel
        have F := hid (F3.out.trans F4.out)
        have E := hid (E0.out.trans F.out)
        have k3 := (B3.out.ext E.out).cell
        have k3l := (B3.out.ext E.out).lt
        by_cases hlb : b < n
        · obtain ⟨b1, o1, hB1, hb1, hc1⟩ := (HRr.out.ext F4.out).at1 hlb
          subst hB1
          obtain ⟨v, hv⟩ : ∃ v, Hid (D a b = v) := ⟨_, hid rfl⟩
          rw [hv.out] at hc1
          have hpb := prom_bd hx.out a b
          go_upto_region 15 with fail
          obtain ⟨w4, rfl⟩ : ∃ W : World, W = wr := ⟨_, rfl⟩
          have F5 := F
          have F45 := F4
          clear hb1 hc1 F E F4 k3 k3l
          go_loopw [14, 86] (fun s i W => ∃ (k : Nat) (z : Int), k ≤ x.mn ∧ i = .int .i64 (k : Int) ∧ s = .int .i64 z ∧ Hid (z = prom x a b k) ∧ Hid (Ext w4 W)) (fun _ i _ => x.mn - (intOf i).toNat)
          case atStart => exact ⟨0, 0, Nat.zero_le _, rfl, rfl, hid rfl, hid (Ext.refl _)⟩
          case round =>
            obtain ⟨k, z, hk, rfl, rfl, hz, F6⟩ := hrel
            have F := hid (F5.out.trans F6.out)
            have E := hid (E0.out.trans F.out)
            have k3 := (B3.out.ext E.out).cell
            have k3l := (B3.out.ext E.out).lt
            have hzb : 0 ≤ z ∧ z ≤ 6000 := by have := hpb k hk; rw [hz.out]; omega
            by_cases hlk : k < x.mn
            · obtain ⟨b5, o5, hA5, hb5, q0, q1, q2⟩ := ((HL.out.ext E.out).r5).at3 hlk
              have hst := hid (prom_step x a b k)
              have hms := hx.out.msack k hlk
              obtain ⟨y0, hy0⟩ : ∃ z, Hid (x.pr k 0 = z) := ⟨_, hid rfl⟩
              obtain ⟨y1, hy1⟩ : ∃ z, Hid (x.pr k 1 = z) := ⟨_, hid rfl⟩
              obtain ⟨y2, hy2⟩ : ∃ z, Hid (x.pr k 2 = z) := ⟨_, hid rfl⟩
              rw [hy0.out] at q0
              rw [hy1.out] at q1
              rw [hy2.out] at q2 hms
              rw [hy0.out, hy1.out, hy2.out, ← hz.out] at hst
              rw [hA5] at k3 ⊢
              have e6 := (Ext.refl wr).alloc (.cells #[.int .i64 y0, .int .i64 y1, .int .i64 y2] 64)
              by_cases t0 : y0 = (a : Int)
              · have t0' : (y0 == (a : Int)) = true := by simpa using t0
                by_cases t1 : y1 = (b : Int)
                · have t1' : (y1 == (b : Int)) = true := by simpa using t1
                  rw [if_pos ⟨t0, t1⟩] at hst
                  clear t0 t1
                  go_wp2_with fail
                  go_roundw
                  case rel => exact ⟨k + 1, z + y2, by omega, by go_num, by go_num, hid hst.out.symm, hid (F6.out.trans e6)⟩
                  case measure => simp [intOf]; omega
                · have t1' : (y1 == (b : Int)) = false := by simpa using t1
                  rw [if_neg (fun h => t1 h.2)] at hst
                  clear t0 t1
                  go_wp2_with fail
                  go_roundw
                  case rel => exact ⟨k + 1, z, by omega, by go_num, rfl, hid (by rw [hst.out]; omega), hid (F6.out.trans e6)⟩
                  case measure => simp [intOf]; omega
              · have t0' : (y0 == (a : Int)) = false := by simpa using t0
                rw [if_neg (fun h => t0 h.1)] at hst
                clear t0
                go_wp2_with fail
                go_roundw
                case rel => exact ⟨k + 1, z, by omega, by go_num, rfl, hid (by rw [hst.out]; omega), hid (F6.out.trans e6)⟩
                case measure => simp [intOf]; omega
            · have hkm : k = x.mn := by omega
              have hzp := hid (show z = prom x a b x.mn by rw [hz.out, hkm])
              have hlk' : ¬ (k : Int) < (x.mn : Int) := by omega
              clear hkm
              by_cases ha0 : 0 < a
              · by_cases hb0 : b = 0
                · subst hb0
                  obtain ⟨o, ho⟩ : ∃ o, Hid (P.owes x (a : Int) (x.years - 1) = o) := ⟨_, hid rfl⟩
                  have hob := LoanSpec.P.owes_bd hx.out (a : Int) (x.years - 1)
                  rw [ho.out] at hob
                  have hvv := hid (show v = z + o by rw [← hv.out, hDv.out, hzp.out]; unfold base; rw [if_pos ⟨ha0, rfl⟩, ho.out]; omega)
                  have tv : (v != z + o) = false := by rw [hvv.out]; simp
                  go_wp2_with (go_at_call 25; refine (owes_ok (HL.out.ext E.out) HSM.out (errW_in hx.out (by rw [hn.out]; exact hla))).mono ?_; rintro e wz ⟨rfl, he⟩; rw [ho.out]; have F6 := hid (F6.out.trans he); clear he)
                  go_roundw
                  case rel => exact ⟨0 + 1, by omega, by go_num, hid (F45.out.trans F6.out)⟩
                  case measure => simp [intOf]; omega
                · have hvv := hid (show v = z by rw [← hv.out, hDv.out, hzp.out]; unfold base; rw [if_neg (fun h => hb0 h.2)]; omega)
                  have tv : (v != z) = false := by rw [hvv.out]; simp
                  have tb : ((b : Int) == 0) = false := by simpa using hb0
                  have ta : (0 : Int) < (a : Int) := by omega
                  clear hb0
                  go_wp2_with fail
                  go_roundw
                  case rel => exact ⟨b + 1, by omega, by go_num, hid (F45.out.trans F6.out)⟩
                  case measure => simp [intOf]; omega
              · have hvv := hid (show v = z by rw [← hv.out, hDv.out, hzp.out]; unfold base; rw [if_neg (fun h => ha0 h.1)]; omega)
                have tv : (v != z) = false := by rw [hvv.out]; simp
                have ta : ¬ (0 : Int) < (a : Int) := by omega
                go_wp2_with fail
                go_roundw
                case rel => exact ⟨b + 1, by omega, by go_num, hid (F45.out.trans F6.out)⟩
                case measure => simp [intOf]; omega
        · have hbn : ¬ (b : Int) < (n : Int) := by omega
          have ca := ((HN.out.ext F.out)).at1 hla
          obtain ⟨bg, og, hBg, hbg, cg⟩ := ca
          cases hBg
          rw [Nat.zero_add] at cg
          obtain ⟨fa, hfa⟩ : ∃ z, Hid (f a = z) := ⟨_, hid rfl⟩
          have hfab := hfb.out a
          have hzsb := HandSpec.P.sumTo_bd (f := f) (B := 49000000) a fun i _ => hfb.out i
          have hzsb2 : -400000000 ≤ zs ∧ zs ≤ 400000000 := by rw [hzs.out]; omega
          rw [hfa.out] at cg hfab
          have hst := hid (show sumTo f (a + 1) = zs + fa by rw [sumTo_succ, hfa.out, hzs.out])
          clear hzsb
          go_wp2_with fail
          go_roundw
          case rel => exact ⟨a + 1, zs + fa, by omega, by go_num, by go_num, hid hst.out.symm, F⟩
          case measure => simp [intOf]; omega
    · have han : a = n := by omega
      have hz0 : zs = 0 := by rw [hzs.out, han, HS0.out]
      subst hz0
      subst han
      go_upto_region 31 with fail
      obtain ⟨w3, rfl⟩ : ∃ W : World, W = wr := ⟨_, rfl⟩
      have F3 := F
      clear F E k3 k3l
      go_loopw [9, 139] (fun s i W => ∃ (j : Nat) (z : Int), j ≤ x.ln ∧ i = .int .i64 (j : Int) ∧ s = .int .i64 z ∧ Hid (z = sumTo (fun i => LoanSpec.P.left x i (x.years - 1)) j) ∧ Hid (Ext w3 W)) (fun _ i _ => x.ln - (intOf i).toNat)
      case atStart => exact ⟨0, 0, Nat.zero_le _, rfl, rfl, hid rfl, hid (Ext.refl _)⟩
      case round =>
        obtain ⟨j, z, hj, rfl, rfl, hz, F4⟩ := hrel
        have F := hid (F3.out.trans F4.out)
        have E := hid (E0.out.trans F.out)
        have k3 := (B3.out.ext E.out).cell
        have k3l := (B3.out.ext E.out).lt
        have hzb := HandSpec.P.sumTo_bd (f := fun i => LoanSpec.P.left x i (x.years - 1)) (B := 550) j fun i hi => by
          rw [LoanSpec.P.left_eq hx.out (by omega)]
          have := R.left_bd hx.out (show i < x.ln by omega) (x.years - 1)
          omega
        have hzb2 : -5500 ≤ z ∧ z ≤ 5500 := by rw [hz.out]; omega
        clear hzb
        by_cases hlj : j < x.ln
        · obtain ⟨y, hy⟩ : ∃ y, Hid (LoanSpec.P.left x j (x.years - 1) = y) := ⟨_, hid rfl⟩
          have hyb : 0 ≤ y ∧ y ≤ 550 := by
            rw [← hy.out, LoanSpec.P.left_eq hx.out hlj]
            exact R.left_bd hx.out hlj _
          have hst := hid (show sumTo (fun i => LoanSpec.P.left x i (x.years - 1)) (j + 1) = z + y by rw [sumTo_succ, hy.out, hz.out])
          go_wp2_with (go_at_call 36; refine (left_ok (HL.out.ext E.out) HSM.out (errY_in hx.out hlj)).mono ?_; rintro e wz ⟨rfl, he⟩; rw [hy.out]; have F4 := hid (F4.out.trans he); clear he)
          go_roundw
          case rel => exact ⟨j + 1, z + y, by omega, by go_num, by go_num, hid hst.out.symm, F4⟩
          case measure => simp [intOf]; omega
        · have hjl : j = x.ln := by omega
          have hzl := hid (show z = leftAll x by rw [hz.out, hjl]; rfl)
          subst hjl
          go_upto_region 39 with fail
          obtain ⟨w4, rfl⟩ : ∃ W : World, W = wr := ⟨_, rfl⟩
          have F5 := F
          clear F E F4 k3 k3l
          go_loopw [9, 160] (fun s i W => ∃ (k : Nat) (q : Int), k ≤ x.mn ∧ i = .int .i64 (k : Int) ∧ s = .int .i64 q ∧ Hid (q = z + promG x k) ∧ Hid (Ext w4 W)) (fun _ i _ => x.mn - (intOf i).toNat)
          case atStart => exact ⟨0, z, Nat.zero_le _, rfl, rfl, hid (by show z = z + 0; omega), hid (Ext.refl _)⟩
          case round =>
            obtain ⟨k, q, hk, rfl, rfl, hq, F6⟩ := hrel
            have F := hid (F5.out.trans F6.out)
            have E := hid (E0.out.trans F.out)
            have k3 := (B3.out.ext E.out).cell
            have k3l := (B3.out.ext E.out).lt
            have hqb : -20000 ≤ q ∧ q ≤ 20000 := by have := promG_bd hx.out k hk; rw [hq.out]; omega
            by_cases hlk : k < x.mn
            · obtain ⟨b5, o5, hA5, hb5, q0, q1, q2⟩ := ((HL.out.ext E.out).r5).at3 hlk
              have hst := hid (promG_step x k)
              have hms := hx.out.msack k hlk
              have hne := hx.out.mne k hlk
              obtain ⟨y0, hy0⟩ : ∃ z, Hid (x.pr k 0 = z) := ⟨_, hid rfl⟩
              obtain ⟨y1, hy1⟩ : ∃ z, Hid (x.pr k 1 = z) := ⟨_, hid rfl⟩
              obtain ⟨y2, hy2⟩ : ∃ z, Hid (x.pr k 2 = z) := ⟨_, hid rfl⟩
              rw [hy0.out] at q0
              rw [hy1.out] at q1
              rw [hy2.out] at q2 hms
              rw [hy0.out, hy1.out] at hne
              rw [hy0.out, hy1.out, hy2.out] at hst
              rw [hA5] at k3 ⊢
              have e6 := (Ext.refl wr).alloc (.cells #[.int .i64 y0, .int .i64 y1, .int .i64 y2] 64)
              by_cases t1 : y1 = 0
              · have t1' : (y1 == 0) = true := by simpa using t1
                have t0' : (y0 == 0) = false := by simpa using (show ¬ y0 = 0 by omega)
                rw [if_pos t1, if_neg (show ¬ y0 = 0 by omega)] at hst
                clear t1 hne
                go_wp2_with fail
                go_roundw
                case rel => exact ⟨k + 1, q + y2, by omega, by go_num, by go_num, hid (by rw [hst.out, hq.out]; omega), hid (F6.out.trans e6)⟩
                case measure => simp [intOf]; omega
              · have t1' : (y1 == 0) = false := by simpa using t1
                by_cases t0 : y0 = 0
                · have t0' : (y0 == 0) = true := by simpa using t0
                  rw [if_neg t1, if_pos t0] at hst
                  clear t1 t0 hne
                  go_wp2_with fail
                  go_roundw
                  case rel => exact ⟨k + 1, q - y2, by omega, by go_num, by go_num, hid (by rw [hst.out, hq.out]; omega), hid (F6.out.trans e6)⟩
                  case measure => simp [intOf]; omega
                · have t0' : (y0 == 0) = false := by simpa using t0
                  rw [if_neg t1, if_neg t0] at hst
                  clear t1 t0 hne
                  go_wp2_with fail
                  go_roundw
                  case rel => exact ⟨k + 1, q, by omega, by go_num, rfl, hid (by rw [hst.out, hq.out]; omega), hid (F6.out.trans e6)⟩
                  case measure => simp [intOf]; omega
            · have hkm : k = x.mn := by omega
              have hlk' : ¬ (k : Int) < (x.mn : Int) := by omega
              obtain ⟨bg, og, hBg, hbg, cg⟩ := (HN.out.ext F.out).at1 (show 0 < a by omega)
              cases hBg
              rw [Nat.zero_add] at cg
              have hf0 := hid (show f 0 = q by rw [HG0.out, hq.out, hkm, hzl.out])
              rw [hf0.out] at cg
              clear hkm
              go_wp2_with (go_at_call 18; refine (awake_any _).mono ?_; rintro e wz ⟨rfl, he⟩; have F6 := hid (F6.out.trans he); clear he)
              go_ret
              exact ⟨rfl, EW.out.trans (E0.out.trans (F5.out.trans F6.out))⟩
end Go.Proofs.YtbceepjjdfpfmaaGreat
