/- Walk of the law LoanStraight (11): for all sacks it returns true. No condition. -/
import Derived.Test.YtbceepjjdfpfmaaGreatAwk
import Derived.Test.YtbceepjjdfpfmaaGreatOwg
import Derived.Test.YtbceepjjdfpfmaaGreatByt
import Derived.Test.YtbceepjjdfpfmaaGreatCir
namespace Go.Proofs.YtbceepjjdfpfmaaGreat
open Go.RowKit HandSpec LoanSpec
set_option maxHeartbeats 4000000
set_option maxRecDepth 100000
theorem eqRB_of {n : Nat} {g h : Nat → Nat → Int} (e : ∀ i j, i < n → j < n → g i j = h i j) : eqRB n n (fun _ => n) (fun _ => n) g h = true := by
  unfold eqRB
  rw [decide_eq_true rfl, anyTo_false.2 fun k hk => ?_]
  · rfl
  · unfold eqB neB
    rw [decide_eq_true rfl, anyTo_false.2 fun j hj => ?_]
    · rfl
    · exact anyTo_false.2 fun q _ => by simp [e k j hk hj]
theorem dok_chk {n : Nat} {g : Nat → Nat → Int} (h : DOk n g) : chkD n (fun _ => n) g = 0 := by
  have hn := h.hn
  unfold chkD
  rw [if_neg, if_neg, if_neg]
  · rw [Bool.not_eq_true]
    exact anyTo_false.2 fun k hk => by rw [h.h0 k hk]; rfl
  · have : entB n (fun _ => n) g = true := by
      unfold entB
      rw [anyTo_false.2 fun i hi => anyTo_false.2 fun j hj => ?_]
      · rfl
      · rw [show inB (g i j) 0 1000000 = true from decide_eq_true (h.hd i j hi hj)]
        rfl
    rw [this]
    simp
  · rintro (e | e)
    · rw [show inB (n : Int) 1 7 = true from decide_eq_true (by omega)] at e
      cases e
    · unfold sqB at e
      rw [anyTo_false.2 fun k _ => by simp] at e
      cases e
/-- A circle is cancelled without an error. -/
theorem errC_circ {n : Nat} {g : Nat → Nat → Int} {c : List Nat} (hd : DOk n g) (h : Circ n g c) : errC n (fun _ => n) g c.length (fun k => ((c.getD k 0 : Nat) : Int)) = 0 := by
  have h2 := h.two
  unfold errC
  rw [if_neg (by rw [dok_chk hd]; simp), if_neg (by omega), if_neg, if_neg, if_neg]
  · rw [Bool.not_eq_true]
    refine anyTo_false.2 fun k hk => ?_
    have := h.on k hk
    simp only [Int.toNat_natCast]
    rw [beq_eq_false_iff_ne]
    omega
  · rw [Bool.not_eq_true]
    refine anyTo_false.2 fun k hk => anyTo_false.2 fun j hj => ?_
    rw [beq_eq_false_iff_ne]
    intro e
    have e : ((c.getD k 0 : Nat) : Int) = ((c.getD j 0 : Nat) : Int) := e
    have := h.inj hk (show j < c.length by omega) (by omega)
    omega
  · rw [Bool.not_eq_true]
    refine anyTo_false.2 fun k hk => ?_
    have := h.lt _ (getD_mem hk)
    rw [show inB ((c.getD k 0 : Nat) : Int) 0 ((n : Int) - 1) = true from decide_eq_true (by omega)]
    rfl
theorem law11 {A : Option Addr} {n0 cap : Nat} {w : World} (hb : ByteS w A n0) :
    Calls Tryz.prog 11 #[.slice A n0 cap] w fun e w' => e = .returned (.bool true) ∧ Ext w w' := by
  have HB := hid hb
  clear hb
  go_enter Tryz.func11, Tryz.ntmps11
  go_upto_region 2 with (first
    | (go_at_call 31; refine (fill31 _).mono ?_; rintro e wa ⟨rfl, hea, hsa⟩; have ST := hid (start_of HB.out hea hsa); have EA := hid hea; clear hsa hea)
    | (go_at_call 64; (with_reducible refine (owing64 ST.out).mono ?_); rintro e wb ⟨Ad, n, cd, m, rfl, hsx, hrd, hdok, -⟩; have EW := hid (hsx.ext EA.out (Nat.le_refl _)); have HR := hid hrd; have HD := hid hdok; clear hsx hrd hdok))
  have hn7 := HD.out.hn
  have hc0 := hid (dok_chk HD.out)
  have htot := hid (totTo_net m n n (Nat.le_refl _))
  have hnb := hid (fun a => netTo_bd HD.out.hd hn7.2 n (Nat.le_refl _) a)
  have hM1 := hid (show ∀ k, k < n → (fun _ : Nat => n) k ≤ 1000 from fun k _ => by show n ≤ 1000; omega)
  have tnn : ((n : Int) != (n : Int)) = false := by simp
  obtain ⟨w1, rfl⟩ : ∃ W : World, W = wb := ⟨_, rfl⟩
  have E := hid (Ext.refl w1)
  go_upto_region 3 with (go_at_call 35; (with_reducible refine (nets35 (HR.out.ext E.out) HD.out).mono ?_); rintro e wz ⟨Gm, rfl, he, -, ha⟩; have HN := hid (ha.rd (A := some ⟨Gm, 0, none⟩) fun _ => rfl); have E := hid (E.out.trans he); clear he ha)
  go_upto_region 4 with (go_at_call 78; (with_reducible refine (straight78 (HR.out.ext E.out) (by omega) hM1.out).mono ?_); rintro e wz ⟨u, rfl, he, -, hu⟩; rw [hc0.out]; have HS1 := hid (hu hc0.out); have E := hid (E.out.trans he); have HN := hid (HN.out.ext he); clear he hu)
  obtain ⟨m', hV, hS, hDd⟩ := HS1.out
  have HS := hid hS
  have HDd := hid hDd
  obtain ⟨gs, rs, cs, cps, rfl, M⟩ := hV
  have HT := hid M.rdN
  have hcs := hid (dok_chk hS.ok)
  have hnet := hid hS.net
  clear M hS hDd HS1
  have hoM := hid (fun L (hp : List.Perm L (groupsM (netTo m n n) n)) => (settle_ok hnb.out hn7.2 htot.out hp).1)
  have hoK := hid (groups_best hn7.2 htot.out (List.Perm.refl (groupsM (netTo m n n) n))).2.1
  have hfew := hid (few_many (g := m') (K := (groupsM (netTo m n n) n).length) HS.out.ok (by rw [hnet.out]; exact hoK.out))
  rw [hnet.out] at hfew
  obtain ⟨f, hf⟩ : ∃ f, Hid (netTo m n n = f) := ⟨_, hid rfl⟩
  rw [hf.out] at hoM hfew HN hnet
  obtain ⟨K, hK⟩ : ∃ K, Hid ((groupsM f n).length = K) := ⟨_, hid rfl⟩
  obtain ⟨O, hO⟩ : ∃ O, Hid (cntP (nzB f) n = O) := ⟨_, hid rfl⟩
  rw [hK.out, hO.out] at hfew
  have heq := hid (eqB_same 1 n (fun k _ => f k))
  go_upto_region 6 with (first
    | (go_at_call 33; (with_reducible refine (checkDebts33 (HT.out.ext (Ext.refl _)) (by omega) hM1.out).mono ?_); rintro e wz ⟨rfl, he⟩; rw [hcs.out]; have E := hid (E.out.trans he); have HN := hid (HN.out.ext he); have HT := hid (HT.out.ext he); clear he)
    | (go_at_call 35; (with_reducible refine (nets35 HT.out HS.out.ok).mono ?_); rintro e wz ⟨Gm2, rfl, he, -, ha⟩; rw [hnet.out] at ha; have HN2 := hid (ha.rd (A := some ⟨Gm2, 0, none⟩) fun _ => rfl); have E := hid (E.out.trans he); have HN := hid (HN.out.ext he); have HT := hid (HT.out.ext he); clear he ha)
    | (go_at_call 34; (with_reducible refine (eq34 HN2.out HN.out (by omega) (by omega)).mono ?_); rintro e wz ⟨rfl, he⟩; rw [heq.out]; have E := hid (E.out.trans he); have HN := hid (HN.out.ext he); have HT := hid (HT.out.ext he); clear he HN2))
  obtain ⟨w6, rfl⟩ : ∃ W : World, W = wz := ⟨_, rfl⟩
  go_upto_region 8 with fail
  go_loopw [7, 60] (fun c i W => ∃ k : Nat, k ≤ n ∧ i = .int .i64 (k : Int) ∧ c = .int .i64 (cntE n m' k : Int) ∧ Hid (Ext w6 W)) (fun _ i _ => n - (intOf i).toNat)
  case atStart => exact ⟨0, Nat.zero_le _, rfl, rfl, hid (Ext.refl _)⟩
  case round =>
    obtain ⟨k, hk, rfl, rfl, D⟩ := hrel
    by_cases hlk : k < n
    · as_aux_lemma =>
        obtain ⟨b1, o1, B1, C1, hA1, hb1, hc1, hr1⟩ := (HT.out.ext D.out).at_ hlk
        cases hA1
        rw [Nat.zero_add] at hc1
        have R1 := hid hr1
        obtain ⟨b2, o2, B2, C2, rfl, hb2, hc2, hr2⟩ := (HR.out.ext (E.out.trans D.out)).at_ hlk
        have R2 := hid hr2
        have h49 := hid (cntE_bd n m' k)
        have hkn := hid (show k * n ≤ 49 from Nat.le_trans (Nat.mul_le_mul (show k ≤ 7 by omega) hn7.2) (by omega))
        have hst := hid (show cntE n m' (k + 1) = cntE n m' k + cntP (fun j => decide (0 < m' k j)) n from rfl)
        obtain ⟨S, hSv⟩ : ∃ S, Hid (cntE n m' k = S) := ⟨_, hid rfl⟩
        have hS49 : S ≤ 49 := by have := h49.out; have := hkn.out; have := hSv.out; omega
        rw [hSv.out] at hst ⊢
        clear hr1 hr2
        go_upto_region 11 with fail
        obtain ⟨wE, hwE⟩ : ∃ W : World, Hid (W = wr) := ⟨_, hid rfl⟩
        rw [← hwE.out] at D
        clear hb1 hc1
        go_loopw [7, 67] (fun c i W => ∃ j : Nat, j ≤ n ∧ i = .int .i64 (j : Int) ∧ c = .int .i64 ((S + cntP (fun j => decide (0 < m' k j)) j : Nat) : Int) ∧ Hid (Ext w6 W) ∧ Hid (Ext wE W)) (fun _ i _ => n - (intOf i).toNat)
        case atStart => exact ⟨0, Nat.zero_le _, rfl, rfl, hid (by rw [← hwE.out]; exact D.out), hid (by rw [← hwE.out]; exact Ext.refl _)⟩
        case round =>
          clear D
          obtain ⟨j, hj, rfl, rfl, D, D2⟩ := hrel
          by_cases hlj : j < n
          · obtain ⟨bx, ox, rfl, hbx, hx⟩ := (R1.out.ext (by rw [← hwE.out]; exact D2.out)).at1 hlj
            obtain ⟨by_, oy, rfl, hby, hy⟩ := (R2.out.ext (by rw [← hwE.out]; exact D2.out)).at1 hlj
            have hle := HS.out.le k j hlk hlj
            have hc2' := hid (D2.out.some_ (by rw [hwE.out]; exact hc2))
            have c2 := hc2'.out
            have c2l : b2 < wr.heap.size := by have := D2.out.size; rw [hwE.out] at this; omega
            have hcs2 := hid (show cntP (fun j => decide (0 < m' k j)) (j + 1) = cntP (fun j => decide (0 < m' k j)) j + if decide (0 < m' k j) = true then 1 else 0 from rfl)
            obtain ⟨T, hTv⟩ : ∃ T, Hid (cntP (fun j => decide (0 < m' k j)) j = T) := ⟨_, hid rfl⟩
            obtain ⟨x, hxv⟩ : ∃ x, Hid (m' k j = x) := ⟨_, hid rfl⟩
            obtain ⟨y, hyv⟩ : ∃ y, Hid (m k j = y) := ⟨_, hid rfl⟩
            rw [hTv.out, hxv.out] at hcs2
            rw [hxv.out] at hx hle
            rw [hyv.out] at hy hle
            have hT7 : T ≤ j := by
              have := cntP_not (fun j => decide (0 < m' k j)) j
              have := hTv.out
              omega
            rw [hTv.out]
            have tle : ¬ x > y := by omega
            by_cases hx0 : 0 < x
            · have := hcs2.out
              rw [if_pos (by simpa using hx0)] at this
              have HC := hid this
              have tx : x > 0 := hx0
              clear this hle hx0
              go_wp2_with fail
              go_roundw
              case rel => exact ⟨j + 1, by omega, by go_num, by rw [HC.out]; go_num, D, D2⟩
              case measure => simp [intOf]; omega
            · have := hcs2.out
              rw [if_neg (by simpa using hx0)] at this
              have HC := hid this
              have tx : ¬ x > 0 := hx0
              clear this hle hx0
              go_wp2_with fail
              go_roundw
              case rel => exact ⟨j + 1, by omega, by go_num, by rw [HC.out, Nat.add_zero], D, D2⟩
              case measure => simp [intOf]; omega
          · have hjn : j = n := by omega
            subst hjn
            have HSt := hst
            clear hst
            go_wp2_with fail
            go_roundw
            case rel => exact ⟨k + 1, by omega, by go_num, by rw [HSt.out], D⟩
            case measure => simp [intOf]; omega
    · have hkn : k = n := by omega
      as_aux_lemma =>
      rw [hkn]
      have hmany := hfew.out
      obtain ⟨Mn, hMn⟩ : ∃ q, Hid (cntE n m' n = q) := ⟨_, hid rfl⟩
      rw [hMn.out] at hmany ⊢
      have E := hid (E.out.trans D.out)
      have HN := hid (HN.out.ext D.out)
      have HT := hid (HT.out.ext D.out)
      clear hlk hk hkn
      go_upto_region 20 with (go_at_call 59; (with_reducible refine (fewest59 (HT.out.ext (Ext.refl _)) (by omega) hM1.out).mono ?_); rintro e wz ⟨u, rfl, he, -, hu⟩; rw [hcs.out]; obtain ⟨L2, p2, -, hz2⟩ := hu hcs.out; rw [hnet.out] at p2 hz2; have hP2 := (hoM.out L2 p2); have hl2 : L2.length = K := (p2.length_eq.trans hK.out); rw [hO.out] at hP2; obtain ⟨Z, hZ⟩ : ∃ Z : Nat, (settleM L2 f).l.length = Z := ⟨_, rfl⟩; rw [hZ] at hz2 hP2; subst hz2; have hZO : Z + K = O := (by omega); have E := hid (E.out.trans he); have HN := hid (HN.out.ext he); have HT := hid (HT.out.ext he); clear he hu p2 hP2 hl2 hZ)
      go_upto_region 21 with (go_at_call 59; (with_reducible refine (fewest59 (HR.out.ext E.out) (by omega) hM1.out).mono ?_); rintro e wz ⟨u, rfl, he, -, hu⟩; rw [hc0.out]; obtain ⟨L3, p3, -, hz3⟩ := hu hc0.out; rw [hf.out] at p3 hz3; have hP3 := (hoM.out L3 p3); have hl3 : L3.length = K := (p3.length_eq.trans hK.out); rw [hO.out] at hP3; obtain rfl : u = (Z : Int) := (by rw [hz3]; omega); have E := hid (E.out.trans he); have HN := hid (HN.out.ext he); have HT := hid (HT.out.ext he); clear he hu p3 hz3 hP3 hl3)
      go_upto_region 22 with (go_at_call 76; (with_reducible refine (circle76 HT.out (by omega) hM1.out).mono ?_); rintro e wz ⟨u, er, rfl, he, -, hu⟩; have HU := hid (hu hcs.out); have E := hid (E.out.trans he); have HN := hid (HN.out.ext he); have HT := hid (HT.out.ext he); clear he hu)
      obtain ⟨rfl, rfl⟩ : er = 6 ∧ u = .slice none 0 0 := by
        rcases HU.out with ⟨-, c, hc, -⟩ | ⟨h6, hu, -⟩
        · exact absurd ⟨_, hc.trap⟩ (no_trap HDd.out)
        · exact ⟨h6, hu⟩
      have tz : ((Z : Int) != (Z : Int)) = false := by simp
      have tm : ¬ (Z : Int) > (Mn : Int) := by omega
      clear HU
      go_upto_region 24 with fail
      go_upto_region 25 with (go_at_call 76; (with_reducible refine (circle76 (HR.out.ext E.out) (by omega) hM1.out).mono ?_); rintro e wz ⟨u, er, rfl, he, -, hu⟩; have HU := hid (hu hc0.out); have E := hid (E.out.trans he); have HN := hid (HN.out.ext he); have HT := hid (HT.out.ext he); clear he hu)
      clear tz tm
      rcases HU.out with ⟨rfl, c, hc, huo⟩ | ⟨rfl, rfl, hdd⟩
      · have HC := hid hc
        have HO := hid huo
        clear HU hc huo
        as_aux_lemma =>
        have h2 := HC.out.two
        have hl7 := nodup_len n c HC.out.nd HC.out.lt
        obtain ⟨Au, cu, rfl, rdu⟩ := HO.out.slR
        have hcu := own_cap HO.out
        rw [rows1_length] at rdu hcu ⊢
        have HRu := hid (rd_list rdu)
        have hE := hid (errC_circ HD.out HC.out)
        have hok := hid (cut_ok HD.out HC.out rfl)
        have hinj := hid (fun i j (hi : i < c.length) (hj : j < c.length) (e : (fun k => c.getD k 0) i = (fun k => c.getD k 0) j) => HC.out.inj hi hj e)
        have hcn := hid (fun k (hk : k < c.length) => (show (fun k => c.getD k 0) k < n from HC.out.lt _ (getD_mem hk)))
        have hon := hid (fun k (hk : k < c.length) => (show 0 < m ((fun k => c.getD k 0) k) ((fun k => c.getD k 0) (nxtC c.length k)) from HC.out.on k hk))
        have HRu := hid (show Rd wz Au c.length 1 (fun k _ => (((fun k => c.getD k 0) k : Nat) : Int)) from HRu.out)
        have hE := hid (show errC n (fun _ => n) m c.length (fun k => (((fun k => c.getD k 0) k : Nat) : Int)) = 0 from hE.out)
        have hok := hid (show DOk n (cutC m (fun k => c.getD k 0) c.length (lowC m (fun k => c.getD k 0) c.length c.length) c.length) ∧ netTo (cutC m (fun k => c.getD k 0) c.length (lowC m (fun k => c.getD k 0) c.length c.length) c.length) n n = netTo m n n ∧ ∀ k, k < c.length → cutC m (fun k => c.getD k 0) c.length (lowC m (fun k => c.getD k 0) c.length c.length) c.length ((fun k => c.getD k 0) k) ((fun k => c.getD k 0) (nxtC c.length k)) = m ((fun k => c.getD k 0) k) ((fun k => c.getD k 0) (nxtC c.length k)) - lowC m (fun k => c.getD k 0) c.length c.length from ⟨hok.out.1, hok.out.2.1, hok.out.2.2.2.2⟩)
        generalize (fun k => c.getD k 0) = cf at HRu hE hok hinj hcn hon
        obtain ⟨L, hL⟩ : ∃ L, c.length = L := ⟨_, rfl⟩
        rw [hL] at HRu hE hok hinj hcn hon hcu h2 hl7 ⊢
        have hL7 : 2 ≤ L ∧ L ≤ 7 := by omega
        clear HC HO rdu hL
        have tL : ¬ (L : Int) < 2 := by omega
        obtain ⟨w9, rfl⟩ : ∃ W : World, W = wz := ⟨_, rfl⟩
        go_upto_region 31 with fail
        clear tL h2 hl7
        go_loopw [19, 144] (fun b i W => ∃ k : Nat, k ≤ L ∧ i = .int .i64 (k : Int) ∧ b = .int .i64 (lowC m cf L k) ∧ Hid (Ext w9 W)) (fun _ i _ => L - (intOf i).toNat)
        case atStart => exact ⟨0, Nat.zero_le _, rfl, rfl, hid (Ext.refl _)⟩
        case round =>
          obtain ⟨k, hk, rfl, rfl, D⟩ := hrel
          by_cases hlk : k < L
          · as_aux_lemma =>
              obtain ⟨q, hq⟩ : ∃ q, Hid (q = nxtC L k) := ⟨_, hid rfl⟩
              have hmod : Int.tmod ((k : Int) + 1) (L : Int) = (q : Int) := by rw [hq.out]; rfl
              have hqL : q < L := by rw [hq.out]; exact Nat.mod_lt _ (by omega)
              obtain ⟨b, o, rfl, hb, hck⟩ := (HRu.out.ext D.out).at1 hlk
              obtain ⟨b2, o2, h2, -, hcq⟩ := (HRu.out.ext D.out).at1 hqL
              cases h2
              have hRk := hid (rd_take (HRu.out.ext D.out) (show k ≤ L by omega))
              have hno := hid (show anyTo (fun j => (cf k : Int) == (cf j : Int)) k = false from anyTo_false.2 fun j hj => by
                rw [beq_eq_false_iff_ne]
                intro e
                have := hinj.out k j hlk (by omega) (by omega)
                omega)
              have hz0 := hon.out k hlk
              rw [← hq.out] at hz0
              have hxn := hcn.out k hlk
              have hyn := hcn.out q hqL
              have hlow := hid (show lowC m cf L (k + 1) = min (lowC m cf L k) (m (cf k) (cf q)) by rw [hq.out]; rfl)
              obtain ⟨x, hx⟩ : ∃ x, Hid (cf k = x) := ⟨_, hid rfl⟩
              obtain ⟨y, hy⟩ : ∃ y, Hid (cf q = y) := ⟨_, hid rfl⟩
              obtain ⟨t, ht⟩ : ∃ t, Hid (lowC m cf L k = t) := ⟨_, hid rfl⟩
              rw [hx.out] at hck hxn hz0 hno hlow
              rw [hy.out] at hcq hyn hz0 hlow
              rw [ht.out] at hlow ⊢
              obtain ⟨bA, oA, Bx, Cx, rfl, hbA, hrow, hRow⟩ := (HR.out.ext (E.out.trans D.out)).at_ hxn
              obtain ⟨bx, ox, rfl, hbx, hz⟩ := hRow.at1 hyn
              obtain ⟨z, hzv⟩ : ∃ z, Hid (m x y = z) := ⟨_, hid rfl⟩
              rw [hzv.out] at hz hz0 hlow
              have tz : (z == 0) = false := by rw [beq_eq_false_iff_ne]; omega
              have t1 : ¬ (x : Int) < 0 := by omega
              have t2 : ¬ (y : Int) < 0 := by omega
              have t3 : ¬ (x : Int) ≥ (n : Int) := by omega
              have t4 : ¬ (y : Int) ≥ (n : Int) := by omega
              have hkc : k ≤ cu := by omega
              have hkc1 : (k : Int) ≤ (cu : Int) := by omega
              have hk1 : k ≤ 1000 := by omega
              have hmin := hid (show (if z < t then z else t) = lowC m cf L (k + 1) by rw [hlow.out]; split <;> omega)
              clear hRow hz0 hlow
              go_wp2_with (go_at_call 47; (with_reducible refine (contains47 hRk.out hk1 (x : Int)).mono ?_); rintro e wy ⟨rfl, he⟩; rw [hno.out]; have D := hid (D.out.trans he); have hrow := he.some_ hrow; have hz := he.some_ hz; have hbA := Nat.lt_of_lt_of_le hbA he.size; have hbx := Nat.lt_of_lt_of_le hbx he.size; clear he)
              rw [hmin.out]
              go_roundw
              case rel => exact ⟨k + 1, by omega, by go_num, rfl, D⟩
              case measure => simp [intOf]; omega
          · have hkL : k = L := by omega
            as_aux_lemma =>
            rw [hkL]
            have hBv := hid (lowC_bd (c := cf) (L := L) (by omega) hcn.out HD.out.hd L (Nat.le_refl _))
            obtain ⟨Bv, hBvv⟩ : ∃ z, Hid (lowC m cf L L = z) := ⟨_, hid rfl⟩
            rw [hBvv.out] at hBv hok ⊢
            have E := hid (E.out.trans D.out)
            have HN := hid (HN.out.ext D.out)
            have HRu := hid (HRu.out.ext D.out)
            clear hlk hk hkL
            obtain ⟨o1, o2, o5⟩ := hok.out
            have hfz : (fun k => ((cf k : Nat) : Int).toNat) = cf := funext fun k => Int.toNat_natCast _
            have hfz := hid hfz
            go_upto_region 39 with (go_at_call 77; (with_reducible refine (cancel77 (f := fun k => ((cf k : Nat) : Int)) (HR.out.ext E.out) (by omega) hM1.out HRu.out (by omega) hcu).mono ?_); rintro e wy ⟨u, rfl, he, hu⟩; rw [hE.out]; have hm3 := hu hE.out; rw [hfz.out, hBvv.out] at hm3; have HM3 := hid hm3; have E := hid (E.out.trans he); have HN := hid (HN.out.ext he); have HRu := hid (HRu.out.ext he); clear he hu hm3)
            obtain ⟨gc, rc, cc, cpc, rfl, M⟩ := HM3.out
            have HQ := hid M.rdN
            obtain ⟨mc, hmc⟩ : ∃ q, Hid (cutC m cf L Bv L = q) := ⟨_, hid rfl⟩
            rw [hmc.out] at HQ o1 o2 o5
            have HO1 := hid o1
            have HO5 := hid o5
            have hcc := hid (dok_chk o1)
            have hnc := hid (o2.trans hf.out)
            clear M HM3 o1 o2 o5 hok
            go_upto_region 41 with (first
              | (go_at_call 33; (with_reducible refine (checkDebts33 (HQ.out.ext (Ext.refl _)) (by omega) hM1.out).mono ?_); rintro e wv ⟨rfl, he⟩; rw [hcc.out]; have E := hid (E.out.trans he); have HN := hid (HN.out.ext he); have HQ := hid (HQ.out.ext he); have HRu := hid (HRu.out.ext he); clear he)
              | (go_at_call 35; (with_reducible refine (nets35 HQ.out HO1.out).mono ?_); rintro e wv ⟨Gm2, rfl, he, -, ha⟩; rw [hnc.out] at ha; have HN2 := hid (ha.rd (A := some ⟨Gm2, 0, none⟩) fun _ => rfl); have E := hid (E.out.trans he); have HN := hid (HN.out.ext he); have HQ := hid (HQ.out.ext he); have HRu := hid (HRu.out.ext he); clear he ha)
              | (go_at_call 34; (with_reducible refine (eq34 HN2.out HN.out (by omega) (by omega)).mono ?_); rintro e wv ⟨rfl, he⟩; rw [heq.out]; have E := hid (E.out.trans he); have HQ := hid (HQ.out.ext he); have HRu := hid (HRu.out.ext he); clear he HN2))
            obtain ⟨wB, rfl⟩ : ∃ W : World, W = wv := ⟨_, rfl⟩
            go_upto_region 42 with fail
            go_loopw [231] (fun i W => ∃ k : Nat, k ≤ L ∧ i = .int .i64 (k : Int) ∧ Hid (Ext wB W)) (fun i _ => L - (intOf i).toNat)
            case atStart => exact ⟨0, Nat.zero_le _, rfl, hid (Ext.refl _)⟩
            case round =>
              obtain ⟨k, hk, rfl, D⟩ := hrel
              by_cases hlk : k < L
              · as_aux_lemma =>
                  obtain ⟨q, hq⟩ : ∃ q, Hid (q = nxtC L k) := ⟨_, hid rfl⟩
                  have hmod : Int.tmod ((k : Int) + 1) (L : Int) = (q : Int) := by rw [hq.out]; rfl
                  have hqL : q < L := by rw [hq.out]; exact Nat.mod_lt _ (by omega)
                  obtain ⟨b, o, rfl, hb, hck⟩ := (HRu.out.ext D.out).at1 hlk
                  obtain ⟨b2, o2, h2, -, hcq⟩ := (HRu.out.ext D.out).at1 hqL
                  cases h2
                  have hen := HO5.out k hlk
                  rw [← hq.out] at hen
                  have hxn := hcn.out k hlk
                  have hyn := hcn.out q hqL
                  obtain ⟨x, hx⟩ : ∃ x, Hid (cf k = x) := ⟨_, hid rfl⟩
                  obtain ⟨y, hy⟩ : ∃ y, Hid (cf q = y) := ⟨_, hid rfl⟩
                  rw [hx.out] at hck hxn hen
                  rw [hy.out] at hcq hyn hen
                  obtain ⟨bA, oA, Bx, Cx, rfl, hbA, hrow, hRow⟩ := (HR.out.ext (E.out.trans D.out)).at_ hxn
                  obtain ⟨bx, ox, rfl, hbx, hz⟩ := hRow.at1 hyn
                  obtain ⟨bC, oC, By, Cy, hC, hbC, hrow2, hRow2⟩ := (HQ.out.ext D.out).at_ hxn
                  cases hC
                  rw [Nat.zero_add] at hrow2
                  obtain ⟨by_, oy, rfl, hby, hz2⟩ := hRow2.at1 hyn
                  obtain ⟨z, hzv⟩ : ∃ z, Hid (m x y = z) := ⟨_, hid rfl⟩
                  have hzb := HD.out.hd x y hxn hyn
                  rw [hen] at hz2
                  rw [hzv.out] at hz hz2 hzb
                  have hB := hBv.out
                  clear hen hRow hRow2
                  go_upto_region 45 with fail
                  refine wp_region_later (by kernel_rfl) (by kernel_rfl) ?_
                  repeat (go_big_quiet_step (fail))
                  refine wpQuiet_nil ?_
                  rintro w7 ⟨⟨_, he7⟩, rfl⟩
                  go_wp2_with fail
                  go_roundw
                  case rel => exact ⟨k + 1, by omega, by go_num, hid (D.out.trans he7)⟩
                  case measure => simp [intOf]; omega
              · go_wp2_with (go_at_call 18; refine (awake_any _).mono ?_; rintro e wv ⟨rfl, he⟩; have D := hid (D.out.trans he); clear he)
                go_ret
                exact ⟨rfl, EW.out.trans (E.out.trans D.out)⟩
      · have hsm := hid (eqRB_of (HS.out.same hdd))
        clear HU hdd
        as_aux_lemma =>
          go_wp2_with (first
            | (go_at_call 28; (with_reducible refine (eqRows28 HT.out (HR.out.ext E.out) (by omega) (by omega) hM1.out hM1.out).mono ?_); rintro e wy ⟨rfl, he⟩; rw [hsm.out]; have E := hid (E.out.trans he); clear he)
            | (go_at_call 18; refine (awake_any _).mono ?_; rintro e wy ⟨rfl, he⟩; have E := hid (E.out.trans he); clear he))
          go_ret
          exact ⟨rfl, EW.out.trans E.out⟩
end Go.Proofs.YtbceepjjdfpfmaaGreat
