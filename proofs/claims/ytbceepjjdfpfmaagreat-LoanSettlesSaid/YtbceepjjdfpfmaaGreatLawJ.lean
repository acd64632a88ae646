/- Walk of the law LoanSettles (8): for all debts, payments and groups it returns true. No condition but that lists are no longer than there can be. -/
import Derived.Test.YtbceepjjdfpfmaaGreatAwk
import Derived.Test.YtbceepjjdfpfmaaGreatSetP
import Derived.Test.YtbceepjjdfpfmaaGreatStlS
import Derived.Test.YtbceepjjdfpfmaaGreatGrpD
namespace Go.Proofs.YtbceepjjdfpfmaaGreat
open Go.RowKit HandSpec LoanSpec
set_option maxHeartbeats 4000000
set_option maxRecDepth 100000
theorem eqRB_self (n : Nat) (m : Nat → Nat) (g : Nat → Nat → Int) : eqRB n n m m g g = true := by
  unfold eqRB
  rw [decide_eq_true rfl, anyTo_false.2 fun k _ => by rw [eqB_same]; rfl]
  rfl
theorem SumsV.nil {w : World} {A S : Option Addr} : SumsV w A S [] := fun h => absurd h (by simp)
theorem law8 {w : World} {A Ap Ag : Option Addr} {n cap L capp q capq : Nat} {m c : Nat → Nat} {g p gr : Nat → Nat → Int} (hr : RdN w A n m g) (hn : n ≤ maxLen) (hp : Rd w Ap L 3 p) (hg : RdN w Ag q c gr) (hq : q ≤ maxLen) :
    Calls Tryz.prog 8 #[.slice A n cap, .slice Ap L capp, .slice Ag q capq] w fun e w' => e = .returned (.bool true) ∧ Ext w w' := by
  have HR := hid hr
  have HP := hid hp
  have HG := hid hg
  have HN := hid hn
  have HQ := hid hq
  have E := hid (Ext.refl w)
  clear hr hp hg hn hq
  obtain ⟨t1, ht1⟩ : ∃ t, Hid (longB n m = t) := ⟨_, hid rfl⟩
  obtain ⟨t2, ht2⟩ : ∃ t, Hid (longB q c = t) := ⟨_, hid rfl⟩
  cases t1
  case true =>
    go_enter Tryz.func8, Tryz.ntmps8
    go_wp2_with (first
      | (go_at_call 48; (with_reducible refine (long48 (HR.out.ext E.out) HN.out).mono ?_); rintro e wz ⟨rfl, he⟩; rw [ht1.out]; have E := hid (E.out.trans he); clear he)
      | (go_at_call 18; refine (awake_any _).mono ?_; rintro e wz ⟨rfl, he⟩; have E := hid (E.out.trans he); clear he))
    go_ret
    exact ⟨rfl, E.out⟩
  case false =>
  by_cases hL : 14 < L
  · have tL : (14 : Int) < (L : Int) := by omega
    clear hL
    go_enter Tryz.func8, Tryz.ntmps8
    go_wp2_with (first
      | (go_at_call 48; (with_reducible refine (long48 (HR.out.ext E.out) HN.out).mono ?_); rintro e wz ⟨rfl, he⟩; rw [ht1.out]; have E := hid (E.out.trans he); clear he)
      | (go_at_call 18; refine (awake_any _).mono ?_; rintro e wz ⟨rfl, he⟩; have E := hid (E.out.trans he); clear he))
    go_ret
    exact ⟨rfl, E.out⟩
  have tL : ¬ (14 : Int) < (L : Int) := by omega
  cases t2
  case true =>
    go_enter Tryz.func8, Tryz.ntmps8
    go_wp2_with (first
      | (go_at_call 48; (with_reducible refine (long48 (HR.out.ext E.out) HN.out).mono ?_); rintro e wz ⟨rfl, he⟩; rw [ht1.out]; have E := hid (E.out.trans he); clear he)
      | (go_at_call 48; (with_reducible refine (long48 (HG.out.ext E.out) HQ.out).mono ?_); rintro e wz ⟨rfl, he⟩; rw [ht2.out]; have E := hid (E.out.trans he); clear he)
      | (go_at_call 18; refine (awake_any _).mono ?_; rintro e wz ⟨rfl, he⟩; have E := hid (E.out.trans he); clear he))
    go_ret
    exact ⟨rfl, E.out⟩
  case false =>
  obtain ⟨hn, hm⟩ := longB_no ht1.out
  obtain ⟨hq, hc⟩ := longB_no ht2.out
  have HM := hid hm
  have HC := hid hc
  have HM1 := hid (show ∀ k, k < n → m k ≤ 1000 from fun k hk => by have := hm k hk; omega)
  have HC1 := hid (show ∀ k, k < q → c k ≤ 1000 from fun k hk => by have := hc k hk; omega)
  have HC2 := hid (show ∀ k, k < q → c k ≤ 20 from fun k hk => by have := hc k hk; omega)
  have hL14 : L ≤ 14 := by omega
  clear hm hc hL
  go_enter Tryz.func8, Tryz.ntmps8
  go_upto_region 3 with (first
    | (go_at_call 48; (with_reducible refine (long48 (HR.out.ext E.out) HN.out).mono ?_); rintro e wz ⟨rfl, he⟩; rw [ht1.out]; have E := hid (E.out.trans he); clear he)
    | (go_at_call 48; (with_reducible refine (long48 (HG.out.ext E.out) HQ.out).mono ?_); rintro e wz ⟨rfl, he⟩; rw [ht2.out]; have E := hid (E.out.trans he); clear he))
  go_upto_region 4 with (first
    | (go_at_call 49; (with_reducible refine (dupRows49 (HR.out.ext E.out) hn HM1.out).mono ?_); rintro e wz ⟨A1, rfl, he, ho⟩; have HO := hid ho; have E := hid (E.out.trans he); clear he ho)
    | (go_at_call 50; (with_reducible refine (dup50 (HP.out.ext E.out) (by omega)).mono ?_); rintro e wz ⟨u, rfl, he, ho⟩; obtain ⟨A2, c2, rfl, ho2⟩ := ho.slR; rw [rowsG_length] at ho2 ⊢; have HY := hid (ho2.congr (g' := p) fun i hi j hj => rowsG_at hi hj); have E := hid (E.out.trans he); have HO := hid (HO.out.ext he); clear he ho ho2)
    | (go_at_call 49; (with_reducible refine (dupRows49 (HG.out.ext E.out) hq HC1.out).mono ?_); rintro e wz ⟨A3, rfl, he, ho⟩; have HZ := hid ho; have E := hid (E.out.trans he); have HO := hid (HO.out.ext he); have HY := hid (HY.out.ext he); clear he ho))
  obtain ⟨w3, hw3⟩ : ∃ W : World, Hid (W = wz) := ⟨_, hid rfl⟩
  rw [← hw3.out] at HO HY HZ E ⊢
  have E3 := hid E.out
  have F := hid (Ext.refl w3)
  obtain ⟨s, hs⟩ : ∃ s, Hid (chkD n m g = s) := ⟨_, hid rfl⟩
  rcases (Decidable.em (s = 0)).symm with h0 | h0
  · have tne : (s == 0) = false := by simpa using h0
    have tss : (s != s) = false := by simp
    have hsE := hid (show showE n m g q c gr = s by unfold showE; rw [hs.out, if_pos h0])
    have hsV := hid (show showV n m g q c gr = 0 by unfold showV; rw [hsE.out, if_neg h0])
    have H0 := hid h0
    clear h0
    go_upto_region 12 with (go_at_call 51; (with_reducible refine (check51 (HR.out.ext (E3.out.trans F.out)) (by omega)).mono ?_); rintro e wz ⟨rfl, he⟩; rw [hs.out]; have F := hid (F.out.trans he); clear he)
    go_upto_region 13 with (go_at_call 58; (with_reducible refine (settle58 (HO.out.ext F.out) (by omega) HM1.out).mono ?_); rintro e wz ⟨u, rfl, he, hu, -⟩; rw [hs.out] at hu ⊢; obtain rfl := hu H0.out; have F := hid (F.out.trans he); clear he hu)
    go_upto_region 14 with (go_at_call 59; (with_reducible refine (fewest59 (HO.out.ext F.out) (by omega) HM1.out).mono ?_); rintro e wz ⟨u, rfl, he, hu, -⟩; rw [hs.out] at hu ⊢; obtain rfl := hu H0.out; have F := hid (F.out.trans he); clear he hu)
    go_upto_region 15 with (go_at_call 60; (with_reducible refine (settles60 (HO.out.ext F.out) (by omega) HM1.out (HY.out.ext F.out) (by omega)).mono ?_); rintro e wz ⟨rfl, he⟩; rw [hs.out, if_neg H0.out, if_neg H0.out]; have F := hid (F.out.trans he); clear he)
    go_upto_region 16 with (go_at_call 61; (with_reducible refine (groups61 (HO.out.ext F.out) (by omega) HM1.out).mono ?_); rintro e wz ⟨u, rfl, he, hu, -⟩; rw [hs.out] at hu ⊢; obtain rfl := hu H0.out; have F := hid (F.out.trans he); clear he hu)
    go_upto_region 17 with (go_at_call 62; (with_reducible refine (shows62 (HO.out.ext F.out) (by omega) HM1.out (HZ.out.ext F.out) (by omega) HC2.out).mono ?_); rintro e wz ⟨rfl, he⟩; rw [hsE.out, hsV.out]; have F := hid (F.out.trans he); clear he)
    go_upto_region 26 with fail
    go_wp2_with (first
      | (go_at_call 28; (with_reducible refine (eqRows28 (HO.out.ext F.out) (HR.out.ext (E3.out.trans F.out)) (by omega) (by omega) HM1.out HM1.out).mono ?_); rintro e wz ⟨rfl, he⟩; rw [eqRB_self]; have F := hid (F.out.trans he); clear he)
      | (go_at_call 63; (with_reducible refine (eq63 (HY.out.ext F.out) (HP.out.ext (E3.out.trans F.out)) (by omega) (by omega)).mono ?_); rintro e wz ⟨rfl, he⟩; rw [eqB_same]; have F := hid (F.out.trans he); clear he)
      | (go_at_call 28; (with_reducible refine (eqRows28 (HZ.out.ext F.out) (HG.out.ext (E3.out.trans F.out)) (by omega) (by omega) HC1.out HC1.out).mono ?_); rintro e wz ⟨rfl, he⟩; rw [eqRB_self]; have F := hid (F.out.trans he); clear he)
      | (go_at_call 18; refine (awake_any _).mono ?_; rintro e wz ⟨rfl, he⟩; have F := hid (F.out.trans he); clear he))
    go_ret
    exact ⟨rfl, E3.out.trans F.out⟩
  · subst h0
    obtain ⟨hd, hsq⟩ := chkD_zero hs.out
    have HD := hid hd
    have hn7 := hd.hn
    have HR2 := hid (HR.out.congr (m' := fun _ => n) (g' := g) fun k hk => ⟨hsq k hk, fun _ _ => rfl⟩)
    clear hd hsq
    have htot := totTo_net g n n (Nat.le_refl _)
    have hoP := hid (fun L (hp : List.Perm L (groupsM (netTo g n n) n)) => sett_ok HD.out hp)
    have hoS := hid (fun L (hp : List.Perm L (groupsM (netTo g n n) n)) => show_ok hs.out hp)
    have hoM := hid (show mostM (netTo g n n) n n [] = (groupsM (netTo g n n) n).length from by
      obtain ⟨h1, h2, -, -⟩ := groups_best hn7.2 htot (List.Perm.refl (groupsM (netTo g n n) n))
      exact most_eq h1 h2)
    have hfb := hid (show ∀ i, i < n → -6000000 ≤ netTo g n n i ∧ netTo g n n i ≤ 6000000 from fun i hi => net_bd HD.out hi)
    clear htot
    obtain ⟨f, hf⟩ : ∃ f, Hid (netTo g n n = f) := ⟨_, hid rfl⟩
    rw [hf.out] at hoP hoS hoM hfb
    obtain ⟨K, hK⟩ : ∃ K, Hid ((groupsM f n).length = K) := ⟨_, hid rfl⟩
    obtain ⟨O, hO⟩ : ∃ O, Hid (cntP (nzB f) n = O) := ⟨_, hid rfl⟩
    rw [hO.out] at hoP hoS
    rw [hK.out] at hoM
    have hOK : K ≤ O ∧ O ≤ 7 := by
      have h1 := (hoP.out _ (List.Perm.refl _)).2.2
      have h2 := cntP_not (nzB f) n
      rw [hK.out] at h1
      rw [hO.out] at h2
      omega
    obtain ⟨sE, hsE⟩ : ∃ s, Hid (settE n L p = s) := ⟨_, hid rfl⟩
    obtain ⟨sV, hsV⟩ : ∃ s, Hid (settV n L p f = s) := ⟨_, hid rfl⟩
    obtain ⟨zE, hzE⟩ : ∃ s, Hid (showE n m g q c gr = s) := ⟨_, hid rfl⟩
    obtain ⟨zV, hzV⟩ : ∃ s, Hid (showV n m g q c gr = s) := ⟨_, hid rfl⟩
    go_upto_region 8 with (go_at_call 51; (with_reducible refine (check51 (HR.out.ext (E3.out.trans F.out)) (by omega)).mono ?_); rintro e wz ⟨rfl, he⟩; rw [hs.out]; have F := hid (F.out.trans he); clear he)
    go_upto_region 9 with (first
      | (go_at_call 53; (with_reducible refine (kept53 (HP.out.ext (E3.out.trans F.out)) (by omega)).mono ?_); rintro e wz ⟨u, rfl, he, ho⟩; obtain ⟨A4, c4, rfl, ho2⟩ := ho.slR; rw [rowsG_length] at ho2 ⊢; have HK := hid (ho2.congr (g' := p) fun i hi j hj => rowsG_at hi hj); have F := hid (F.out.trans he); clear he ho ho2)
      | (go_at_call 52; (with_reducible refine (settles52 (HR2.out.ext (E3.out.trans F.out)) HD.out HK.out (by omega)).mono ?_); rintro e wz ⟨rfl, he⟩; rw [hf.out, hsE.out, hsV.out]; have F := hid (F.out.trans he); clear he))
    clear HK
    go_upto_region 10 with (go_at_call 54; (with_reducible refine (shows54 (m := m) (HR2.out.ext (E3.out.trans F.out)) HD.out (HG.out.ext (E3.out.trans F.out)) (by omega) HC2.out hs.out).mono ?_); rintro e wz ⟨rfl, he⟩; rw [hzE.out, hzV.out]; have F := hid (F.out.trans he); clear he)
    go_upto_region 11 with (first
      | (go_at_call 56; (with_reducible refine (net56_rd (HR2.out.ext (E3.out.trans F.out)) HD.out).mono ?_); rintro e wz ⟨A5, c5, rfl, he, ho⟩; rw [hf.out] at ho; have HF5 := hid ho; have F := hid (F.out.trans he); clear he ho)
      | (go_at_call 55; (with_reducible refine (most55 hn7.2 hfb.out n [] _ _ _ _ _ (Nat.le_refl _) (by simp) (by simp) (by omega) HF5.out SumsV.nil (fun i hi => by simp at hi)).mono ?_); rintro e wz ⟨rfl, he⟩; rw [hoM.out]; have F := hid (F.out.trans he); clear he))
    clear HF5
    go_upto_region 12 with (go_at_call 57; (with_reducible refine (open57 (HR2.out.ext (E3.out.trans F.out)) HD.out).mono ?_); rintro e wz ⟨rfl, he⟩; rw [hf.out, hO.out]; have F := hid (F.out.trans he); clear he)
    have tOK : ((O : Int) - (K : Int) != (O : Int) - (K : Int)) = false := by simp
    go_upto_region 13 with (go_at_call 58; (with_reducible refine (settle58 (HO.out.ext F.out) (by omega) HM1.out).mono ?_); rintro e wz ⟨u, rfl, he, -, hu⟩; rw [hs.out] at hu ⊢; have HS1 := hid (hu rfl); have F := hid (F.out.trans he); clear he hu)
    obtain ⟨L1, p1, -, o1⟩ := HS1.out
    rw [hf.out] at p1 o1
    have hP1 := hid (hoP.out L1 p1)
    have hl1 : L1.length = K := by rw [p1.length_eq]; exact hK.out
    obtain ⟨l1, hl1'⟩ : ∃ l, Hid ((settleM L1 f).l = l) := ⟨_, hid rfl⟩
    rw [hl1'.out] at o1 hP1
    obtain ⟨A6, c6, rfl, r6⟩ := o1.slR
    obtain ⟨Z, hZ⟩ : ∃ Z, Hid (l1.length = Z) := ⟨_, hid rfl⟩
    have hZO : Z + K = O := by
      have := hP1.out.2.2
      rw [hl1, hZ.out] at this
      exact this
    rw [hZ.out] at r6 hP1 ⊢
    have HA6 := hid r6
    obtain ⟨w6, hw6⟩ : ∃ W : World, Hid (W = wz) := ⟨_, hid rfl⟩
    rw [← hw6.out] at HA6 F ⊢
    have F6 := hid (Ext.refl w6)
    have F36 := hid F.out
    clear r6 o1 p1 hl1 HS1 F
    have tZ : ((Z : Int) != (O : Int) - (K : Int)) = false := by simp; omega
    go_upto_region 14 with (go_at_call 59; (with_reducible refine (fewest59 (HO.out.ext (F36.out.trans F6.out)) (by omega) HM1.out).mono ?_); rintro e wz ⟨u, rfl, he, -, hu⟩; rw [hs.out] at hu ⊢; obtain ⟨L2, p2, -, hz2⟩ := hu rfl; rw [hf.out] at p2 hz2; have hP2 := (hoP.out L2 p2).2.2; have hl2 : L2.length = K := (p2.length_eq.trans hK.out); obtain rfl : u = (Z : Int) := (by rw [hz2]; omega); have F6 := hid (F6.out.trans he); clear he hu p2 hz2 hP2 hl2)
    go_upto_region 15 with (go_at_call 60; (with_reducible refine (settles60 (HO.out.ext (F36.out.trans F6.out)) (by omega) HM1.out (HY.out.ext (F36.out.trans F6.out)) (by omega)).mono ?_); rintro e wz ⟨rfl, he⟩; rw [hs.out, if_pos rfl, if_pos rfl, hf.out, hsE.out, hsV.out]; have F6 := hid (F6.out.trans he); clear he)
    go_upto_region 16 with (go_at_call 61; (with_reducible refine (groups61 (HO.out.ext (F36.out.trans F6.out)) (by omega) HM1.out).mono ?_); rintro e wz ⟨u, rfl, he, -, hu⟩; rw [hs.out] at hu ⊢; have HS3 := hid (hu rfl); have F6 := hid (F6.out.trans he); clear he hu)
    obtain ⟨L3, p3, -, o3⟩ := HS3.out
    rw [hf.out] at p3
    have hP3 := hid (hoS.out L3 p3)
    have hl3 : L3.length = K := by rw [p3.length_eq]; exact hK.out
    obtain ⟨A7, c7, rfl, r7⟩ := o3.rd.rdN
    rw [hl3] at r7 hP3 ⊢
    have HA7 := hid (show RdN wz A7 K (grC L3) (grG L3) from r7)
    have hC3 := hid (show ∀ k, k < K → grC L3 k ≤ 20 from fun k _ => by
      have := placesTo_len (L3.getD k 0) 7
      unfold grC places
      omega)
    obtain ⟨w7, hw7⟩ : ∃ W : World, Hid (W = wz) := ⟨_, hid rfl⟩
    rw [← hw7.out] at HA7 F6 ⊢
    have F7 := hid (Ext.refl w7)
    have F67 := hid F6.out
    clear r7 o3 p3 HS3 F6
    go_upto_region 17 with (go_at_call 62; (with_reducible refine (shows62 (HO.out.ext (F36.out.trans (F67.out.trans F7.out))) (by omega) HM1.out (HZ.out.ext (F36.out.trans (F67.out.trans F7.out))) (by omega) HC2.out).mono ?_); rintro e wz ⟨rfl, he⟩; rw [hzE.out, hzV.out]; have F7 := hid (F7.out.trans he); clear he)
    have t1 : (sE != sE) = false := by simp
    have t2 : (sV != sV) = false := by simp
    have t3 : (zE != zE) = false := by simp
    have t4 : (zV != zV) = false := by simp
    have t5 : ((K : Int) != (K : Int)) = false := by simp
    go_upto_region 20 with fail
    go_upto_region 21 with (first
      | (go_at_call 53; (with_reducible refine (kept53 (HA6.out.ext (F67.out.trans F7.out)) (by omega)).mono ?_); rintro e wz ⟨u, rfl, he, ho⟩; obtain ⟨A8, c8, rfl, ho2⟩ := ho.slR; rw [rowsG_length] at ho2 ⊢; have HK := hid (ho2.congr (g' := rowsAt l1) fun i hi j hj => rowsG_at hi hj); have F7 := hid (F7.out.trans he); clear he ho ho2)
      | (go_at_call 52; (with_reducible refine (settles52 (HR2.out.ext (E3.out.trans (F36.out.trans (F67.out.trans F7.out)))) HD.out HK.out (by omega)).mono ?_); rintro e wz ⟨rfl, he⟩; rw [hf.out, hP1.out.1, hP1.out.2.1]; have F7 := hid (F7.out.trans he); clear he))
    clear HK
    go_upto_region 24 with (go_at_call 54; (with_reducible refine (shows54 (m := m) (HR2.out.ext (E3.out.trans (F36.out.trans (F67.out.trans F7.out)))) HD.out (HA7.out.ext F7.out) (by omega) hC3.out hs.out).mono ?_); rintro e wz ⟨rfl, he⟩; rw [hP3.out.1, hP3.out.2]; have F7 := hid (F7.out.trans he); clear he)
    have F := hid (F36.out.trans (F67.out.trans F7.out))
    clear F7
    go_upto_region 26 with fail
    go_wp2_with (first
      | (go_at_call 28; (with_reducible refine (eqRows28 (HO.out.ext F.out) (HR.out.ext (E3.out.trans F.out)) (by omega) (by omega) HM1.out HM1.out).mono ?_); rintro e wz ⟨rfl, he⟩; rw [eqRB_self]; have F := hid (F.out.trans he); clear he)
      | (go_at_call 63; (with_reducible refine (eq63 (HY.out.ext F.out) (HP.out.ext (E3.out.trans F.out)) (by omega) (by omega)).mono ?_); rintro e wz ⟨rfl, he⟩; rw [eqB_same]; have F := hid (F.out.trans he); clear he)
      | (go_at_call 28; (with_reducible refine (eqRows28 (HZ.out.ext F.out) (HG.out.ext (E3.out.trans F.out)) (by omega) (by omega) HC1.out HC1.out).mono ?_); rintro e wz ⟨rfl, he⟩; rw [eqRB_self]; have F := hid (F.out.trans he); clear he)
      | (go_at_call 18; refine (awake_any _).mono ?_; rintro e wz ⟨rfl, he⟩; have F := hid (F.out.trans he); clear he))
    go_ret
    exact ⟨rfl, E3.out.trans F.out⟩
end Go.Proofs.YtbceepjjdfpfmaaGreat
