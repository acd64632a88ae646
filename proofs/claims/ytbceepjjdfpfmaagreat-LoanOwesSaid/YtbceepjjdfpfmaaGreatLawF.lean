/- Walk of the law LoanOwes (3): for every ledger, person and year it returns true. No condition. -/
import Derived.Test.YtbceepjjdfpfmaaGreatLawE
namespace Go.Proofs.YtbceepjjdfpfmaaGreat
open Go.RowKit HandSpec LoanSpec
set_option maxHeartbeats 4000000
set_option maxRecDepth 100000
theorem P.owed_eq {x : LD} (hx : Ok x) (a b : Nat) : P.owed x a b = R.owed x a b := by
  have : ∀ k, LoanSpec.P.owedTo x k a b = LoanSpec.R.owedTo x k a b := fun k => by
    induction k with
    | zero => simp only [LoanSpec.P.owedTo, LoanSpec.R.owedTo, LoanSpec.P.owes_eq hx]
    | succ k ih => simp only [LoanSpec.P.owedTo, LoanSpec.R.owedTo, ih]
  exact this x.mn
theorem errW_chk {x : LD} {who year : Int} (h : x.chk ≠ 0) : P.errW x who year = x.chk := by unfold P.errW; rw [if_neg h]
theorem errW_zero {x : LD} {who year : Int} (h : x.chk = 0) : P.errW x who year = if inB who 0 (x.folk - 1) && inB year 0 (x.years - 1) then 0 else 1 := by unfold P.errW; rw [if_pos h]
theorem eqRB_nil (m m' : Nat → Nat) (g h : Nat → Nat → Int) : eqRB 0 0 m m' g h = true := by unfold eqRB anyTo; rfl
theorem eqRB_same {n : Nat} {g h : Nat → Nat → Int} (e : ∀ i j, i < n → j < n → g i j = h i j) : eqRB n n (fun _ => n) (fun _ => n) g h = true := by
  unfold eqRB
  rw [decide_eq_true rfl, anyTo_false.2 fun k hk => ?_]
  · rfl
  · unfold eqB neB
    rw [decide_eq_true rfl, anyTo_false.2 fun j hj => ?_]
    · rfl
    · exact anyTo_false.2 fun q _ => by simp [e k j hk hj]
theorem eqNil28 (w : World) : Calls Tryz.prog 28 #[.slice none 0 0, .slice none 0 0] w fun e w' => e = .returned (.bool true) ∧ Ext w w' := by
  have h := eqRows28 (w := w) (A := none) (A' := none) (n := 0) (n' := 0) (cap := 0) (cap' := 0) (m := fun _ => 0) (m' := fun _ => 0) (g := fun _ _ => 0) (h := fun _ _ => 0) RdN.nil RdN.nil (by omega) (by omega) (fun _ _ => by omega) fun _ _ => by omega
  rw [eqRB_nil] at h
  exact h
/-- What is booked. -/
def BkI (x : LD) : MSpec := fun v _ _ w => IsB w v x
theorem law3 {x : LD} {w : World} {v : Value} (hv : IsL w v x) (who year : Int) :
    Calls Tryz.prog 3 #[v, .int .i64 who, .int .i64 year] w fun e w' => e = .returned (.bool true) ∧ Ext w w' := by
  obtain ⟨⟨A1, c1, A2, c2, A3, c3, A4, c4, A5, c5⟩, rfl, hl⟩ := hv.la
  have HL := hid hl
  clear hv
  by_cases hb : greatL x = true
  · have HB := hid hb
    clear hb hl
    unfold ledV
    go_enter Tryz.func3, Tryz.ntmps3
    go_wp2_with (first
      | (go_at_call 17; refine (great17 (HL.out.ext ((Ext.refl _).alloc _)).isL).mono ?_; rintro e wg ⟨rfl, heg⟩; rw [HB.out])
      | (go_at_call 18; refine (awake_any _).mono ?_; rintro e w10 ⟨rfl, he10⟩))
    go_ret
    exact ⟨rfl, (((Ext.refl _).alloc _).trans heg).trans he10⟩
  have hgr : greatL x = false := by simpa using hb
  have h1 : x.bn ≤ 1000 := by simp [greatL] at hgr; omega
  have h2 : x.fn ≤ 1000 := by simp [greatL] at hgr; omega
  have h3 : x.ln ≤ 1000 := by simp [greatL] at hgr; omega
  have h4 : x.pn ≤ 1000 := by simp [greatL] at hgr; omega
  have h5 : x.mn ≤ 1000 := by simp [greatL] at hgr; omega
  have HB := hid hgr
  have hsm := hid (show Sm x from ⟨h1, h2, h3, h4, h5⟩)
  clear hb hgr hl
  unfold ledV
  go_enter Tryz.func3, Tryz.ntmps3
  go_upto_region 3 with (go_at_call 17; refine (great17 (HL.out.ext ((Ext.refl _).alloc _)).isL).mono ?_; rintro e wg ⟨rfl, heg⟩; rw [HB.out])
  refine wp_later fun w1 hw1 => ?_
  obtain ⟨E0, b3⟩ := (heg.trans hw1).newB
  have k3 := b3.cell
  have k3l := b3.lt
  clear hw1 heg
  refine wp_region_mono 6 [(1, OwnI x), (3, ThI x A1 c1 A2 c2), (4, PtI 27 #[.int .i64 0, .int .i64 0, .slice none 0 0, .slice none 0 0, .slice none 0 0, .slice none 0 0, .slice none 0 0]), (5, PtI 35 #[.int .i64 0, .int .i64 0, .slice none 0 0, .slice none 0 0, .slice none 0 0, .slice none 0 0, .slice none 0 0])] (by kernel_rfl) (by kernel_rfl) (by kernel_rfl) ?hS ?_
  case hS =>
    simp only [List.forall_mem_cons]
    exact ⟨fun _ _ _ _ _ e h => OwnI.ext h e, fun _ _ _ _ _ e h => ThI.ext h e, fun _ _ _ _ _ e h => PtI.ext h e, fun _ _ _ _ _ e h => PtI.ext h e, fun _ h => by simp at h⟩
  simp only [List.take_succ_cons, List.take_zero, List.drop_succ_cons, List.drop_zero]
  refine wpM_plain rfl ?_
  go_big_quiet_step (fail)
  refine wpQuiet_nil ?_
  refine wpM_spec _ rfl rfl (fun w2 hw2 _ => ?_) (fun va la ha ga1 ga2 _ hva => ?_)
  · go_wp2_with (go_at_call 19; refine (own19 (HL.out.ext (E0.trans hw2)).isL h1 h2 h3 h4 h5).mono ?_; rintro e w' ⟨p, rfl, he, hp, hc, hin⟩)
    exact ⟨_, _, _, rfl, he, Nat.le_refl _, he.size, Nat.le_refl _, p, rfl, hp, hc, hin⟩
  simp only [Act.put, List.setIfInBounds_toArray, List.set_cons_succ, List.set_cons_zero]
  obtain ⟨_, p, rfl, -⟩ := hva
  refine wpM_plain rfl ?_
  go_big_quiet_step (fail)
  refine wpQuiet_nil ?_
  refine wpM_spec _ rfl rfl (fun w2 hw2 _ => ?_) (fun vc lc hc gc1 gc2 dc hvc => ?_)
  · go_wp2_with (go_at_call 20; refine (theirs20 (HL.out.ext (E0.trans hw2)) h3 h4 h5).mono ?_; rintro e w' ⟨A3', c3', A4', c4', A5', c5', rfl, he, hu⟩)
    exact ⟨_, _, _, rfl, he, Nat.le_refl _, he.size, Nat.le_refl _, _, _, _, _, _, _, rfl, hu.1, hu.2.1, hu.2.2.1, hu.2.2.2⟩
  simp only [Act.put, List.setIfInBounds_toArray, List.set_cons_succ, List.set_cons_zero]
  obtain ⟨_, D3, q3, D4, q4, D5, q5, rfl, -⟩ := hvc
  refine wpM_spec _ rfl rfl (fun w2 hw2 _ => ?_) (fun vg G hg gg1 gg2 dg hvg => ?_)
  · go_wp2
    exact ⟨_, w2.heap.size, w2.heap.size + 1, rfl, (Ext.refl _).alloc _, Nat.le_refl _, Nat.le_succ _, by simp, rfl, Nat.lt_succ_self _, Blk.new _ _ _⟩
  simp only [Act.put, List.setIfInBounds_toArray, List.set_cons_succ, List.set_cons_zero]
  refine wpM_spec _ rfl rfl (fun w2 hw2 _ => ?_) (fun vh H hh gh1 gh2 dh hvh => ?_)
  · go_wp2
    exact ⟨_, w2.heap.size, w2.heap.size + 1, rfl, (Ext.refl _).alloc _, Nat.le_refl _, Nat.le_succ _, by simp, rfl, Nat.lt_succ_self _, Blk.new _ _ _⟩
  simp only [Act.put, List.setIfInBounds_toArray, List.set_cons_succ, List.set_cons_zero]
  obtain ⟨_, rfl, hgl, -⟩ := hvg
  obtain ⟨_, rfl, hhl, -⟩ := hvh
  simp only [List.forall_mem_cons] at dg dh dc
  refine wpM_nil fun w4 hw4 hF => ?_
  simp only [List.forall_mem_cons] at hF
  obtain ⟨⟨-, -, -, bH⟩, ⟨-, -, -, bG⟩, ⟨sc, fc⟩, ⟨sa, fa⟩, -⟩ := hF
  -- behind the stores
  have HA := hid fa.fix
  have HT0 := hid fc.fix
  have HSA := hid sa
  have HSC := hid sc
  have hne : G ≠ H := by omega
  have hGa : ha ≤ G ∨ G < la := by omega
  have hHa : ha ≤ H ∨ H < la := by omega
  have hGc : hc ≤ G ∨ G < lc := by omega
  have hHc : hc ≤ H ∨ H < lc := by omega
  have BG0 := hid bG
  have BH0 := hid bH
  have kG := bG.cell
  have kGl := bG.lt
  have qG := bG.frozen
  have kH := bH.cell
  have kHl := bH.lt
  have qH := bH.frozen
  clear fa fc sa sc dg dh dc bG bH hgl hhl
  unfold ledV
  go_upto_region 4 with fail
  refine wp_later fun w5 hw5 => ?_
  have DK := hid ((desks hw4 (HL.out.ext E0).r1 (HL.out.ext E0).r2 HA.out.1 HA.out.2.2 HT0.out.1 HT0.out.2.1 HT0.out.2.2.1 HT0.out.2.2.2 HSA.out HSC.out BG0.out BH0.out hne gg1 gh1 hGa hHa hGc hHc).ext hw5)
  have BG : Blk w5 G 27 #[.int .i64 x.folk, .int .i64 x.years, .slice p.A1 x.bn p.c1, .slice p.A2 x.fn p.c2, .slice p.A3 x.ln p.c3, .slice p.A4 x.pn p.c4, .slice p.A5 x.mn p.c5] := DK.out.g
  have BH : Blk w5 H 35 #[.int .i64 x.folk, .int .i64 x.years, .slice A1 x.bn c1, .slice A2 x.fn c2, .slice D3 x.ln q3, .slice D4 x.pn q4, .slice D5 x.mn q5] := DK.out.h
  have B3 := b3.ext DK.out.e
  have E5 := hid (E0.trans DK.out.e)
  have E := hid (Ext.refl w5)
  clear hw5 hw4 HA HT0 HSA HSC hne hGa hHa hGc hHc BG0 BH0 kG kGl qG kH kHl qH k3 k3l b3 E0 ga1 ga2 gc1 gc2 gg1 gg2 gh1 gh2
  have k3 := B3.cell
  have k3l := B3.lt
  have kG := BG.cell
  have kGl := BG.lt
  have kH := BH.cell
  have kHl := BH.lt
  obtain ⟨s, hs⟩ : ∃ s, Hid (x.chk = s) := ⟨_, hid rfl⟩
  by_cases hs0 : s = 0
  · subst hs0
    have hx := hid (Ok.of_chk hs.out)
    have HC := hs
    have HQ := hid (eqRB_same (n := x.folk.toNat) (g := P.owed x) (h := R.owed x) fun i j _ _ => P.owed_eq hx.out i j)
    have hf7 := hx.out.folk
    go_upto_region 11 with (first
      | (go_at_call 21; refine (check21 (DK.out.t.ext E.out).isL h1 h2 h3 h4 h5).mono ?_; rintro e wz ⟨rfl, he⟩; have E := hid (E.out.trans he); have k3 := (B3.ext E.out).cell; have k3l := (B3.ext E.out).lt; have kG := (BG.ext E.out).cell; have kGl := (BG.ext E.out).lt; have kH := (BH.ext E.out).cell; have kHl := (BH.ext E.out).lt; rw [hs.out]; clear he)
      | (go_at_call 22; refine (owed22 hx.out (DK.out.t.ext E.out).isL h2 h1).mono ?_; rintro e wz ⟨At, ct, rfl, he, ht⟩; have HT := hid ht; have E := hid (E.out.trans he); have k3 := (B3.ext E.out).cell; have k3l := (B3.ext E.out).lt; have kG := (BG.ext E.out).cell; have kGl := (BG.ext E.out).lt; have kH := (BH.ext E.out).cell; have kHl := (BH.ext E.out).lt; clear he ht))
    by_cases hin : (0 ≤ who ∧ who < x.folk) ∧ (0 ≤ year ∧ year < x.years)
    · have HW := hid (show P.errW x who year = 0 by rw [errW_zero hs.out]; simp [inB]; omega)
      obtain ⟨⟨i1, i2⟩, i3, i4⟩ := hin
      have ho := hid (LoanSpec.P.owes_eq hx.out who year)
      have hv := hid (LoanSpec.P.overdue_eq hx.out who year)
      go_upto_region 13 with fail
      refine wp_region_mono 10 [(2, BkI x), (5, fun v _ _ _ => v = .tuple #[.int .i64 (R.owes x who year), .int .i64 (R.overdue x who year)])] (by kernel_rfl) (by kernel_rfl) (by kernel_rfl) ?hS ?_
      case hS =>
        simp only [List.forall_mem_cons]
        exact ⟨fun _ _ _ _ _ e h => IsB.ext h e, fun _ _ _ _ _ _ h => h, fun _ h => by simp at h⟩
      simp only [List.take_succ_cons, List.take_zero, List.drop_succ_cons, List.drop_zero]
      iterate 2
        refine wpM_plain rfl ?_
        go_big_quiet_step (fail)
        refine wpQuiet_nil ?_
      refine wpM_spec _ rfl rfl (fun w2 hw2 _ => ?_) (fun va la ha ga1 ga2 _ hva => ?_)
      · go_wp2_with (go_at_call 24; refine (booked24 hx.out (DK.out.t.ext (E.out.trans hw2)).isL h2).mono ?_; rintro e w' ⟨Ap, cp, Ao, co, rfl, he, hp, ho⟩)
        exact ⟨_, _, _, rfl, he, Nat.le_refl _, he.size, Nat.le_refl _, Ap, cp, Ao, co, rfl, hp, ho⟩
      simp only [Act.put, List.setIfInBounds_toArray, List.set_cons_succ, List.set_cons_zero]
      obtain ⟨_, Ap, cp, Ao, co, rfl, -⟩ := hva
      iterate 2
        refine wpM_plain rfl ?_
        go_big_quiet_step (fail)
        refine wpQuiet_nil ?_
      refine wpM_spec _ rfl rfl (fun w2 hw2 hF => ?_) (fun vb lb hb gb1 gb2 _ hvb => ?_)
      · simp only [List.forall_mem_cons] at hF
        have hB := hid (hF.1 (by kernel_rfl)).2
        clear hF
        go_wp2_with (go_at_call 23; refine (owes23 hx.out (DK.out.t.ext (E.out.trans hw2)).isL hB.out h2 h1 who year).mono ?_; rintro e w' ⟨rfl, he⟩)
        exact ⟨_, _, _, rfl, he, Nat.le_refl _, he.size, Nat.le_refl _, rfl⟩
      simp only [Act.put, List.setIfInBounds_toArray, List.set_cons_succ, List.set_cons_zero]
      obtain ⟨_, rfl⟩ := hvb
      iterate 4
        refine wpM_plain rfl ?_
        go_big_quiet_step (fail)
        refine wpQuiet_nil ?_
      refine wpM_nil fun w6 he _ => ?_
      have E := hid (E.out.trans he)
      have k3 := (B3.ext E.out).cell
      have k3l := (B3.ext E.out).lt
      have kG := (BG.ext E.out).cell
      have kGl := (BG.ext E.out).lt
      have kH := (BH.ext E.out).cell
      have kHl := (BH.ext E.out).lt
      have HT := hid (HT.out.ext he)
      clear he ga1 ga2 gb1 gb2
      obtain ⟨zo, hzo⟩ : ∃ z, Hid (R.owes x who year = z) := ⟨_, hid rfl⟩
      obtain ⟨zv, hzv⟩ : ∃ z, Hid (R.overdue x who year = z) := ⟨_, hid rfl⟩
      rw [hzo.out, hzv.out]
      rw [hzo.out] at ho
      rw [hzv.out] at hv
      go_upto_region 17 with (first
        | (go_at_call 25; refine (owes_ok (DK.out.o.ext E.out) hsm.out HW.out).mono ?_; rintro e wz ⟨rfl, he⟩; have E := hid (E.out.trans he); have k3 := (B3.ext E.out).cell; have k3l := (B3.ext E.out).lt; have kG := (BG.ext E.out).cell; have kGl := (BG.ext E.out).lt; have kH := (BH.ext E.out).cell; have kHl := (BH.ext E.out).lt; have HT := hid (HT.out.ext he); rw [ho.out]; clear he)
        | (go_at_call 26; refine (overdue_ok (DK.out.o.ext E.out) hsm.out HW.out).mono ?_; rintro e wz ⟨rfl, he⟩; have E := hid (E.out.trans he); have k3 := (B3.ext E.out).cell; have k3l := (B3.ext E.out).lt; have kG := (BG.ext E.out).cell; have kGl := (BG.ext E.out).lt; have kH := (BH.ext E.out).cell; have kHl := (BH.ext E.out).lt; have HT := hid (HT.out.ext he); rw [hv.out]; clear he)
        | (go_at_call 27; refine (owed_ok (DK.out.o.ext E.out) hsm.out HC.out).mono ?_; rintro e wz ⟨u, rfl, he, hu⟩; obtain ⟨gu, ru, cu, capu, rfl, hmu⟩ := hu; have HU := hid hmu.rdN; have E := hid (E.out.trans he); have k3 := (B3.ext E.out).cell; have k3l := (B3.ext E.out).lt; have kG := (BG.ext E.out).cell; have kGl := (BG.ext E.out).lt; have kH := (BH.ext E.out).cell; have kHl := (BH.ext E.out).lt; have HT := hid (HT.out.ext he); clear he hmu))
      go_wp2_with (first
        | (go_at_call 28; refine (eqRows28 HU.out HT.out (by omega) (by omega) (fun _ _ => by omega) fun _ _ => by omega).mono ?_; rintro e wz ⟨rfl, he⟩; rw [HQ.out]; have E := hid (E.out.trans he); have k3 := (B3.ext E.out).cell; have k3l := (B3.ext E.out).lt; have kG := (BG.ext E.out).cell; have kGl := (BG.ext E.out).lt; have kH := (BH.ext E.out).cell; have kHl := (BH.ext E.out).lt; clear he)
        | (go_at_call 29; refine (same29 (DK.out.o.ext E.out).isL ((HL.out.ext (E5.out.trans E.out)).isL) h1 h2 h3 h4 h5).mono ?_; rintro e wz ⟨rfl, he⟩; have E := hid (E.out.trans he); clear he)
        | (go_at_call 18; refine (awake_any _).mono ?_; rintro e wz ⟨rfl, he⟩; have E := hid (E.out.trans he); clear he))
      go_ret
      exact ⟨rfl, E5.out.trans E.out⟩
    · have HW := hid (show P.errW x who year = 1 by rw [errW_zero hs.out]; simp [inB]; omega)
      have hor : ¬ 0 ≤ who ∨ (0 ≤ who ∧ ¬ who < x.folk) ∨ (0 ≤ who ∧ who < x.folk ∧ ¬ 0 ≤ year) ∨ (0 ≤ who ∧ who < x.folk ∧ 0 ≤ year ∧ ¬ year < x.years) := by omega
      clear hin
      rcases hor with i1 | ⟨i1, i2⟩ | ⟨i1, i2, i3⟩ | ⟨i1, i2, i3, i4⟩
      all_goals
        go_upto_region 17 with (first
          | (go_at_call 25; refine (owes_err (DK.out.o.ext E.out) hsm.out HW.out rfl).mono ?_; rintro e wz ⟨rfl, he⟩; have E := hid (E.out.trans he); have k3 := (B3.ext E.out).cell; have k3l := (B3.ext E.out).lt; have kG := (BG.ext E.out).cell; have kGl := (BG.ext E.out).lt; have kH := (BH.ext E.out).cell; have kHl := (BH.ext E.out).lt; have HT := hid (HT.out.ext he); clear he)
          | (go_at_call 26; refine (overdue_err (DK.out.o.ext E.out) hsm.out HW.out rfl).mono ?_; rintro e wz ⟨rfl, he⟩; have E := hid (E.out.trans he); have k3 := (B3.ext E.out).cell; have k3l := (B3.ext E.out).lt; have kG := (BG.ext E.out).cell; have kGl := (BG.ext E.out).lt; have kH := (BH.ext E.out).cell; have kHl := (BH.ext E.out).lt; have HT := hid (HT.out.ext he); clear he)
          | (go_at_call 27; refine (owed_ok (DK.out.o.ext E.out) hsm.out HC.out).mono ?_; rintro e wz ⟨u, rfl, he, hu⟩; obtain ⟨gu, ru, cu, capu, rfl, hmu⟩ := hu; have HU := hid hmu.rdN; have E := hid (E.out.trans he); have k3 := (B3.ext E.out).cell; have k3l := (B3.ext E.out).lt; have kG := (BG.ext E.out).cell; have kGl := (BG.ext E.out).lt; have kH := (BH.ext E.out).cell; have kHl := (BH.ext E.out).lt; have HT := hid (HT.out.ext he); clear he hmu))
        go_wp2_with (first
          | (go_at_call 28; refine (eqRows28 HU.out HT.out (by omega) (by omega) (fun _ _ => by omega) fun _ _ => by omega).mono ?_; rintro e wz ⟨rfl, he⟩; rw [HQ.out]; have E := hid (E.out.trans he); have k3 := (B3.ext E.out).cell; have k3l := (B3.ext E.out).lt; have kG := (BG.ext E.out).cell; have kGl := (BG.ext E.out).lt; have kH := (BH.ext E.out).cell; have kHl := (BH.ext E.out).lt; clear he)
          | (go_at_call 29; refine (same29 (DK.out.o.ext E.out).isL ((HL.out.ext (E5.out.trans E.out)).isL) h1 h2 h3 h4 h5).mono ?_; rintro e wz ⟨rfl, he⟩; have E := hid (E.out.trans he); clear he)
          | (go_at_call 18; refine (awake_any _).mono ?_; rintro e wz ⟨rfl, he⟩; have E := hid (E.out.trans he); clear he))
        go_ret
        exact ⟨rfl, E5.out.trans E.out⟩
  · have h0 : (s == 0) = false := by simpa using hs0
    have HS := hs
    have HW := hid (show P.errW x who year = s by rw [errW_chk (by rw [hs.out]; exact hs0), hs.out])
    clear hs0
    go_upto_region 17 with (first
      | (go_at_call 21; refine (check21 (DK.out.t.ext E.out).isL h1 h2 h3 h4 h5).mono ?_; rintro e wz ⟨rfl, he⟩; have E := hid (E.out.trans he); have k3 := (B3.ext E.out).cell; have k3l := (B3.ext E.out).lt; have kG := (BG.ext E.out).cell; have kGl := (BG.ext E.out).lt; have kH := (BH.ext E.out).cell; have kHl := (BH.ext E.out).lt; rw [hs.out]; clear he)
      | (go_at_call 25; refine (owes_err (DK.out.o.ext E.out) hsm.out HW.out h0).mono ?_; rintro e wz ⟨rfl, he⟩; have E := hid (E.out.trans he); have k3 := (B3.ext E.out).cell; have k3l := (B3.ext E.out).lt; have kG := (BG.ext E.out).cell; have kGl := (BG.ext E.out).lt; have kH := (BH.ext E.out).cell; have kHl := (BH.ext E.out).lt; clear he)
      | (go_at_call 26; refine (overdue_err (DK.out.o.ext E.out) hsm.out HW.out h0).mono ?_; rintro e wz ⟨rfl, he⟩; have E := hid (E.out.trans he); have k3 := (B3.ext E.out).cell; have k3l := (B3.ext E.out).lt; have kG := (BG.ext E.out).cell; have kGl := (BG.ext E.out).lt; have kH := (BH.ext E.out).cell; have kHl := (BH.ext E.out).lt; clear he)
      | (go_at_call 27; refine (owed_err (DK.out.o.ext E.out) hsm.out HS.out h0).mono ?_; rintro e wz ⟨rfl, he⟩; have E := hid (E.out.trans he); have k3 := (B3.ext E.out).cell; have k3l := (B3.ext E.out).lt; have kG := (BG.ext E.out).cell; have kGl := (BG.ext E.out).lt; have kH := (BH.ext E.out).cell; have kHl := (BH.ext E.out).lt; clear he))
    go_wp2_with (first
      | (go_at_call 28; refine (eqNil28 _).mono ?_; rintro e wz ⟨rfl, he⟩; have E := hid (E.out.trans he); have k3 := (B3.ext E.out).cell; have k3l := (B3.ext E.out).lt; have kG := (BG.ext E.out).cell; have kGl := (BG.ext E.out).lt; have kH := (BH.ext E.out).cell; have kHl := (BH.ext E.out).lt; clear he)
      | (go_at_call 29; refine (same29 (DK.out.o.ext E.out).isL ((HL.out.ext (E5.out.trans E.out)).isL) h1 h2 h3 h4 h5).mono ?_; rintro e wz ⟨rfl, he⟩; have E := hid (E.out.trans he); clear he)
      | (go_at_call 18; refine (awake_any _).mono ?_; rintro e wz ⟨rfl, he⟩; have E := hid (E.out.trans he); clear he))
    go_ret
    exact ⟨rfl, E5.out.trans E.out⟩
end Go.Proofs.YtbceepjjdfpfmaaGreat
