/- Walk of the law LoanBooks (6): for every ledger, loan, payment and year it returns true. No condition. -/
import Derived.Test.YtbceepjjdfpfmaaGreatLawE
namespace Go.Proofs.YtbceepjjdfpfmaaGreat
open Go.RowKit HandSpec LoanSpec
set_option maxHeartbeats 4000000
set_option maxRecDepth 100000
/-- What is told of a loan, or nothing where there is none. -/
def askV (x : LD) (i : Int) : Int := if P.errL x i = 0 then P.asked x i.toNat else 0
def dueV (x : LD) (i : Int) : Int := if P.errL x i = 0 then P.due x i.toNat else 0
def leftV (x : LD) (i y : Int) : Int := if P.errY x i y = 0 then P.left x i.toNat y else 0
def payV (x : LD) (i : Int) : Int := if P.errL x i = 0 then P.paidV x i.toNat else 0
def payE (x : LD) (i : Int) : Int := if P.errL x i = 0 then P.paidE x i.toNat else P.errL x i
def overV (x : LD) (k : Int) : Int := if P.errB x k = 0 then P.overOf x k.toNat else 0
def partsL (x : LD) (k : Int) : List (Nat × Int) := if P.errB x k = 0 then P.partsOf x k.toNat else []
theorem errY_nat {x : LD} {i y : Int} (h : P.errY x i y = 0) : P.errL x i = 0 ∧ inB y 0 (x.years - 1) = true := by
  unfold P.errY at h
  by_cases h0 : P.errL x i = 0
  · rw [if_pos h0] at h
    cases hy : inB y 0 (x.years - 1)
    · rw [hy] at h; simp at h
    · exact ⟨h0, rfl⟩
  · rw [if_neg h0] at h; exact absurd h h0
theorem beq_ne {s : Int} (h : ¬ s = 0) : (s == 0) = false := by simpa using h
section
variable {x : LD} {p : LA} {w : World}
theorem asked_any (hl : IsLA w x p) (hm : Sm x) (i : Int) : Calls Tryz.prog 39 #[ledV x p, .int .i64 i] w fun e w' => e = .returned (.tuple #[.int .i64 (askV x i), .int .i64 (P.errL x i)]) ∧ Ext w w' := by
  by_cases h : P.errL x i = 0
  · obtain ⟨-, -, j, rfl, -⟩ := P.ok_of_errL h
    unfold askV
    rw [if_pos h, h]
    exact asked_ok hl hm h
  · unfold askV
    rw [if_neg h]
    exact asked_err hl hm rfl (beq_ne h)
theorem due_any (hl : IsLA w x p) (hm : Sm x) (i : Int) : Calls Tryz.prog 44 #[ledV x p, .int .i64 i] w fun e w' => e = .returned (.tuple #[.int .i64 (dueV x i), .int .i64 (P.errL x i)]) ∧ Ext w w' := by
  by_cases h : P.errL x i = 0
  · obtain ⟨-, -, j, rfl, -⟩ := P.ok_of_errL h
    unfold dueV
    rw [if_pos h, h]
    exact due_ok hl hm h
  · unfold dueV
    rw [if_neg h]
    exact due_err hl hm rfl (beq_ne h)
theorem left_any (hl : IsLA w x p) (hm : Sm x) (i y : Int) : Calls Tryz.prog 36 #[ledV x p, .int .i64 i, .int .i64 y] w fun e w' => e = .returned (.tuple #[.int .i64 (leftV x i y), .int .i64 (P.errY x i y)]) ∧ Ext w w' := by
  by_cases h : P.errY x i y = 0
  · obtain ⟨-, -, j, rfl, -⟩ := P.ok_of_errL (errY_nat h).1
    unfold leftV
    rw [if_pos h, h]
    exact left_ok hl hm h
  · unfold leftV
    rw [if_neg h]
    exact left_err hl hm rfl (beq_ne h)
theorem paid_any (hl : IsLA w x p) (hm : Sm x) (i : Int) : Calls Tryz.prog 45 #[ledV x p, .int .i64 i] w fun e w' => e = .returned (.tuple #[.int .i64 (payV x i), .int .i64 (payE x i)]) ∧ Ext w w' := by
  by_cases h : P.errL x i = 0
  · obtain ⟨-, -, j, rfl, -⟩ := P.ok_of_errL h
    unfold payV payE
    rw [if_pos h, if_pos h]
    exact paid_ok hl hm h
  · unfold payV payE
    rw [if_neg h, if_neg h]
    exact paid_err hl hm rfl (beq_ne h)
theorem booked_any (hl : IsLA w x p) (hm : Sm x) (hc : x.pn ≤ p.c4) (k : Int) : Calls Tryz.prog 40 #[ledV x p, .int .i64 k] w fun e w' => ∃ A c, e = .returned (.tuple #[.slice A (partsL x k).length c, .int .i64 (overV x k), .int .i64 (P.errB x k)]) ∧ Ext w w' ∧ Rd w' A (partsL x k).length 2 (rowsAt (rowsP (partsL x k))) := by
  by_cases h : P.errB x k = 0
  · obtain ⟨-, -, j, rfl, -⟩ := P.ok_of_errB h
    unfold partsL overV
    rw [if_pos h, if_pos h, h]
    refine (booked_ok hl hm hc h).mono ?_
    rintro e w' ⟨u, rfl, he, ho⟩
    obtain ⟨A, c, rfl, hr⟩ := ho.slR
    rw [rowsP_length] at hr ⊢
    exact ⟨A, c, rfl, he, hr⟩
  · unfold partsL overV
    rw [if_neg h, if_neg h]
    refine (booked_err hl hm rfl (beq_ne h)).mono ?_
    rintro e w' ⟨rfl, he⟩
    exact ⟨none, 0, rfl, he, Rd.nil⟩
end
theorem eqB_same' (c n : Nat) (g : Nat → Nat → Int) : eqB c n n g g = true := eqB_same c n g
theorem errL_chk {x : LD} {i : Int} (h : x.chk ≠ 0) : P.errL x i = x.chk := by unfold P.errL; rw [if_neg h]
theorem errB_chk {x : LD} {i : Int} (h : x.chk ≠ 0) : P.errB x i = x.chk := by unfold P.errB; rw [if_neg h]
theorem errY_chk {x : LD} {i y : Int} (h : x.chk ≠ 0) : P.errY x i y = x.chk := by unfold P.errY; rw [errL_chk h, if_neg h]
/-- All that is told of a wrong ledger. -/
theorem all_chk {x : LD} {i y k : Int} (h : x.chk ≠ 0) : askV x i = 0 ∧ dueV x i = 0 ∧ leftV x i y = 0 ∧ payV x i = 0 ∧ payE x i = x.chk ∧ overV x k = 0 ∧ partsL x k = [] := by
  unfold askV dueV leftV payV payE overV partsL
  rw [errL_chk h, errB_chk h, errY_chk h]
  simp [h]
/-- What is booked to the loans of the first y years, and to the first i loans of that year. -/
def partF (x : LD) (k : Nat) (i : Nat) : List (Nat × Int) := if 0 < R.part x k i then [(i, R.part x k i)] else []
def partY (x : LD) (k y i : Nat) : List (Nat × Int) := ((LoanSpec.P.orderTo x y) ++ ((List.range i).filter fun j => decide (x.lo j 1 = (y : Int)))).flatMap (partF x k)
theorem partY_zero (x : LD) (k : Nat) : partY x k 0 0 = [] := rfl
theorem partY_step (x : LD) (k y i : Nat) : partY x k y (i + 1) = partY x k y i ++ if x.lo i 1 = (y : Int) ∧ 0 < R.part x k i then [(i, R.part x k i)] else [] := by
  unfold partY
  rw [ofYear_to, ← List.append_assoc, List.flatMap_append]
  congr 1
  by_cases h : x.lo i 1 = (y : Int)
  · rw [if_pos h]
    by_cases h2 : 0 < R.part x k i
    · rw [if_pos ⟨h, h2⟩]; simp [partF, h2]
    · rw [if_neg (fun h' => h2 h'.2)]; simp [partF, h2]
  · rw [if_neg h, if_neg (fun h' => h h'.1)]; rfl
theorem partY_year (x : LD) (k y : Nat) : partY x k y x.ln = partY x k (y + 1) 0 := by
  unfold partY
  rw [LoanSpec.P.orderTo_succ]
  simp [LoanSpec.P.ofYear]
theorem partY_all {x : LD} (hx : Ok x) {k : Nat} (hk : k < x.pn) : partY x k x.years.toNat 0 = P.partsOf x k := by
  rw [LoanSpec.P.partsOf_eq hx hk]
  unfold partY
  simp only [List.range_zero, List.filter_nil, List.append_nil]
  rfl
theorem partY_len (x : LD) (k y i : Nat) : (partY x k y i).length ≤ y * x.ln + i := by
  unfold partY
  have h1 : ∀ l : List Nat, (l.flatMap (partF x k)).length ≤ l.length := fun l => by
    induction l with
    | nil => simp
    | cons a l ih =>
      rw [List.flatMap_cons, List.length_append, List.length_cons]
      have : (partF x k a).length ≤ 1 := by unfold partF; split <;> simp
      omega
  refine Nat.le_trans (h1 _) ?_
  rw [List.length_append]
  have h2 := LoanSpec.P.orderTo_len (x := x) y
  have h3 : ((List.range i).filter fun j => decide (x.lo j 1 = (y : Int))).length ≤ i := Nat.le_trans (List.length_filter_le _ _) (by simp)
  omega
theorem partsL_len (x : LD) (k : Int) : (partsL x k).length ≤ 1000 := by
  unfold partsL
  split
  · rename_i h
    obtain ⟨hx, -, j, rfl, hj⟩ := P.ok_of_errB h
    rw [Int.toNat_natCast, ← partY_all hx hj]
    refine Nat.le_trans (partY_len x j _ 0) ?_
    have h1 := hx.years
    have h2 := hx.ln
    have : x.years.toNat * x.ln ≤ 9 * 10 := Nat.mul_le_mul (by omega) h2
    omega
  · simp
-- the walk
theorem law6 {x : LD} {w : World} {v : Value} (hv : IsL w v x) (which payment year : Int) :
    Calls Tryz.prog 6 #[v, .int .i64 which, .int .i64 payment, .int .i64 year] w fun e w' => e = .returned (.bool true) ∧ Ext w w' := by
  obtain ⟨⟨A1, c1, A2, c2, A3, c3, A4, c4, A5, c5⟩, rfl, hl⟩ := hv.la
  have HL := hid hl
  clear hv
  by_cases hb : greatL x = true
  · have HB := hid hb
    clear hb hl
    unfold ledV
    go_enter Tryz.func6, Tryz.ntmps6
    go_wp2_with (first
      | (go_at_call 17; refine (great17 (HL.out.ext ((Ext.refl _).alloc _)).isL).mono ?_; rintro e wg ⟨rfl, heg⟩; rw [HB.out])
      | (go_at_call 18; refine (awake_any _).mono ?_; rintro e w10 ⟨rfl, he10⟩))
    go_ret
    exact ⟨rfl, (((Ext.refl _).alloc _).trans heg).trans he10⟩
  have hgr : greatL x = false := by simpa using hb
  have h1 : x.bn ≤ 1000 := by simp [greatL] at hgr; omega
  have h2 : x.fn ≤ 1000 := by simp [greatL] at hgr; omega
  have h3 : x.ln ≤ 1000 := by simp [greatL] at hgr; omega
  have h4 : x.pn ≤ 1000 := by simp [greatL] at hgr; omega
  have h5 : x.mn ≤ 1000 := by simp [greatL] at hgr; omega
  have HB := hid hgr
  have hsm := hid (show Sm x from ⟨h1, h2, h3, h4, h5⟩)
  clear hb hgr hl
  unfold ledV
  go_enter Tryz.func6, Tryz.ntmps6
  go_upto_region 3 with (go_at_call 17; refine (great17 (HL.out.ext ((Ext.refl _).alloc _)).isL).mono ?_; rintro e wg ⟨rfl, heg⟩; rw [HB.out])
  refine wp_later fun w1 hw1 => ?_
  obtain ⟨E0, b3⟩ := (heg.trans hw1).newB
  have k3 := b3.cell
  have k3l := b3.lt
  clear hw1 heg
  refine wp_region_mono 6 [(1, OwnI x), (3, ThI x A1 c1 A2 c2), (4, PtI 27 #[.int .i64 0, .int .i64 0, .slice none 0 0, .slice none 0 0, .slice none 0 0, .slice none 0 0, .slice none 0 0]), (5, PtI 35 #[.int .i64 0, .int .i64 0, .slice none 0 0, .slice none 0 0, .slice none 0 0, .slice none 0 0, .slice none 0 0])] (by kernel_rfl) (by kernel_rfl) (by kernel_rfl) ?hS ?_
  case hS =>
    simp only [List.forall_mem_cons]
    exact ⟨fun _ _ _ _ _ e h => OwnI.ext h e, fun _ _ _ _ _ e h => ThI.ext h e, fun _ _ _ _ _ e h => PtI.ext h e, fun _ _ _ _ _ e h => PtI.ext h e, fun _ h => by simp at h⟩
  simp only [List.take_succ_cons, List.take_zero, List.drop_succ_cons, List.drop_zero]
  refine wpM_plain rfl ?_
  go_big_quiet_step (fail)
  refine wpQuiet_nil ?_
  refine wpM_spec _ rfl rfl (fun w2 hw2 _ => ?_) (fun va la ha ga1 ga2 _ hva => ?_)
  · go_wp2_with (go_at_call 19; refine (own19 (HL.out.ext (E0.trans hw2)).isL h1 h2 h3 h4 h5).mono ?_; rintro e w' ⟨p, rfl, he, hp, hc, hin⟩)
    exact ⟨_, _, _, rfl, he, Nat.le_refl _, he.size, Nat.le_refl _, p, rfl, hp, hc, hin⟩
  simp only [Act.put, List.setIfInBounds_toArray, List.set_cons_succ, List.set_cons_zero]
  obtain ⟨_, p, rfl, -⟩ := hva
  refine wpM_plain rfl ?_
  go_big_quiet_step (fail)
  refine wpQuiet_nil ?_
  refine wpM_spec _ rfl rfl (fun w2 hw2 _ => ?_) (fun vc lc hc gc1 gc2 dc hvc => ?_)
  · go_wp2_with (go_at_call 20; refine (theirs20 (HL.out.ext (E0.trans hw2)) h3 h4 h5).mono ?_; rintro e w' ⟨A3', c3', A4', c4', A5', c5', rfl, he, hu⟩)
    exact ⟨_, _, _, rfl, he, Nat.le_refl _, he.size, Nat.le_refl _, _, _, _, _, _, _, rfl, hu.1, hu.2.1, hu.2.2.1, hu.2.2.2⟩
  simp only [Act.put, List.setIfInBounds_toArray, List.set_cons_succ, List.set_cons_zero]
  obtain ⟨_, D3, q3, D4, q4, D5, q5, rfl, -⟩ := hvc
  refine wpM_spec _ rfl rfl (fun w2 hw2 _ => ?_) (fun vg G hg gg1 gg2 dg hvg => ?_)
  · go_wp2
    exact ⟨_, w2.heap.size, w2.heap.size + 1, rfl, (Ext.refl _).alloc _, Nat.le_refl _, Nat.le_succ _, by simp, rfl, Nat.lt_succ_self _, Blk.new _ _ _⟩
  simp only [Act.put, List.setIfInBounds_toArray, List.set_cons_succ, List.set_cons_zero]
  refine wpM_spec _ rfl rfl (fun w2 hw2 _ => ?_) (fun vh H hh gh1 gh2 dh hvh => ?_)
  · go_wp2
    exact ⟨_, w2.heap.size, w2.heap.size + 1, rfl, (Ext.refl _).alloc _, Nat.le_refl _, Nat.le_succ _, by simp, rfl, Nat.lt_succ_self _, Blk.new _ _ _⟩
  simp only [Act.put, List.setIfInBounds_toArray, List.set_cons_succ, List.set_cons_zero]
  obtain ⟨_, rfl, hgl, -⟩ := hvg
  obtain ⟨_, rfl, hhl, -⟩ := hvh
  simp only [List.forall_mem_cons] at dg dh dc
  refine wpM_nil fun w4 hw4 hF => ?_
  simp only [List.forall_mem_cons] at hF
  obtain ⟨⟨-, -, -, bH⟩, ⟨-, -, -, bG⟩, ⟨sc, fc⟩, ⟨sa, fa⟩, -⟩ := hF
  -- behind the stores
  have HA := hid fa.fix
  have HT0 := hid fc.fix
  have hcap := hid HA.out.2.1
  have HSA := hid sa
  have HSC := hid sc
  have hne : G ≠ H := by omega
  have hGa : ha ≤ G ∨ G < la := by omega
  have hHa : ha ≤ H ∨ H < la := by omega
  have hGc : hc ≤ G ∨ G < lc := by omega
  have hHc : hc ≤ H ∨ H < lc := by omega
  have BG0 := hid bG
  have BH0 := hid bH
  have kG := bG.cell
  have kGl := bG.lt
  have qG := bG.frozen
  have kH := bH.cell
  have kHl := bH.lt
  have qH := bH.frozen
  clear fa fc sa sc dg dh dc bG bH hgl hhl
  unfold ledV
  go_upto_region 4 with fail
  refine wp_later fun w5 hw5 => ?_
  have DK := hid ((desks hw4 (HL.out.ext E0).r1 (HL.out.ext E0).r2 HA.out.1 HA.out.2.2 HT0.out.1 HT0.out.2.1 HT0.out.2.2.1 HT0.out.2.2.2 HSA.out HSC.out BG0.out BH0.out hne gg1 gh1 hGa hHa hGc hHc).ext hw5)
  have BG : Blk w5 G 27 #[.int .i64 x.folk, .int .i64 x.years, .slice p.A1 x.bn p.c1, .slice p.A2 x.fn p.c2, .slice p.A3 x.ln p.c3, .slice p.A4 x.pn p.c4, .slice p.A5 x.mn p.c5] := DK.out.g
  have BH : Blk w5 H 35 #[.int .i64 x.folk, .int .i64 x.years, .slice A1 x.bn c1, .slice A2 x.fn c2, .slice D3 x.ln q3, .slice D4 x.pn q4, .slice D5 x.mn q5] := DK.out.h
  have B3 := b3.ext DK.out.e
  have E5 := hid (E0.trans DK.out.e)
  have E := hid (Ext.refl w5)
  clear hw5 hw4 HA HT0 HSA HSC hne hGa hHa hGc hHc BG0 BH0 kG kGl qG kH kHl qH k3 k3l b3 E0 ga1 ga2 gc1 gc2 gg1 gg2 gh1 gh2
  have k3 := B3.cell
  have k3l := B3.lt
  have kG := BG.cell
  have kGl := BG.lt
  have kH := BH.cell
  have kHl := BH.lt
  obtain ⟨s, hs⟩ : ∃ s, Hid (x.chk = s) := ⟨_, hid rfl⟩
  obtain ⟨eL, heL⟩ : ∃ z, Hid (P.errL x which = z) := ⟨_, hid rfl⟩
  obtain ⟨eY, heY⟩ : ∃ z, Hid (P.errY x which year = z) := ⟨_, hid rfl⟩
  obtain ⟨eP, heP⟩ : ∃ z, Hid (payE x which = z) := ⟨_, hid rfl⟩
  obtain ⟨eB, heB⟩ : ∃ z, Hid (P.errB x payment = z) := ⟨_, hid rfl⟩
  obtain ⟨va, hva⟩ : ∃ z, Hid (askV x which = z) := ⟨_, hid rfl⟩
  obtain ⟨vd, hvd⟩ : ∃ z, Hid (dueV x which = z) := ⟨_, hid rfl⟩
  obtain ⟨vl, hvl⟩ : ∃ z, Hid (leftV x which year = z) := ⟨_, hid rfl⟩
  obtain ⟨vp, hvp⟩ : ∃ z, Hid (payV x which = z) := ⟨_, hid rfl⟩
  obtain ⟨vo, hvo⟩ : ∃ z, Hid (overV x payment = z) := ⟨_, hid rfl⟩
  obtain ⟨pl, hpl⟩ : ∃ l, Hid (partsL x payment = l) := ⟨_, hid rfl⟩
  go_upto_if 52 with ((go_at_call 21; refine (check21 (DK.out.t.ext E.out).isL h1 h2 h3 h4 h5).mono ?_; rintro e wz ⟨rfl, he⟩; have E := hid (E.out.trans he); have k3 := (B3.ext E.out).cell; have k3l := (B3.ext E.out).lt; have kG := (BG.ext E.out).cell; have kGl := (BG.ext E.out).lt; have kH := (BH.ext E.out).cell; have kHl := (BH.ext E.out).lt; rw [hs.out]; clear he))
  obtain ⟨W5, rfl⟩ : ∃ W : World, W = wz := ⟨_, rfl⟩
  have E50 := hid E.out
  go_cut [12, 13, 14, 15, 16, 17, 18, 19, 20, 21] (fun s12 s13 s14 s15 s16 s17 s18 s19 s20 s21 W => s12 = .int .i64 eL ∧ s13 = .int .i64 eY ∧ s14 = .int .i64 eP ∧ s15 = .int .i64 eB ∧ s16 = .int .i64 va ∧ s17 = .int .i64 vd ∧ s18 = .int .i64 vl ∧ s19 = .int .i64 vp ∧ s20 = .int .i64 vo ∧ Hid ((∃ A c, s21 = .slice A pl.length c ∧ Rd W A pl.length 2 (rowsAt (rowsP pl))) ∧ Ext w5 W))
  case first =>
    as_aux_lemma =>
      by_cases hs0 : s = 0
      · subst hs0
        have hx := hid (Ok.of_chk hs.out)
        go_upto_region 11 with (go_at_call 24; refine (booked24 hx.out (DK.out.t.ext E.out).isL h2).mono ?_; rintro e w8 ⟨Ap, cp, Ao, co, rfl, he, hbp, hbo⟩; have HBP := hid hbp; have HBO := hid hbo; have E := hid (E.out.trans he); have k3 := (B3.ext E.out).cell; have k3l := (B3.ext E.out).lt; have kG := (BG.ext E.out).cell; have kGl := (BG.ext E.out).lt; have kH := (BH.ext E.out).cell; have kHl := (BH.ext E.out).lt; clear he hbp hbo)
        refine wp_later fun w9 hw9 => ?_
        obtain ⟨e9, b22⟩ := hw9.newB
        have HBP := hid (HBP.out.ext e9)
        have HBO := hid (HBO.out.ext e9)
        have E8 := hid (E.out.trans e9)
        obtain ⟨N22, hN22⟩ : ∃ N, Hid (N = w8.heap.size) := ⟨_, hid rfl⟩
        rw [← hN22.out] at b22 ⊢
        have B22 : Blk w9 N22 44 #[.slice Ap x.pn cp, .slice Ao x.pn co] := b22
        have F := hid (Ext.refl w9)
        clear hw9 e9 b22
        have E := hid (E8.out.trans F.out)
        have k3 := (B3.ext E.out).cell
        have k3l := (B3.ext E.out).lt
        have kG := (BG.ext E.out).cell
        have kGl := (BG.ext E.out).lt
        have kH := (BH.ext E.out).cell
        have kHl := (BH.ext E.out).lt
        have k22 := (B22.ext F.out).cell
        have k22l := (B22.ext F.out).lt
        obtain ⟨b1, hb1⟩ : ∃ b, Hid (inB which 0 ((x.ln : Int) - 1) = b) := ⟨_, hid rfl⟩
        obtain ⟨b2, hb2⟩ : ∃ b, Hid (inB year 0 (x.years - 1) = b) := ⟨_, hid rfl⟩
        obtain ⟨b3', hb3⟩ : ∃ b, Hid (inB payment 0 ((x.pn : Int) - 1) = b) := ⟨_, hid rfl⟩
        have rL := hid (show eL = if b1 then 0 else 1 by rw [← heL.out]; unfold P.errL; rw [if_pos hs.out, hb1.out])
        have rB := hid (show eB = if b3' then 0 else 1 by rw [← heB.out]; unfold P.errB; rw [if_pos hs.out, hb3.out])
        go_cut [63] (fun c W => c = .bool b1 ∧ Hid (Ext w9 W))
        case first =>
          cases b1
          case false =>
            have hor : ¬ 0 ≤ which ∨ (0 ≤ which ∧ ¬ which < (x.ln : Int)) := by
              have := of_decide_eq_false hb1.out
              omega
            rcases hor with i1 | ⟨i1, i2⟩
            all_goals
              go_wp2_with fail
              go_meet
              exact ⟨rfl, F⟩
          case true =>
            obtain ⟨i1, i2⟩ : 0 ≤ which ∧ which < (x.ln : Int) := by
              have := of_decide_eq_true hb1.out
              omega
            go_wp2_with fail
            go_meet
            exact ⟨rfl, F⟩
        case rest =>
          as_aux_lemma =>
            obtain ⟨rfl, he⟩ := hcut
            obtain ⟨wA, rfl⟩ : ∃ W : World, W = wc := ⟨_, rfl⟩
            have F := he
            have E := hid (E8.out.trans F.out)
            clear he k3 k3l kG kGl kH kHl k22 k22l
            have k3 := (B3.ext E.out).cell
            have k3l := (B3.ext E.out).lt
            have kG := (BG.ext E.out).cell
            have kGl := (BG.ext E.out).lt
            have kH := (BH.ext E.out).cell
            have kHl := (BH.ext E.out).lt
            have k22 := (B22.ext F.out).cell
            have k22l := (B22.ext F.out).lt
            go_upto_if 63 with fail
            go_cut [12, 13, 14, 16, 17, 18, 19] (fun s12 s13 s14 s16 s17 s18 s19 W => s12 = .int .i64 eL ∧ s13 = .int .i64 eY ∧ s14 = .int .i64 eP ∧ s16 = .int .i64 va ∧ s17 = .int .i64 vd ∧ s18 = .int .i64 vl ∧ s19 = .int .i64 vp ∧ Hid (Ext w9 W))
            case first =>
              as_aux_lemma =>
                cases b1
                case false =>
                  have q1 : eL = 1 := rL.out
                  have n1 : ¬ P.errL x which = 0 := by rw [heL.out, q1]; simp
                  have q2 : eY = 1 := by rw [← heY.out]; unfold P.errY; rw [if_neg n1, heL.out, q1]
                  have q3 : eP = 1 := by rw [← heP.out]; unfold payE; rw [if_neg n1, heL.out, q1]
                  have n2 : ¬ P.errY x which year = 0 := by rw [heY.out, q2]; simp
                  have q4 : va = 0 := by rw [← hva.out]; unfold askV; rw [if_neg n1]
                  have q5 : vd = 0 := by rw [← hvd.out]; unfold dueV; rw [if_neg n1]
                  have q6 : vl = 0 := by rw [← hvl.out]; unfold leftV; rw [if_neg n2]
                  have q7 : vp = 0 := by rw [← hvp.out]; unfold payV; rw [if_neg n1]
                  have Q := hid (And.intro q1 (And.intro q2 (And.intro q3 (And.intro q4 (And.intro q5 (And.intro q6 q7))))))
                  clear q1 q2 q3 q4 q5 q6 q7 n1 n2
                  go_wp2_with fail
                  go_meet
                  obtain ⟨q1, q2, q3, q4, q5, q6, q7⟩ := Q.out
                  rw [q1, q2, q3, q4, q5, q6, q7]
                  exact ⟨rfl, rfl, rfl, rfl, rfl, rfl, rfl, F⟩
                case true =>
                  obtain ⟨j, hj⟩ : ∃ j : Nat, which = (j : Int) := ⟨which.toNat, by have := of_decide_eq_true hb1.out; omega⟩
                  subst hj
                  have hjl : j < x.ln := by have := of_decide_eq_true hb1.out; omega
                  have q1 : eL = 0 := rL.out
                  have n1 : P.errL x (j : Int) = 0 := by rw [heL.out, q1]
                  have QY := hid (show eY = if b2 then 0 else 1 by rw [← heY.out]; unfold P.errY; rw [if_pos n1, hb2.out])
                  have QA := hid (show va = P.asked x j by rw [← hva.out]; unfold askV; rw [if_pos n1, Int.toNat_natCast])
                  have QD := hid (show vd = P.due x j by rw [← hvd.out]; unfold dueV; rw [if_pos n1, Int.toNat_natCast])
                  have QP := hid (show eP = (if (LoanSpec.R.paidTo x j (x.years - x.lo j 1).toNat).isSome then 0 else 6) ∧ vp = (LoanSpec.R.paidTo x j (x.years - x.lo j 1).toNat).getD 0 from by
                    have e1 := LoanSpec.R.paid_eq hx.out hjl
                    constructor
                    · rw [← heP.out]; unfold payE; rw [if_pos n1, Int.toNat_natCast]; unfold P.paidE; rw [e1]; rfl
                    · rw [← hvp.out]; unfold payV; rw [if_pos n1, Int.toNat_natCast]; unfold P.paidV; rw [e1]; rfl)
                  have QL1 := hid (show b2 = true → vl = R.left x j year from fun h => by
                    rw [← hvl.out]; unfold leftV
                    rw [if_pos (by rw [heY.out, QY.out, h]; rfl), Int.toNat_natCast]
                    exact LoanSpec.P.left_eq hx.out hjl year)
                  have QL0 := hid (show b2 = false → vl = 0 from fun h => by
                    rw [← hvl.out]; unfold leftV
                    rw [if_neg (by rw [heY.out, QY.out, h]; simp)])
                  have QE := hid q1
                  clear q1 n1
                  go_upto_region 12 with fail
                  refine wp_region_mono 6 [(2, fun v _ _ _ => v = .int .i64 (P.asked x j)), (5, fun v _ _ _ => v = .int .i64 (P.due x j))] (by kernel_rfl) (by kernel_rfl) (by kernel_rfl) ?hS ?_
                  case hS =>
                    simp only [List.forall_mem_cons]
                    exact ⟨fun _ _ _ _ _ _ h => h, fun _ _ _ _ _ _ h => h, fun _ h => by simp at h⟩
                  simp only [List.take_succ_cons, List.take_zero, List.drop_succ_cons, List.drop_zero]
                  iterate 2
                    refine wpM_plain rfl ?_
                    go_big_quiet_step (fail)
                    refine wpQuiet_nil ?_
                  refine wpM_spec _ rfl rfl (fun w2 hw2 _ => ?_) (fun vz la ha ga1 ga2 _ hvz => ?_)
                  · go_wp2_with (go_at_call 41; refine (asked41 hx.out (DK.out.t.ext (E.out.trans hw2)).isL h2 hjl).mono ?_; rintro e w' ⟨rfl, he⟩)
                    exact ⟨_, _, _, rfl, he, Nat.le_refl _, he.size, Nat.le_refl _, rfl⟩
                  obtain ⟨_, rfl⟩ := hvz
                  simp only [Act.put, List.setIfInBounds_toArray, List.set_cons_succ, List.set_cons_zero]
                  iterate 2
                    refine wpM_plain rfl ?_
                    go_big_quiet_step (fail)
                    refine wpQuiet_nil ?_
                  refine wpM_spec _ rfl rfl (fun w2 hw2 _ => ?_) (fun vz lb hb gb1 gb2 _ hvz => ?_)
                  · go_wp2_with (go_at_call 42; refine (due42 hx.out (DK.out.t.ext (E.out.trans hw2)).isL h1 hjl).mono ?_; rintro e w' ⟨rfl, he⟩)
                    exact ⟨_, _, _, rfl, he, Nat.le_refl _, he.size, Nat.le_refl _, rfl⟩
                  obtain ⟨_, rfl⟩ := hvz
                  simp only [Act.put, List.setIfInBounds_toArray, List.set_cons_succ, List.set_cons_zero]
                  refine wpM_nil fun w6 he _ => ?_
                  rw [← QA.out, ← QD.out]
                  have F := hid (F.out.trans he)
                  have E := hid (E8.out.trans F.out)
                  have k3 := (B3.ext E.out).cell
                  have k3l := (B3.ext E.out).lt
                  have kG := (BG.ext E.out).cell
                  have kGl := (BG.ext E.out).lt
                  have kH := (BH.ext E.out).cell
                  have kHl := (BH.ext E.out).lt
                  have k22 := (B22.ext F.out).cell
                  have k22l := (B22.ext F.out).lt
                  clear he ga1 ga2 gb1 gb2
                  go_upto_region 13 with fail
                  go_cut [77] (fun c W => c = .bool b2 ∧ Hid (Ext w9 W))
                  case first =>
                    cases b2
                    case false =>
                      have hor : ¬ 0 ≤ year ∨ (0 ≤ year ∧ ¬ year < x.years) := by
                        have := of_decide_eq_false hb2.out
                        omega
                      rcases hor with i1 | ⟨i1, i2⟩
                      all_goals
                        go_wp2_with fail
                        go_meet
                        exact ⟨rfl, F⟩
                    case true =>
                      obtain ⟨i1, i2⟩ : 0 ≤ year ∧ year < x.years := by
                        have := of_decide_eq_true hb2.out
                        omega
                      go_wp2_with fail
                      go_meet
                      exact ⟨rfl, F⟩
                  case rest =>
                    obtain ⟨rfl, he⟩ := hcut
                    obtain ⟨wB, rfl⟩ : ∃ W : World, W = wc := ⟨_, rfl⟩
                    have F := he
                    clear he k3 k3l kG kGl kH kHl k22 k22l
                    have E := hid (E8.out.trans F.out)
                    have k3 := (B3.ext E.out).cell
                    have k3l := (B3.ext E.out).lt
                    have kG := (BG.ext E.out).cell
                    have kGl := (BG.ext E.out).lt
                    have kH := (BH.ext E.out).cell
                    have kHl := (BH.ext E.out).lt
                    have k22 := (B22.ext F.out).cell
                    have k22l := (B22.ext F.out).lt
                    go_upto_if 77 with fail
                    go_cut [13, 18] (fun s13 s18 W => s13 = .int .i64 eY ∧ s18 = .int .i64 vl ∧ Hid (Ext w9 W))
                    case first =>
                      as_aux_lemma =>
                        cases b2
                        case false =>
                          have q1 : eY = 1 := QY.out
                          have q2 := QL0.out rfl
                          have Q := hid (And.intro q1 q2)
                          clear q1 q2
                          go_wp2_with fail
                          go_meet
                          obtain ⟨q1, q2⟩ := Q.out
                          rw [q1, q2]
                          exact ⟨rfl, rfl, F⟩
                        case true =>
                          have q1 : eY = 0 := QY.out
                          have q2 := QL1.out rfl
                          have Q := hid (And.intro q1 q2)
                          clear q1 q2
                          go_wp2_with (go_at_call 43; refine (left43 hx.out (DK.out.t.ext E.out).isL ⟨Ap, cp, Ao, co, rfl, HBP.out.ext F.out, HBO.out.ext F.out⟩ h2 hjl year).mono ?_; rintro e wz ⟨rfl, he⟩; have F := hid (F.out.trans he); clear he)
                          go_meet
                          obtain ⟨q1, q2⟩ := Q.out
                          rw [q1, q2]
                          exact ⟨rfl, rfl, F⟩
                    case rest =>
                      as_aux_lemma =>
                        obtain ⟨rfl, rfl, he⟩ := hcut
                        obtain ⟨wC, rfl⟩ : ∃ W : World, W = wc := ⟨_, rfl⟩
                        have F := he
                        clear he k3 k3l kG kGl kH kHl k22 k22l
                        have E := hid (E8.out.trans F.out)
                        have k3 := (B3.ext E.out).cell
                        have k3l := (B3.ext E.out).lt
                        have kG := (BG.ext E.out).cell
                        have kGl := (BG.ext E.out).lt
                        have kH := (BH.ext E.out).cell
                        have kHl := (BH.ext E.out).lt
                        have k22 := (B22.ext F.out).cell
                        have k22l := (B22.ext F.out).lt
                        have hyb := hx.out.years
                        go_upto_region 16 with fail
                        obtain ⟨ly, hly⟩ : ∃ z, Hid (x.lo j 1 = z) := ⟨_, hid rfl⟩
                        rw [hly.out] at QP
                        have hlyb := hx.out.lyear j hjl
                        rw [hly.out] at hlyb
                        go_loopw [14, 19, 23] (fun s14 s19 s23 W => ∃ (n : Nat) (a b y : Int), s14 = .int .i64 a ∧ s19 = .int .i64 b ∧ s23 = .int .i64 y ∧ (ly - 1 ≤ y ∧ y ≤ x.years - 1) ∧ Hid (y = x.years - 1 - (n : Int)) ∧ Hid (a = (if (LoanSpec.R.paidTo x j n).isSome then 0 else 6) ∧ b = (LoanSpec.R.paidTo x j n).getD 0) ∧ Hid (Ext w9 W)) (fun _ _ s23 _ => (intOf s23 + 1).toNat)
                        case atStart => exact ⟨0, 6, 0, x.years - 1, rfl, rfl, by first | rfl | go_num, by omega, hid (by omega), hid ⟨rfl, rfl⟩, F⟩
                        case round =>
                          clear F E k3 k3l kG kGl kH kHl k22 k22l
                          obtain ⟨n, a, b, y, rfl, rfl, rfl, hyr, hyn, hab, F⟩ := hrel
                          have E := hid (E8.out.trans F.out)
                          have k3 := (B3.ext E.out).cell
                          have k3l := (B3.ext E.out).lt
                          have kG := (BG.ext E.out).cell
                          have kGl := (BG.ext E.out).lt
                          have kH := (BH.ext E.out).cell
                          have kHl := (BH.ext E.out).lt
                          have k22 := (B22.ext F.out).cell
                          have k22l := (B22.ext F.out).lt
                          obtain ⟨bb, oo, hA3, hbb, a0, a1, a2⟩ := ((HL.out.ext (E5.out.trans E.out)).r3).at3 hjl
                          dsimp only at hA3
                          subst hA3
                          rw [hly.out] at a1
                          by_cases hge : ly ≤ y
                          · have hst := hid (show LoanSpec.R.paidTo x j (n + 1) = if LoanSpec.R.left x j y = 0 then some y else LoanSpec.R.paidTo x j n by rw [hyn.out]; rfl)
                            obtain ⟨z, hz⟩ : ∃ z, Hid (LoanSpec.R.left x j y = z) := ⟨_, hid rfl⟩
                            rw [hz.out] at hst
                            by_cases hz0 : z = 0
                            · have tz : (z == 0) = true := by simpa using hz0
                              rw [if_pos hz0] at hst
                              clear hz0
                              go_wp2_with (go_at_call 43; refine (left43 hx.out (DK.out.t.ext E.out).isL ⟨Ap, cp, Ao, co, rfl, HBP.out.ext F.out, HBO.out.ext F.out⟩ h2 hjl y).mono ?_; rintro e wz ⟨rfl, he⟩; rw [hz.out]; have F := hid (F.out.trans he); clear he)
                              go_roundw
                              case rel => exact ⟨n + 1, 0, y, y - 1, rfl, rfl, by first | rfl | go_num, by omega, hid (by rw [hyn.out]; push_cast; omega), hid ⟨by rw [hst.out]; rfl, by rw [hst.out]; rfl⟩, F⟩
                              case measure => simp [intOf]; omega
                            · have tz : (z == 0) = false := by simpa using hz0
                              rw [if_neg hz0] at hst
                              clear hz0
                              go_wp2_with (go_at_call 43; refine (left43 hx.out (DK.out.t.ext E.out).isL ⟨Ap, cp, Ao, co, rfl, HBP.out.ext F.out, HBO.out.ext F.out⟩ h2 hjl y).mono ?_; rintro e wz ⟨rfl, he⟩; rw [hz.out]; have F := hid (F.out.trans he); clear he)
                              go_roundw
                              case rel => exact ⟨n + 1, a, b, y - 1, rfl, rfl, by first | rfl | go_num, by omega, hid (by rw [hyn.out]; push_cast; omega), hid ⟨by rw [hst.out]; exact hab.out.1, by rw [hst.out]; exact hab.out.2⟩, F⟩
                              case measure => simp [intOf]; omega
                          · have hn := hid (show n = (x.years - ly).toNat by have := hyn.out; omega)
                            go_wp2_with fail
                            go_meet
                            refine ⟨by rw [QE.out], rfl, by rw [QP.out.1, ← hn.out, ← hab.out.1], rfl, rfl, rfl, by rw [QP.out.2, ← hn.out, ← hab.out.2], F⟩
            case rest =>
              as_aux_lemma =>
                obtain ⟨rfl, rfl, rfl, rfl, rfl, rfl, rfl, he⟩ := hcut
                obtain ⟨wD, rfl⟩ : ∃ W : World, W = wc := ⟨_, rfl⟩
                have F := he
                clear he k3 k3l kG kGl kH kHl k22 k22l
                have E := hid (E8.out.trans F.out)
                have k3 := (B3.ext E.out).cell
                have k3l := (B3.ext E.out).lt
                have kG := (BG.ext E.out).cell
                have kGl := (BG.ext E.out).lt
                have kH := (BH.ext E.out).cell
                have kHl := (BH.ext E.out).lt
                have k22 := (B22.ext F.out).cell
                have k22l := (B22.ext F.out).lt
                go_upto_region 21 with fail
                go_cut [111] (fun c W => c = .bool b3' ∧ Hid (Ext w9 W))
                case first =>
                  cases b3'
                  case false =>
                    have hor : ¬ 0 ≤ payment ∨ (0 ≤ payment ∧ ¬ payment < (x.pn : Int)) := by
                      have := of_decide_eq_false hb3.out
                      omega
                    rcases hor with i1 | ⟨i1, i2⟩
                    all_goals
                      go_wp2_with fail
                      go_meet
                      exact ⟨rfl, F⟩
                  case true =>
                    obtain ⟨i1, i2⟩ : 0 ≤ payment ∧ payment < (x.pn : Int) := by
                      have := of_decide_eq_true hb3.out
                      omega
                    go_wp2_with fail
                    go_meet
                    exact ⟨rfl, F⟩
                case rest =>
                  obtain ⟨rfl, he⟩ := hcut
                  obtain ⟨wE, rfl⟩ : ∃ W : World, W = wc := ⟨_, rfl⟩
                  have F := he
                  clear he k3 k3l kG kGl kH kHl k22 k22l
                  have E := hid (E8.out.trans F.out)
                  have k3 := (B3.ext E.out).cell
                  have k3l := (B3.ext E.out).lt
                  have kG := (BG.ext E.out).cell
                  have kGl := (BG.ext E.out).lt
                  have kH := (BH.ext E.out).cell
                  have kHl := (BH.ext E.out).lt
                  have k22 := (B22.ext F.out).cell
                  have k22l := (B22.ext F.out).lt
                  go_upto_if 111 with fail
                  cases b3'
                  case false =>
                    have q1 : eB = 1 := rB.out
                    have n1 : ¬ P.errB x payment = 0 := by rw [heB.out, q1]; simp
                    have q2 : vo = 0 := by rw [← hvo.out]; unfold overV; rw [if_neg n1]
                    have q3 : pl = [] := by rw [← hpl.out]; unfold partsL; rw [if_neg n1]
                    have Q := hid (And.intro q1 (And.intro q2 q3))
                    clear q1 q2 q3 n1
                    go_wp2_with fail
                    go_meet
                    obtain ⟨q1, q2, q3⟩ := Q.out
                    rw [q1, q2, q3]
                    exact ⟨rfl, rfl, rfl, rfl, rfl, rfl, rfl, rfl, rfl, hid ⟨⟨none, 0, rfl, Rd.nil⟩, E8.out.trans F.out⟩⟩
                  case true =>
                    obtain ⟨k, hk⟩ : ∃ k : Nat, payment = (k : Int) := ⟨payment.toNat, by have := of_decide_eq_true hb3.out; omega⟩
                    subst hk
                    have hkp : k < x.pn := by have := of_decide_eq_true hb3.out; omega
                    have q1 : eB = 0 := rB.out
                    have n1 : P.errB x (k : Int) = 0 := by rw [heB.out, q1]
                    have QO := hid (show vo = R.over x k by rw [← hvo.out]; unfold overV; rw [if_pos n1, Int.toNat_natCast]; exact LoanSpec.P.overOf_eq hx.out hkp)
                    have QPL := hid (show pl = partY x k x.years.toNat 0 by rw [← hpl.out]; unfold partsL; rw [if_pos n1, Int.toNat_natCast, partY_all hx.out hkp])
                    have QB := hid q1
                    have hyb := hx.out.years
                    have hln := hx.out.ln
                    clear q1 n1
                    obtain ⟨bo, oo, hAo, hbo, ao⟩ := (HBO.out.ext F.out).at1 hkp
                    subst hAo
                    rw [← QO.out] at ao
                    obtain ⟨bp, op, Bk, Ck, hAp, hbp9, hcp9, hRk9⟩ := HBP.out.at_ hkp
                    subst hAp
                    have hbp9 := hid hbp9
                    have hcp9 := hid hcp9
                    have HRk := hid hRk9
                    clear hRk9
                    go_upto_region 24 with fail
                    obtain ⟨W0, rfl⟩ : ∃ W : World, W = wE := ⟨_, rfl⟩
                    have F0 := F
                    clear hbo ao
                    go_loopw [21, 119] (fun s i W => ∃ y : Nat, (y : Int) ≤ x.years ∧ i = .int .i64 (y : Int) ∧ Hid (OwnR W W0.heap.size 76 2 s (rowsP (partY x k y 0)) ∧ Ext W0 W)) (fun _ i _ => (x.years - intOf i).toNat)
                    case atStart => exact ⟨0, by omega, rfl, hid ⟨OwnR.nil, Ext.refl _⟩⟩
                    case round =>
                      clear F E k3 k3l kG kGl kH kHl k22 k22l
                      obtain ⟨y, hyy, rfl, HI⟩ := hrel
                      have F := hid (F0.out.trans HI.out.2)
                      have E := hid (E8.out.trans F.out)
                      have k3 := (B3.ext E.out).cell
                      have k3l := (B3.ext E.out).lt
                      have kG := (BG.ext E.out).cell
                      have kGl := (BG.ext E.out).lt
                      have kH := (BH.ext E.out).cell
                      have kHl := (BH.ext E.out).lt
                      have k22 := (B22.ext F.out).cell
                      have k22l := (B22.ext F.out).lt
                      by_cases hlt : (y : Int) < x.years
                      · have hcp := F.out.some_ hcp9.out
                        have hbp := Nat.lt_of_lt_of_le hbp9.out F.out.size
                        go_upto_region 27 with fail
                        clear hbp hcp
                        go_loopw [21, 128] (fun s i W => ∃ q : Nat, q ≤ x.ln ∧ i = .int .i64 (q : Int) ∧ Hid (OwnR W W0.heap.size 76 2 s (rowsP (partY x k y q)) ∧ Ext W0 W)) (fun _ i _ => x.ln - (intOf i).toNat)
                        case atStart => exact ⟨0, by omega, rfl, HI⟩
                        case round =>
                          clear F E HI k3 k3l kG kGl kH kHl k22 k22l
                          obtain ⟨q, hq, rfl, HI⟩ := hrel
                          have F := hid (F0.out.trans HI.out.2)
                          have E := hid (E8.out.trans F.out)
                          have k3 := (B3.ext E.out).cell
                          have k3l := (B3.ext E.out).lt
                          have kG := (BG.ext E.out).cell
                          have kGl := (BG.ext E.out).lt
                          have kH := (BH.ext E.out).cell
                          have kHl := (BH.ext E.out).lt
                          have k22 := (B22.ext F.out).cell
                          have k22l := (B22.ext F.out).lt
                          by_cases hlq : q < x.ln
                          · obtain ⟨b1, o1, hB1, hb1', c1⟩ := (HRk.out.ext F.out).at1 hlq
                            subst hB1
                            obtain ⟨bb, ob, hA3, hbb, a0, a1, a2⟩ := ((HL.out.ext (E5.out.trans E.out)).r3).at3 hlq
                            dsimp only at hA3
                            subst hA3
                            have hst := hid (partY_step x k y q)
                            have hlen := partY_len x k y q
                            have hnn := LoanSpec.R.part_nonneg hx.out hkp hlq
                            have hlb := hx.out.lyear q hlq
                            obtain ⟨z, hz⟩ : ∃ z, Hid (R.part x k q = z) := ⟨_, hid rfl⟩
                            obtain ⟨ly, hly⟩ : ∃ z, Hid (x.lo q 1 = z) := ⟨_, hid rfl⟩
                            rw [hz.out] at c1 hst hnn
                            rw [hly.out] at a1 hst hlb
                            have hlen2 : (partY x k y q).length ≤ 200 := by
                              have : y * x.ln ≤ 9 * 10 := Nat.mul_le_mul (by omega) hln
                              omega
                            have hsz := HI.out.2.size
                            clear hlen
                            by_cases hyq : ly = (y : Int)
                            · have ty : (ly == (y : Int)) = true := by simpa using hyq
                              by_cases hz0 : 0 < z
                              · rw [if_pos ⟨hyq, hz0⟩] at hst
                                clear hyq
                                go_wp2_with (at_builtin; refine wpList_append_rows rfl _ _ 72 rfl el72 rfl (HI.out.1.ext (Ext.alloc (Ext.refl _) _)) _ 1 1 [[(q : Int), z]] rfl rfl (by simp) (by intro j; simp [cellsOf]) (by rw [rowsP_length]; omega) (by simp; omega) ?_; intro v' w8' hown8 hg8)
                                go_roundw
                                case rel => exact ⟨q + 1, by omega, by go_num, hid ⟨by rw [hst.out, rowsP_append]; exact hown8, (HI.out.2.trans ((Ext.refl _).alloc _)).grown hg8 (fun g hg => HI.out.1.block hg)⟩⟩
                                case measure => simp [intOf]; omega
                              · rw [if_neg (fun h => hz0 h.2), List.append_nil] at hst
                                clear hyq
                                go_wp2_with fail
                                go_roundw
                                case rel => exact ⟨q + 1, by omega, by go_num, hid (by rw [hst.out]; exact HI.out)⟩
                                case measure => simp [intOf]; omega
                            · have ty : (ly == (y : Int)) = false := by simpa using hyq
                              rw [if_neg (fun h => hyq h.1), List.append_nil] at hst
                              clear hyq
                              go_wp2_with fail
                              go_roundw
                              case rel => exact ⟨q + 1, by omega, by go_num, hid (by rw [hst.out]; exact HI.out)⟩
                              case measure => simp [intOf]; omega
                          · have hqe : q = x.ln := by omega
                            subst hqe
                            go_wp2_with fail
                            go_roundw
                            case rel => exact ⟨y + 1, by omega, by go_num, hid ⟨by rw [← partY_year]; exact HI.out.1, HI.out.2⟩⟩
                            case measure => simp [intOf]; omega
                      · have hye : y = x.years.toNat := by omega
                        have hpe := hid (show partY x k y 0 = pl by rw [QPL.out, hye])
                        have hO := HI.out.1
                        rw [hpe.out] at hO
                        obtain ⟨Af, cf, rfl, hrf⟩ := hO.slR
                        rw [rowsP_length] at hrf ⊢
                        have HRF := hid hrf
                        clear hrf hO hye
                        go_wp2_with fail
                        go_meet
                        exact ⟨rfl, rfl, rfl, by rw [QB.out], rfl, rfl, rfl, rfl, rfl, hid ⟨⟨Af, cf, rfl, HRF.out⟩, E8.out.trans F.out⟩⟩
      · have h0 : (s == 0) = false := by simpa using hs0
        have hne : x.chk ≠ 0 := by rw [hs.out]; exact hs0
        have q1 := hid (show eL = s by rw [← heL.out, errL_chk hne, hs.out])
        have q2 := hid (show eY = s by rw [← heY.out, errY_chk hne, hs.out])
        have q3 := hid (show eB = s by rw [← heB.out, errB_chk hne, hs.out])
        have q4 := hid (all_chk (i := which) (y := year) (k := payment) hne)
        rw [hva.out, hvd.out, hvl.out, hvp.out, heP.out, hvo.out, hpl.out, hs.out] at q4
        clear hs0 hne
        go_wp2_with fail
        go_meet
        obtain ⟨z1, z2, z3, z4, z5, z6, z7⟩ := q4.out
        rw [q1.out, q2.out, q3.out, z1, z2, z3, z4, z5, z6, z7]
        exact ⟨rfl, rfl, rfl, rfl, rfl, rfl, rfl, rfl, rfl, hid ⟨⟨none, 0, rfl, Rd.nil⟩, E.out⟩⟩
  case rest =>
    as_aux_lemma =>
      obtain ⟨rfl, rfl, rfl, rfl, rfl, rfl, rfl, rfl, rfl, hR⟩ := hcut
      obtain ⟨⟨Aq, cq, rfl, hrq⟩, he⟩ := hR.out
      have HPL := hid hrq
      have E := hid he
      have hpln := hid (show pl.length ≤ 1000 by rw [← hpl.out]; exact partsL_len x payment)
      clear hrq he hR k3 k3l kG kGl kH kHl
      have k3 := (B3.ext E.out).cell
      have k3l := (B3.ext E.out).lt
      have kG := (BG.ext E.out).cell
      have kGl := (BG.ext E.out).lt
      have kH := (BH.ext E.out).cell
      have kHl := (BH.ext E.out).lt
      go_upto_region 34 with ((go_at_call 39; refine (asked_any (DK.out.o.ext E.out) hsm.out which).mono ?_; rintro e wz ⟨rfl, he⟩; have E := hid (E.out.trans he); have k3 := (B3.ext E.out).cell; have k3l := (B3.ext E.out).lt; have kG := (BG.ext E.out).cell; have kGl := (BG.ext E.out).lt; have kH := (BH.ext E.out).cell; have kHl := (BH.ext E.out).lt; have HPL := hid (HPL.out.ext he); rw [hva.out, heL.out]; clear he))
      go_upto_region 35 with ((go_at_call 44; refine (due_any (DK.out.o.ext E.out) hsm.out which).mono ?_; rintro e wz ⟨rfl, he⟩; have E := hid (E.out.trans he); have k3 := (B3.ext E.out).cell; have k3l := (B3.ext E.out).lt; have kG := (BG.ext E.out).cell; have kGl := (BG.ext E.out).lt; have kH := (BH.ext E.out).cell; have kHl := (BH.ext E.out).lt; have HPL := hid (HPL.out.ext he); rw [hvd.out, heL.out]; clear he))
      go_upto_region 36 with ((go_at_call 36; refine (left_any (DK.out.o.ext E.out) hsm.out which year).mono ?_; rintro e wz ⟨rfl, he⟩; have E := hid (E.out.trans he); have k3 := (B3.ext E.out).cell; have k3l := (B3.ext E.out).lt; have kG := (BG.ext E.out).cell; have kGl := (BG.ext E.out).lt; have kH := (BH.ext E.out).cell; have kHl := (BH.ext E.out).lt; have HPL := hid (HPL.out.ext he); rw [hvl.out, heY.out]; clear he))
      go_upto_region 37 with ((go_at_call 45; refine (paid_any (DK.out.o.ext E.out) hsm.out which).mono ?_; rintro e wz ⟨rfl, he⟩; have E := hid (E.out.trans he); have k3 := (B3.ext E.out).cell; have k3l := (B3.ext E.out).lt; have kG := (BG.ext E.out).cell; have kGl := (BG.ext E.out).lt; have kH := (BH.ext E.out).cell; have kHl := (BH.ext E.out).lt; have HPL := hid (HPL.out.ext he); rw [hvp.out, heP.out]; clear he))
      go_upto_region 38 with ((go_at_call 40; refine (booked_any (DK.out.o.ext E.out) hsm.out hcap.out payment).mono ?_; rintro e wz ⟨Ar, cr, rfl, he, hr⟩; have E := hid (E.out.trans he); have k3 := (B3.ext E.out).cell; have k3l := (B3.ext E.out).lt; have kG := (BG.ext E.out).cell; have kGl := (BG.ext E.out).lt; have kH := (BH.ext E.out).cell; have kHl := (BH.ext E.out).lt; have HPL := hid (HPL.out.ext he); rw [hpl.out] at hr; rw [hpl.out, hvo.out, heB.out]; have HQL := hid hr; clear hr; clear he))
      go_wp2_with (first
        | (go_at_call 46; refine (eq46 HQL.out HPL.out hpln.out hpln.out).mono ?_; rintro e wz ⟨rfl, he⟩; rw [eqB_same]; have E := hid (E.out.trans he); have k3 := (B3.ext E.out).cell; have k3l := (B3.ext E.out).lt; have kG := (BG.ext E.out).cell; have kGl := (BG.ext E.out).lt; have kH := (BH.ext E.out).cell; have kHl := (BH.ext E.out).lt; clear he)
        | (go_at_call 29; refine (same29 (DK.out.o.ext E.out).isL ((HL.out.ext (E5.out.trans E.out)).isL) h1 h2 h3 h4 h5).mono ?_; rintro e wz ⟨rfl, he⟩; have E := hid (E.out.trans he); clear he)
        | (go_at_call 18; refine (awake_any _).mono ?_; rintro e wz ⟨rfl, he⟩; have E := hid (E.out.trans he); clear he))
      go_ret
      exact ⟨rfl, E5.out.trans E.out⟩
end Go.Proofs.YtbceepjjdfpfmaaGreat
