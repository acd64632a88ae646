/- Walk of the closure of LoanOnce (38): what is left at the end of all years up to one. The ledger is right; its boxes are the closure's. -/
import Derived.Test.YtbceepjjdfpfmaaGreatOncP
import Derived.Test.YtbceepjjdfpfmaaGreatApp
import Derived.Test.YtbceepjjdfpfmaaGreatMkP
namespace Go.Proofs.YtbceepjjdfpfmaaGreat
open Go.RowKit HandSpec LoanSpec
set_option maxHeartbeats 4000000
set_option maxRecDepth 100000
theorem eL_at {x : LD} (hx : Ok x) {i : Nat} (hi : i < x.ln) : P.errL x (i : Int) = 0 := by
  unfold P.errL
  rw [if_pos (chk_of_ok hx), show inB (i : Int) 0 ((x.ln : Int) - 1) = true from decide_eq_true (by omega)]
  rfl
theorem eY_at {x : LD} (hx : Ok x) {i : Nat} (hi : i < x.ln) {y : Int} (h0 : 0 ≤ y) (h1 : y < x.years) : P.errY x (i : Int) y = 0 := by
  unfold P.errY
  rw [if_pos (eL_at hx hi), show inB y 0 (x.years - 1) = true from decide_eq_true (by omega)]
  rfl
theorem eW_at {x : LD} (hx : Ok x) {a y : Int} (ha0 : 0 ≤ a) (ha : a < x.folk) (h0 : 0 ≤ y) (h1 : y < x.years) : P.errW x a y = 0 := by
  unfold P.errW
  rw [if_pos (chk_of_ok hx), show inB a 0 (x.folk - 1) = true from decide_eq_true (by omega), show inB y 0 (x.years - 1) = true from decide_eq_true (by omega)]
  rfl
/-- The number in a cell. -/
def cellI (w : World) (g o : Nat) : Int := match w.cell? ⟨g, o, none⟩ with | some (.int _ z) => z | _ => 0
theorem cellI_one {w : World} {g : Nat} {t : TypeId} {a : Int} (h : Blk w g t #[.int .i64 a]) : cellI w g 0 = a := by unfold cellI; rw [h.cell]; rfl
theorem owes_sum {x : LD} (hx : Ok x) (a z : Int) : P.owes x a z = sumTo (fun i => if x.lo i 0 = a then P.left x i z else 0) x.ln := by
  rw [P.owes_eq hx]
  unfold R.owes
  exact sumTo_congr fun i hi => by rw [P.left_eq hx hi]
theorem overdue_le {x : LD} (hx : Ok x) (a z : Int) : 0 ≤ P.overdue x a z ∧ P.overdue x a z ≤ P.owes x a z := by
  rw [P.overdue_eq hx, P.owes_eq hx]
  unfold R.overdue R.owes
  have : ∀ k, k ≤ x.ln → 0 ≤ sumTo (fun i => if x.lo i 0 = a ∧ 0 ≤ P.due x i ∧ P.due x i ≤ z then R.left x i z else 0) k ∧ sumTo (fun i => if x.lo i 0 = a ∧ 0 ≤ P.due x i ∧ P.due x i ≤ z then R.left x i z else 0) k ≤ sumTo (fun i => if x.lo i 0 = a then R.left x i z else 0) k := fun k => by
    induction k with
    | zero => exact fun _ => ⟨Int.le_refl _, Int.le_refl _⟩
    | succ k ih =>
      intro hk
      have ih := ih (by omega)
      have h := (R.left_bd hx (show k < x.ln by omega) z).1
      rw [sumTo_succ, sumTo_succ]
      by_cases q : x.lo k 0 = a
      · rw [if_pos q]
        split <;> omega
      · rw [if_neg (fun h => q h.1), if_neg q]
        omega
  exact this x.ln (Nat.le_refl _)
theorem once38 {x : LD} {p : LA} {wC w : World} {N3 b4 b5 Gb k : Nat} {y u : Int} (hx : Ok x) (hm : Sm x) (hl : IsLA wC x p) (hb3 : Blk wC N3 27 (ledC x p)) (he : Ext wC w) (hb5 : Blk w b5 3 #[.int .i64 y]) (hb4 : Blk w b4 22 #[.slice (some ⟨Gb, 0, none⟩) x.ln x.ln]) (hA : ArrB w Gb 3 x.ln (bkd x k))
    (h5 : wC.heap.size ≤ b5) (hn4 : b4 ≠ b5) (hnG : Gb ≠ b5) (hy : 0 ≤ y) (hu : u ≤ x.years) (hk : k ≤ x.pn) (h1 : ∀ j, j < k → x.pa j 1 ≤ y) (h2 : ∀ j, k ≤ j → j < x.pn → u ≤ x.pa j 1) :
    Calls Tryz.prog 38 #[.int .i64 u, .pointer (some ⟨b5, 0, none⟩), .pointer (some ⟨N3, 0, none⟩), .pointer (some ⟨b4, 0, none⟩)] w fun e w' => e = .returned (.bool true) ∧ Ext wC w' ∧ Ch (fun b => b = b5) w w' ∧ Blk w' b5 3 #[.int .i64 (max y u)] := by
  obtain ⟨A1, c1, A2, c2, A3, c3, A4, c4, A5, c5⟩ := p
  unfold ledC at hb3
  dsimp only at hb3
  have HX := hid hx
  have HSM := hid hm
  have HL := hid hl
  have B3 := hid hb3
  have B4 := hid hb4
  have HA := hid hA
  have H5 := hid h5
  have H1 := hid h1
  have H2 := hid h2
  have hfk := hx.folk
  have hyr := hx.years
  have hlnb := hx.ln
  clear hx hm hl hb3 hb4 hA h5 h1 h2
  go_enter Tryz.func38, Tryz.ntmps38
  go_upto_region 1 with fail
  go_loopw [] (fun W => ∃ z : Int, y ≤ z ∧ z ≤ max y u ∧ Blk W b5 3 #[.int .i64 z] ∧ Hid (Ext wC W) ∧ Hid (Ch (fun b => b = b5) w W)) (fun W => (u - cellI W b5 0).toNat)
  case atStart => exact ⟨y, Int.le_refl _, by omega, hb5, hid he, hid (Ch.refl _ _)⟩
  case round =>
    clear he hb5
    obtain ⟨z, hz1, hz2, b5k, E, C5⟩ := hrel
    have HM := hid (cellI_one b5k)
    have k5 := b5k.cell
    have k5l := b5k.lt
    have k5f := b5k.frozen
    have k3 := (B3.out.ext E.out).cell
    have k3l := (B3.out.ext E.out).lt
    by_cases hlz : z < u
    · have hmx := hid (show ∀ i, i < x.ln → P.left x i z = if x.lo i 1 ≤ z then P.asked x i - bkd x k i else 0 from fun i hi => left_now HX.out hk (fun j hj => by have := H1.out j hj; omega) (fun j h1 h2 => by have := H2.out j h1 h2; omega) hi)
      have HB5 := hid b5k
      go_upto_region 4 with fail
      obtain ⟨W0, hW0⟩ : ∃ W : World, Hid (W = wr) := ⟨_, hid rfl⟩
      rw [← hW0.out] at HB5 E C5
      have F := hid (show Ext W0 wr by rw [hW0.out]; exact Ext.refl _)
      have B4w := hid (C5.out.blk B4.out (by show ¬ b4 = b5; exact hn4))
      have HAw := hid (HA.out.same (C5.out.block Gb HA.out.lt (by show ¬ Gb = b5; exact hnG)))
      clear k5 k5l k5f k3 k3l b5k
      go_loopw [25] (fun i W => ∃ a : Nat, (a : Int) ≤ x.folk ∧ i = .int .i64 (a : Int) ∧ Hid (Ext W0 W)) (fun i _ => (x.folk - intOf i).toNat)
      case atStart => exact ⟨0, by omega, rfl, F⟩
      case round =>
        clear F
        obtain ⟨a, ha, rfl, F⟩ := hrel
        have k5 := (HB5.out.ext F.out).cell
        have k5l := (HB5.out.ext F.out).lt
        have k5f := (HB5.out.ext F.out).frozen
        have k3 := (B3.out.ext (E.out.trans F.out)).cell
        have k3l := (B3.out.ext (E.out.trans F.out)).lt
        by_cases hla : (a : Int) < x.folk
        · go_upto_region 8 with fail
          obtain ⟨W1, hW1⟩ : ∃ W : World, Hid (W = wr) := ⟨_, hid rfl⟩
          rw [← hW1.out] at F
          have D := hid (show Ext W1 wr by rw [hW1.out]; exact Ext.refl _)
          clear k5 k5l k5f k3 k3l
          go_loopw [7, 31] (fun s i W => ∃ (j : Nat) (t : Int), j ≤ x.ln ∧ i = .int .i64 (j : Int) ∧ s = .int .i64 t ∧ Hid (t = sumTo (fun i => if x.lo i 0 = (a : Int) then P.left x i z else 0) j) ∧ Hid (Ext W1 W)) (fun _ i _ => x.ln - (intOf i).toNat)
          case atStart => exact ⟨0, 0, Nat.zero_le _, rfl, rfl, hid rfl, D⟩
          case round =>
            clear D
            obtain ⟨j, t, hj, rfl, rfl, ht, D⟩ := hrel
            have htb := HandSpec.P.sumTo_bd (f := fun i => if x.lo i 0 = (a : Int) then P.left x i z else 0) (B := 550) j fun i hi => by
              have h1 := P.left_eq HX.out (show i < x.ln by omega) z
              have h2 := R.left_bd HX.out (show i < x.ln by omega) z
              split <;> omega
            have htb2 : -5500 ≤ t ∧ t ≤ 5500 := by rw [ht.out]; omega
            clear htb
            have G := hid (F.out.trans D.out)
            have k5 := (HB5.out.ext G.out).cell
            have k5l := (HB5.out.ext G.out).lt
            have k3 := (B3.out.ext (E.out.trans G.out)).cell
            have k3l := (B3.out.ext (E.out.trans G.out)).lt
            by_cases hlj : j < x.ln
            · obtain ⟨bl, ol, rfl, hbl, l0, l1, l2⟩ := ((HL.out.ext (E.out.trans G.out)).r3).at3 hlj
              obtain ⟨y0, hy0⟩ : ∃ z, Hid (x.lo j 0 = z) := ⟨_, hid rfl⟩
              obtain ⟨y1, hy1⟩ : ∃ z, Hid (x.lo j 1 = z) := ⟨_, hid rfl⟩
              obtain ⟨y2, hy2⟩ : ∃ z, Hid (x.lo j 2 = z) := ⟨_, hid rfl⟩
              obtain ⟨va, hva⟩ : ∃ z, Hid (P.asked x j = z) := ⟨_, hid rfl⟩
              obtain ⟨vb, hvb⟩ : ∃ z, Hid (bkd x k j = z) := ⟨_, hid rfl⟩
              obtain ⟨vl, hvl⟩ : ∃ q, Hid (P.left x j z = q) := ⟨_, hid rfl⟩
              have hlv := hmx.out j hlj
              have hab := R.asked_nonneg HX.out hlj
              have hbb : 0 ≤ bkd x k j ∧ bkd x k j ≤ P.asked x j := P.until_bd HX.out x.years k hk j hlj
              have hst := hid (show sumTo (fun i => if x.lo i 0 = (a : Int) then P.left x i z else 0) (j + 1) = t + if y0 = (a : Int) then vl else 0 by rw [sumTo_succ, ← ht.out, hy0.out, hvl.out])
              have eL := hid (eL_at HX.out hlj)
              have eY := hid (eY_at HX.out hlj (y := z) (by omega) (by omega))
              rw [hy0.out] at l0
              rw [hy1.out] at l1 hlv
              rw [hy2.out] at l2
              rw [hvl.out, hva.out, hvb.out] at hlv
              rw [hva.out] at hab hbb
              rw [hvb.out] at hbb
              go_upto_region 10 with fail
              refine wp_later fun w4 hw4 => ?_
              obtain ⟨e4, b12⟩ := hw4.newB
              have B12 := hid b12
              have G := hid (G.out.trans e4)
              have D := hid (D.out.trans e4)
              clear hw4 e4 b12 k3 k3l k5 k5l hbl l0 l1 l2
              have k3 := (B3.out.ext (E.out.trans G.out)).cell
              have k3l := (B3.out.ext (E.out.trans G.out)).lt
              go_upto_region 11 with (go_at_call 39; refine (asked_ok (HL.out.ext (E.out.trans G.out)) HSM.out eL.out).mono ?_; rintro e wz ⟨rfl, he⟩; rw [hva.out]; have G := hid (G.out.trans he); have D := hid (D.out.trans he); have B12 := hid (B12.out.ext he); have k3 := (B3.out.ext (E.out.trans G.out)).cell; have k3l := (B3.out.ext (E.out.trans G.out)).lt; have k5 := (HB5.out.ext G.out).cell; have k5l := (HB5.out.ext G.out).lt; clear he)
              go_upto_region 12 with (go_at_call 36; refine (left_ok (HL.out.ext (E.out.trans G.out)) HSM.out eY.out).mono ?_; rintro e wz ⟨rfl, he⟩; rw [hvl.out]; have G := hid (G.out.trans he); have D := hid (D.out.trans he); have B12 := hid (B12.out.ext he); have k3 := (B3.out.ext (E.out.trans G.out)).cell; have k3l := (B3.out.ext (E.out.trans G.out)).lt; have k5 := (HB5.out.ext G.out).cell; have k5l := (HB5.out.ext G.out).lt; have k12 := B12.out.cell; have k12l := B12.out.lt; have k4 := (B4w.out.ext G.out).cell; have k4l := (B4w.out.ext G.out).lt; have kb := (HAw.out.ext G.out).cell hlj; have kbl := (HAw.out.ext G.out).lt; clear he)
              rw [hvb.out] at kb
              by_cases hyz : y1 ≤ z
              · rw [if_pos hyz] at hlv
                have tl : (vl != va - vb) = false := by rw [hlv]; simp
                have tg : ¬ z < y1 := by omega
                have tn : ¬ vl < 0 := by omega
                have HLV := hid hlv
                clear hlv
                by_cases hwho : y0 = (a : Int)
                · have tw : (y0 == (a : Int)) = true := by simpa using hwho
                  rw [if_pos hwho] at hst
                  clear hwho
                  go_wp2_with fail
                  go_roundw
                  case rel => exact ⟨j + 1, t + vl, by omega, by go_num, by rw [HLV.out], hid hst.out.symm, D⟩
                  case measure => simp [intOf]; omega
                · have tw : (y0 == (a : Int)) = false := by simpa using hwho
                  rw [if_neg hwho] at hst
                  clear hwho
                  go_wp2_with fail
                  go_roundw
                  case rel => exact ⟨j + 1, t, by omega, by go_num, rfl, hid (by rw [hst.out, Int.add_zero]), D⟩
                  case measure => simp [intOf]; omega
              · rw [if_neg hyz] at hlv
                have tl : (vl != 0) = false := by rw [hlv]; simp
                have tg : z < y1 := by omega
                have tn : ¬ vl < 0 := by omega
                have HLV := hid hlv
                clear hlv
                by_cases hwho : y0 = (a : Int)
                · have tw : (y0 == (a : Int)) = true := by simpa using hwho
                  rw [if_pos hwho] at hst
                  clear hwho
                  go_wp2_with fail
                  go_roundw
                  case rel => exact ⟨j + 1, t + vl, by omega, by go_num, by rw [HLV.out]; go_num, hid hst.out.symm, D⟩
                  case measure => simp [intOf]; omega
                · have tw : (y0 == (a : Int)) = false := by simpa using hwho
                  rw [if_neg hwho] at hst
                  clear hwho
                  go_wp2_with fail
                  go_roundw
                  case rel => exact ⟨j + 1, t, by omega, by go_num, rfl, hid (by rw [hst.out, Int.add_zero]), D⟩
                  case measure => simp [intOf]; omega
            · have hjl : j = x.ln := by omega
              obtain ⟨ov, hov⟩ : ∃ q, Hid (P.owes x (a : Int) z = q) := ⟨_, hid rfl⟩
              obtain ⟨od, hod⟩ : ∃ q, Hid (P.overdue x (a : Int) z = q) := ⟨_, hid rfl⟩
              have hsum := hid (show ov = t by rw [← hov.out, owes_sum HX.out, ht.out, hjl])
              have hle := overdue_le HX.out (a : Int) z
              rw [hov.out, hod.out] at hle
              have eW := hid (eW_at HX.out (a := (a : Int)) (y := z) (by omega) (by omega) (by omega) (by omega))
              have to1 : (ov != t) = false := by rw [hsum.out]; simp
              have to2 : ¬ od < 0 := by omega
              have to3 : ¬ ov < od := by omega
              clear hle hjl
              go_upto_region 18 with (go_at_call 25; refine (owes_ok (HL.out.ext (E.out.trans G.out)) HSM.out eW.out).mono ?_; rintro e wz ⟨rfl, he⟩; rw [hov.out]; have G := hid (G.out.trans he); have D := hid (D.out.trans he); have k3 := (B3.out.ext (E.out.trans G.out)).cell; have k3l := (B3.out.ext (E.out.trans G.out)).lt; have k5 := (HB5.out.ext G.out).cell; have k5l := (HB5.out.ext G.out).lt; clear he)
              go_wp2_with (go_at_call 26; refine (overdue_ok (HL.out.ext (E.out.trans G.out)) HSM.out eW.out).mono ?_; rintro e wz ⟨rfl, he⟩; rw [hod.out]; have D := hid (D.out.trans he); clear he)
              go_roundw
              case rel => exact ⟨a + 1, by omega, by go_num, hid (F.out.trans D.out)⟩
              case measure => simp [intOf]; omega
        · go_wp2_with fail
          go_roundw
          case rel => exact ⟨z + 1, by omega, by omega, (HB5.out.ext F.out).set_ 0 _, hid ((E.out.trans F.out).setCell _ H5.out), hid ((C5.out.step (Ch.ofExt F.out) (fun _ _ h => h.elim)).step (Ch.ofSet _ _ _ _) (fun _ _ h => h))⟩
          case measure =>
            have e1 := cellI_one ((HB5.out.ext F.out).set_ 0 (.int .i64 (z + 1)))
            rw [HM.out, e1]
            omega
    · go_wp2_with fail
      go_ret
      exact ⟨rfl, E.out, C5.out, by rw [show max y u = z by omega]; exact b5k⟩
end Go.Proofs.YtbceepjjdfpfmaaGreat
