/- The walk of the reference's Check of a ledger. The lists are not longer than a thousand. -/
import Derived.Test.YtbceepjjdfpfmaaGreatChkA
namespace Go.Proofs.YtbceepjjdfpfmaaGreat
open Go.RowKit HandSpec LoanSpec
set_option maxHeartbeats 3200000
set_option maxRecDepth 100000
theorem check21 {x : LD} {w : World} {v : Value} (hv : IsL w v x) (h1 : x.bn ≤ 1000) (h2 : x.fn ≤ 1000) (h3 : x.ln ≤ 1000) (h4 : x.pn ≤ 1000) (h5 : x.mn ≤ 1000) :
    Calls Tryz.prog 21 #[v] w fun e w' => e = .returned (.int .i64 x.chk) ∧ Ext w w' := by
  obtain ⟨A1, c1, A2, c2, A3, c3, A4, c4, A5, c5, rfl, r1, r2, r3, r4, r5⟩ := hv
  have R1 := hid r1
  have R2 := hid r2
  have R3 := hid r3
  have R4 := hid r4
  have R5 := hid r5
  clear r1 r2 r3 r4 r5
  go_enter Tryz.func21, Tryz.ntmps21
  go_upto_region 1 with fail
  refine wp_later fun w1 hw1 => ?_
  obtain ⟨E0, B1⟩ := hw1.newB
  have HB1 := hid B1
  clear hw1 B1
  go_cut [40] (fun s W => s = .bool x.many ∧ Hid (Ext w1 W))
  case first =>
    have k1 := HB1.out.cell
    have k1l := HB1.out.lt
    cases q1 : offB x.folk 1 7
    case true =>
      have Q1 := hid q1
      clear q1
      go_wp2_with (go_at_call 94; refine (off_any _ _ _ _).mono ?_; rintro e w2 ⟨rfl, rfl⟩; rw [Q1.out])
      go_meet
      exact ⟨by simp [LD.many, Q1.out], hid (Ext.refl _)⟩
    have Q1 := hid q1
    clear q1
    cases q2 : offB x.years 1 9
    case true =>
      have Q2 := hid q2
      clear q2
      go_wp2_with (go_at_call 94; refine (off_any _ _ _ _).mono ?_; rintro e w2 ⟨rfl, rfl⟩; first | rw [Q1.out] | rw [Q2.out])
      go_meet
      exact ⟨by simp [LD.many, Q1.out, Q2.out], hid (Ext.refl _)⟩
    have Q2 := hid q2
    clear q2
    have hex3 : (10 < x.ln) ∨ (¬ 10 < x.ln ∧ 12 < x.pn) ∨ (¬ 10 < x.ln ∧ ¬ 12 < x.pn ∧ 12 < x.mn) ∨ (¬ 10 < x.ln ∧ ¬ 12 < x.pn ∧ ¬ 12 < x.mn) := by omega
    rcases hex3 with h | ⟨h, h'⟩ | ⟨h, h', h''⟩ | ⟨h, h', h''⟩
    · have d0 : decide ((10 : Int) < (x.ln : Int)) = true := decide_eq_true (by omega)
      have d0' : decide (10 < x.ln) = true := decide_eq_true h
      have H0 := hid h
      clear h
      go_wp2_with (go_at_call 94; refine (off_any _ _ _ _).mono ?_; rintro e w2 ⟨rfl, rfl⟩; first | rw [Q1.out] | rw [Q2.out])
      go_meet
      exact ⟨by simp [LD.many, Q1.out, Q2.out, H0.out], hid (Ext.refl _)⟩
    · have d0 : decide ((10 : Int) < (x.ln : Int)) = false := decide_eq_false (by omega)
      have d0' : decide (10 < x.ln) = false := decide_eq_false h
      have H0 := hid h
      have d1 : decide ((12 : Int) < (x.pn : Int)) = true := decide_eq_true (by omega)
      have d1' : decide (12 < x.pn) = true := decide_eq_true h'
      have H1 := hid h'
      clear h h'
      go_wp2_with (go_at_call 94; refine (off_any _ _ _ _).mono ?_; rintro e w2 ⟨rfl, rfl⟩; first | rw [Q1.out] | rw [Q2.out])
      go_meet
      exact ⟨by simp [LD.many, Q1.out, Q2.out, H0.out, H1.out], hid (Ext.refl _)⟩
    · have d0 : decide ((10 : Int) < (x.ln : Int)) = false := decide_eq_false (by omega)
      have d0' : decide (10 < x.ln) = false := decide_eq_false h
      have H0 := hid h
      have d1 : decide ((12 : Int) < (x.pn : Int)) = false := decide_eq_false (by omega)
      have d1' : decide (12 < x.pn) = false := decide_eq_false h'
      have H1 := hid h'
      have d2 : decide ((12 : Int) < (x.mn : Int)) = true := decide_eq_true (by omega)
      have d2' : decide (12 < x.mn) = true := decide_eq_true h''
      have H2 := hid h''
      clear h h' h''
      go_wp2_with (go_at_call 94; refine (off_any _ _ _ _).mono ?_; rintro e w2 ⟨rfl, rfl⟩; first | rw [Q1.out] | rw [Q2.out])
      go_meet
      exact ⟨by simp [LD.many, Q1.out, Q2.out, H0.out, H1.out, H2.out], hid (Ext.refl _)⟩
    · have d0 : decide ((10 : Int) < (x.ln : Int)) = false := decide_eq_false (by omega)
      have d0' : decide (10 < x.ln) = false := decide_eq_false h
      have H0 := hid h
      have d1 : decide ((12 : Int) < (x.pn : Int)) = false := decide_eq_false (by omega)
      have d1' : decide (12 < x.pn) = false := decide_eq_false h'
      have H1 := hid h'
      have d2 : decide ((12 : Int) < (x.mn : Int)) = false := decide_eq_false (by omega)
      have d2' : decide (12 < x.mn) = false := decide_eq_false h''
      have H2 := hid h''
      clear h h' h''
      go_wp2_with (go_at_call 94; refine (off_any _ _ _ _).mono ?_; rintro e w2 ⟨rfl, rfl⟩; first | rw [Q1.out] | rw [Q2.out])
      go_meet
      exact ⟨by simp [LD.many, Q1.out, Q2.out, H0.out, H1.out, H2.out], hid (Ext.refl _)⟩
  case rest =>
    obtain ⟨rfl, E⟩ := hcut
    obtain ⟨wa, rfl⟩ : ∃ W, W = wc := ⟨_, rfl⟩
    cases hm : x.many
    case true =>
      have HM := hid hm
      clear hm
      go_wp2_with fail
      go_ret
      exact ⟨ret_int (by unfold LD.chk; rw [HM.out]; rfl), E0.trans E.out⟩
    have HM := hid hm
    clear hm
    have hms := HM.out
    simp only [LD.many, Bool.or_eq_false_iff] at hms
    have hff := offB_no hms.1
    have hyy := offB_no hms.2.1
    clear hms
    obtain ⟨b10, hb10⟩ : ∃ b, Hid (fallB x.bad x.bn = b) := ⟨_, hid rfl⟩
    obtain ⟨b11, hb11⟩ : ∃ b, Hid (fallB x.fo x.fn = b) := ⟨_, hid rfl⟩
    go_upto_region 3 with fail
    go_cut [3, 4, 5, 6] (fun a b c d W => a = .bool false ∧ b = .bool false ∧ c = .bool false ∧ d = .bool (b10 || b11) ∧ Hid (Ext w1 W))
    case first =>
      have k1 := (HB1.out.ext E.out).cell
      have k1l := (HB1.out.ext E.out).lt
      cases b10
      case true =>
        go_wp2_with (go_at_call 95; refine (show Calls Tryz.prog 95 #[.slice A1 x.bn c1] _ (fun e w' => e = .returned (.bool (!fallB x.bad x.bn)) ∧ Ext _ w') from rising95 (R1.out.ext (E0.trans E.out)) h1).mono ?_; rintro e wx ⟨rfl, hex⟩; rw [hb10.out]; have E := hid (E.out.trans hex); clear hex)
        go_meet
        exact ⟨rfl, rfl, rfl, rfl, E⟩
      go_wp2_with (first
        | (go_at_call 95; (fail_if_success (have := M1)); refine (show Calls Tryz.prog 95 #[.slice A1 x.bn c1] _ (fun e w' => e = .returned (.bool (!fallB x.bad x.bn)) ∧ Ext _ w') from rising95 (R1.out.ext (E0.trans E.out)) h1).mono ?_; rintro e wx ⟨rfl, hex⟩; rw [hb10.out]; have M1 := hid hex; have E := hid (E.out.trans hex); clear hex; have k1 := (HB1.out.ext E.out).cell; have k1l := (HB1.out.ext E.out).lt)
        | (go_at_call 95; refine (show Calls Tryz.prog 95 #[.slice A2 x.fn c2] _ (fun e w' => e = .returned (.bool (!fallB x.fo x.fn)) ∧ Ext _ w') from rising95 (R2.out.ext (E0.trans E.out)) h2).mono ?_; rintro e wx ⟨rfl, hex⟩; rw [hb11.out]; have E := hid (E.out.trans hex); clear hex))
      go_meet
      exact ⟨rfl, rfl, rfl, by simp, E⟩
    case rest =>
      obtain ⟨rfl, rfl, rfl, rfl, E⟩ := hcut
      obtain ⟨wb, rfl⟩ : ∃ W, W = wc := ⟨_, rfl⟩
      obtain ⟨o0, ho0⟩ : ∃ b, Hid (b = (b10 || b11)) := ⟨_, hid rfl⟩
      rw [← ho0.out]

      go_upto_region 5 with fail
      go_loopw [3, 4, 7] (fun sa sb sk W => ∃ (k : Nat) (p q : Bool), k ≤ x.ln ∧ sa = .bool p ∧ sb = .bool q ∧ sk = .int .i64 (k : Int) ∧ Hid (p = (false || anyTo (fun i => offB (x.lo i 2) 1 500) k)) ∧ Hid (q = (false || anyTo (fun i => offB (x.lo i 0) 1 (x.folk - 1) || offB (x.lo i 1) 0 (x.years - 1)) k)) ∧ Hid (Ext w1 W)) (fun _ _ sk _ => x.ln - (intOf sk).toNat)
      case atStart => exact ⟨0, _, _, by omega, rfl, rfl, rfl, hid (by simp [anyTo]), hid (by simp [anyTo]), E⟩
      case round =>
        obtain ⟨k, p, q, hk, rfl, rfl, rfl, hp, hq, E⟩ := hrel
        by_cases hlt : k < x.ln
        · as_aux_lemma =>
            obtain ⟨ga, oa, hA, hga, e0, e1, e2⟩ := (R3.out.ext (E0.trans E.out)).at3 hlt
            subst hA
            have hki : (k : Int) < (x.ln : Int) := by omega
            obtain ⟨a0, ha0⟩ : ∃ z, Hid (z = x.lo k 0) := ⟨_, hid rfl⟩
            obtain ⟨a1, ha1⟩ : ∃ z, Hid (z = x.lo k 1) := ⟨_, hid rfl⟩
            obtain ⟨a2, ha2⟩ : ∃ z, Hid (z = x.lo k 2) := ⟨_, hid rfl⟩
            rw [← ha0.out] at e0
            rw [← ha1.out] at e1
            rw [← ha2.out] at e2
            obtain ⟨n0, hn0⟩ : ∃ b, Hid (offB a0 1 (x.folk - 1) = b) := ⟨_, hid rfl⟩
            obtain ⟨n1, hn1⟩ : ∃ b, Hid (offB a1 0 (x.years - 1) = b) := ⟨_, hid rfl⟩
            obtain ⟨n2, hn2⟩ : ∃ b, Hid (offB a2 1 500 = b) := ⟨_, hid rfl⟩
            have k1 := (HB1.out.ext E.out).cell
            have k1l := (HB1.out.ext E.out).lt
            go_upto_region 8 with fail
            refine wp_later fun wc2 hw2 => ?_
            obtain ⟨E2, b8⟩ := hw2.newB
            have B8 := hid b8
            have E := hid (E.out.trans E2)
            clear hw2 E2 b8 k1 k1l e0 e1 e2 hga
            go_cut [3] (fun s W => s = .bool (p || n2) ∧ Hid (Ext wc2 W))
            case first =>
              have k8 := B8.out.cell
              have k8l := B8.out.lt
              have k1 := (HB1.out.ext E.out).cell
              have k1l := (HB1.out.ext E.out).lt
              cases p
              · go_wp2_with (go_at_call 94; refine (off_any _ _ _ _).mono ?_; rintro e wx ⟨rfl, rfl⟩; rw [hn2.out])
                go_meet
                exact ⟨by simp, hid (Ext.refl _)⟩
              · go_wp2_with fail
                go_meet
                exact ⟨rfl, hid (Ext.refl _)⟩
            case rest =>
              obtain ⟨rfl, F⟩ := hcut
              obtain ⟨wd, rfl⟩ : ∃ W, W = wc := ⟨_, rfl⟩
              have B8 := hid (B8.out.ext F.out)
              have E := hid (E.out.trans F.out)
              have HP : Hid ((p || n2) = (false || anyTo (fun i => offB (x.lo i 2) 1 500) (k + 1))) := hid (by rw [hp.out, Bool.or_assoc, ← hn2.out, ha2.out]; rfl)
              have HQ : Hid ((q || (n0 || n1)) = (false || anyTo (fun i => offB (x.lo i 0) 1 (x.folk - 1) || offB (x.lo i 1) 0 (x.years - 1)) (k + 1))) := hid (by rw [hq.out, Bool.or_assoc, ← hn0.out, ← hn1.out, ha0.out, ha1.out]; rfl)
              have k8 := B8.out.cell
              have k8l := B8.out.lt
              have k1 := (HB1.out.ext E.out).cell
              have k1l := (HB1.out.ext E.out).lt
              cases q
              · cases n0 <;> cases n1
                all_goals
                  go_wp2_with (go_at_call 94; refine (off_any _ _ _ _).mono ?_; rintro e wx ⟨rfl, rfl⟩; first | rw [hn0.out] | rw [hn1.out])
                  go_roundw
                  case rel => exact ⟨k + 1, _, _, by omega, rfl, rfl, by go_num, HP, HQ, E⟩
                  case measure => simp [intOf]; omega
              · go_wp2_with fail
                go_roundw
                case rel => exact ⟨k + 1, _, _, by omega, rfl, rfl, by go_num, HP, HQ, E⟩
                case measure => simp [intOf]; omega
        · have hkn : k = x.ln := by omega
          rw [hkn] at hp hq
          obtain ⟨p1, hp1⟩ : ∃ b, b = p := ⟨_, rfl⟩
          rw [← hp1] at hp ⊢
          obtain ⟨q1, hq1⟩ : ∃ b, b = q := ⟨_, rfl⟩
          rw [← hq1] at hq ⊢
          clear hp1 hq1
          have PP1 := hid hp.out
          have QQ1 := hid hq.out
          have hkn2 := hid hkn
          have hlt2 : ¬ (k : Int) < (x.ln : Int) := by omega
          clear hlt hkn
          have k1 := (HB1.out.ext E.out).cell
          have k1l := (HB1.out.ext E.out).lt
          go_upto_region 11 with fail
          clear k1 k1l hlt2
          go_loopw [3, 4, 6, 9] (fun sa sb sc sk W => ∃ (k : Nat) (p q : Bool) (z : Bool), k ≤ x.pn ∧ sa = .bool p ∧ sb = .bool q ∧ sc = .bool z ∧ sk = .int .i64 (k : Int) ∧ Hid (p = (p1 || anyTo (fun i => offB (x.pa i 2) 1 500) k)) ∧ Hid (q = (q1 || anyTo (fun i => offB (x.pa i 0) 1 (x.folk - 1) || offB (x.pa i 1) 0 (x.years - 1)) k)) ∧ Hid (z = (o0 || anyTo (fun i => decide (x.pa (i+1) 1 < x.pa i 1)) (k - 1))) ∧ Hid (Ext w1 W)) (fun _ _ _ sk _ => x.pn - (intOf sk).toNat)
          case atStart => exact ⟨0, _, _, _, by omega, rfl, rfl, rfl, rfl, hid (by simp [anyTo]), hid (by simp [anyTo]), hid (by simp [anyTo]), E⟩
          case round =>
            obtain ⟨k, p, q, z, hk, rfl, rfl, rfl, rfl, hp, hq, hz, E⟩ := hrel
            by_cases hlt : k < x.pn
            · as_aux_lemma =>
                obtain ⟨ga, oa, hA, hga, e0, e1, e2⟩ := (R4.out.ext (E0.trans E.out)).at3 hlt
                subst hA
                have hki : (k : Int) < (x.pn : Int) := by omega
                obtain ⟨a0, ha0⟩ : ∃ z, Hid (z = x.pa k 0) := ⟨_, hid rfl⟩
                obtain ⟨a1, ha1⟩ : ∃ z, Hid (z = x.pa k 1) := ⟨_, hid rfl⟩
                obtain ⟨a2, ha2⟩ : ∃ z, Hid (z = x.pa k 2) := ⟨_, hid rfl⟩
                rw [← ha0.out] at e0
                rw [← ha1.out] at e1
                rw [← ha2.out] at e2
                obtain ⟨n0, hn0⟩ : ∃ b, Hid (offB a0 1 (x.folk - 1) = b) := ⟨_, hid rfl⟩
                obtain ⟨n1, hn1⟩ : ∃ b, Hid (offB a1 0 (x.years - 1) = b) := ⟨_, hid rfl⟩
                obtain ⟨n2, hn2⟩ : ∃ b, Hid (offB a2 1 500 = b) := ⟨_, hid rfl⟩
                have k1 := (HB1.out.ext E.out).cell
                have k1l := (HB1.out.ext E.out).lt
                go_upto_region 14 with fail
                refine wp_later fun wc2 hw2 => ?_
                obtain ⟨E2, b8⟩ := hw2.newB
                have B8 := hid b8
                have E := hid (E.out.trans E2)
                clear hw2 E2 b8 k1 k1l e0 e1 e2 hga
                go_cut [3] (fun s W => s = .bool (p || n2) ∧ Hid (Ext wc2 W))
                case first =>
                  have k8 := B8.out.cell
                  have k8l := B8.out.lt
                  have k1 := (HB1.out.ext E.out).cell
                  have k1l := (HB1.out.ext E.out).lt
                  cases p
                  · go_wp2_with (go_at_call 94; refine (off_any _ _ _ _).mono ?_; rintro e wx ⟨rfl, rfl⟩; rw [hn2.out])
                    go_meet
                    exact ⟨by simp, hid (Ext.refl _)⟩
                  · go_wp2_with fail
                    go_meet
                    exact ⟨rfl, hid (Ext.refl _)⟩
                case rest =>
                  obtain ⟨rfl, F⟩ := hcut
                  obtain ⟨wd, rfl⟩ : ∃ W, W = wc := ⟨_, rfl⟩
                  have B8 := hid (B8.out.ext F.out)
                  have E := hid (E.out.trans F.out)
                  go_upto_region 15 with fail
                  go_cut [4] (fun s W => s = .bool (q || (n0 || n1)) ∧ Hid (Ext wd W))
                  case first =>
                    have k8 := B8.out.cell
                    have k8l := B8.out.lt
                    have k1 := (HB1.out.ext E.out).cell
                    have k1l := (HB1.out.ext E.out).lt
                    cases q
                    · cases n0
                      all_goals
                        go_wp2_with (go_at_call 94; refine (off_any _ _ _ _).mono ?_; rintro e wx ⟨rfl, rfl⟩; first | rw [hn0.out] | rw [hn1.out])
                        go_meet
                        exact ⟨by simp, hid (Ext.refl _)⟩
                    · go_wp2_with fail
                      go_meet
                      exact ⟨rfl, hid (Ext.refl _)⟩
                  case rest =>
                    obtain ⟨rfl, F⟩ := hcut
                    obtain ⟨we, rfl⟩ : ∃ W, W = wc := ⟨_, rfl⟩
                    have B8 := hid (B8.out.ext F.out)
                    have E := hid (E.out.trans F.out)
                    have k8 := B8.out.cell
                    have k8l := B8.out.lt
                    have HP : Hid ((p || n2) = (p1 || anyTo (fun i => offB (x.pa i 2) 1 500) (k + 1))) := hid (by rw [hp.out, Bool.or_assoc, ← hn2.out, ha2.out]; rfl)
                    have HQ : Hid ((q || (n0 || n1)) = (q1 || anyTo (fun i => offB (x.pa i 0) 1 (x.folk - 1) || offB (x.pa i 1) 0 (x.years - 1)) (k + 1))) := hid (by rw [hq.out, Bool.or_assoc, ← hn0.out, ← hn1.out, ha0.out, ha1.out]; rfl)
                    have k1 := (HB1.out.ext E.out).cell
                    have k1l := (HB1.out.ext E.out).lt
                    obtain ⟨n3, hn3⟩ : ∃ b, Hid ((decide (0 < k) && decide (a1 < x.pa (k - 1) 1)) = b) := ⟨_, hid rfl⟩
                    have HZ : Hid ((z || n3) = (o0 || anyTo (fun i => decide (x.pa (i+1) 1 < x.pa i 1)) (k + 1 - 1))) := hid (by
                      rw [hz.out, Bool.or_assoc, ← hn3.out, ha1.out]
                      rcases Nat.eq_zero_or_pos k with h0 | h0
                      · subst h0; simp [anyTo]
                      · obtain ⟨r, rfl⟩ : ∃ r, k = r + 1 := ⟨k - 1, by omega⟩
                        simp [anyTo])
                    go_upto_region 16 with fail
                    cases z
                    · rcases Nat.eq_zero_or_pos k with h0 | h0
                      · have d1 : decide ((0 : Int) < (k : Int)) = false := decide_eq_false (by omega)
                        have d2 : decide (0 < k) = false := decide_eq_false (by omega)
                        have hb3 : n3 = false := by rw [← hn3.out, d2]; rfl
                        have HB3 := hid hb3
                        clear h0 hb3
                        refine wp_region_later (by kernel_rfl) (by kernel_rfl) ?_
                        repeat (go_big_quiet_step (fail))
                        refine wpQuiet_nil ?_
                        rintro w5 ⟨⟨_, he5⟩, rfl⟩
                        go_wp2_with fail
                        go_roundw
                        case rel => exact ⟨k + 1, _, _, _, by omega, rfl, rfl, by rw [HB3.out]; rfl, by go_num, HP, HQ, HZ, hid (E.out.trans he5)⟩
                        case measure => simp [intOf]; omega
                      · have d1 : decide ((0 : Int) < (k : Int)) = true := decide_eq_true (by omega)
                        have d2 : decide (0 < k) = true := decide_eq_true (by omega)
                        obtain ⟨_, _, e, hgb, -, s1, -⟩ := (R4.out.ext (E0.trans E.out)).at3 (show k - 1 < x.pn by omega)
                        simp only [Option.some.injEq, Addr.mk.injEq] at e
                        obtain ⟨rfl, rfl, -⟩ := e
                        obtain ⟨b1, hb1⟩ : ∃ z, Hid (z = x.pa (k - 1) 1) := ⟨_, hid rfl⟩
                        rw [← hb1.out] at s1
                        obtain ⟨n4, hn4⟩ : ∃ b, b = decide (a1 < b1) := ⟨_, rfl⟩
                        have hb3 : Hid (n3 = n4) := hid (by rw [← hn3.out, d2, hn4, hb1.out]; rfl)
                        have hn5 : decide (a1 < b1) = n4 := hn4.symm
                        clear hn4
                        obtain ⟨r, hr⟩ : ∃ r, Hid (r = k - 1) := ⟨_, hid rfl⟩
                        rw [← hr.out] at s1
                        have hri : (r : Int) < (x.pn : Int) := by have := hr.out; omega
                        have hkr : (k : Int) - 1 = (r : Int) := by have := hr.out; omega
                        clear h0
                        cases n4
                        all_goals
                          refine wp_region_later (by kernel_rfl) (by kernel_rfl) ?_
                          repeat (go_big_quiet_step (fail))
                          refine wpQuiet_nil ?_
                          rintro w5 ⟨⟨_, he5⟩, rfl⟩
                          go_wp2_with fail
                          go_roundw
                          case rel => exact ⟨k + 1, _, _, _, by omega, rfl, rfl, by rw [hb3.out]; rfl, by go_num, HP, HQ, HZ, hid (E.out.trans he5)⟩
                          case measure => simp [intOf]; omega
                    · refine wp_region_later (by kernel_rfl) (by kernel_rfl) ?_
                      repeat (go_big_quiet_step (fail))
                      refine wpQuiet_nil ?_
                      rintro w5 ⟨⟨_, he5⟩, rfl⟩
                      go_wp2_with fail
                      go_roundw
                      case rel => exact ⟨k + 1, _, _, _, by omega, rfl, rfl, rfl, by go_num, HP, HQ, HZ, hid (E.out.trans he5)⟩
                      case measure => simp [intOf]; omega
            · have hkn : k = x.pn := by omega
              rw [hkn] at hp hq hz
              obtain ⟨p2, hp2⟩ : ∃ b, b = p := ⟨_, rfl⟩
              rw [← hp2] at hp ⊢
              obtain ⟨q2, hq2⟩ : ∃ b, b = q := ⟨_, rfl⟩
              rw [← hq2] at hq ⊢
              clear hp2 hq2
              have PP2 := hid hp.out
              have QQ2 := hid hq.out
              obtain ⟨zz, hzz⟩ : ∃ b, b = z := ⟨_, rfl⟩
              rw [← hzz] at hz ⊢
              clear hzz
              have ZZ := hid hz.out
              have hkn2 := hid hkn
              have hlt2 : ¬ (k : Int) < (x.pn : Int) := by omega
              clear hlt hkn
              have k1 := (HB1.out.ext E.out).cell
              have k1l := (HB1.out.ext E.out).lt
              go_upto_region 18 with fail
              clear k1 k1l hlt2
              go_loopw [3, 4, 5, 11] (fun sa sb sc sk W => ∃ (k : Nat) (p q : Bool) (m : Bool), k ≤ x.mn ∧ sa = .bool p ∧ sb = .bool q ∧ sc = .bool m ∧ sk = .int .i64 (k : Int) ∧ Hid (p = (p2 || anyTo (fun i => offB (x.pr i 2) 1 500) k)) ∧ Hid (q = (q2 || anyTo (fun i => offB (x.pr i 0) 0 (x.folk - 1) || offB (x.pr i 1) 0 (x.folk - 1)) k)) ∧ Hid (m = (false || anyTo (fun i => x.pr i 0 == x.pr i 1) k)) ∧ Hid (Ext w1 W)) (fun _ _ _ sk _ => x.mn - (intOf sk).toNat)
              case atStart => exact ⟨0, _, _, _, by omega, rfl, rfl, rfl, rfl, hid (by simp [anyTo]), hid (by simp [anyTo]), hid (by simp [anyTo]), E⟩
              case round =>
                obtain ⟨k, p, q, m, hk, rfl, rfl, rfl, rfl, hp, hq, hm, E⟩ := hrel
                by_cases hlt : k < x.mn
                · as_aux_lemma =>
                    obtain ⟨ga, oa, hA, hga, e0, e1, e2⟩ := (R5.out.ext (E0.trans E.out)).at3 hlt
                    subst hA
                    have hki : (k : Int) < (x.mn : Int) := by omega
                    obtain ⟨a0, ha0⟩ : ∃ z, Hid (z = x.pr k 0) := ⟨_, hid rfl⟩
                    obtain ⟨a1, ha1⟩ : ∃ z, Hid (z = x.pr k 1) := ⟨_, hid rfl⟩
                    obtain ⟨a2, ha2⟩ : ∃ z, Hid (z = x.pr k 2) := ⟨_, hid rfl⟩
                    rw [← ha0.out] at e0
                    rw [← ha1.out] at e1
                    rw [← ha2.out] at e2
                    obtain ⟨n0, hn0⟩ : ∃ b, Hid (offB a0 0 (x.folk - 1) = b) := ⟨_, hid rfl⟩
                    obtain ⟨n1, hn1⟩ : ∃ b, Hid (offB a1 0 (x.folk - 1) = b) := ⟨_, hid rfl⟩
                    obtain ⟨n2, hn2⟩ : ∃ b, Hid (offB a2 1 500 = b) := ⟨_, hid rfl⟩
                    have k1 := (HB1.out.ext E.out).cell
                    have k1l := (HB1.out.ext E.out).lt
                    go_upto_region 21 with fail
                    refine wp_later fun wc2 hw2 => ?_
                    obtain ⟨E2, b8⟩ := hw2.newB
                    have B8 := hid b8
                    have E := hid (E.out.trans E2)
                    clear hw2 E2 b8 k1 k1l e0 e1 e2 hga
                    go_cut [3] (fun s W => s = .bool (p || n2) ∧ Hid (Ext wc2 W))
                    case first =>
                      have k8 := B8.out.cell
                      have k8l := B8.out.lt
                      have k1 := (HB1.out.ext E.out).cell
                      have k1l := (HB1.out.ext E.out).lt
                      cases p
                      · go_wp2_with (go_at_call 94; refine (off_any _ _ _ _).mono ?_; rintro e wx ⟨rfl, rfl⟩; rw [hn2.out])
                        go_meet
                        exact ⟨by simp, hid (Ext.refl _)⟩
                      · go_wp2_with fail
                        go_meet
                        exact ⟨rfl, hid (Ext.refl _)⟩
                    case rest =>
                      obtain ⟨rfl, F⟩ := hcut
                      obtain ⟨wd, rfl⟩ : ∃ W, W = wc := ⟨_, rfl⟩
                      have B8 := hid (B8.out.ext F.out)
                      have E := hid (E.out.trans F.out)
                      go_upto_region 22 with fail
                      go_cut [4] (fun s W => s = .bool (q || (n0 || n1)) ∧ Hid (Ext wd W))
                      case first =>
                        have k8 := B8.out.cell
                        have k8l := B8.out.lt
                        have k1 := (HB1.out.ext E.out).cell
                        have k1l := (HB1.out.ext E.out).lt
                        cases q
                        · cases n0
                          all_goals
                            go_wp2_with (go_at_call 94; refine (off_any _ _ _ _).mono ?_; rintro e wx ⟨rfl, rfl⟩; first | rw [hn0.out] | rw [hn1.out])
                            go_meet
                            exact ⟨by simp, hid (Ext.refl _)⟩
                        · go_wp2_with fail
                          go_meet
                          exact ⟨rfl, hid (Ext.refl _)⟩
                      case rest =>
                        obtain ⟨rfl, F⟩ := hcut
                        obtain ⟨we, rfl⟩ : ∃ W, W = wc := ⟨_, rfl⟩
                        have B8 := hid (B8.out.ext F.out)
                        have E := hid (E.out.trans F.out)
                        have k8 := B8.out.cell
                        have k8l := B8.out.lt
                        have HP : Hid ((p || n2) = (p2 || anyTo (fun i => offB (x.pr i 2) 1 500) (k + 1))) := hid (by rw [hp.out, Bool.or_assoc, ← hn2.out, ha2.out]; rfl)
                        have HQ : Hid ((q || (n0 || n1)) = (q2 || anyTo (fun i => offB (x.pr i 0) 0 (x.folk - 1) || offB (x.pr i 1) 0 (x.folk - 1)) (k + 1))) := hid (by rw [hq.out, Bool.or_assoc, ← hn0.out, ← hn1.out, ha0.out, ha1.out]; rfl)
                        obtain ⟨n3, hn3⟩ : ∃ b, Hid ((a0 == a1) = b) := ⟨_, hid rfl⟩
                        have HZ : Hid ((m || n3) = (false || anyTo (fun i => x.pr i 0 == x.pr i 1) (k + 1))) := hid (by rw [hm.out, Bool.or_assoc, ← hn3.out, ha0.out, ha1.out]; rfl)
                        have hn3' := hn3.out
                        cases m <;> cases n3
                        all_goals
                          go_wp2_with fail
                          go_roundw
                          case rel => exact ⟨k + 1, _, _, _, by omega, rfl, rfl, rfl, by go_num, HP, HQ, HZ, E⟩
                          case measure => simp [intOf]; omega
                · have hkn : k = x.mn := by omega
                  rw [hkn] at hp hq hm
                  obtain ⟨p3, hp3⟩ : ∃ b, b = p := ⟨_, rfl⟩
                  rw [← hp3] at hp ⊢
                  obtain ⟨q3, hq3⟩ : ∃ b, b = q := ⟨_, rfl⟩
                  rw [← hq3] at hq ⊢
                  clear hp3 hq3
                  have PP3 := hid hp.out
                  have QQ3 := hid hq.out
                  obtain ⟨mm, hmm⟩ : ∃ b, b = m := ⟨_, rfl⟩
                  rw [← hmm] at hm ⊢
                  clear hmm
                  have MM := hid hm.out
                  have hkn2 := hid hkn
                  have hlt2 : ¬ (k : Int) < (x.mn : Int) := by omega
                  clear hlt hkn
                  have k1 := (HB1.out.ext E.out).cell
                  have k1l := (HB1.out.ext E.out).lt
                  go_upto_region 25 with fail
                  clear k1 k1l hlt2
                  go_loopw [4, 13] (fun sb sk W => ∃ (k : Nat) (q : Bool), k ≤ x.bn ∧ sb = .bool q ∧ sk = .int .i64 (k : Int) ∧ Hid (q = (q3 || anyTo (fun i => offB (x.bad i) 0 (x.years - 1)) k)) ∧ Hid (Ext w1 W)) (fun _ sk _ => x.bn - (intOf sk).toNat)
                  case atStart => exact ⟨0, _, by omega, rfl, rfl, hid (by simp [anyTo]), E⟩
                  case round =>
                    obtain ⟨k, q, hk, rfl, rfl, hq, E⟩ := hrel
                    by_cases hlt : k < x.bn
                    · as_aux_lemma =>
                        obtain ⟨ga, oa, hA, hga, e0⟩ := (R1.out.ext (E0.trans E.out)).at1 hlt
                        subst hA
                        have hki : (k : Int) < (x.bn : Int) := by omega
                        obtain ⟨a0, ha0⟩ : ∃ z, Hid (z = x.bad k) := ⟨_, hid rfl⟩
                        rw [← ha0.out] at e0
                        obtain ⟨n0, hn0⟩ : ∃ b, Hid (offB a0 0 (x.years - 1) = b) := ⟨_, hid rfl⟩
                        have k1 := (HB1.out.ext E.out).cell
                        have k1l := (HB1.out.ext E.out).lt
                        have HQ : Hid ((q || n0) = (q3 || anyTo (fun i => offB (x.bad i) 0 (x.years - 1)) (k + 1))) := hid (by rw [hq.out, Bool.or_assoc, ← hn0.out, ha0.out]; rfl)
                        have C94 := hid (fun W => ((off_any a0 0 (x.years - 1) W).mono fun e w' h => ⟨by rw [h.1, hn0.out], by rw [h.2]; exact Ext.refl _⟩ : Calls Tryz.prog 94 #[.int .i64 a0, .int .i64 0, .int .i64 (x.years - 1)] W fun e w' => e = .returned (.bool n0) ∧ Ext W w'))
                        have hwr : IntKind.i64.wrap (x.years - 1) = x.years - 1 := IntWalk.i64_in _ (by omega)
                        go_upto_region 27 with fail
                        cases q
                        · refine wp_region_later (by kernel_rfl) (by kernel_rfl) ?_
                          repeat (go_big_quiet_step ((go_at_call 94; exact Calls.later (C94.out _))))
                          refine wpQuiet_nil ?_
                          rintro w5 ⟨⟨_, he5⟩, rfl⟩
                          go_wp2_with fail
                          go_roundw
                          case rel => exact ⟨k + 1, _, by omega, rfl, by go_num, HQ, hid (E.out.trans he5)⟩
                          case measure => simp [intOf]; omega
                        · refine wp_region_later (by kernel_rfl) (by kernel_rfl) ?_
                          repeat (go_big_quiet_step (fail))
                          refine wpQuiet_nil ?_
                          rintro w5 ⟨⟨_, he5⟩, rfl⟩
                          go_wp2_with fail
                          go_roundw
                          case rel => exact ⟨k + 1, _, by omega, rfl, by go_num, HQ, hid (E.out.trans he5)⟩
                          case measure => simp [intOf]; omega
                    · have hkn : k = x.bn := by omega
                      rw [hkn] at hq
                      obtain ⟨q4, hq4⟩ : ∃ b, b = q := ⟨_, rfl⟩
                      rw [← hq4] at hq ⊢
                      clear hq4
                      have QQ4 := hid hq.out
                      have hkn2 := hid hkn
                      have hlt2 : ¬ (k : Int) < (x.bn : Int) := by omega
                      clear hlt hkn
                      have k1 := (HB1.out.ext E.out).cell
                      have k1l := (HB1.out.ext E.out).lt
                      go_upto_region 29 with fail
                      clear k1 k1l hlt2
                      go_loopw [4, 14] (fun sb sk W => ∃ (k : Nat) (q : Bool), k ≤ x.fn ∧ sb = .bool q ∧ sk = .int .i64 (k : Int) ∧ Hid (q = (q4 || anyTo (fun i => offB (x.fo i) 0 ((x.ln : Int) - 1)) k)) ∧ Hid (Ext w1 W)) (fun _ sk _ => x.fn - (intOf sk).toNat)
                      case atStart => exact ⟨0, _, by omega, rfl, rfl, hid (by simp [anyTo]), E⟩
                      case round =>
                        obtain ⟨k, q, hk, rfl, rfl, hq, E⟩ := hrel
                        by_cases hlt : k < x.fn
                        · as_aux_lemma =>
                            obtain ⟨ga, oa, hA, hga, e0⟩ := (R2.out.ext (E0.trans E.out)).at1 hlt
                            subst hA
                            have hki : (k : Int) < (x.fn : Int) := by omega
                            obtain ⟨a0, ha0⟩ : ∃ z, Hid (z = x.fo k) := ⟨_, hid rfl⟩
                            rw [← ha0.out] at e0
                            obtain ⟨n0, hn0⟩ : ∃ b, Hid (offB a0 0 ((x.ln : Int) - 1) = b) := ⟨_, hid rfl⟩
                            have k1 := (HB1.out.ext E.out).cell
                            have k1l := (HB1.out.ext E.out).lt
                            have HQ : Hid ((q || n0) = (q4 || anyTo (fun i => offB (x.fo i) 0 ((x.ln : Int) - 1)) (k + 1))) := hid (by rw [hq.out, Bool.or_assoc, ← hn0.out, ha0.out]; rfl)
                            have C94 := hid (fun W => ((off_any a0 0 ((x.ln : Int) - 1) W).mono fun e w' h => ⟨by rw [h.1, hn0.out], by rw [h.2]; exact Ext.refl _⟩ : Calls Tryz.prog 94 #[.int .i64 a0, .int .i64 0, .int .i64 ((x.ln : Int) - 1)] W fun e w' => e = .returned (.bool n0) ∧ Ext W w'))
                            have hwr : IntKind.i64.wrap ((x.ln : Int) - 1) = (x.ln : Int) - 1 := IntWalk.i64_in _ (by omega)
                            go_upto_region 31 with fail
                            cases q
                            · refine wp_region_later (by kernel_rfl) (by kernel_rfl) ?_
                              repeat (go_big_quiet_step ((go_at_call 94; exact Calls.later (C94.out _))))
                              refine wpQuiet_nil ?_
                              rintro w5 ⟨⟨_, he5⟩, rfl⟩
                              go_wp2_with fail
                              go_roundw
                              case rel => exact ⟨k + 1, _, by omega, rfl, by go_num, HQ, hid (E.out.trans he5)⟩
                              case measure => simp [intOf]; omega
                            · refine wp_region_later (by kernel_rfl) (by kernel_rfl) ?_
                              repeat (go_big_quiet_step (fail))
                              refine wpQuiet_nil ?_
                              rintro w5 ⟨⟨_, he5⟩, rfl⟩
                              go_wp2_with fail
                              go_roundw
                              case rel => exact ⟨k + 1, _, by omega, rfl, by go_num, HQ, hid (E.out.trans he5)⟩
                              case measure => simp [intOf]; omega
                        · have hkn : k = x.fn := by omega
                          rw [hkn] at hq
                          obtain ⟨q5, hq5⟩ : ∃ b, b = q := ⟨_, rfl⟩
                          rw [← hq5] at hq ⊢
                          clear hq5
                          have QQ5 := hid hq.out
                          have hkn2 := hid hkn
                          have hlt2 : ¬ (k : Int) < (x.fn : Int) := by omega
                          clear hlt hkn
                          have CE : Hid (x.chk = if p3 then 3 else if q5 then 1 else if mm then 5 else if zz then 4 else 0) := hid (by
                            have e1 : x.wideB = p3 := by unfold LD.wideB; rw [PP3.out, PP2.out, PP1.out]; simp [Bool.or_assoc]
                            have e2 : x.notB = q5 := by unfold LD.notB; rw [QQ5.out, QQ4.out, QQ3.out, QQ2.out, QQ1.out]; simp [Bool.or_assoc]
                            have e3 : x.sameB = mm := by rw [MM.out]; simp [LD.sameB]
                            have e4 : x.orderB = zz := by unfold LD.orderB; rw [ZZ.out, ho0.out, hb10.out, hb11.out]; simp [Bool.or_assoc]
                            unfold LD.chk
                            rw [HM.out, e1, e2, e3, e4]
                            rfl)
                          have k1 := (HB1.out.ext E.out).cell
                          have k1l := (HB1.out.ext E.out).lt
                          clear PP1 PP2 PP3 QQ1 QQ2 QQ3 QQ4 QQ5 MM ZZ
                          cases p3 <;> cases q5 <;> cases mm <;> cases zz
                          all_goals
                            go_wp2_with fail
                            go_ret
                            exact ⟨ret_int (by rw [CE.out]; rfl), E0.trans E.out⟩
end Go.Proofs.YtbceepjjdfpfmaaGreat
