/- Walks of the reference: what is left of a loan, and what somebody owes. The ledger is right. -/
import Derived.Test.YtbceepjjdfpfmaaGreatRefA
import Derived.Test.YtbceepjjdfpfmaaGreatNest
import Derived.Test.YtbceepjjdfpfmaaGreatMathB
namespace Go.Proofs.YtbceepjjdfpfmaaGreat
open Go.RowKit HandSpec LoanSpec
set_option maxHeartbeats 4000000
set_option maxRecDepth 100000
/-- v reads as what all payments are booked to. -/
def IsB (w : World) (v : Value) (x : LD) : Prop := ∃ A c B d, v = .agg #[.slice A x.pn c, .slice B x.pn d] ∧ RdN w A x.pn (fun _ => x.ln) (fun k i => R.part x k i) ∧ Rd w B x.pn 1 (fun k _ => R.over x k)
theorem IsB.ext {w w' : World} {v : Value} {x : LD} (h : IsB w v x) (e : Ext w w') : IsB w' v x := by
  obtain ⟨A, c, B, d, hv, h1, h2⟩ := h
  exact ⟨A, c, B, d, hv, h1.ext e, h2.ext e⟩
/-- What is left of a loan behind the first k payments. -/
def R.leftK (x : LD) (i : Nat) (year : Int) (k : Nat) : Int := P.asked x i - sumTo (fun k => if x.pa k 1 ≤ year then R.part x k i else 0) k
theorem left43 {x : LD} (hx : Ok x) {w : World} {v vb : Value} (hv : IsL w v x) (hvb : IsB w vb x) (hf : x.fn ≤ 1000) {i : Nat} (hi : i < x.ln) (year : Int) :
    Calls Tryz.prog 43 #[v, vb, .int .i64 (i : Int), .int .i64 year] w fun e w' => e = .returned (.int .i64 (R.left x i year)) ∧ Ext w w' := by
  have HV := hid hv
  obtain ⟨A1, c1, A2, c2, A3, c3, A4, c4, A5, c5, rfl, r1, r2, r3, r4, r5⟩ := hv
  obtain ⟨Ap, cp, Ao, co, rfl, b1, b2⟩ := hvb
  have HB1 := hid b1
  have R4 := hid r4
  obtain ⟨ga, oa, rfl, hga, -, q1, -⟩ := r3.at3 hi
  have hii : (i : Int) < (x.ln : Int) := by omega
  have hpn := hx.pn
  have hai := R.asked_nonneg hx hi
  obtain ⟨y, hy⟩ : ∃ z, Hid (z = x.lo i 1) := ⟨_, hid rfl⟩
  rw [← hy.out] at q1
  clear r1 r2 r3 r4 r5 b1 b2
  by_cases hyy : y > year
  · have HL := hid (show R.left x i year = 0 by unfold R.left; rw [if_pos (by rw [← hy.out]; exact hyy)])
    go_enter Tryz.func43, Tryz.ntmps43
    go_wp2_with fail
    go_ret
    exact ⟨ret_int HL.out.symm, ((Ext.refl _).alloc _).alloc _⟩
  · have HL := hid (show R.left x i year = R.leftK x i year x.pn by unfold R.left R.leftK; rw [if_neg (by rw [← hy.out]; exact hyy)])
    go_enter Tryz.func43, Tryz.ntmps43
    go_upto_region 1 with fail
    refine wp_later fun w1 hw1 => ?_
    obtain ⟨E1, b4, b5⟩ := hw1.newB2
    have B4 := hid b4
    have B5 := hid b5
    have k4 := b4.cell
    have k4l := b4.lt
    have q1 := E1.some_ q1
    have hga1 := Nat.lt_of_lt_of_le hga E1.size
    obtain ⟨a, ha⟩ : ∃ z, Hid (z = P.asked x i) := ⟨_, hid rfl⟩
    rw [← ha.out] at hai
    clear hw1 b4 b5
    go_upto_region 4 with (go_at_call 41; refine (asked41 hx (HV.out.ext E1) hf hi).mono ?_; rintro e w2 ⟨rfl, he2⟩; rw [← ha.out])
    clear q1 k4 k4l
    have hbd : ∀ k, k ≤ x.pn → -550 * (k : Int) ≤ R.leftK x i year k ∧ R.leftK x i year k ≤ 550 := fun k => by
      induction k with
      | zero => intro _; unfold R.leftK; rw [← ha.out]; show -550 * ((0 : Nat) : Int) ≤ a - 0 ∧ a - 0 ≤ 550; omega
      | succ k ih =>
        intro hk
        have ih := ih (by omega)
        have h1 := R.part_nonneg hx (show k < x.pn by omega) hi
        have h2 := R.part_left hx (show k < x.pn by omega) i
        have h3 := R.leftTo_nonneg hx k (by omega) i hi
        have h4 := R.leftTo_nonneg hx (k+1) hk i hi
        have h5 := R.asked_nonneg hx hi
        unfold R.leftK at ih ⊢
        rw [sumTo_succ]
        split <;> omega
    have HBD := hid hbd
    clear hbd
    go_upto_region 5 with fail
    go_loopw [9, 10] (fun n c wr => ∃ k : Nat, k ≤ x.pn ∧ n = .int .i64 (R.leftK x i year k) ∧ c = .int .i64 (k : Int) ∧ Ext w1 wr) (fun _ c _ => x.pn - (intOf c).toNat)
    case atStart => exact ⟨0, by omega, by unfold R.leftK; rw [← ha.out]; show Value.int .i64 a = .int .i64 (a - 0); rw [Int.sub_zero], rfl, he2⟩
    case round =>
      obtain ⟨k, hk, rfl, rfl, he⟩ := hrel
      have k4 := (B4.out.ext he).cell
      have k4l := (B4.out.ext he).lt
      have k5 := (B5.out.ext he).cell
      have k5l := (B5.out.ext he).lt
      have hb := HBD.out k hk
      by_cases hlt : k < x.pn
      · obtain ⟨gp, op, rfl, hgp, p0, p1, p2⟩ := (R4.out.ext (E1.trans he)).at3 hlt
        obtain ⟨gn, on, Bk, Ck, rfl, hgn, n0, hrk⟩ := (HB1.out.ext (E1.trans he)).at_ hlt
        obtain ⟨gr, or_, rfl, hgr, z0⟩ := hrk.at1 hi
        have hki : (k : Int) < (x.pn : Int) := by omega
        have hst : R.leftK x i year (k+1) = if x.pa k 1 ≤ year then R.leftK x i year k - R.part x k i else R.leftK x i year k := by
          unfold R.leftK
          rw [sumTo_succ]
          split <;> omega
        have HST := hid hst
        obtain ⟨l, hl⟩ : ∃ z, z = R.leftK x i year k := ⟨_, rfl⟩
        obtain ⟨p, hp⟩ : ∃ z, Hid (z = R.part x k i) := ⟨_, hid rfl⟩
        have hpb : 0 ≤ p ∧ p ≤ 550 := by
          have h1 := R.part_nonneg hx hlt hi
          have h2 := R.part_left hx hlt i
          have h3 := R.leftTo_nonneg hx k (by omega) i hi
          have h4 := R.leftTo_nonneg hx (k+1) (by omega) i hi
          have h5 := R.asked_nonneg hx hi
          rw [hp.out]
          omega
        rw [← hp.out] at z0
        rw [← hl] at hb ⊢
        have HLL := hid hl
        have hlb : -10000 ≤ l ∧ l ≤ 10000 := by omega
        obtain ⟨q, hq⟩ : ∃ z, Hid (z = x.pa k 1) := ⟨_, hid rfl⟩
        rw [← hq.out] at p1
        clear hl hst hb
        by_cases hqy : q ≤ year
        · have HS := hid (show R.leftK x i year (k+1) = l - p by rw [HST.out, if_pos (by rw [← hq.out]; exact hqy), ← HLL.out, ← hp.out])
          go_wp2_with fail
          go_roundw
          case rel => exact ⟨k + 1, by omega, by rw [HS.out], by go_num, he⟩
          case measure => simp [intOf]; omega
        · have HS := hid (show R.leftK x i year (k+1) = l by rw [HST.out, if_neg (by rw [← hq.out]; exact hqy), ← HLL.out])
          go_wp2_with fail
          go_roundw
          case rel => exact ⟨k + 1, by omega, by rw [HS.out], by go_num, he⟩
          case measure => simp [intOf]; omega
      · obtain rfl : k = x.pn := by omega
        go_wp2_with fail
        go_ret
        exact ⟨ret_int HL.out.symm, E1.trans he⟩
theorem R.left_bd {x : LD} (hx : Ok x) {i : Nat} (hi : i < x.ln) (year : Int) : 0 ≤ R.left x i year ∧ R.left x i year ≤ 550 := by
  have h1 := R.asked_nonneg hx hi
  have h2 := P.until_bd hx year _ (Nat.le_refl _) i hi
  rw [R.left_eq hx]
  unfold P.booked
  split <;> omega
/-- What somebody owes of the first k loans, and what of it is overdue. -/
def R.owesK (x : LD) (who year : Int) (k : Nat) : Int := sumTo (fun i => if x.lo i 0 = who then R.left x i year else 0) k
def R.lateK (x : LD) (who year : Int) (k : Nat) : Int := sumTo (fun i => if x.lo i 0 = who ∧ 0 ≤ P.due x i ∧ P.due x i ≤ year then R.left x i year else 0) k
theorem owes23 {x : LD} (hx : Ok x) {w : World} {v vb : Value} (hv : IsL w v x) (hvb : IsB w vb x) (hf : x.fn ≤ 1000) (hbn : x.bn ≤ 1000) (who year : Int) :
    Calls Tryz.prog 23 #[v, vb, .int .i64 who, .int .i64 year] w fun e w' => e = .returned (.tuple #[.int .i64 (R.owes x who year), .int .i64 (R.overdue x who year)]) ∧ Ext w w' := by
  have HV := hid hv
  have HB := hid hvb
  obtain ⟨A1, c1, A2, c2, A3, c3, A4, c4, A5, c5, rfl, r1, r2, r3, r4, r5⟩ := hv
  obtain ⟨Ap, cp, Ao, co, rfl, b1, b2⟩ := hvb
  have R3 := hid r3
  have hln := hx.ln
  clear r1 r2 r3 r4 r5 b1 b2
  go_enter Tryz.func23, Tryz.ntmps23
  go_upto_region 1 with fail
  refine wp_later fun w1 hw1 => ?_
  obtain ⟨E1, b4, b5⟩ := hw1.newB2
  have B4 := hid b4
  have B5 := hid b5
  clear hw1 b4 b5
  go_upto_region 3 with fail
  go_loopw [10, 11, 12] (fun n m c wr => ∃ k : Nat, k ≤ x.ln ∧ n = .int .i64 (R.owesK x who year k) ∧ m = .int .i64 (R.lateK x who year k) ∧ c = .int .i64 (k : Int) ∧ Hid (0 ≤ R.owesK x who year k ∧ R.owesK x who year k ≤ 550 * k ∧ 0 ≤ R.lateK x who year k ∧ R.lateK x who year k ≤ 550 * k) ∧ Ext w1 wr) (fun _ _ c _ => x.ln - (intOf c).toNat)
  case atStart => exact ⟨0, by omega, rfl, rfl, rfl, hid (by show (0 : Int) ≤ 0 ∧ (0 : Int) ≤ 550 * ((0 : Nat) : Int) ∧ (0 : Int) ≤ 0 ∧ (0 : Int) ≤ 550 * ((0 : Nat) : Int); omega), Ext.refl _⟩
  case round =>
    obtain ⟨k, hk, rfl, rfl, rfl, hbd, he⟩ := hrel
    have k4 := (B4.out.ext he).cell
    have k4l := (B4.out.ext he).lt
    have k5 := (B5.out.ext he).cell
    have k5l := (B5.out.ext he).lt
    by_cases hlt : k < x.ln
    · obtain ⟨ga, oa, rfl, hga, q0, q1, q2⟩ := (R3.out.ext (E1.trans he)).at3 hlt
      have hki : (k : Int) < (x.ln : Int) := by omega
      have hl := R.left_bd hx hlt year
      have ho : R.owesK x who year (k+1) = R.owesK x who year k + if x.lo k 0 = who then R.left x k year else 0 := rfl
      have hm : R.lateK x who year (k+1) = R.lateK x who year k + if x.lo k 0 = who ∧ 0 ≤ P.due x k ∧ P.due x k ≤ year then R.left x k year else 0 := rfl
      have hb := hbd.out
      obtain ⟨l, hll⟩ : ∃ z, z = R.left x k year := ⟨_, rfl⟩
      obtain ⟨d, hd⟩ : ∃ z, z = P.due x k := ⟨_, rfl⟩
      obtain ⟨p, hp⟩ : ∃ z, z = x.lo k 0 := ⟨_, rfl⟩
      obtain ⟨n, hn⟩ : ∃ z, z = R.owesK x who year k := ⟨_, rfl⟩
      obtain ⟨m, hmm⟩ : ∃ z, z = R.lateK x who year k := ⟨_, rfl⟩
      rw [← hll, ← hp, ← hn] at ho
      rw [← hll, ← hp, ← hd, ← hmm] at hm
      rw [← hll] at hl
      rw [← hp] at q0
      rw [← hn, ← hmm] at hb ⊢
      have hnb : 0 ≤ n ∧ n ≤ 5500 := by omega
      have hmb : 0 ≤ m ∧ m ≤ 5500 := by omega
      have HO := hid ho
      have HM := hid hm
      have HL := hid hll
      have HD := hid hd
      have HBD := hid hb
      clear ho hm hll hd hp hn hmm hb hbd
      by_cases e : p = who
      · have eb : (p != who) = false := by simpa using e
        have E0 := hid e
        clear e
        by_cases e2 : 0 ≤ d
        · by_cases e3 : d ≤ year
          · have H1 := hid (show R.owesK x who year (k+1) = n + l by rw [HO.out, if_pos E0.out])
            have H2 := hid (show R.lateK x who year (k+1) = m + l by rw [HM.out, if_pos ⟨E0.out, e2, e3⟩])
            have e2' : d ≥ 0 := e2
            go_wp2_with (first
              | (go_at_call 43; refine (left43 hx (HV.out.ext (E1.trans he)) (HB.out.ext (E1.trans he)) hf hlt year).mono ?_; rintro e w2 ⟨rfl, he2⟩; rw [← HL.out]; have HE2 := hid (he.trans he2); have k4 := (B4.out.ext HE2.out).cell; have k4l := (B4.out.ext HE2.out).lt; have k5 := (B5.out.ext HE2.out).cell; have k5l := (B5.out.ext HE2.out).lt; clear he2)
              | (go_at_call 42; refine (due42 hx (HV.out.ext (E1.trans HE2.out)) hbn hlt).mono ?_; rintro e w3 ⟨rfl, he3⟩; rw [← HD.out]; have HE3 := hid (HE2.out.trans he3); have k4 := (B4.out.ext HE3.out).cell; have k4l := (B4.out.ext HE3.out).lt; have k5 := (B5.out.ext HE3.out).cell; have k5l := (B5.out.ext HE3.out).lt; clear he3)
              | (go_at_call 43; refine (left43 hx (HV.out.ext (E1.trans HE3.out)) (HB.out.ext (E1.trans HE3.out)) hf hlt year).mono ?_; rintro e w4 ⟨rfl, he4⟩; rw [← HL.out]; have HE4 := hid (HE3.out.trans he4); clear he4))
            go_roundw
            case rel => exact ⟨k + 1, by omega, by rw [H1.out], by rw [H2.out], by go_num, hid (by rw [H1.out, H2.out]; have := HBD.out; omega), HE4.out⟩
            case measure => simp [intOf]; omega
          · have H1 := hid (show R.owesK x who year (k+1) = n + l by rw [HO.out, if_pos E0.out])
            have H2 := hid (show R.lateK x who year (k+1) = m by rw [HM.out, if_neg (fun h => e3 h.2.2)]; omega)
            have e2' : d ≥ 0 := e2
            go_wp2_with (first
              | (go_at_call 43; refine (left43 hx (HV.out.ext (E1.trans he)) (HB.out.ext (E1.trans he)) hf hlt year).mono ?_; rintro e w2 ⟨rfl, he2⟩; rw [← HL.out]; have HE2 := hid (he.trans he2); have k4 := (B4.out.ext HE2.out).cell; have k4l := (B4.out.ext HE2.out).lt; have k5 := (B5.out.ext HE2.out).cell; have k5l := (B5.out.ext HE2.out).lt; clear he2)
              | (go_at_call 42; refine (due42 hx (HV.out.ext (E1.trans HE2.out)) hbn hlt).mono ?_; rintro e w3 ⟨rfl, he3⟩; rw [← HD.out]; have HE3 := hid (HE2.out.trans he3); clear he3))
            go_roundw
            case rel => exact ⟨k + 1, by omega, by rw [H1.out], by rw [H2.out], by go_num, hid (by rw [H1.out, H2.out]; have := HBD.out; omega), HE3.out⟩
            case measure => simp [intOf]; omega
        · have H1 := hid (show R.owesK x who year (k+1) = n + l by rw [HO.out, if_pos E0.out])
          have H2 := hid (show R.lateK x who year (k+1) = m by rw [HM.out, if_neg (fun h => e2 h.2.1)]; omega)
          have e2' : ¬ d ≥ 0 := e2
          go_wp2_with (first
            | (go_at_call 43; refine (left43 hx (HV.out.ext (E1.trans he)) (HB.out.ext (E1.trans he)) hf hlt year).mono ?_; rintro e w2 ⟨rfl, he2⟩; rw [← HL.out]; have HE2 := hid (he.trans he2); have k4 := (B4.out.ext HE2.out).cell; have k4l := (B4.out.ext HE2.out).lt; have k5 := (B5.out.ext HE2.out).cell; have k5l := (B5.out.ext HE2.out).lt; clear he2)
            | (go_at_call 42; refine (due42 hx (HV.out.ext (E1.trans HE2.out)) hbn hlt).mono ?_; rintro e w3 ⟨rfl, he3⟩; rw [← HD.out]; have HE3 := hid (HE2.out.trans he3); clear he3))
          go_roundw
          case rel => exact ⟨k + 1, by omega, by rw [H1.out], by rw [H2.out], by go_num, hid (by rw [H1.out, H2.out]; have := HBD.out; omega), HE3.out⟩
          case measure => simp [intOf]; omega
      · have eb : (p != who) = true := by simpa using e
        have H1 := hid (show R.owesK x who year (k+1) = n by rw [HO.out, if_neg e]; omega)
        have H2 := hid (show R.lateK x who year (k+1) = m by rw [HM.out, if_neg (fun h => e h.1)]; omega)
        clear e
        go_wp2_with fail
        go_roundw
        case rel => exact ⟨k + 1, by omega, by rw [H1.out], by rw [H2.out], by go_num, hid (by rw [H1.out, H2.out]; have := HBD.out; omega), he⟩
        case measure => simp [intOf]; omega
    · obtain rfl : k = x.ln := by omega
      go_wp2_with fail
      go_ret2
      exact ⟨rfl, E1.trans he⟩
end Go.Proofs.YtbceepjjdfpfmaaGreat
