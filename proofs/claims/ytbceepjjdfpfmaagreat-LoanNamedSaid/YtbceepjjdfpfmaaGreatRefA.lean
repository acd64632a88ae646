/- Walks of the reference's short functions. The ledger is right, where it says so. -/
import Derived.Test.YtbceepjjdfpfmaaGreatWords
import Derived.Test.YtbceepjjdfpfmaaGreatSpec
import Derived.Test.YtbceepjjdfpfmaaGreatGenA
namespace Go.Proofs.YtbceepjjdfpfmaaGreat
open Go.RowKit HandSpec LoanSpec
set_option maxHeartbeats 1600000
set_option maxRecDepth 100000
/-- v reads as the ledger x. -/
def IsL (w : World) (v : Value) (x : LD) : Prop :=
  ∃ A1 c1 A2 c2 A3 c3 A4 c4 A5 c5, v = .agg #[.int .i64 x.folk, .int .i64 x.years, .slice A1 x.bn c1, .slice A2 x.fn c2, .slice A3 x.ln c3, .slice A4 x.pn c4, .slice A5 x.mn c5] ∧
    Rd w A1 x.bn 1 (fun k _ => x.bad k) ∧ Rd w A2 x.fn 1 (fun k _ => x.fo k) ∧ Rd w A3 x.ln 3 x.lo ∧ Rd w A4 x.pn 3 x.pa ∧ Rd w A5 x.mn 3 x.pr
theorem IsL.ext {w w' : World} {v : Value} {x : LD} (h : IsL w v x) (e : Ext w w') : IsL w' v x := by
  obtain ⟨A1, c1, A2, c2, A3, c3, A4, c4, A5, c5, hv, h1, h2, h3, h4, h5⟩ := h
  exact ⟨A1, c1, A2, c2, A3, c3, A4, c4, A5, c5, hv, h1.ext e, h2.ext e, h3.ext e, h4.ext e, h5.ext e⟩
theorem off_any (n lo hi : Int) (w : World) : Calls Tryz.prog 94 #[.int .i64 n, .int .i64 lo, .int .i64 hi] w fun e w' => e = .returned (.bool (offB n lo hi)) ∧ w = w' := by
 by_cases h1 : n < lo
 ·go_enter Tryz.func94, Tryz.ntmps94
  go_wp2
  go_ret
  exact ⟨ret_bool (by simp [offB, h1]), rfl⟩
 ·by_cases h2 : hi < n
  all_goals
   go_enter Tryz.func94, Tryz.ntmps94
   go_wp2
   go_ret
   exact ⟨ret_bool (by simp [offB, h1, h2]), rfl⟩
theorem hasB_yes {f : Nat → Int} {n k : Nat} {z : Int} (hk : k < n) (h : (f k == z) = true) : hasB f n z = true := anyTo_true.2 ⟨k, hk, h⟩
theorem has81 {w : World} {A : Option Addr} {n cap : Nat} {g : Nat → Nat → Int} (hr : Rd w A n 1 g) (hn : n ≤ 1000) (z : Int) :
    Calls Tryz.prog 81 #[.slice A n cap, .int .i64 z] w fun e w' => e = .returned (.bool (hasB (fun k => g k 0) n z)) ∧ Ext w w' := by
  have HR := hid hr
  clear hr
  go_enter Tryz.func81, Tryz.ntmps81
  go_upto_region 2 with fail
  go_loopw [5] (fun j wr => ∃ k : Nat, k ≤ n ∧ j = .int .i64 (k : Int) ∧ Hid (∀ i, i < k → (g i 0 == z) = false) ∧ Ext w wr) (fun j _ => n - (intOf j).toNat)
  case atStart => exact ⟨0, by omega, rfl, hid fun i hi => by omega, Ext.refl _⟩
  case round =>
    obtain ⟨k, hk, rfl, hi, he⟩ := hrel
    by_cases hlt : k < n
    · obtain ⟨ga, oa, rfl, hga, p0⟩ := (HR.out.ext he).at1 hlt
      have hki : (k : Int) < (n : Int) := by omega
      obtain ⟨q, hq⟩ : ∃ q, Hid (q = g k 0) := ⟨_, hid rfl⟩
      rw [← hq.out] at p0
      cases hz : (q == z)
      · go_wp2_with fail
        go_roundw
        case rel =>
          refine ⟨k + 1, by omega, by go_num, hid fun i hi' => ?_, he⟩
          rcases Nat.lt_or_eq_of_le (Nat.le_of_lt_succ hi') with h3 | h3
          · exact hi.out i h3
          · rw [h3, ← hq.out]; exact hz
        case measure => simp [intOf]; omega
      · go_wp2_with fail
        go_ret
        exact ⟨ret_bool (hasB_yes hlt (by rw [← hq.out]; exact hz)).symm, he⟩
    · obtain rfl : k = n := by omega
      go_wp2_with fail
      go_ret
      exact ⟨ret_bool (anyTo_false.2 hi.out).symm, he⟩
theorem rising95 {w : World} {A : Option Addr} {n cap : Nat} {g : Nat → Nat → Int} (hr : Rd w A n 1 g) (hn : n ≤ 1000) :
    Calls Tryz.prog 95 #[.slice A n cap] w fun e w' => e = .returned (.bool (!fallB (fun k => g k 0) n)) ∧ Ext w w' := by
  have HR := hid hr
  clear hr
  go_enter Tryz.func95, Tryz.ntmps95
  go_upto_region 2 with fail
  go_loopw [3] (fun j wr => ∃ k : Nat, k ≤ n - 1 ∧ j = .int .i64 ((k : Int) + 1) ∧ Hid (∀ i, i < k → decide (g (i+1) 0 ≤ g i 0) = false) ∧ Ext w wr) (fun j _ => n - (intOf j).toNat)
  case atStart => exact ⟨0, by omega, rfl, hid fun i hi => by omega, Ext.refl _⟩
  case round =>
    obtain ⟨k, hk, rfl, hi, he⟩ := hrel
    by_cases hlt : k + 1 < n
    · obtain ⟨ga, oa, hA, hga, p0⟩ := (HR.out.ext he).at1 hlt
      obtain ⟨gb, ob, hB, hgb, p1⟩ := (HR.out.ext he).at1 (show k < n by omega)
      obtain ⟨rfl, rfl⟩ := same_addr hB hA
      subst hA
      obtain ⟨q, hq⟩ : ∃ q, Hid (q = g (k+1) 0) := ⟨_, hid rfl⟩
      obtain ⟨q', hq'⟩ : ∃ q, Hid (q = g k 0) := ⟨_, hid rfl⟩
      rw [← hq.out] at p0
      rw [← hq'.out] at p1
      have p0' : wr.cell? ⟨ga, oa + (((k : Int) + 1).toNat), none⟩ = some (.int .i64 q) := by rw [show ((k : Int) + 1).toNat = k + 1 by omega]; exact p0
      have hki : (k : Int) + 1 < (n : Int) := by omega
      have hsub : (k : Int) + 1 - 1 = (k : Int) := by omega
      go_upto_region 4 with fail
      cases hz : decide (q ≤ q')
      · refine wp_region_later (by kernel_rfl) (by kernel_rfl) ?_
        repeat (go_big_quiet_step (fail))
        refine wpQuiet_nil ?_
        rintro w2 ⟨⟨_, he2⟩, rfl⟩
        go_wp2_with fail
        go_roundw
        case rel =>
          refine ⟨k + 1, by omega, by go_num, hid fun i hi' => ?_, he.trans he2⟩
          rcases Nat.lt_or_eq_of_le (Nat.le_of_lt_succ hi') with h3 | h3
          · exact hi.out i h3
          · rw [h3, ← hq.out, ← hq'.out]; exact hz
        case measure => simp [intOf]; omega
      · refine wp_region_later (by kernel_rfl) (by kernel_rfl) ?_
        repeat (go_big_quiet_step (fail))
        refine wpQuiet_nil ?_
        rintro w2 ⟨⟨_, he2⟩, rfl⟩
        go_wp2_with fail
        go_ret
        refine ⟨ret_bool ?_, he.trans he2⟩
        rw [show fallB (fun k => g k 0) n = true from anyTo_true.2 ⟨k, by omega, by show decide (g (k+1) 0 ≤ g k 0) = true; rw [← hq.out, ← hq'.out]; exact hz⟩]; rfl
    · go_wp2_with fail
      go_ret
      exact ⟨ret_bool (by rw [show fallB (fun k => g k 0) n = false from anyTo_false.2 fun i h => hi.out i (by omega)]; rfl), he⟩
theorem asked41 {x : LD} (hx : Ok x) {w : World} {v : Value} (hv : IsL w v x) (hf : x.fn ≤ 1000) {i : Nat} (hi : i < x.ln) :
    Calls Tryz.prog 41 #[v, .int .i64 (i : Int)] w fun e w' => e = .returned (.int .i64 (P.asked x i)) ∧ Ext w w' := by
  have HV := hid hv
  obtain ⟨A1, c1, A2, c2, A3, c3, A4, c4, A5, c5, rfl, r1, r2, r3, r4, r5⟩ := hv
  have hs := hx.lsack i hi
  obtain ⟨ga, oa, rfl, hga, -, -, q2⟩ := r3.at3 hi
  have R2 := hid r2
  have hii : (i : Int) < (x.ln : Int) := by omega
  obtain ⟨b, hb⟩ : ∃ b, Hid (b = x.lo i 2) := ⟨_, hid rfl⟩
  rw [← hb.out] at q2 hs
  obtain ⟨hB, hhB⟩ : ∃ h, Hid (h = hasB x.fo x.fn (i : Int)) := ⟨_, hid rfl⟩
  clear r1 r2 r3 r4 r5
  go_enter Tryz.func41, Tryz.ntmps41
  go_upto_region 1 with fail
  refine wp_later fun w1 hw1 => ?_
  obtain ⟨E1, b2⟩ := hw1.newB
  have B2 := hid b2
  have k2 := b2.cell
  have k2l := b2.lt
  clear hw1 b2
  go_upto_if 10 with (go_at_call 81; refine (has81 (R2.out.ext E1) hf _).mono ?_; rintro e w2 ⟨rfl, he2⟩; rw [← hhB.out]; have E2 := hid (E1.trans he2); have k2 := (B2.out.ext he2).cell; have k2l := (B2.out.ext he2).lt; have C2 := hid (B2.out.ext he2); have q2 := E2.out.some_ q2; have hga2 := Nat.lt_of_lt_of_le hga E2.out.size; clear he2)
  cases hB
  · go_upto_region 5 with fail
    clear k2 k2l
    go_loopw [5, 6] (fun a c wr => ∃ k : Nat, a = .int .i64 (b + (k : Int)) ∧ c = .int .i64 (10 * (k : Int)) ∧ Hid (k = 0 ∨ 10 * (k : Int) < b + 10) ∧ k ≤ 60 ∧ Ext w2 wr) (fun _ c _ => 600 - (intOf c).toNat)
    case atStart => exact ⟨0, by simp, rfl, hid (.inl rfl), by omega, Ext.refl _⟩
    case round =>
      obtain ⟨k, rfl, rfl, hk, hk60, he⟩ := hrel
      have k2 := (C2.out.ext he).cell
      have k2l := (C2.out.ext he).lt
      have q2 := he.some_ q2
      have hga3 := Nat.lt_of_lt_of_le hga2 he.size
      by_cases hlt : 10 * (k : Int) < b
      · go_wp2_with fail
        go_roundw
        case rel => exact ⟨k + 1, by go_num, by go_num, hid (.inr (by omega)), by omega, he⟩
        case measure => simp [intOf]; omega
      · go_wp2_with fail
        go_ret
        refine ⟨ret_int ?_, E2.out.trans he⟩
        unfold P.asked
        rw [← hhB.out, if_neg (by simp), ← hb.out]
        have := hk.out
        omega
  · go_wp2_with fail
    go_ret
    refine ⟨ret_int ?_, E2.out⟩
    unfold P.asked
    rw [← hhB.out, if_pos rfl]
theorem due42 {x : LD} (hx : Ok x) {w : World} {v : Value} (hv : IsL w v x) (hb : x.bn ≤ 1000) {i : Nat} (hi : i < x.ln) :
    Calls Tryz.prog 42 #[v, .int .i64 (i : Int)] w fun e w' => e = .returned (.int .i64 (P.due x i)) ∧ Ext w w' := by
  obtain ⟨A1, c1, A2, c2, A3, c3, A4, c4, A5, c5, rfl, r1, r2, r3, r4, r5⟩ := hv
  have hs := hx.lyear i hi
  have hy := hx.years
  obtain ⟨ga, oa, rfl, hga, -, q1, -⟩ := r3.at3 hi
  have R1 := hid r1
  have hii : (i : Int) < (x.ln : Int) := by omega
  obtain ⟨b, hbb⟩ : ∃ b, Hid (b = x.lo i 1) := ⟨_, hid rfl⟩
  rw [← hbb.out] at q1 hs
  clear r1 r2 r3 r4 r5
  go_enter Tryz.func42, Tryz.ntmps42
  go_upto_region 1 with fail
  refine wp_later fun w1 hw1 => ?_
  obtain ⟨E1, b2⟩ := hw1.newB
  have B2 := hid b2
  have k2 := b2.cell
  have k2l := b2.lt
  have q1 := E1.some_ q1
  have hga2 := Nat.lt_of_lt_of_le hga E1.size
  clear hw1 b2
  go_upto_region 2 with fail
  clear k2 k2l
  go_loopw [5] (fun c wr => ∃ y : Int, c = .int .i64 y ∧ b ≤ y ∧ y ≤ x.years ∧ Hid (P.due x i = P.dueTo x y (x.years - y).toNat) ∧ Ext w1 wr) (fun c _ => 20 - (intOf c).toNat)
  case atStart => exact ⟨b, rfl, by omega, by omega, hid (by unfold P.due; rw [← hbb.out]), Ext.refl _⟩
  case round =>
    obtain ⟨y, rfl, hy1, hy2, hd, he⟩ := hrel
    have k2 := (B2.out.ext he).cell
    have k2l := (B2.out.ext he).lt
    by_cases hlt : y < x.years
    · obtain ⟨hB, hhB⟩ : ∃ h, Hid (h = hasB x.bad x.bn y) := ⟨_, hid rfl⟩
      have hst : P.dueTo x y (x.years - y).toNat = if hB then P.dueTo x (y + 1) (x.years - (y + 1)).toNat else y := by
        rw [show (x.years - y).toNat = (x.years - (y + 1)).toNat + 1 by omega, hhB.out]; rfl
      have HST := hid hst
      clear hst
      cases hB
      · go_wp2_with (go_at_call 81; refine (has81 (R1.out.ext (E1.trans he)) hb _).mono ?_; rintro e w2 ⟨rfl, he2⟩; rw [← hhB.out])
        go_ret
        exact ⟨ret_int (by rw [hd.out, HST.out]; simp), E1.trans (he.trans he2)⟩
      · go_wp2_with (go_at_call 81; refine (has81 (R1.out.ext (E1.trans he)) hb _).mono ?_; rintro e w2 ⟨rfl, he2⟩; rw [← hhB.out])
        go_roundw
        case rel => exact ⟨y + 1, rfl, by omega, by omega, hid (by rw [hd.out, HST.out]; simp), he.trans he2⟩
        case measure => simp [intOf]; omega
    · go_wp2_with fail
      go_ret
      exact ⟨ret_int (by rw [hd.out, show (x.years - y).toNat = 0 by omega]; rfl), E1.trans he⟩
/-- The loan that is found, as a number. -/
def encO : Option Nat → Int
  | none => -1
  | some i => (i : Int)
theorem better_no {x : LD} {f : Nat → Int} {who year : Int} {o : Option Nat} {i : Nat} (h : x.lo i 0 ≠ who ∨ year < x.lo i 1 ∨ f i = 0) : R.better x f who year o i = o := by unfold R.better; rw [if_pos h]
theorem oldest96 {x : LD} {w : World} {v : Value} (hv : IsL w v x) (hl : x.ln ≤ 1000) {A : Option Addr} {cap : Nat} {f : Nat → Int} (hr : Rd w A x.ln 1 (fun k _ => f k)) (who year : Int) :
    Calls Tryz.prog 96 #[v, .slice A x.ln cap, .int .i64 who, .int .i64 year] w fun e w' => e = .returned (.int .i64 (encO (R.oldest x f who year))) ∧ Ext w w' := by
  obtain ⟨A1, c1, A2, c2, A3, c3, A4, c4, A5, c5, rfl, r1, r2, r3, r4, r5⟩ := hv
  have R3 := hid r3
  have RF := hid hr
  clear r1 r2 r3 r4 r5 hr
  go_enter Tryz.func96, Tryz.ntmps96
  go_upto_region 1 with fail
  refine wp_later fun w1 hw1 => ?_
  obtain ⟨E1, b4⟩ := hw1.newB
  have B4 := hid b4
  clear hw1 b4
  go_upto_region 3 with fail
  go_loopw [9, 10] (fun a c wr => ∃ (k : Nat) (o : Option Nat), k ≤ x.ln ∧ a = .int .i64 (encO o) ∧ c = .int .i64 (k : Int) ∧ Hid (o = R.oldestTo x f who year k) ∧ Hid (∀ b, o = some b → b < k) ∧ Ext w1 wr) (fun _ c _ => x.ln - (intOf c).toNat)
  case atStart => exact ⟨0, none, by omega, rfl, rfl, hid rfl, hid (fun b h => by cases h), Ext.refl _⟩
  case round =>
    obtain ⟨k, o, hk, rfl, rfl, ho, hob, he⟩ := hrel
    have k4 := (B4.out.ext he).cell
    have k4l := (B4.out.ext he).lt
    by_cases hlt : k < x.ln
    · obtain ⟨ga, oa, hA3, hga, q0, q1, q2⟩ := (R3.out.ext (E1.trans he)).at3 hlt
      obtain ⟨gf, of_, hAf, hgf, p0⟩ := (RF.out.ext (E1.trans he)).at1 hlt
      subst hA3 hAf
      have hki : (k : Int) < (x.ln : Int) := by omega
      obtain ⟨a0, ha0⟩ : ∃ z, Hid (z = x.lo k 0) := ⟨_, hid rfl⟩
      obtain ⟨a1, ha1⟩ : ∃ z, Hid (z = x.lo k 1) := ⟨_, hid rfl⟩
      obtain ⟨a2, ha2⟩ : ∃ z, Hid (z = x.lo k 2) := ⟨_, hid rfl⟩
      obtain ⟨fk, hfk⟩ : ∃ z, Hid (z = f k) := ⟨_, hid rfl⟩
      rw [← ha0.out] at q0
      rw [← ha1.out] at q1
      rw [← ha2.out] at q2
      rw [← hfk.out] at p0
      have hnx : Hid (R.oldestTo x f who year (k+1) = R.better x f who year o k) := hid (by rw [ho.out]; rfl)
      go_upto_region 6 with fail
      refine wp_later fun w2 hw2 => ?_
      obtain ⟨E2, b11⟩ := hw2.newB
      have k11 := b11.cell
      have k11l := b11.lt
      have k4 := (B4.out.ext (he.trans E2)).cell
      have k4l := (B4.out.ext (he.trans E2)).lt
      have p0 := E2.some_ p0
      have hgf2 := Nat.lt_of_lt_of_le hgf E2.size
      clear hw2 q0 q1 q2 hgf hga
      rcases (show a0 ≠ who ∨ (a0 = who ∧ year < a1) ∨ (a0 = who ∧ ¬ year < a1 ∧ fk = 0) ∨ (a0 = who ∧ ¬ year < a1 ∧ fk ≠ 0) by omega) with h | ⟨h, h2⟩ | ⟨h, h2, h3⟩ | ⟨h, h2, h3⟩
      · have HB := hid (better_no (o := o) (show x.lo k 0 ≠ who ∨ year < x.lo k 1 ∨ f k = 0 from .inl (by rw [← ha0.out]; exact h)))
        have hb1 : (a0 == who) = false := by simpa using h
        have hb1n : (a0 != who) = true := by simpa using h
        go_wp2_with fail
        go_roundw
        case rel => exact ⟨k + 1, o, by omega, rfl, by go_num, hid (by rw [hnx.out, HB.out]), hid (fun b hb => by have := hob.out b hb; omega), he.trans E2⟩
        case measure => simp [intOf]; omega
      · have HB := hid (better_no (o := o) (show x.lo k 0 ≠ who ∨ year < x.lo k 1 ∨ f k = 0 from .inr (.inl (by rw [← ha1.out]; exact h2))))
        subst h
        go_wp2_with fail
        go_roundw
        case rel => exact ⟨k + 1, o, by omega, rfl, by go_num, hid (by rw [hnx.out, HB.out]), hid (fun b hb => by have := hob.out b hb; omega), he.trans E2⟩
        case measure => simp [intOf]; omega
      · have HB := hid (better_no (o := o) (show x.lo k 0 ≠ who ∨ year < x.lo k 1 ∨ f k = 0 from .inr (.inr (by rw [← hfk.out]; exact h3))))
        have hb2 : (fk == 0) = true := by simpa using h3
        subst h
        clear h3
        go_wp2_with fail
        go_roundw
        case rel => exact ⟨k + 1, o, by omega, rfl, by go_num, hid (by rw [hnx.out, HB.out]), hid (fun b hb => by have := hob.out b hb; omega), he.trans E2⟩
        case measure => simp [intOf]; omega
      · have hb1 : (a0 == who) = true := by simpa using h
        have hb2 : (fk == 0) = false := by simpa using h3
        have HNO : Hid (¬ (x.lo k 0 ≠ who ∨ year < x.lo k 1 ∨ f k = 0)) := hid (by rw [← ha0.out, ← ha1.out, ← hfk.out]; omega)
        subst h
        clear h3
        go_upto_region 7 with fail
        cases o with
        | none =>
          rw [show encO none = -1 from rfl]
          refine wp_region_later (by kernel_rfl) (by kernel_rfl) ?_
          repeat (go_big_quiet_step (fail))
          refine wpQuiet_nil ?_
          rintro w3 ⟨⟨_, he3⟩, rfl⟩
          go_wp2_with fail
          go_roundw
          case rel => exact ⟨k + 1, some k, by omega, rfl, by go_num, hid (by rw [hnx.out]; unfold R.better; rw [if_neg HNO.out]), hid (fun b hb => by cases hb; omega), he.trans (E2.trans he3)⟩
          case measure => simp [intOf]; omega
        | some b =>
          rw [show encO (some b) = (b : Int) from rfl]
          have hbk : b < x.ln := by have := hob.out b rfl; omega
          obtain ⟨_, _, e, hgb, -, s1, -⟩ := (R3.out.ext (E1.trans (he.trans E2))).at3 hbk
          simp only [Option.some.injEq, Addr.mk.injEq] at e
          obtain ⟨rfl, rfl, -⟩ := e
          obtain ⟨d, hd⟩ : ∃ z, Hid (z = x.lo b 1) := ⟨_, hid rfl⟩
          rw [← hd.out] at s1
          have hbi : (b : Int) < (x.ln : Int) := by omega
          have hb0 : ¬ (b : Int) < 0 := by omega
          cases hz : decide (a1 < d)
          · refine wp_region_later (by kernel_rfl) (by kernel_rfl) ?_
            repeat (go_big_quiet_step (fail))
            refine wpQuiet_nil ?_
            rintro w3 ⟨⟨_, he3⟩, rfl⟩
            go_wp2_with fail
            go_roundw
            case rel => exact ⟨k + 1, some b, by omega, rfl, by go_num, hid (by rw [hnx.out]; unfold R.better; rw [if_neg HNO.out]; show _ = if x.lo k 1 < x.lo b 1 then _ else _; rw [if_neg (by rw [← ha1.out, ← hd.out]; exact of_decide_eq_false hz)]), hid (fun b' hb => by have := Option.some.inj hb; have := hob.out b rfl; omega), he.trans (E2.trans he3)⟩
            case measure => simp [intOf]; omega
          · refine wp_region_later (by kernel_rfl) (by kernel_rfl) ?_
            repeat (go_big_quiet_step (fail))
            refine wpQuiet_nil ?_
            rintro w3 ⟨⟨_, he3⟩, rfl⟩
            go_wp2_with fail
            go_roundw
            case rel => exact ⟨k + 1, some k, by omega, rfl, by go_num, hid (by rw [hnx.out]; unfold R.better; rw [if_neg HNO.out]; show _ = if x.lo k 1 < x.lo b 1 then _ else _; rw [if_pos (by rw [← ha1.out, ← hd.out]; exact of_decide_eq_true hz)]), hid (fun b' hb => by have := Option.some.inj hb; have := hob.out b rfl; omega), he.trans (E2.trans he3)⟩
            case measure => simp [intOf]; omega
    · obtain rfl : k = x.ln := by omega
      go_wp2_with fail
      go_ret
      exact ⟨ret_int (by rw [ho.out]; rfl), E1.trans he⟩
end Go.Proofs.YtbceepjjdfpfmaaGreat
