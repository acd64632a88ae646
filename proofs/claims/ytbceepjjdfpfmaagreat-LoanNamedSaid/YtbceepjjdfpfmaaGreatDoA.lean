/- Walks of the program's short functions. The ledger is right, where it says so. -/
import Derived.Test.YtbceepjjdfpfmaaGreatRefA
import Derived.Test.YtbceepjjdfpfmaaGreatHeld
namespace Go.Proofs.YtbceepjjdfpfmaaGreat
open Go.RowKit HandSpec LoanSpec
set_option maxHeartbeats 1600000
set_option maxRecDepth 100000
theorem has47 {w : World} {A : Option Addr} {n cap : Nat} {g : Nat → Nat → Int} (hr : Rd w A n 1 g) (hn : n ≤ 1000) (z : Int) :
    Calls Tryz.prog 47 #[.slice A n cap, .int .i64 z] w fun e w' => e = .returned (.bool (hasB (fun k => g k 0) n z)) ∧ Ext w w' := by
  have h : (fun k => z == g k 0) = fun k => g k 0 == z := by funext k; exact BEq.comm
  have h2 := contains47 (cap := cap) hr hn z
  rw [h] at h2
  exact h2
theorem farmer103 {x : LD} {w : World} {v : Value} (hv : IsL w v x) (hf : 1 ≤ x.folk ∧ x.folk ≤ 9) (n : Int) :
    Calls Tryz.prog 103 #[v, .int .i64 n] w fun e w' => e = .returned (.bool (inB n 1 (x.folk - 1))) ∧ Ext w w' := by
  obtain ⟨A1, c1, A2, c2, A3, c3, A4, c4, A5, c5, rfl, r1, r2, r3, r4, r5⟩ := hv
  clear r1 r2 r3 r4 r5
  go_enter Tryz.func103, Tryz.ntmps103
  go_upto_region 1 with fail
  refine wp_later fun w1 hw1 => ?_
  obtain ⟨E1, b2⟩ := hw1.newB
  have k2 := b2.cell
  have k2l := b2.lt
  clear hw1 b2
  go_wp2_with (go_at_call 101; refine (in_any _ _ _ _).mono ?_; rintro e w2 ⟨rfl, rfl⟩)
  go_ret
  exact ⟨rfl, E1⟩
theorem year115 {x : LD} {w : World} {v : Value} (hv : IsL w v x) (hf : 1 ≤ x.years ∧ x.years ≤ 9) (n : Int) :
    Calls Tryz.prog 115 #[v, .int .i64 n] w fun e w' => e = .returned (.bool (inB n 0 (x.years - 1))) ∧ Ext w w' := by
  obtain ⟨A1, c1, A2, c2, A3, c3, A4, c4, A5, c5, rfl, r1, r2, r3, r4, r5⟩ := hv
  clear r1 r2 r3 r4 r5
  go_enter Tryz.func115, Tryz.ntmps115
  go_upto_region 1 with fail
  refine wp_later fun w1 hw1 => ?_
  obtain ⟨E1, b2⟩ := hw1.newB
  have k2 := b2.cell
  have k2l := b2.lt
  clear hw1 b2
  go_wp2_with (go_at_call 101; refine (in_any _ _ _ _).mono ?_; rintro e w2 ⟨rfl, rfl⟩)
  go_ret
  exact ⟨rfl, E1⟩
theorem person118 {x : LD} {w : World} {v : Value} (hv : IsL w v x) (hf : 1 ≤ x.folk ∧ x.folk ≤ 9) (n : Int) :
    Calls Tryz.prog 118 #[v, .int .i64 n] w fun e w' => e = .returned (.bool (inB n 0 (x.folk - 1))) ∧ Ext w w' := by
  obtain ⟨A1, c1, A2, c2, A3, c3, A4, c4, A5, c5, rfl, r1, r2, r3, r4, r5⟩ := hv
  clear r1 r2 r3 r4 r5
  go_enter Tryz.func118, Tryz.ntmps118
  go_upto_region 1 with fail
  refine wp_later fun w1 hw1 => ?_
  obtain ⟨E1, b2⟩ := hw1.newB
  have k2 := b2.cell
  have k2l := b2.lt
  clear hw1 b2
  go_wp2_with (go_at_call 101; refine (in_any _ _ _ _).mono ?_; rintro e w2 ⟨rfl, rfl⟩)
  go_ret
  exact ⟨rfl, E1⟩
theorem loan126 {x : LD} {w : World} {v : Value} (hv : IsL w v x) (hl : x.ln ≤ 1000) (n : Int) :
    Calls Tryz.prog 126 #[v, .int .i64 n] w fun e w' => e = .returned (.bool (inB n 0 ((x.ln : Int) - 1))) ∧ Ext w w' := by
  obtain ⟨A1, c1, A2, c2, A3, c3, A4, c4, A5, c5, rfl, r1, r2, r3, r4, r5⟩ := hv
  clear r1 r2 r3 r4 r5
  go_enter Tryz.func126, Tryz.ntmps126
  go_upto_region 1 with fail
  refine wp_later fun w1 hw1 => ?_
  obtain ⟨E1, b2⟩ := hw1.newB
  have k2 := b2.cell
  have k2l := b2.lt
  clear hw1 b2
  go_wp2_with (go_at_call 101; refine (in_any _ _ _ _).mono ?_; rintro e w2 ⟨rfl, rfl⟩)
  go_ret
  exact ⟨rfl, E1⟩
theorem bushels121 (n : Int) (w : World) : Calls Tryz.prog 121 #[.int .i64 n] w fun e w' => e = .returned (.bool (inB n 1 500)) ∧ w = w' := by
  go_enter Tryz.func121, Tryz.ntmps121
  go_wp2_with (go_at_call 101; refine (in_any _ _ _ _).mono ?_; rintro e w2 ⟨rfl, rfl⟩)
  go_ret
  exact ⟨rfl, rfl⟩
theorem due102 {x : LD} (hx : Ok x) {w : World} {v : Value} (hv : IsL w v x) (hb : x.bn ≤ 1000) {i : Nat} (hi : i < x.ln) :
    Calls Tryz.prog 102 #[v, .int .i64 (i : Int)] w fun e w' => e = .returned (.int .i64 (P.due x i)) ∧ Ext w w' := by
  obtain ⟨A1, c1, A2, c2, A3, c3, A4, c4, A5, c5, rfl, r1, r2, r3, r4, r5⟩ := hv
  have hs := hx.lyear i hi
  have hy := hx.years
  obtain ⟨ga, oa, rfl, hga, -, q1, -⟩ := r3.at3 hi
  have R1 := hid r1
  have hii : (i : Int) < (x.ln : Int) := by omega
  obtain ⟨b, hbb⟩ : ∃ b, Hid (b = x.lo i 1) := ⟨_, hid rfl⟩
  rw [← hbb.out] at q1 hs
  clear r1 r2 r3 r4 r5
  go_enter Tryz.func102, Tryz.ntmps102
  go_upto_region 1 with fail
  refine wp_later fun w1 hw1 => ?_
  obtain ⟨E1, b2⟩ := hw1.newB
  have B2 := hid b2
  have k2 := b2.cell
  have k2l := b2.lt
  have q1 := E1.some_ q1
  have hga2 := Nat.lt_of_lt_of_le hga E1.size
  clear hw1 b2
  go_upto_region 2 with fail
  clear k2 k2l
  go_loopw [5] (fun c wr => ∃ y : Int, c = .int .i64 y ∧ b ≤ y ∧ y ≤ x.years ∧ Hid (P.due x i = P.dueTo x y (x.years - y).toNat) ∧ Ext w1 wr) (fun c _ => 20 - (intOf c).toNat)
  case atStart => exact ⟨b, rfl, by omega, by omega, hid (by unfold P.due; rw [← hbb.out]), Ext.refl _⟩
  case round =>
    obtain ⟨y, rfl, hy1, hy2, hd, he⟩ := hrel
    have k2 := (B2.out.ext he).cell
    have k2l := (B2.out.ext he).lt
    by_cases hlt : y < x.years
    · obtain ⟨hB, hhB⟩ : ∃ h, Hid (h = hasB x.bad x.bn y) := ⟨_, hid rfl⟩
      have hst : P.dueTo x y (x.years - y).toNat = if hB then P.dueTo x (y + 1) (x.years - (y + 1)).toNat else y := by
        rw [show (x.years - y).toNat = (x.years - (y + 1)).toNat + 1 by omega, hhB.out]; rfl
      have HST := hid hst
      clear hst
      cases hB
      · go_wp2_with (go_at_call 47; refine (has47 (R1.out.ext (E1.trans he)) hb _).mono ?_; rintro e w2 ⟨rfl, he2⟩; rw [← hhB.out])
        go_ret
        exact ⟨ret_int (by rw [hd.out, HST.out]; simp), E1.trans (he.trans he2)⟩
      · go_wp2_with (go_at_call 47; refine (has47 (R1.out.ext (E1.trans he)) hb _).mono ?_; rintro e w2 ⟨rfl, he2⟩; rw [← hhB.out])
        go_roundw
        case rel => exact ⟨y + 1, rfl, by omega, by omega, hid (by rw [hd.out, HST.out]; simp), he.trans he2⟩
        case measure => simp [intOf]; omega
    · go_wp2_with fail
      go_ret
      exact ⟨ret_int (by rw [hd.out, show (x.years - y).toNat = 0 by omega]; rfl), E1.trans he⟩
theorem rising131 {w : World} {A : Option Addr} {n cap : Nat} {g : Nat → Nat → Int} (hr : Rd w A n 1 g) (hn : n ≤ 1000) :
    Calls Tryz.prog 131 #[.slice A n cap] w fun e w' => e = .returned (.bool (!fallB (fun k => g k 0) n)) ∧ Ext w w' := by
  have HR := hid hr
  clear hr
  go_enter Tryz.func131, Tryz.ntmps131
  go_upto_region 2 with fail
  go_loopw [3] (fun j wr => ∃ k : Nat, k ≤ n - 1 ∧ j = .int .i64 ((k : Int) + 1) ∧ Hid (∀ i, i < k → decide (g (i+1) 0 ≤ g i 0) = false) ∧ Ext w wr) (fun j _ => n - (intOf j).toNat)
  case atStart => exact ⟨0, by omega, rfl, hid fun i hi => by omega, Ext.refl _⟩
  case round =>
    obtain ⟨k, hk, rfl, hi, he⟩ := hrel
    by_cases hlt : k + 1 < n
    · obtain ⟨ga, oa, hA, hga, p0⟩ := (HR.out.ext he).at1 hlt
      obtain ⟨gb, ob, hB, hgb, p1⟩ := (HR.out.ext he).at1 (show k < n by omega)
      obtain ⟨rfl, rfl⟩ := same_addr hB hA
      subst hA
      obtain ⟨q, hq⟩ : ∃ q, Hid (q = g (k+1) 0) := ⟨_, hid rfl⟩
      obtain ⟨q', hq'⟩ : ∃ q, Hid (q = g k 0) := ⟨_, hid rfl⟩
      rw [← hq.out] at p0
      rw [← hq'.out] at p1
      have p0' : wr.cell? ⟨ga, oa + (((k : Int) + 1).toNat), none⟩ = some (.int .i64 q) := by rw [show ((k : Int) + 1).toNat = k + 1 by omega]; exact p0
      have hki : (k : Int) + 1 < (n : Int) := by omega
      have hsub : (k : Int) + 1 - 1 = (k : Int) := by omega
      go_upto_region 4 with fail
      cases hz : decide (q ≤ q')
      · refine wp_region_later (by kernel_rfl) (by kernel_rfl) ?_
        repeat (go_big_quiet_step (fail))
        refine wpQuiet_nil ?_
        rintro w2 ⟨⟨_, he2⟩, rfl⟩
        go_wp2_with fail
        go_roundw
        case rel =>
          refine ⟨k + 1, by omega, by go_num, hid fun i hi' => ?_, he.trans he2⟩
          rcases Nat.lt_or_eq_of_le (Nat.le_of_lt_succ hi') with h3 | h3
          · exact hi.out i h3
          · rw [h3, ← hq.out, ← hq'.out]; exact hz
        case measure => simp [intOf]; omega
      · refine wp_region_later (by kernel_rfl) (by kernel_rfl) ?_
        repeat (go_big_quiet_step (fail))
        refine wpQuiet_nil ?_
        rintro w2 ⟨⟨_, he2⟩, rfl⟩
        go_wp2_with fail
        go_ret
        refine ⟨ret_bool ?_, he.trans he2⟩
        rw [show fallB (fun k => g k 0) n = true from anyTo_true.2 ⟨k, by omega, by show decide (g (k+1) 0 ≤ g k 0) = true; rw [← hq.out, ← hq'.out]; exact hz⟩]; rfl
    · go_wp2_with fail
      go_ret
      exact ⟨ret_bool (by rw [show fallB (fun k => g k 0) n = false from anyTo_false.2 fun i h => hi.out i (by omega)]; rfl), he⟩
theorem asked135 {x : LD} (hx : Ok x) {w : World} {v : Value} (hv : IsL w v x) (hf : x.fn ≤ 1000) {i : Nat} (hi : i < x.ln) :
    Calls Tryz.prog 135 #[v, .int .i64 (i : Int)] w fun e w' => e = .returned (.int .i64 (P.asked x i)) ∧ Ext w w' := by
  obtain ⟨A1, c1, A2, c2, A3, c3, A4, c4, A5, c5, rfl, r1, r2, r3, r4, r5⟩ := hv
  have hs := hx.lsack i hi
  obtain ⟨ga, oa, rfl, hga, -, -, q2⟩ := r3.at3 hi
  have R2 := hid r2
  have hii : (i : Int) < (x.ln : Int) := by omega
  obtain ⟨b, hb⟩ : ∃ b, Hid (b = x.lo i 2) := ⟨_, hid rfl⟩
  rw [← hb.out] at q2 hs
  obtain ⟨hB, hhB⟩ : ∃ h, Hid (h = hasB x.fo x.fn (i : Int)) := ⟨_, hid rfl⟩
  clear r1 r2 r3 r4 r5
  go_enter Tryz.func135, Tryz.ntmps135
  go_upto_region 1 with fail
  refine wp_later fun w1 hw1 => ?_
  obtain ⟨E1, b2⟩ := hw1.newB
  have B2 := hid b2
  have k2 := b2.cell
  have k2l := b2.lt
  clear hw1 b2
  go_upto_if 9 with (go_at_call 47; refine (has47 (R2.out.ext E1) hf _).mono ?_; rintro e w2 ⟨rfl, he2⟩; rw [← hhB.out]; have E2 := hid (E1.trans he2); have k2 := (B2.out.ext he2).cell; have k2l := (B2.out.ext he2).lt; have q2 := E2.out.some_ q2; have hga2 := Nat.lt_of_lt_of_le hga E2.out.size; clear he2)
  have htd : Int.tdiv (b + 9) 10 = (b + 9) / 10 := Int.tdiv_eq_ediv_of_nonneg (by omega)
  cases hB
  · go_wp2_with fail
    go_ret
    refine ⟨ret_int ?_, E2.out⟩
    unfold P.asked
    rw [← hhB.out, if_neg (by simp), ← hb.out]
  · go_wp2_with fail
    go_ret
    refine ⟨ret_int ?_, E2.out⟩
    unfold P.asked
    rw [← hhB.out, if_pos rfl]
end Go.Proofs.YtbceepjjdfpfmaaGreat
