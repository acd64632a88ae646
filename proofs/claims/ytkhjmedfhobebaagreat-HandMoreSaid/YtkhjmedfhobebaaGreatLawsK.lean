/- Walks of what the outright laws share: all stretches, what is booked between two counts, the gap of a stretch, whether a hand is there. No condition. -/
import Derived.Test.YtkhjmedfhobebaaGreatTrueP
namespace Go.Proofs.YtkhjmedfhobebaaGreat
open Go.RowKit HandSpec
set_option maxHeartbeats 1600000
set_option maxRecDepth 100000
theorem all73 {x : WD} {w : World} {v : Value} (hv : IsW w v x) (hn : x.cn ≤ 8) :
    Calls Tryz.prog 73 #[v] w fun e w' => ∃ u, e = .returned u ∧ Ext w w' ∧ OwnR w' w.heap.size 51 2 u (rows2 (stretches x.cn)) := by
  obtain ⟨A1, c1, A2, c2, A3, c3, rfl, r1, r2, r3⟩ := hv
  clear r1 r2 r3
  go_enter Tryz.func73, Tryz.ntmps73
  go_upto_region 3 with fail
  refine wp_later fun w1 hw1 => ?_
  obtain ⟨E1, b1⟩ := hw1.newB
  have B1 := hid b1
  have hb1 := b1.lt
  clear hw1
  go_loopw [3, 9] (fun v j wr => ∃ i : Nat, i ≤ x.cn ∧ j = .int .i64 (i : Int) ∧ Hid (OwnR wr w1.heap.size 51 2 v (rows2 (stretchesTo x.cn i)) ∧ Ext w1 wr)) (fun _ j _ => x.cn - (intOf j).toNat)
  case atStart => exact ⟨0, by omega, rfl, hid ⟨OwnR.nil, Ext.refl _⟩⟩
  case round =>
    obtain ⟨i, hi, rfl, HI⟩ := hrel
    by_cases hlt : i < x.cn
    · go_upto_region 6 with fail
      go_loopw [3, 5] (fun v j wr2 => ∃ k : Nat, (i < k ∧ k ≤ x.cn) ∧ j = .int .i64 (k : Int) ∧ Hid (OwnR wr2 w1.heap.size 51 2 v (rows2 (stretchesTo x.cn i ++ pairsTo k i)) ∧ Ext w1 wr2)) (fun _ j _ => x.cn - (intOf j).toNat)
      case atStart => exact ⟨i + 1, by omega, by go_num, by rw [pairsTo_empty i (i + 1) (Nat.le_refl _), List.append_nil]; exact HI⟩
      case round =>
        obtain ⟨k, hk, rfl, HK⟩ := hrel
        obtain ⟨A, cap, rfl, -⟩ := HK.out.1.slR
        have k1 := (B1.out.ext HK.out.2).cell
        have k1l := (B1.out.ext HK.out.2).lt
        by_cases hkn : k < x.cn
        · have hlen : (stretchesTo x.cn i ++ pairsTo k i).length ≤ 1000 := by
            rw [List.length_append]
            have h1 := stretchesTo_length x.cn i
            have h2 := pairsTo_length i k
            have h3 := Nat.mul_le_mul hi hn
            omega
          have OX := hid (HK.out.1.ext ((Ext.refl _).alloc (.cells #[.int .i64 (i : Int), .int .i64 (k : Int)] 51)))
          have hsz := HK.out.2.size
          have hsz1 := E1.size
          go_wp2_with (at_builtin; go_loud (refine wpList_append_rows rfl _ _ 45 rfl elem45 rfl OX.out _ 1 1 [[_, _]] rfl rfl (by simp) (row2 (Blk.new _ _ _)) (by rw [rows2_length]; omega) (by simp; omega) ?_; intro v' w5 hown2 hg2; have HO2 := hid hown2; have EX := hid (Ext.grown (HK.out.2.alloc _) hg2 (fun j hj => OX.out.block hj)); clear hown2 hg2))
          go_roundw
          case rel =>
            refine ⟨k + 1, by omega, by go_num, hid ⟨?_, EX.out⟩⟩
            have h := HO2.out
            rw [pairsTo_succ, if_pos hk.1, ← List.append_assoc, rows2_append]
            exact h
          case measure => simp [intOf]; omega
        · obtain rfl : k = x.cn := by omega
          go_wp2_with fail
          go_roundw
          case rel =>
            refine ⟨i + 1, by omega, by go_num, hid ⟨?_, HK.out.2⟩⟩
            rw [stretchesTo_succ]
            exact HK.out.1
          case measure => simp [intOf]; omega
    · obtain rfl : i = x.cn := by omega
      go_wp2_with fail
      go_ret
      exact ⟨_, rfl, E1.trans HI.out.2, HI.out.1.base E1.size⟩
theorem books92 {x : WD} (hx : Ok x) {w : World} {v : Value} (hv : IsW w v x) {a b : Nat} (ha : a < x.cn) (hb : b < x.cn) :
    Calls Tryz.prog 92 #[v, .int .i64 (a : Int), .int .i64 (b : Int)] w fun e w' => e = .returned (.int .i64 (R.booked x a b)) ∧ Ext w w' := by
  obtain ⟨A1, c1, A2, c2, A3, c3, rfl, r1, r2, r3⟩ := hv
  obtain ⟨cb, co, rfl, hcb, a0, -, -⟩ := r1.at3 ha
  obtain ⟨_, _, hq, _, b0, -, -⟩ := r1.at3 hb
  obtain ⟨rfl, rfl⟩ := same_addr hq rfl
  have R2 := hid r2
  have hbn := hx.bn
  have hai : (a : Int) < (x.cn : Int) := by omega
  have hbi : (b : Int) < (x.cn : Int) := by omega
  clear hq r1 r2 r3
  go_enter Tryz.func92, Tryz.ntmps92
  go_upto_region 3 with fail
  refine wp_later fun w1 hw1 => ?_
  obtain ⟨E1, b3⟩ := hw1.newB
  have B3 := hid b3
  have A0 := hid (E1.some_ a0)
  have B0 := hid (E1.some_ b0)
  have hcb1 : cb < w1.heap.size := Nat.lt_of_lt_of_le hcb E1.size
  clear hw1 b3 a0 b0 hcb
  go_loopw [7, 13] (fun v j wr => ∃ q : Nat, q ≤ x.bn ∧ v = .int .i64 (sumTo (R.bookf x a b) q) ∧ j = .int .i64 (q : Int) ∧ Ext w1 wr) (fun _ j _ => x.bn - (intOf j).toNat)
  case atStart => exact ⟨0, by omega, rfl, rfl, Ext.refl _⟩
  case round =>
    obtain ⟨q, hq, rfl, rfl, he⟩ := hrel
    by_cases hlq : q < x.bn
    · obtain ⟨bm, om, rfl, hbm, m0, m1⟩ := ((R2.out.ext E1).ext he).at2 hlq
      have hsb := R.booked_bound' hx a b q (by omega)
      have hz := hx.bsack q hlq
      have hsum : sumTo (R.bookf x a b) (q + 1) = sumTo (R.bookf x a b) q + (if x.c a 0 < x.b q 0 ∧ x.b q 0 ≤ x.c b 0 then x.b q 1 else 0) := rfl
      have HSM := hid hsum
      clear hsum
      obtain ⟨S, hS⟩ : ∃ S, S = sumTo (R.bookf x a b) q := ⟨_, rfl⟩
      rw [← hS] at hsb HSM ⊢
      clear hS
      cases q1 : decide (x.c a 0 < x.b q 0) <;> cases q2 : decide (x.b q 0 ≤ x.c b 0)
      all_goals
        go_upto_region 5 with fail
        refine wp_later fun w6 hw6 => ?_
        obtain ⟨e6, b9⟩ := hw6.newB
        have e16 := he.trans e6
        have k9 := b9.cell
        have k9l := b9.lt
        have k3 := (B3.out.ext e16).cell
        have k3l := (B3.out.ext e16).lt
        have ka := e16.some_ A0.out
        have kb := e16.some_ B0.out
        have kl := Nat.lt_of_lt_of_le hcb1 e16.size
        clear hw6 m0 m1 hbm
        refine wp_region_later (by kernel_rfl) (by kernel_rfl) ?_
        repeat (go_big_quiet_step (fail))
        refine wpQuiet_nil ?_
        rintro w7 ⟨⟨_, he7⟩, rfl⟩
        replace k9 := (b9.ext he7).cell
        replace k9l := (b9.ext he7).lt
        clear ka kb kl k3 k3l
        go_wp2
        go_roundw
        case rel =>
          refine ⟨q + 1, by omega, ?_, by go_num, e16.trans he7⟩
          rw [HSM.out]
          by_cases hc : x.c a 0 < x.b q 0 ∧ x.b q 0 ≤ x.c b 0
          · rw [if_pos hc] <;> (exfalso; have h1 := decide_eq_true hc.1; have h2 := decide_eq_true hc.2; simp_all)
          · rw [if_neg hc, Int.add_zero] <;> exact absurd ⟨of_decide_eq_true q1, of_decide_eq_true q2⟩ hc
        case measure => simp [intOf]; omega
    · obtain rfl : x.bn = q := by omega
      go_wp2_with fail
      go_ret
      exact ⟨rfl, E1.trans he⟩
theorem gap74 {x : WD} (hx : Ok x) {w : World} {v : Value} (hv : IsW w v x) {a b : Nat} (hab : a < b) (hb : b < x.cn) :
    Calls Tryz.prog 74 #[v, .agg #[.int .i64 (a : Int), .int .i64 (b : Int)]] w fun e w' => e = .returned (.int .i64 (R.gap x a b)) ∧ Ext w w' := by
  have HV := hid hv
  obtain ⟨A1, c1, A2, c2, A3, c3, rfl, r1, r2, r3⟩ := hv
  have ha : a < x.cn := by omega
  obtain ⟨cb, co, rfl, hcb, a0, a1, a2⟩ := r1.at3 ha
  obtain ⟨_, _, hq, _, b0, b1, b2⟩ := r1.at3 hb
  obtain ⟨rfl, rfl⟩ := same_addr hq rfl
  have g1 := hx.hour a ha
  have g2 := hx.hour b hb
  have g3 := hx.hours
  have g4 := hx.lo a ha
  have g5 := hx.hi b hb
  have g6 := hx.allow
  have g7 := R.booked_bound hx a b
  have g9 : -1200 ≤ x.allow * (x.c b 0 - x.c a 0) ∧ x.allow * (x.c b 0 - x.c a 0) ≤ 1200 := by
    have h1 := Int.mul_le_mul_of_nonneg_left (show x.c b 0 - x.c a 0 ≤ 60 by omega) g6.1
    have h2 := Int.mul_le_mul_of_nonneg_left (show -60 ≤ x.c b 0 - x.c a 0 by omega) g6.1
    omega
  have hm1 : ((a : Nat) : Int) < x.cn := by omega
  have hm2 : ((b : Nat) : Int) < x.cn := by omega
  clear hq r1 r2 r3
  go_enter Tryz.func74, Tryz.ntmps74
  go_upto_region 1 with fail
  refine wp_later fun w1 hw1 => ?_
  obtain ⟨he, hk2, hk3⟩ := hw1.newB2
  have k2 := hk2.cell
  have k3 := hk3.cell
  have a0 := he.some_ a0
  have a1 := he.some_ a1
  have a2 := he.some_ a2
  have b0 := he.some_ b0
  have b1 := he.some_ b1
  have b2 := he.some_ b2
  have hl2 := hk2.lt
  have hl3 := hk3.lt
  clear hw1
  go_cut [5, 6] (fun s5 s6 wx => ∃ g5 g6 : Nat, s5 = .pointer (some ⟨g5, 0, none⟩) ∧ s6 = .pointer (some ⟨g6, 0, none⟩) ∧ Ext w1 wx ∧ Blk wx g5 79 #[.int .i64 (x.c a 0), .int .i64 (x.c a 1), .int .i64 (x.c a 2)] ∧ Blk wx g6 79 #[.int .i64 (x.c b 0), .int .i64 (x.c b 1), .int .i64 (x.c b 2)])
  case first =>
    go_region_held3 (fun w' => Ext w1 w' ∧ ∀ b o, (w1.cell? ⟨b, o, none⟩).isSome = true → w'.cell? ⟨b, o, none⟩ = w1.cell? ⟨b, o, none⟩) (exact Ext.sees (by repeat (first | exact Ext.refl _ | refine Ext.drew ?_ | refine Ext.alloc ?_ _ | (refine Ext.setCell ?_ _ (by simp <;> omega))))) (fail)
    · go_wp2_with fail
      go_meet
      exact ⟨_, _, rfl, rfl, (((Ext.refl _).alloc _).alloc _).drew, (blk2 _).1, (blk2 _).2⟩
    · go_wp2_with fail
      go_meet
      exact ⟨_, _, rfl, rfl, (((Ext.refl _).alloc _).alloc _).drew, (blk2 _).2, (blk2 _).1⟩
  case rest =>
    obtain ⟨g5, g6, rfl, rfl, hex, q5, q6⟩ := hcut
    have k5 := q5.cell
    have k6 := q6.cell
    have k2 := (hk2.ext hex).cell
    have k3 := (hk3.ext hex).cell
    go_wp2_with fail
    refine wp_region_later (by kernel_rfl) (by kernel_rfl) ?_
    repeat (go_big_quiet_step ((go_at_call 92; exact Calls.later (books92 hx ((HV.out.ext (he.trans hex)).ext (Later.ext _)) ha hb))))
    refine wpQuiet_nil ?_
    rintro _ ⟨⟨w3, he3⟩, rfl⟩
    go_wp2
    go_ret
    exact ⟨rfl, he.trans (hex.trans he3)⟩
/-- A hand has a spell between counts a and b. -/
def thereB (x : WD) (h : Int) (a b : Nat) (q : Nat) : Bool := (x.s q 0 == h) && (decide (x.s q 1 < x.c b 0) && decide (x.c a 0 < x.s q 2))
theorem there_is {x : WD} (hx : Ok x) {a b : Nat} (hab : a < b) (hb : b < x.cn) (h : Nat) : anyTo (thereB x h a b) x.sn = R.is x a b h := by
  rw [← P.th_bit hx hab hb]
  unfold P.th
  rw [P.orTo_bit]
  have : ∀ k, k ≤ x.sn → anyTo (thereB x h a b) k = anyTo (fun i => (P.thf x a b i).testBit h) k := by
    intro k
    induction k with
    | zero => intro _; rfl
    | succ k ih =>
      intro hk
      simp only [anyTo]
      rw [ih (by omega)]
      congr 1
      have h0 := (hx.shand k (by omega)).1
      unfold thereB P.thf
      split
      · next hc =>
        rw [decide_eq_true hc.1, decide_eq_true hc.2, Nat.testBit_two_pow]
        simp only [Bool.and_true]
        rw [Bool.eq_iff_iff, decide_eq_true_iff, beq_iff_eq]
        omega
      · next hc =>
        rw [Nat.zero_testBit]
        simp only [Bool.and_eq_false_iff, decide_eq_false_iff_not]
        by_cases h1 : x.s k 1 < x.c b 0
        · exact .inr (.inr fun h2 => hc ⟨h1, h2⟩)
        · exact .inr (.inl h1)
  exact this _ (Nat.le_refl _)
theorem run186 (a f t h : Int) {x : WD} {w : World} {b5 b4 b7 b6 : Nat} {v0 v1 v2 v4 v5 : Value} {A : Option Addr} {c : Nat} {i k : Nat} (hi : i < x.cn) (hk : k < x.cn) (h5 : Blk w b5 3 #[.int .i64 h]) (h4 : Blk w b4 26 #[v0, v1, v2, .slice A x.cn c, v4, v5]) (h7 : Blk w b7 3 #[.int .i64 (k : Int)]) (h6 : Blk w b6 3 #[.int .i64 (i : Int)]) (hr : Rd w A x.cn 3 x.c) :
    Calls Tryz.prog 186 #[.agg #[.int .i64 a, .int .i64 f, .int .i64 t], .pointer (some ⟨b5, 0, none⟩), .pointer (some ⟨b4, 0, none⟩), .pointer (some ⟨b7, 0, none⟩), .pointer (some ⟨b6, 0, none⟩)] w fun e w' => e = .returned (.bool ((a == h) && (decide (f < x.c k 0) && decide (x.c i 0 < t)))) ∧ Ext w w' := by
  obtain ⟨b, o, hA, hbl, c0, -, -⟩ := hr.at3 hi
  obtain ⟨b', o', hA', -, c1, -, -⟩ := hr.at3 hk
  obtain ⟨rfl, rfl⟩ : b' = b ∧ o' = o := by rw [hA] at hA'; simpa using hA'.symm
  subst hA
  clear hA'
  have l5 := h5.lt
  have l4 := h4.lt
  have l7 := h7.lt
  have l6 := h6.lt
  have hi' : (i : Int) < (x.cn : Int) := by omega
  have hk' : (k : Int) < (x.cn : Int) := by omega
  obtain ⟨u, hu⟩ : ∃ u, u = x.c i 0 := ⟨_, rfl⟩
  obtain ⟨z, hz⟩ : ∃ z, z = x.c k 0 := ⟨_, rfl⟩
  rw [← hu] at c0 ⊢
  rw [← hz] at c1 ⊢
  clear hu hz hr hi hk
  cases q0 : (a == h) <;> cases q1 : decide (f < z) <;> cases q2 : decide (u < t)
  all_goals
    go_enter Tryz.func186, Tryz.ntmps186
    go_wp2
    refine wp_later fun w1 hw1 => ?_
    obtain ⟨he, hb3⟩ := hw1.newB
    have k3 := hb3.cell
    have k3l := hb3.lt
    have k5 := (h5.ext he).cell
    have k4 := (h4.ext he).cell
    have k7 := (h7.ext he).cell
    have k6 := (h6.ext he).cell
    replace c0 := he.some_ c0
    replace c1 := he.some_ c1
    have hsz := he.size
    clear hw1
    refine wp_region_later (by kernel_rfl) (by kernel_rfl) ?_
    repeat (go_big_quiet_step (fail))
    refine wpQuiet_nil ?_
    rintro _ ⟨⟨w2, he2⟩, rfl⟩
    go_wp2
    go_ret
    exact ⟨rfl, he.trans he2⟩
theorem asks186 {x : WD} {w : World} {b5 b4 b7 b6 m : Nat} {v0 v1 v2 v4 v5 : Value} {A : Option Addr} {c : Nat} {h : Int} {g : Nat → Nat → Int} {i k : Nat} (hi : i < x.cn) (hk : k < x.cn) (h5 : Blk w b5 3 #[.int .i64 h]) (h4 : Blk w b4 26 #[v0, v1, v2, .slice A x.cn c, v4, v5]) (h7 : Blk w b7 3 #[.int .i64 (k : Int)]) (h6 : Blk w b6 3 #[.int .i64 (i : Int)]) (hr : Rd w A x.cn 3 x.c) :
    Asks w (.func (.func 186) #[] #[.pointer (some ⟨b5, 0, none⟩), .pointer (some ⟨b4, 0, none⟩), .pointer (some ⟨b7, 0, none⟩), .pointer (some ⟨b6, 0, none⟩)]) m (enc3 g) (fun q => (g q 0 == h) && (decide (g q 1 < x.c k 0) && decide (x.c i 0 < g q 2))) :=
  ⟨_, _, rfl, enters_ Tryz.func186 (by kernel_rfl) rfl, fun q _ w' e => run186 _ _ _ h hi hk (h5.ext e) (h4.ext e) (h7.ext e) (h6.ext e) (hr.ext e)⟩
theorem there84 {x : WD} (hx : Ok x) {w : World} {v : Value} (hv : IsW w v x) {a b : Nat} (hab : a < b) (hb : b < x.cn) (h : Nat) :
    Calls Tryz.prog 84 #[v, .int .i64 (h : Int), .int .i64 (a : Int), .int .i64 (b : Int)] w fun e w' => e = .returned (.bool (R.is x a b h)) ∧ Ext w w' := by
  have HT := hid (there_is hx hab hb h)
  have hsn := hx.sn
  obtain ⟨A1, c1, A2, c2, A3, c3, rfl, r1, r2, r3⟩ := hv
  have R1 := hid r1
  have R3 := hid r3
  clear r1 r2 r3
  go_enter Tryz.func84, Tryz.ntmps84
  go_upto_region 1 with fail
  refine wp_later fun w1 hw1 => ?_
  obtain ⟨h1, b6, b7⟩ := hw1.newB2
  obtain ⟨E1, b4, b5⟩ := h1.newB2
  rw [World.size_alloc, World.size_alloc] at b6 b7
  clear hw1 h1
  have k4 := b4.cell
  have k4l := b4.lt
  have R31 := hid (R3.out.ext E1)
  have HA := hid (asks186 (x := x) (h := (h : Int)) (m := x.sn) (g := x.s) (show a < x.cn by omega) hb b5 b4 b7 b6 (R1.out.ext E1))
  go_wp2_with (go_at_call 182; refine (containsFunc182 R31.out (by omega) HA.out).mono ?_; rintro e w2 ⟨rfl, he2⟩)
  go_ret
  exact ⟨ret_bool HT.out, E1.trans he2⟩
theorem run190 {x : WD} (hx : Ok x) {w : World} {b3 b5 : Nat} {A1 A2 A3 : Option Addr} {c1 c2 c3 : Nat} (h3 : Blk w b3 26 #[.int .i64 x.hours, .int .i64 x.allow, .int .i64 x.hands, .slice A1 x.cn c1, .slice A2 x.bn c2, .slice A3 x.sn c3]) (hv : IsW w (.agg #[.int .i64 x.hours, .int .i64 x.allow, .int .i64 x.hands, .slice A1 x.cn c1, .slice A2 x.bn c2, .slice A3 x.sn c3]) x) {a b : Nat} (hab : a < b) (hb : b < x.cn) (h5 : Blk w b5 51 #[.int .i64 (a : Int), .int .i64 (b : Int)]) (h : Nat) :
    Calls Tryz.prog 190 #[.int .i64 (h : Int), .pointer (some ⟨b3, 0, none⟩), .pointer (some ⟨b5, 0, none⟩)] w fun e w' => e = .returned (.bool (R.is x a b h)) ∧ Ext w w' := by
  have HV := hid hv
  clear hv
  have k3 := h3.cell
  have k3l := h3.lt
  have k5 := h5.cell
  have k5l := h5.lt
  go_enter Tryz.func190, Tryz.ntmps190
  go_wp2_with (go_at_call 84; refine (there84 hx HV.out hab hb h).mono ?_; rintro e w2 ⟨rfl, he2⟩)
  go_ret
  exact ⟨rfl, he2⟩
/-- One of some hands is there in a stretch. -/
theorem met93 {x : WD} (hx : Ok x) {w : World} {v u : Value} (hv : IsW w v x) {a b : Nat} (hab : a < b) (hb : b < x.cn) {l : List Nat} (hu : SlR w 1 u (rows1 l)) (hn : l.length ≤ 1000) :
    Calls Tryz.prog 93 #[v, u, .agg #[.int .i64 (a : Int), .int .i64 (b : Int)]] w fun e w' => e = .returned (.bool (l.any fun h => R.is x a b h)) ∧ Ext w w' := by
  have HV := hid hv
  obtain ⟨A1, c1, A2, c2, A3, c3, rfl, r1, r2, r3⟩ := hv
  clear r1 r2 r3
  obtain ⟨A, cap, rfl, hr⟩ := hu
  rw [rows1_length] at hr ⊢
  have HR := hid hr
  have HT := hid (show anyTo (fun k => R.is x a b (l.getD k 0 : Nat)) l.length = l.any fun h => R.is x a b h by
    rw [Bool.eq_iff_iff, anyTo_true, List.any_eq_true]
    constructor
    · rintro ⟨k, hk, h1⟩
      refine ⟨l[k], List.getElem_mem hk, ?_⟩
      rw [List.getD_eq_getElem?_getD, List.getElem?_eq_getElem hk] at h1
      exact h1
    · rintro ⟨h, hm, h1⟩
      obtain ⟨k, hk, rfl⟩ := List.getElem_of_mem hm
      refine ⟨k, hk, ?_⟩
      rw [List.getD_eq_getElem?_getD, List.getElem?_eq_getElem hk]
      exact h1)
  clear hr
  go_enter Tryz.func93, Tryz.ntmps93
  go_upto_region 1 with fail
  refine wp_later fun w1 hw1 => ?_
  obtain ⟨E1, b3, b5⟩ := hw1.newB2
  clear hw1
  have HA := hid (show Asks w1 (.func (.func 190) #[] #[.pointer (some ⟨w.heap.size, 0, none⟩), .pointer (some ⟨w.heap.size + 1, 0, none⟩)]) l.length (enc1 (rowsAt (rows1 l))) (fun k => R.is x a b (l.getD k 0 : Nat)) from
    ⟨_, _, rfl, enters_ Tryz.func190 (by kernel_rfl) rfl, fun k hk w' e => by
      have : rowsAt (rows1 l) k 0 = ((l.getD k 0 : Nat) : Int) := by
        unfold rowsAt rows1
        simp [hk]
      unfold enc1
      rw [this]
      exact run190 hx (b3.ext e) (HV.out.ext (E1.trans e)) hab hb (b5.ext e) _⟩)
  go_wp2_with (go_at_call 85; refine (containsFunc85 (HR.out.ext E1) hn HA.out).mono ?_; rintro e w2 ⟨rfl, he2⟩)
  go_ret
  exact ⟨ret_bool HT.out, E1.trans he2⟩
end Go.Proofs.YtkhjmedfhobebaaGreat
