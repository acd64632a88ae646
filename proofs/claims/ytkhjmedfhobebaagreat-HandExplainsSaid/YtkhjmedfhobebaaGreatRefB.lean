/- Walks of the reference: how long a stretch is, its gap, who is there. The watch is right, as Ok says. -/
import Derived.Test.YtkhjmedfhobebaaGreatRefA
namespace Go.Proofs.YtkhjmedfhobebaaGreat
open Go.RowKit HandSpec
set_option maxHeartbeats 400000
set_option maxRecDepth 100000

theorem hours_any {x : WD} (hx : Ok x) {w : World} {v : Value} (hv : IsW w v x) (a b : Nat) (ha : a < x.cn) (hb : b < x.cn) :
    Calls Tryz.prog 119 #[v, .agg #[.int .i64 a, .int .i64 b]] w fun e w' => e = .returned (.int .i64 (R.hours x a b)) ∧ Ext w w' := by
  obtain ⟨A1, c1, A2, c2, A3, c3, rfl, r1, r2, r3⟩ := hv
  have hcn := hx.cn
  obtain ⟨cb, co, rfl, hcb, ca, _, _⟩ := r1.at3 ha
  obtain ⟨_, _, hq, _, cb', _, _⟩ := r1.at3 hb
  obtain ⟨rfl, rfl⟩ : cb = _ ∧ co = _ := by simpa using hq
  have g1 := hx.hour a ha
  have g2 := hx.hour b hb
  have g3 := hx.hours
  clear hq r1 r2 r3 hx
  go_enter Tryz.func119, Tryz.ntmps119
  go_wp2
  refine wp_later fun w1 he => ?_
  obtain ⟨he, ⟨_, k1⟩, ⟨_, k2⟩⟩ := he.new2
  have ca := he.some_ ca
  have cb' := he.some_ cb'
  refine wp_region_later (by kernel_rfl) (by kernel_rfl) ?_
  repeat (go_big_quiet_step (fail))
  refine wpQuiet_nil ?_
  rintro _ ⟨⟨w2, he2⟩, rfl⟩
  go_wp2
  go_ret
  exact ⟨rfl, he.trans he2⟩
theorem gap_any {x : WD} (hx : Ok x) {w : World} {v : Value} (hv : IsW w v x) (a b : Nat) (ha : a < x.cn) (hb : b < x.cn) :
    Calls Tryz.prog 57 #[v, .agg #[.int .i64 a, .int .i64 b]] w fun e w' => e = .returned (.int .i64 (R.gap x a b)) ∧ Ext w w' := by
  have hv0 := hid hv
  obtain ⟨A1, c1, A2, c2, A3, c3, rfl, r1, r2, r3⟩ := hv
  have hcn := hx.cn
  obtain ⟨cb, co, rfl, hcb, ca, la, ua⟩ := r1.at3 ha
  obtain ⟨_, _, hq, _, cb', lb, ub⟩ := r1.at3 hb
  obtain ⟨rfl, rfl⟩ : cb = _ ∧ co = _ := by simpa using hq
  have g1 := hx.hour a ha
  have g2 := hx.hour b hb
  have g3 := hx.hours
  have g4 := hx.lo a ha
  have g5 := hx.hi b hb
  have g6 := hx.allow
  have g7 := R.booked_bound hx a b
  have g8 : 0 ≤ R.hours x a b + 60 ∧ R.hours x a b ≤ 60 := by unfold R.hours; omega
  have g9 : -1200 ≤ x.allow * R.hours x a b ∧ x.allow * R.hours x a b ≤ 1200 := by
    obtain ⟨p, q⟩ := g6
    obtain ⟨r, t⟩ := g8
    have h1 := Int.mul_le_mul_of_nonneg_left t p
    have h2 := Int.mul_le_mul_of_nonneg_left (show -60 ≤ R.hours x a b by omega) p
    omega
  clear hq r1 r2 r3
  go_enter Tryz.func57, Tryz.ntmps57
  go_wp2
  refine wp_later fun w1 he => ?_
  obtain ⟨he, ⟨_, k1⟩, ⟨_, k2⟩⟩ := he.new2
  have ca := he.some_ ca
  have cb' := he.some_ cb'
  have la := he.some_ la
  have ub := he.some_ ub
  have hv1 := hid (hv0.out.ext he)
  refine wp_region_later (by kernel_rfl) (by kernel_rfl) ?_
  repeat (go_big_quiet_step ((first
    | (go_at_call 56; exact Calls.later (booked_any hx (hv1.out.ext (Later.ext _)) a b ha hb))
    | (go_at_call 119; exact Calls.later (hours_any hx (hv1.out.ext (Later.ext _)) a b ha hb)))))
  refine wpQuiet_nil ?_
  rintro _ ⟨⟨w2, he2⟩, rfl⟩
  go_wp2
  go_ret
  exact ⟨rfl, he.trans he2⟩

theorem same_addr {A : Option Addr} {b o b' o' : Nat} (h : A = some ⟨b, o, none⟩) (h' : A = some ⟨b', o', none⟩) : b' = b ∧ o' = o := by
  rw [h] at h'; simp at h'; exact ⟨h'.1.symm, h'.2.symm⟩

set_option maxHeartbeats 1600000 in
theorem is_any {x : WD} (hx : Ok x) {w : World} {v : Value} (hv : IsW w v x) (a b : Nat) (hab : a ≤ b) (hb : b < x.cn) (h : Int) :
    Calls Tryz.prog 126 #[v, .agg #[.int .i64 a, .int .i64 b], .int .i64 h] w fun e w' => e = .returned (.bool (R.is x a b h)) ∧ Ext w w' := by
  obtain ⟨A1, c1, A2, c2, A3, c3, rfl, r1, r2, r3⟩ := hv
  have hcn := hx.cn
  have hsn := hx.sn
  clear r2 hx
  go_enter Tryz.func126, Tryz.ntmps126
  go_wp2
  refine wp_later fun w1 hw1 => ?_
  obtain ⟨he, hk1, hk2⟩ := hw1.new2
  clear hw1
  have hs0 := hk1.1
  have r1 := r1.ext he
  have r3 := r3.ext he
  go_loopw [7, 8, 9] (fun i _ _ wr => ∃ d : Nat, d ≤ b - a ∧ i = .int .i64 ((a + d : Nat) : Int) ∧ Hid (∀ j, j < d → R.isat x h (a + j) = false) ∧ Ext w1 wr) (fun i _ _ _ => b - (intOf i).toNat)
  case atStart => exact ⟨0, Nat.zero_le _, rfl, fun _ h => absurd h (by omega), Ext.refl _⟩
  case round =>
    obtain ⟨d, hd, rfl, hn, he1⟩ := hrel
    obtain ⟨wo, rfl⟩ : ∃ wo : World, wo = wr := ⟨_, rfl⟩
    have k1 := (hk1.ext he1).2
    have k2 := (hk2.ext he1).2
    by_cases hlt : a + d < b
    · generalize hi : a + d = i at *
      go_wp2
      go_loopw [8, 9] (fun kk _ wr => ∃ k : Nat, k ≤ x.sn ∧ kk = .int .i64 (k : Int) ∧ Hid (∀ j, j < k → R.isf x h i j = false) ∧ Ext wo wr) (fun kk _ _ => x.sn - (intOf kk).toNat)
      case atStart => exact ⟨0, Nat.zero_le _, rfl, fun _ h => absurd h (by omega), Ext.refl _⟩
      case round =>
        obtain ⟨k, hk, rfl, hm, he2⟩ := hrel
        have hb1 := hk1.ext (he1.trans he2)
        have hb2 := hk2.ext (he1.trans he2)
        have k1 := hb1.2
        have k2 := hb2.2
        by_cases hks : k < x.sn
        · obtain ⟨sb, so, rfl, hsb, s0, s1, s2⟩ := (r3.ext (he1.trans he2)).at3 hks
          obtain ⟨cb, co, rfl, hcb, ca, _, _⟩ := (r1.ext (he1.trans he2)).at3 (show i < x.cn by omega)
          obtain ⟨_, _, hq, _, cb', _, _⟩ := (r1.ext (he1.trans he2)).at3 (show i + 1 < x.cn by omega)
          obtain ⟨rfl, rfl⟩ := same_addr hq rfl
          have hmk : Hid (R.isf x h i k = R.isf x h i k) := hid rfl
          clear hq r1 r3 hk1 hk2
          go_upto_region 8 with fail
          refine wp_later fun w2 he3 => ?_
          obtain ⟨he3, _, k3⟩ := he3.new
          have ca := he3.some_ ca
          have cb' := he3.some_ cb'
          have k1 := (hb1.ext he3).2
          clear hb1 hb2
          by_cases q0 : x.s k 0 = h
          · have e0 : (x.s k 0 == h) = true := by simp [q0]
            have Q0 := hid q0; clear q0
            by_cases q1 : x.s k 1 < x.c (i+1) 0
            · have e1 : decide (x.s k 1 < x.c (i+1) 0) = true := by simp [q1]
              by_cases q2 : x.c i 0 < x.s k 2
              · have e2 : decide (x.c i 0 < x.s k 2) = true := by simp [q2]
                refine wp_region_later (by kernel_rfl) (by kernel_rfl) ?_
                repeat (go_big_quiet_step (fail))
                refine wpQuiet_nil ?_
                rintro _ ⟨⟨w3, he4⟩, rfl⟩
                go_wp2
                go_ret
                refine ⟨ret_bool (Eq.symm ?_), he.trans (he1.trans (he2.trans (he3.trans he4)))⟩
                unfold R.is
                rw [anyTo_true]
                refine ⟨d, by omega, ?_⟩
                rw [hi]
                unfold R.isat
                rw [anyTo_true]
                exact ⟨k, hks, by simp [R.isf, Q0.out, q1, q2]⟩
              · have e2 : decide (x.c i 0 < x.s k 2) = false := by simpa using q2
                refine wp_region_later (by kernel_rfl) (by kernel_rfl) ?_
                repeat (go_big_quiet_step (fail))
                refine wpQuiet_nil ?_
                rintro _ ⟨⟨w3, he4⟩, rfl⟩
                go_wp2
                go_roundw
                case rel => exact ⟨k + 1, by omega, by go_num, anyTo_step hm.out (by rw [hmk.out]; simp [R.isf, q2]), he2.trans (he3.trans he4)⟩
                case measure => simp [intOf]; omega
            · have e1 : decide (x.s k 1 < x.c (i+1) 0) = false := by simpa using q1
              refine wp_region_later (by kernel_rfl) (by kernel_rfl) ?_
              repeat (go_big_quiet_step (fail))
              refine wpQuiet_nil ?_
              rintro _ ⟨⟨w3, he4⟩, rfl⟩
              go_wp2
              go_roundw
              case rel => exact ⟨k + 1, by omega, by go_num, anyTo_step hm.out (by rw [hmk.out]; simp [R.isf, q1]), he2.trans (he3.trans he4)⟩
              case measure => simp [intOf]; omega
          · have e0 : (x.s k 0 == h) = false := by simpa using q0
            refine wp_region_later (by kernel_rfl) (by kernel_rfl) ?_
            repeat (go_big_quiet_step (fail))
            refine wpQuiet_nil ?_
            rintro _ ⟨⟨w3, he4⟩, rfl⟩
            go_wp2
            go_roundw
            case rel => exact ⟨k + 1, by omega, by go_num, anyTo_step hm.out (by rw [hmk.out]; simp [R.isf, q0]), he2.trans (he3.trans he4)⟩
            case measure => simp [intOf]; omega
        · go_wp2
          go_roundw
          case rel =>
            refine ⟨d + 1, by omega, by rw [← hi]; go_num, anyTo_step hn.out ?_, he1.trans he2⟩
            rw [hi]
            unfold R.isat
            rw [anyTo_false]
            obtain rfl : k = x.sn := by omega
            exact hm.out
          case measure => simp [intOf]; omega
    · go_wp2
      go_ret
      obtain rfl : d = b - a := by omega
      refine ⟨ret_bool (Eq.symm ?_), he.trans he1⟩
      unfold R.is
      rw [anyTo_false]
      exact hn.out
end Go.Proofs.YtkhjmedfhobebaaGreat
