/- Walks of the functions of the reference that are short: sums, hands, gaps. No condition. -/
import Derived.Test.YtkhjmedfhobebaaGreatProg
import Derived.Test.YtkhjmedfhobebaaGreatCore
import Derived.Test.YtkhjmedfhobebaaGreatSpec
namespace Go.Proofs.YtkhjmedfhobebaaGreat
open Go.RowKit HandSpec
set_option maxHeartbeats 400000
set_option maxRecDepth 100000

theorem ret_int {k : IntKind} {a b : Int} (h : a = b) : Ending.returned (.int k a) = .returned (.int k b) := by rw [h]
theorem ret_bool {a b : Bool} (h : a = b) : Ending.returned (.bool a) = .returned (.bool b) := by rw [h]

/-- A value that is a watch: three numbers, three slices that can be read. -/
def IsW (w : World) (v : Value) (x : WD) : Prop :=
 ∃ A1 c1 A2 c2 A3 c3, v = .agg #[.int .i64 x.hours, .int .i64 x.allow, .int .i64 x.hands, .slice A1 x.cn c1, .slice A2 x.bn c2, .slice A3 x.sn c3] ∧
  Rd w A1 x.cn 3 x.c ∧ Rd w A2 x.bn 2 x.b ∧ Rd w A3 x.sn 3 x.s
theorem IsW.ext {w w' : World} {v : Value} {x : WD} (h : IsW w v x) (e : Ext w w') : IsW w' v x := by
 obtain ⟨A1, c1, A2, c2, A3, c3, hv, h1, h2, h3⟩ := h
 exact ⟨A1, c1, A2, c2, A3, c3, hv, h1.ext e, h2.ext e, h3.ext e⟩

theorem off_any (n lo hi : Int) (w : World) : Calls Tryz.prog 117 #[.int .i64 n, .int .i64 lo, .int .i64 hi] w fun e w' => e = .returned (.bool (offB n lo hi)) ∧ w = w' := by
 by_cases h1 : n < lo
 ·go_enter Tryz.func117, Tryz.ntmps117
  go_wp2
  go_ret
  exact ⟨ret_bool (by simp [offB, h1]), rfl⟩
 ·by_cases h2 : hi < n
  all_goals
   go_enter Tryz.func117, Tryz.ntmps117
   go_wp2
   go_ret
   exact ⟨ret_bool (by simp [offB, h1, h2]), rfl⟩

theorem booked_any {x : WD} (hx : Ok x) {w : World} {v : Value} (hv : IsW w v x) (a b : Nat) (ha : a < x.cn) (hb : b < x.cn) :
  Calls Tryz.prog 56 #[v, .agg #[.int .i64 a, .int .i64 b]] w fun e w' => e = .returned (.int .i64 (R.booked x a b)) ∧ Ext w w' := by
 obtain ⟨A1, c1, A2, c2, A3, c3, rfl, r1, r2, r3⟩ := hv
 have hcn := hx.cn
 have hbn := hx.bn
 obtain ⟨cb, co, rfl, hcb, ca, _, _⟩ := r1.at3 ha
 obtain ⟨_, _, hq, _, cb', _, _⟩ := r1.at3 hb
 obtain ⟨rfl, rfl⟩ : cb = _ ∧ co = _ := by simpa using hq
 clear hq r1 r3
 go_enter Tryz.func56, Tryz.ntmps56
 go_wp2
 go_loop [5, 6, 7] (fun n i _ => ∃ k : Nat, k ≤ x.bn ∧ i = .int .i64 k ∧ n = .int .i64 (sumTo (R.bookf x a b) k)) (fun _ i _ => x.bn - (intOf i).toNat)
 case atStart => exact ⟨0, Nat.zero_le _, rfl, rfl⟩
 case round =>
  obtain ⟨k, hk, rfl, rfl⟩ := hrel
  by_cases hlt : k < x.bn
  ·obtain ⟨bb, bo, rfl, hbb, b0, b1⟩ := r2.at2 hlt
   obtain ⟨g1, g2⟩ := R.booked_bound' hx a b k hk
   obtain ⟨g3, g4⟩ := hx.bsack k hlt
   have hs : sumTo (R.bookf x a b) (k+1) = sumTo (R.bookf x a b) k + R.bookf x a b k := rfl
   have HS := hid hs
   clear hs hx r2
   by_cases q1 : x.c a 0 < x.b k 0
   ·by_cases q2 : x.b k 0 ≤ x.c b 0
    all_goals
     have HQ : Hid _ := hid (show R.bookf x a b k = _ by unfold R.bookf; simp [q1, q2]; rfl)
     go_wp2
     go_round
     case rel => exact ⟨k + 1, by omega, by go_num, by simp only [HS.out, HQ.out, Int.add_zero]⟩
     case measure => simp [intOf]; omega
   ·have HQ : Hid _ := hid (show R.bookf x a b k = _ by unfold R.bookf; simp [q1]; rfl)
    go_wp2
    go_round
    case rel => exact ⟨k + 1, by omega, by go_num, by simp only [HS.out, HQ.out, Int.add_zero]⟩
    case measure => simp [intOf]; omega
  ·go_wp2
   go_ret
   obtain rfl : k = x.bn := by omega
   exact ⟨rfl, ((Ext.refl _).alloc _).alloc _⟩

end Go.Proofs.YtkhjmedfhobebaaGreat
namespace Go.Proofs.YtkhjmedfhobebaaGreat
open Go.RowKit HandSpec
set_option maxHeartbeats 400000
set_option maxRecDepth 100000

theorem hours_any {x : WD} (hx : Ok x) {w : World} {v : Value} (hv : IsW w v x) (a b : Nat) (ha : a < x.cn) (hb : b < x.cn) :
  Calls Tryz.prog 119 #[v, .agg #[.int .i64 a, .int .i64 b]] w fun e w' => e = .returned (.int .i64 (R.hours x a b)) ∧ Ext w w' := by
 obtain ⟨A1, c1, A2, c2, A3, c3, rfl, r1, r2, r3⟩ := hv
 have hcn := hx.cn
 obtain ⟨cb, co, rfl, hcb, ca, _, _⟩ := r1.at3 ha
 obtain ⟨_, _, hq, _, cb', _, _⟩ := r1.at3 hb
 obtain ⟨rfl, rfl⟩ : cb = _ ∧ co = _ := by simpa using hq
 have g1 := hx.hour a ha
 have g2 := hx.hour b hb
 have g3 := hx.hours
 clear hq r1 r2 r3 hx
 go_enter Tryz.func119, Tryz.ntmps119
 go_wp2
 refine wp_later fun w1 he => ?_
 obtain ⟨he, ⟨_, k1⟩, ⟨_, k2⟩⟩ := he.new2
 have ca := he.some_ ca
 have cb' := he.some_ cb'
 refine wp_region_later (by kernel_rfl) (by kernel_rfl) ?_
 repeat (go_big_quiet_step (fail))
 refine wpQuiet_nil ?_
 rintro _ ⟨⟨w2, he2⟩, rfl⟩
 go_wp2
 go_ret
 exact ⟨rfl, he.trans he2⟩
theorem gap_any {x : WD} (hx : Ok x) {w : World} {v : Value} (hv : IsW w v x) (a b : Nat) (ha : a < x.cn) (hb : b < x.cn) :
  Calls Tryz.prog 57 #[v, .agg #[.int .i64 a, .int .i64 b]] w fun e w' => e = .returned (.int .i64 (R.gap x a b)) ∧ Ext w w' := by
 have hv0 := hid hv
 obtain ⟨A1, c1, A2, c2, A3, c3, rfl, r1, r2, r3⟩ := hv
 have hcn := hx.cn
 obtain ⟨cb, co, rfl, hcb, ca, la, ua⟩ := r1.at3 ha
 obtain ⟨_, _, hq, _, cb', lb, ub⟩ := r1.at3 hb
 obtain ⟨rfl, rfl⟩ : cb = _ ∧ co = _ := by simpa using hq
 have g1 := hx.hour a ha
 have g2 := hx.hour b hb
 have g3 := hx.hours
 have g4 := hx.lo a ha
 have g5 := hx.hi b hb
 have g6 := hx.allow
 have g7 := R.booked_bound hx a b
 have g8 : 0 ≤ R.hours x a b + 60 ∧ R.hours x a b ≤ 60 := by unfold R.hours; omega
 have g9 : -1200 ≤ x.allow * R.hours x a b ∧ x.allow * R.hours x a b ≤ 1200 := by
  obtain ⟨p, q⟩ := g6
  obtain ⟨r, t⟩ := g8
  have h1 := Int.mul_le_mul_of_nonneg_left t p
  have h2 := Int.mul_le_mul_of_nonneg_left (show -60 ≤ R.hours x a b by omega) p
  omega
 clear hq r1 r2 r3
 go_enter Tryz.func57, Tryz.ntmps57
 go_wp2
 refine wp_later fun w1 he => ?_
 obtain ⟨he, ⟨_, k1⟩, ⟨_, k2⟩⟩ := he.new2
 have ca := he.some_ ca
 have cb' := he.some_ cb'
 have la := he.some_ la
 have ub := he.some_ ub
 have hv1 := hid (hv0.out.ext he)
 refine wp_region_later (by kernel_rfl) (by kernel_rfl) ?_
 repeat (go_big_quiet_step ((first
  | (go_at_call 56; exact Calls.later (booked_any hx (hv1.out.ext (Later.ext _)) a b ha hb))
  | (go_at_call 119; exact Calls.later (hours_any hx (hv1.out.ext (Later.ext _)) a b ha hb)))))
 refine wpQuiet_nil ?_
 rintro _ ⟨⟨w2, he2⟩, rfl⟩
 go_wp2
 go_ret
 exact ⟨rfl, he.trans he2⟩

theorem same_addr {A : Option Addr} {b o b' o' : Nat} (h : A = some ⟨b, o, none⟩) (h' : A = some ⟨b', o', none⟩) : b' = b ∧ o' = o := by
 rw [h] at h'; simp at h'; exact ⟨h'.1.symm, h'.2.symm⟩

set_option maxHeartbeats 1600000 in
theorem is_any {x : WD} (hx : Ok x) {w : World} {v : Value} (hv : IsW w v x) (a b : Nat) (hab : a ≤ b) (hb : b < x.cn) (h : Int) :
  Calls Tryz.prog 126 #[v, .agg #[.int .i64 a, .int .i64 b], .int .i64 h] w fun e w' => e = .returned (.bool (R.is x a b h)) ∧ Ext w w' := by
 obtain ⟨A1, c1, A2, c2, A3, c3, rfl, r1, r2, r3⟩ := hv
 have hcn := hx.cn
 have hsn := hx.sn
 clear r2 hx
 go_enter Tryz.func126, Tryz.ntmps126
 go_wp2
 refine wp_later fun w1 hw1 => ?_
 obtain ⟨he, hk1, hk2⟩ := hw1.new2
 clear hw1
 have hs0 := hk1.1
 have r1 := r1.ext he
 have r3 := r3.ext he
 go_loopw [7, 8, 9] (fun i _ _ wr => ∃ d : Nat, d ≤ b - a ∧ i = .int .i64 ((a + d : Nat) : Int) ∧ Hid (∀ j, j < d → R.isat x h (a + j) = false) ∧ Ext w1 wr) (fun i _ _ _ => b - (intOf i).toNat)
 case atStart => exact ⟨0, Nat.zero_le _, rfl, fun _ h => absurd h (by omega), Ext.refl _⟩
 case round =>
  obtain ⟨d, hd, rfl, hn, he1⟩ := hrel
  obtain ⟨wo, rfl⟩ : ∃ wo : World, wo = wr := ⟨_, rfl⟩
  have k1 := (hk1.ext he1).2
  have k2 := (hk2.ext he1).2
  by_cases hlt : a + d < b
  ·generalize hi : a + d = i at *
   go_wp2
   go_loopw [8, 9] (fun kk _ wr => ∃ k : Nat, k ≤ x.sn ∧ kk = .int .i64 (k : Int) ∧ Hid (∀ j, j < k → R.isf x h i j = false) ∧ Ext wo wr) (fun kk _ _ => x.sn - (intOf kk).toNat)
   case atStart => exact ⟨0, Nat.zero_le _, rfl, fun _ h => absurd h (by omega), Ext.refl _⟩
   case round =>
    obtain ⟨k, hk, rfl, hm, he2⟩ := hrel
    have hb1 := hk1.ext (he1.trans he2)
    have hb2 := hk2.ext (he1.trans he2)
    have k1 := hb1.2
    have k2 := hb2.2
    by_cases hks : k < x.sn
    ·obtain ⟨sb, so, rfl, hsb, s0, s1, s2⟩ := (r3.ext (he1.trans he2)).at3 hks
     obtain ⟨cb, co, rfl, hcb, ca, _, _⟩ := (r1.ext (he1.trans he2)).at3 (show i < x.cn by omega)
     obtain ⟨_, _, hq, _, cb', _, _⟩ := (r1.ext (he1.trans he2)).at3 (show i + 1 < x.cn by omega)
     obtain ⟨rfl, rfl⟩ := same_addr hq rfl
     have hmk : Hid (R.isf x h i k = R.isf x h i k) := hid rfl
     clear hq r1 r3 hk1 hk2
     go_upto_region 8 with fail
     refine wp_later fun w2 he3 => ?_
     obtain ⟨he3, _, k3⟩ := he3.new
     have ca := he3.some_ ca
     have cb' := he3.some_ cb'
     have k1 := (hb1.ext he3).2
     clear hb1 hb2
     by_cases q0 : x.s k 0 = h
     ·have e0 : (x.s k 0 == h) = true := by simp [q0]
      have Q0 := hid q0; clear q0
      by_cases q1 : x.s k 1 < x.c (i+1) 0
      ·have e1 : decide (x.s k 1 < x.c (i+1) 0) = true := by simp [q1]
       by_cases q2 : x.c i 0 < x.s k 2
       ·have e2 : decide (x.c i 0 < x.s k 2) = true := by simp [q2]
        refine wp_region_later (by kernel_rfl) (by kernel_rfl) ?_
        repeat (go_big_quiet_step (fail))
        refine wpQuiet_nil ?_
        rintro _ ⟨⟨w3, he4⟩, rfl⟩
        go_wp2
        go_ret
        refine ⟨ret_bool (Eq.symm ?_), he.trans (he1.trans (he2.trans (he3.trans he4)))⟩
        unfold R.is
        rw [anyTo_true]
        refine ⟨d, by omega, ?_⟩
        rw [hi]
        unfold R.isat
        rw [anyTo_true]
        exact ⟨k, hks, by simp [R.isf, Q0.out, q1, q2]⟩
       ·have e2 : decide (x.c i 0 < x.s k 2) = false := by simpa using q2
        refine wp_region_later (by kernel_rfl) (by kernel_rfl) ?_
        repeat (go_big_quiet_step (fail))
        refine wpQuiet_nil ?_
        rintro _ ⟨⟨w3, he4⟩, rfl⟩
        go_wp2
        go_roundw
        case rel => exact ⟨k + 1, by omega, by go_num, anyTo_step hm.out (by rw [hmk.out]; simp [R.isf, q2]), he2.trans (he3.trans he4)⟩
        case measure => simp [intOf]; omega
      ·have e1 : decide (x.s k 1 < x.c (i+1) 0) = false := by simpa using q1
       refine wp_region_later (by kernel_rfl) (by kernel_rfl) ?_
       repeat (go_big_quiet_step (fail))
       refine wpQuiet_nil ?_
       rintro _ ⟨⟨w3, he4⟩, rfl⟩
       go_wp2
       go_roundw
       case rel => exact ⟨k + 1, by omega, by go_num, anyTo_step hm.out (by rw [hmk.out]; simp [R.isf, q1]), he2.trans (he3.trans he4)⟩
       case measure => simp [intOf]; omega
     ·have e0 : (x.s k 0 == h) = false := by simpa using q0
      refine wp_region_later (by kernel_rfl) (by kernel_rfl) ?_
      repeat (go_big_quiet_step (fail))
      refine wpQuiet_nil ?_
      rintro _ ⟨⟨w3, he4⟩, rfl⟩
      go_wp2
      go_roundw
      case rel => exact ⟨k + 1, by omega, by go_num, anyTo_step hm.out (by rw [hmk.out]; simp [R.isf, q0]), he2.trans (he3.trans he4)⟩
      case measure => simp [intOf]; omega
    ·go_wp2
     go_roundw
     case rel =>
      refine ⟨d + 1, by omega, by rw [← hi]; go_num, anyTo_step hn.out ?_, he1.trans he2⟩
      rw [hi]
      unfold R.isat
      rw [anyTo_false]
      obtain rfl : k = x.sn := by omega
      exact hm.out
     case measure => simp [intOf]; omega
  ·go_wp2
   go_ret
   obtain rfl : d = b - a := by omega
   refine ⟨ret_bool (Eq.symm ?_), he.trans he1⟩
   unfold R.is
   rw [anyTo_false]
   exact hn.out
end Go.Proofs.YtkhjmedfhobebaaGreat
namespace Go.Proofs.YtkhjmedfhobebaaGreat
open Go.RowKit HandSpec
set_option maxHeartbeats 400000
set_option maxRecDepth 100000

theorem elem56 : ElemOk Tryz.prog 56 3 1 8 := ⟨Tryz.underlying56, by
 obtain ⟨i, hi, h1, h2, h3⟩ := info_parts (show (Tryz.prog.info? 3).map (fun i => (i.zero, i.size, i.bytes)) = some (some (.int .i64 0), 1, 8) by kernel_rfl)
 exact ⟨i, _, hi, h1, h2, h3, rfl⟩, by omega, by omega⟩

theorem members_any (m : Nat) (hm : m < 2 ^ 62) (w : World) :
  Calls Tryz.prog 127 #[.int .i64 m] w fun e w' => ∃ v, e = .returned v ∧ Ext w w' ∧ OwnR w' w.heap.size 3 1 v (rows1 (ones 62 m)) := by
 go_enter Tryz.func127, Tryz.ntmps127
 go_wp2
 go_loopw [0, 3, 4] (fun s o i wr => ∃ k : Nat, k ≤ 62 ∧ i = .int .i64 (k : Int) ∧ s = .int .i64 ((m / 2 ^ k : Nat) : Int) ∧ OwnR wr w.heap.size 3 1 o (rows1 (ones k m)) ∧ Ext w wr) (fun s _ _ _ => (intOf s).toNat)
 case atStart => exact ⟨0, Nat.zero_le _, rfl, by simp, by simpa [ones, rows1] using OwnR.nil, Ext.refl _⟩
 case round =>
  obtain ⟨k, hk, rfl, rfl, hown, he⟩ := hrel
  have hb := ones_succ k m
  rw [testBit_div] at hb
  have hd : m / 2 ^ (k + 1) = m / 2 ^ k / 2 := by rw [Nat.pow_succ, Nat.div_div_eq_div_mul]
  have hq : m / 2 ^ k < 2 ^ 62 := Nat.lt_of_le_of_lt (Nat.div_le_self _ _) hm
  have hq' : m / 2 ^ k = 0 ∨ k < 62 := by
   rcases Nat.lt_or_ge k 62 with h | h
   ·exact .inr h
   ·refine .inl (Nat.div_eq_of_lt (Nat.lt_of_lt_of_le hm (Nat.pow_le_pow_right (by omega) h)))
  have hz : m / 2 ^ k = 0 → m < 2 ^ k := fun h => by
   rcases Nat.div_eq_zero_iff.1 h with h | h
   ·have := Nat.two_pow_pos k; omega
   ·exact h
  have hll := ones_length k m
  generalize hg : m / 2 ^ k = q at *
  have HB := hid hb
  have HD := hid hd
  have HZ := hid hz
  have HG := hid hg
  clear hb hd hz hg
  by_cases h0 : 0 < q
  ·by_cases h1 : q % 2 = 1
   ·have e1 : ((q : Int) % 2 == 1) = true := by simp; omega
    go_wp2_with (at_builtin; refine wpList_append_rows rfl _ _ 56 rfl elem56 rfl (hown.ext (Ext.alloc (Ext.refl _) _)) wr.heap.size 1 1 [[(k : Int)]] rfl rfl (by simp) (by intro i; simp [cellsOf]) (by rw [rows1_length]; omega) (by have := he.size; simp; omega) ?_; intro v' w2 hown2 hg2)
    go_roundw
    case rel => exact ⟨k + 1, by omega, by go_num, by rw [HD.out]; simp, by rw [HB.out, rows1_append]; simpa [h1, rows1] using hown2, (he.alloc _).grown hg2 fun g hg => hown.block hg⟩
    case measure => simp [intOf]; omega
   ·have e1 : ((q : Int) % 2 == 1) = false := by simp; omega
    go_wp2
    go_roundw
    case rel => exact ⟨k + 1, by omega, by go_num, by rw [HD.out]; simp, by simpa [HB.out, h1] using hown, he⟩
    case measure => simp [intOf]; omega
  ·go_wp2
   go_ret
   obtain rfl : q = 0 := by omega
   refine ⟨_, rfl, he, ?_⟩
   rw [← ones_of (HZ.out rfl) hm]
   exact hown

theorem whole_any {x : WD} (hx : Ok x) {w : World} {v : Value} (hv : IsW w v x) :
  Calls Tryz.prog 23 #[v] w fun e w' => e = .returned (.int .i64 ((2 ^ x.hands.toNat - 1 : Nat) : Int)) ∧ Ext w w' := by
 obtain ⟨A1, c1, A2, c2, A3, c3, rfl, r1, r2, r3⟩ := hv
 obtain ⟨hh1, hh2⟩ := hx.hands
 clear r1 r2 r3 hx
 generalize x.hands = hands at *
 obtain ⟨n, rfl⟩ := Int.eq_ofNat_of_zero_le (show 0 ≤ hands by omega)
 have hp : 2 ^ n ≤ 64 := Nat.le_trans (Nat.pow_le_pow_right (by omega) (show n ≤ 6 by omega)) (by decide)
 go_enter Tryz.func23, Tryz.ntmps23
 go_wp2
 go_loop [3, 4] (fun t h => ∃ k : Nat, k ≤ n ∧ h = .int .i64 (k : Int) ∧ t = .int .i64 ((2 ^ k : Nat) : Int)) (fun _ h => n - (intOf h).toNat)
 case atStart => exact ⟨0, Nat.zero_le _, rfl, rfl⟩
 case round =>
  obtain ⟨k, hk, rfl, rfl⟩ := hrel
  have hpk : 2 ^ k ≤ 2 ^ n := Nat.pow_le_pow_right (by omega) hk
  have hps : 2 ^ (k + 1) = 2 * 2 ^ k := by rw [Nat.pow_succ, Nat.mul_comm]
  have HS := hid hps; clear hps
  have h1 : 1 ≤ 2 ^ k := Nat.one_le_two_pow
  by_cases hlt : k < n
  ·generalize hg : 2 ^ k = q at *
   have HG := hid hg; clear hg
   go_wp2
   go_round
   case rel => exact ⟨k + 1, by omega, by go_num, by rw [HS.out]; go_num⟩
   case measure => simp [intOf]; omega
  ·obtain rfl : k = n := by omega
   generalize hg : 2 ^ k = q at *
   have HG := hid hg; clear hg
   go_wp2
   go_ret
   refine ⟨ret_int ?_, (Ext.refl _).alloc _⟩
   simp only [HG.out]
   omega

theorem can_any {x : WD} (hx : Ok x) {w : World} {v : Value} (hv : IsW w v x) (m : Nat) (hm : m < 2 ^ 62) (i : Nat) (hi : i + 1 < x.cn) :
  Calls Tryz.prog 118 #[v, .int .i64 (m : Int), .int .i64 (i : Int)] w fun e w' => e = .returned (.bool (R.can x m i)) ∧ Ext w w' := by
 have hv0 := hid hv
 obtain ⟨A1, c1, A2, c2, A3, c3, rfl, r1, r2, r3⟩ := hv
 obtain ⟨hh1, hh2⟩ := hx.hands
 have hcn := hx.cn
 obtain ⟨n, hn⟩ := Int.eq_ofNat_of_zero_le (show 0 ≤ x.hands by omega)
 have hcan : R.can x m i = anyTo (fun h : Nat => m.testBit h && R.is x i (i+1) h) n := by unfold R.can; rw [hn]; rfl
 have HC := hid hcan
 have HN := hid hn
 have hI : ∀ (w' : World) (_ : Ext w w') (h : Int), Calls Tryz.prog 126 #[.agg #[.int .i64 x.hours, .int .i64 x.allow, .int .i64 x.hands, .slice A1 x.cn c1, .slice A2 x.bn c2, .slice A3 x.sn c3], .agg #[.int .i64 i, .int .i64 ((i : Int) + 1)], .int .i64 h] w' fun e w'' => e = .returned (.bool (R.is x i (i+1) h)) ∧ Ext w' w'' :=
  fun _ he h => is_any hx (hv0.out.ext he) i (i+1) (by omega) hi h
 have HI := hid hI
 have hn1 : x.hands ≤ n := by omega
 have hn2 : (n : Int) ≤ x.hands := by omega
 clear hI hcan hn r1 r2 r3
 go_enter Tryz.func118, Tryz.ntmps118
 go_wp2
 go_loopw [1, 7] (fun s h wr => ∃ k : Nat, k ≤ n ∧ h = .int .i64 (k : Int) ∧ s = .int .i64 ((m / 2 ^ k : Nat) : Int) ∧ Hid (∀ j : Nat, j < k → (m.testBit j && R.is x i (i+1) j) = false) ∧ Ext (w.alloc (.cells #[.int .i64 x.hours, .int .i64 x.allow, .int .i64 x.hands, .slice A1 x.cn c1, .slice A2 x.bn c2, .slice A3 x.sn c3] 34)) wr) (fun _ h _ => n - (intOf h).toNat)
 case atStart => exact ⟨0, Nat.zero_le _, rfl, by simp, fun _ h => absurd h (by omega), Ext.refl _⟩
 case round =>
  obtain ⟨k, hk, rfl, rfl, hf, he⟩ := hrel
  obtain ⟨he', _, k1⟩ := he.new
  have hd : m / 2 ^ (k + 1) = m / 2 ^ k / 2 := by rw [Nat.pow_succ, Nat.div_div_eq_div_mul]
  have hq : m / 2 ^ k < 2 ^ 62 := Nat.lt_of_le_of_lt (Nat.div_le_self _ _) hm
  have ht := testBit_div m k
  generalize hg : m / 2 ^ k = q at *
  have HD := hid hd
  have HT := hid ht
  have HG := hid hg
  clear hd ht hg
  by_cases hlt : (k : Int) < x.hands
  ·by_cases h1 : q % 2 = 1
   ·have e1 : ((q : Int) % 2 == 1) = true := by simp; omega
    cases hb : R.is x i (i+1) k
    all_goals
     have HB := hid hb
     clear hb
    ·go_wp2_with (go_at_call 126; refine (HI.out _ he' _).mono ?_; rintro e w2 ⟨rfl, he2⟩; rw [HB.out])
     go_roundw
     case rel => exact ⟨k + 1, by omega, by go_num, by rw [HD.out]; simp, anyTo_step hf.out (by rw [HB.out]; simp), he.trans he2⟩
     case measure => simp [intOf]; omega
    ·go_wp2_with (go_at_call 126; refine (HI.out _ he' _).mono ?_; rintro e w2 ⟨rfl, he2⟩; rw [HB.out])
     go_ret
     refine ⟨ret_bool (Eq.symm ?_), he'.trans he2⟩
     rw [HC.out, anyTo_true]
     exact ⟨k, by omega, by rw [HB.out, HT.out]; simp [h1]⟩
   ·have e1 : ((q : Int) % 2 == 1) = false := by simp; omega
    go_wp2_with fail
    go_roundw
    case rel => exact ⟨k + 1, by omega, by go_num, by rw [HD.out]; simp, anyTo_step hf.out (by rw [HT.out]; simp [h1]), he⟩
    case measure => simp [intOf]; omega
  ·go_wp2_with fail
   go_ret
   obtain rfl : k = n := by omega
   refine ⟨ret_bool (Eq.symm ?_), he'⟩
   rw [HC.out, anyTo_false]
   exact hf.out
end Go.Proofs.YtkhjmedfhobebaaGreat
namespace Go.Proofs.YtkhjmedfhobebaaGreat
open Go.RowKit HandSpec
set_option maxHeartbeats 400000
set_option maxRecDepth 100000

theorem elem53 : ElemOk Tryz.prog 53 65 2 16 := ⟨Tryz.underlying53, by
 obtain ⟨i, hi, h1, h2, h3⟩ := info_parts (show (Tryz.prog.info? 65).map (fun i => (i.zero, i.size, i.bytes)) = some (some (.agg #[.int .i64 0, .int .i64 0]), 2, 16) by kernel_rfl)
 exact ⟨i, _, hi, h1, h2, h3, rfl⟩, by omega, by omega⟩

theorem right_any {x : WD} (hx : x.cn ≤ 100) {w : World} {v : Value} (hv : IsW w v x) (a b : Int) :
  Calls Tryz.prog 55 #[v, .agg #[.int .i64 a, .int .i64 b]] w fun e w' => e = .returned (.int .i64 (R.right x a b)) ∧ Ext w w' := by
 obtain ⟨A1, c1, A2, c2, A3, c3, rfl, r1, r2, r3⟩ := hv
 clear r1 r2 r3
 cases h1 : offB a 0 (x.cn - 1)
 ·cases h2 : offB b 0 (x.cn - 1)
  ·by_cases h3 : b ≤ a
   all_goals
    have H1 := hid h1
    have H2 := hid h2
    clear h1 h2
    go_enter Tryz.func55, Tryz.ntmps55
    go_wp2_with (go_at_call 117; refine (off_any _ _ _ _).mono ?_; rintro e w' ⟨rfl, rfl⟩; first | rw [H1.out] | rw [H2.out])
    go_ret
    exact ⟨ret_int (by simp [R.right, H1.out, H2.out, h3]), ((Ext.refl _).alloc _).alloc _⟩
  ·have H1 := hid h1
   have H2 := hid h2
   clear h1 h2
   go_enter Tryz.func55, Tryz.ntmps55
   go_wp2_with (go_at_call 117; refine (off_any _ _ _ _).mono ?_; rintro e w' ⟨rfl, rfl⟩; first | rw [H1.out] | rw [H2.out])
   go_ret
   exact ⟨ret_int (by simp [R.right, H1.out, H2.out]), ((Ext.refl _).alloc _).alloc _⟩
 ·have H1 := hid h1
  clear h1
  go_enter Tryz.func55, Tryz.ntmps55
  go_wp2_with (go_at_call 117; refine (off_any _ _ _ _).mono ?_; rintro e w' ⟨rfl, rfl⟩; rw [H1.out])
  go_ret
  exact ⟨ret_int (by simp [R.right, H1.out]), ((Ext.refl _).alloc _).alloc _⟩

theorem there_any {x : WD} (hx : Ok x) {w : World} {v : Value} (hv : IsW w v x) (a b : Nat) (hab : a ≤ b) (hb : b < x.cn) :
  Calls Tryz.prog 58 #[v, .agg #[.int .i64 a, .int .i64 b]] w fun e w' => ∃ u, e = .returned u ∧ Ext w w' ∧ OwnR w' w.heap.size 3 1 u (rows1 (R.there x a b)) := by
 have hv0 := hid hv
 obtain ⟨A1, c1, A2, c2, A3, c3, rfl, r1, r2, r3⟩ := hv
 obtain ⟨hh1, hh2⟩ := hx.hands
 obtain ⟨n, hn⟩ := Int.eq_ofNat_of_zero_le (show 0 ≤ x.hands by omega)
 have HT : Hid (R.there x a b = (List.range n).filter fun h : Nat => R.is x a b h) := by unfold R.there; rw [hn]; rfl
 have hn1 : x.hands ≤ n := by omega
 have hn2 : (n : Int) ≤ x.hands := by omega
 clear hn r1 r2 r3
 go_enter Tryz.func58, Tryz.ntmps58
 go_wp2
 refine wp_later fun w1 hw1 => ?_
 obtain ⟨he, hk1, hk2⟩ := hw1.new2
 clear hw1
 go_loopw [5, 6] (fun o h wr => ∃ k : Nat, k ≤ n ∧ h = .int .i64 (k : Int) ∧ OwnR wr w1.heap.size 3 1 o (rows1 ((List.range k).filter fun h : Nat => R.is x a b h)) ∧ Ext w1 wr) (fun _ h _ => n - (intOf h).toNat)
 case atStart => exact ⟨0, Nat.zero_le _, rfl, by simpa [rows1] using OwnR.nil, Ext.refl _⟩
 case round =>
  obtain ⟨k, hk, rfl, hown, he1⟩ := hrel
  have k1 := (hk1.ext he1).2
  have k2 := (hk2.ext he1).2
  have hr : (List.range (k+1)).filter (fun h : Nat => R.is x a b h) = (List.range k).filter (fun h : Nat => R.is x a b h) ++ if R.is x a b k then [k] else [] := by
   rw [List.range_succ, List.filter_append]
   by_cases h : R.is x a b k <;> simp [h]
  have HR := hid hr
  have hl : ((List.range k).filter fun h : Nat => R.is x a b h).length ≤ k := Nat.le_trans (List.length_filter_le _ _) (by simp)
  clear hr
  by_cases hlt : (k : Int) < x.hands
  ·cases hb : R.is x a b k
   all_goals
    have HB := hid hb
    clear hb
   ·go_wp2_with (go_at_call 126; refine (is_any hx (hv0.out.ext (he.trans he1)) a b hab (by assumption) _).mono ?_; rintro e w2 ⟨rfl, he2⟩; rw [HB.out])
    go_roundw
    case rel => exact ⟨k + 1, by omega, by go_num, by rw [HR.out, HB.out]; simpa using hown.ext he2, he1.trans he2⟩
    case measure => simp [intOf]; omega
   ·go_wp2_with (first
     | (go_at_call 126; refine (is_any hx (hv0.out.ext (he.trans he1)) a b hab (by assumption) _).mono ?_; rintro e w2 ⟨rfl, he2⟩; rw [HB.out])
     | (at_builtin; refine wpList_append_rows rfl _ _ 56 rfl elem56 rfl ((hown.ext he2).ext (Ext.alloc (Ext.refl _) _)) _ 1 1 [[(k : Int)]] rfl rfl (by simp) (by intro i; simp [cellsOf]) (by rw [rows1_length]; omega) (by have := he1.size; have := he2.size; simp; omega) ?_; intro v' w3 hown2 hg2))
    go_roundw
    case rel => exact ⟨k + 1, by omega, by go_num, by rw [HR.out, HB.out, rows1_append]; simpa [rows1] using hown2, ((he1.trans he2).alloc _).grown hg2 fun g hg => (hown.ext he2).block hg⟩
    case measure => simp [intOf]; omega
  ·go_wp2_with fail
   go_ret
   obtain rfl : k = n := by omega
   exact ⟨_, rfl, he.trans he1, by rw [HT.out]; exact hown.base he.size⟩
end Go.Proofs.YtkhjmedfhobebaaGreat
namespace Go.Proofs.YtkhjmedfhobebaaGreat
open Go.RowKit HandSpec
set_option maxHeartbeats 400000
set_option maxRecDepth 100000

theorem _root_.Go.Rd.atP {w : World} {A : Option Addr} {l : List (Nat × Nat)} (h : Rd w A l.length 2 (rowsAt (rows2 l))) {k : Nat} (hk : k < l.length) :
  ∃ b o, A = some ⟨b, o, none⟩ ∧ b < w.heap.size ∧ w.cell? ⟨b, o + k * 2, none⟩ = some (.int .i64 ((nth l k).1 : Int)) ∧ w.cell? ⟨b, o + k * 2 + 1, none⟩ = some (.int .i64 ((nth l k).2 : Int)) := by
 obtain ⟨b, o, hA, hb, h0, h1⟩ := h.at2 hk
 unfold rowsAt at h0 h1
 rw [rowsAt_nth l hk] at h0 h1
 exact ⟨b, o, hA, hb, h0, h1⟩
theorem _root_.Go.Rd.atN {w : World} {A : Option Addr} {l : List Nat} (h : Rd w A l.length 1 (rowsAt (rows1 l))) {k : Nat} (hk : k < l.length) :
  ∃ b o, A = some ⟨b, o, none⟩ ∧ b < w.heap.size ∧ w.cell? ⟨b, o + k, none⟩ = some (.int .i64 ((l.getD k 0 : Nat) : Int)) := by
 obtain ⟨b, o, hA, hb, h0⟩ := h.at1 hk
 refine ⟨b, o, hA, hb, ?_⟩
 rw [h0]
 simp [rowsAt, rows1, hk]

theorem all_any {x : WD} (hx : x.cn ≤ 100) {w : World} {v : Value} (hv : IsW w v x) :
  Calls Tryz.prog 140 #[v] w fun e w' => ∃ u, e = .returned u ∧ Ext w w' ∧ OwnR w' w.heap.size 65 2 u (rows2 (stretches x.cn)) := by
 obtain ⟨A1, c1, A2, c2, A3, c3, rfl, r1, r2, r3⟩ := hv
 clear r1 r2 r3
 go_enter Tryz.func140, Tryz.ntmps140
 go_wp2
 refine wp_later fun w1 hw1 => ?_
 obtain ⟨he, hk1⟩ := hw1.new
 clear hw1
 go_loopw [3, 4, 5] (fun o i _ wr => ∃ k : Nat, k ≤ x.cn ∧ i = .int .i64 (k : Int) ∧ OwnR wr w1.heap.size 65 2 o (rows2 (stretchesTo x.cn k)) ∧ Ext w1 wr) (fun _ i _ _ => x.cn - (intOf i).toNat)
 case atStart => exact ⟨0, Nat.zero_le _, rfl, by simpa [rows2, stretchesTo] using OwnR.nil, Ext.refl _⟩
 case round =>
  obtain ⟨i, hi, rfl, hown, he1⟩ := hrel
  obtain ⟨wo, rfl⟩ : ∃ wo : World, wo = wr := ⟨_, rfl⟩
  have k1 := (hk1.ext he1).2
  by_cases hlt : i < x.cn
  ·go_wp2
   clear k1
   go_loopw [3, 5] (fun o kk wr => ∃ k : Nat, i < k ∧ k ≤ x.cn ∧ kk = .int .i64 (k : Int) ∧ OwnR wr w1.heap.size 65 2 o (rows2 (stretchesTo x.cn i ++ pairsTo k i)) ∧ Ext w1 wr) (fun _ kk _ => x.cn - (intOf kk).toNat)
   case atStart => exact ⟨i + 1, by omega, by omega, rfl, by rw [pairsTo_empty i (i+1) (by omega)]; simpa using hown, he1⟩
   case round =>
    obtain ⟨k, hik, hk, rfl, hown1, he2⟩ := hrel
    have k1 := (hk1.ext he2).2
    have HP := hid (pairsTo_succ k i)
    have hl1 := stretchesTo_length x.cn i
    have hl2 := pairsTo_length i k
    have hl3 : i * x.cn ≤ 100 * 100 := Nat.mul_le_mul (by omega) hx
    by_cases hks : k < x.cn
    ·go_wp2_with (at_builtin; refine wpList_append_rows rfl _ _ 53 rfl elem53 rfl (hown1.ext (Ext.alloc (Ext.refl _) _)) _ 1 1 [[(i : Int), (k : Int)]] rfl rfl (by simp) (by intro j; simp [cellsOf]) (by rw [rows2_length, List.length_append]; omega) (by have := he2.size; simp; omega) ?_; intro v' w3 hown2 hg2)
     go_roundw
     case rel => exact ⟨k + 1, by omega, by omega, by go_num, by rw [HP.out, if_pos hik, ← List.append_assoc, rows2_append]; simpa [rows2] using hown2, (he2.alloc _).grown hg2 fun g hg => hown1.block hg⟩
     case measure => simp [intOf]; omega
    ·go_wp2
     go_roundw
     case rel =>
      obtain rfl : k = x.cn := by omega
      exact ⟨i + 1, by omega, by go_num, by rw [stretchesTo_succ]; exact hown1, he2⟩
     case measure => simp [intOf]; omega
  ·go_wp2
   go_ret
   obtain rfl : i = x.cn := by omega
   exact ⟨_, rfl, he.trans he1, hown.base he.size⟩

theorem short_any {x : WD} (hx : Ok x) {w : World} {v : Value} (hv : IsW w v x) :
  Calls Tryz.prog 42 #[v] w fun e w' => ∃ u, e = .returned u ∧ Ext w w' ∧ OwnR w' w.heap.size 65 2 u (rows2 (R.short x)) := by
 have hv0 := hid hv
 obtain ⟨A1, c1, A2, c2, A3, c3, rfl, r1, r2, r3⟩ := hv
 have hcn := hx.cn
 clear r1 r2 r3
 go_enter Tryz.func42, Tryz.ntmps42
 go_wp2_with (go_at_call 140; refine (all_any (by omega) (hv0.out.ext (Ext.alloc (Ext.refl _) _))).mono ?_; rintro e w1 ⟨u, rfl, he0, hu⟩)
 obtain ⟨he, hk1⟩ := he0.new
 have hs := hu.slR
 have hll : (stretches x.cn).length ≤ 64 := Nat.le_trans (stretches_length _) (Nat.mul_le_mul hcn.2 hcn.2)
 have hmem : ∀ k, k < (stretches x.cn).length → (nth (stretches x.cn) k).1 < (nth (stretches x.cn) k).2 ∧ (nth (stretches x.cn) k).2 < x.cn := fun k hk => mem_stretches.1 (by simp [nth, hk])
 have HM := hid hmem
 have HG : Hid (R.short x = (stretches x.cn).filter fun p => decide (0 < R.gap x p.1 p.2)) := hid rfl
 clear hu he0 hmem
 obtain ⟨A, cap, rfl, hr⟩ := hs
 rw [rows2_length] at *
 generalize stretches x.cn = l at *
 refine wp_later fun w2 hw2 => ?_
 go_loopw [3, 5] (fun o i wr => ∃ k : Nat, k ≤ l.length ∧ i = .int .i64 (k : Int) ∧ OwnR wr w2.heap.size 65 2 o (rows2 ((l.take k).filter fun p => decide (0 < R.gap x p.1 p.2))) ∧ Ext w2 wr) (fun _ i _ => l.length - (intOf i).toNat)
 case atStart => exact ⟨0, Nat.zero_le _, rfl, by simpa [rows2] using OwnR.nil, Ext.refl _⟩
 case round =>
  obtain ⟨k, hk, rfl, hown, he1⟩ := hrel
  have k1 := (hk1.ext (hw2.trans he1)).2
  by_cases hlt : k < l.length
  ·obtain ⟨b, o, rfl, hb, c1, c2⟩ := (hr.ext (hw2.trans he1)).atP hlt
   obtain ⟨m1, m2⟩ := HM.out k hlt
   have HN : Hid ((l.take (k+1)).filter (fun p => decide (0 < R.gap x p.1 p.2)) = (l.take k).filter (fun p => decide (0 < R.gap x p.1 p.2)) ++ if 0 < R.gap x (nth l k).1 (nth l k).2 then [nth l k] else []) := by
    show _ = _
    rw [List.take_succ_eq_append_getElem hlt, List.filter_append]
    have : l[k] = nth l k := by simp [nth, hlt]
    rw [this]
    by_cases h : 0 < R.gap x (nth l k).1 (nth l k).2 <;> simp [h]
   have hfl : ((l.take k).filter fun p => decide (0 < R.gap x p.1 p.2)).length ≤ k := Nat.le_trans (List.length_filter_le _ _) (by simp; omega)
   clear hr
   by_cases q : 0 < R.gap x (nth l k).1 (nth l k).2
   all_goals
    go_upto_region 6 with fail
    refine wp_region_later (by kernel_rfl) (by kernel_rfl) ?_
    repeat (go_big_quiet_step ((go_at_call 57; exact Calls.later (gap_any hx ((hv0.out.ext (he.trans (hw2.trans he1))).ext (Later.ext _)) _ _ (Nat.lt_trans m1 m2) m2))))
    refine wpQuiet_nil ?_
    rintro _ ⟨⟨w3, he3⟩, rfl⟩
    have c1 := he3.some_ c1
    have c2 := he3.some_ c2
    have k1 := ((hk1.ext (hw2.trans he1)).ext he3).2
    have hb3 := he3.size
   ·go_wp2_with (at_builtin; refine wpList_append_rows rfl _ _ 53 rfl elem53 rfl ((hown.ext he3).ext (Ext.alloc (Ext.refl _) _)) _ 1 1 [[((nth l k).1 : Int), ((nth l k).2 : Int)]] rfl rfl (by simp) (by intro j; simp [cellsOf]) (by rw [rows2_length]; omega) (by have := he1.size; simp; omega) ?_; intro v' w4 hown2 hg2)
    go_roundw
    case rel => exact ⟨k + 1, by omega, by go_num, by rw [HN.out, if_pos q, rows2_append]; simpa [rows2] using hown2, ((he1.trans he3).alloc _).grown hg2 fun g hg => (hown.ext he3).block hg⟩
    case measure => simp [intOf]; omega
   ·go_wp2
    go_roundw
    case rel => exact ⟨k + 1, by omega, by go_num, by rw [HN.out, if_neg q]; simpa using hown.ext he3, he1.trans he3⟩
    case measure => simp [intOf]; omega
  ·go_wp2_with fail
   go_ret
   refine ⟨_, rfl, he.trans (hw2.trans he1), ?_⟩
   rw [HG.out, ← List.take_of_length_le (show l.length ≤ k by omega)]
   exact hown.base (he.trans hw2).size

set_option maxHeartbeats 1600000 in
theorem smallest_any {x : WD} (hx : Ok x) {w : World} {v : Value} (hv : IsW w v x) :
  Calls Tryz.prog 43 #[v] w fun e w' => ∃ u, e = .returned u ∧ Ext w w' ∧ OwnR w' w.heap.size 65 2 u (rows2 (R.smallest x)) := by
 have hv0 := hid hv
 obtain ⟨A1, c1, A2, c2, A3, c3, rfl, r1, r2, r3⟩ := hv
 have hcn := hx.cn
 clear r1 r2 r3
 go_enter Tryz.func43, Tryz.ntmps43
 go_wp2_with (go_at_call 42; refine (short_any hx (hv0.out.ext (Ext.alloc (Ext.refl _) _))).mono ?_; rintro e w1 ⟨u, rfl, he0, hu⟩)
 obtain ⟨he, _⟩ := he0.new
 have hs := hu.slR
 have hll : (R.short x).length ≤ 64 := Nat.le_trans (R.short_length _) (Nat.mul_le_mul hcn.2 hcn.2)
 have HG : Hid (R.smallest x = R.smallTo (R.short x) (R.short x).length) := hid rfl
 clear hu he0
 obtain ⟨A, cap, rfl, hr⟩ := hs
 rw [rows2_length] at *
 generalize R.short x = l at *
 refine wp_later fun w2 hw2 => ?_
 have hr := hr.ext hw2
 go_loopw [3, 5, 6, 7] (fun o i _ _ wr => ∃ k : Nat, k ≤ l.length ∧ i = .int .i64 (k : Int) ∧ OwnR wr w2.heap.size 65 2 o (rows2 (R.smallTo l k)) ∧ Ext w2 wr) (fun _ i _ _ _ => l.length - (intOf i).toNat)
 case atStart => exact ⟨0, Nat.zero_le _, rfl, by simpa [rows2, R.smallTo] using OwnR.nil, Ext.refl _⟩
 case round =>
  obtain ⟨i, hi, rfl, hown, he1⟩ := hrel
  obtain ⟨wo, rfl⟩ : ∃ wo : World, wo = wr := ⟨_, rfl⟩
  by_cases hlt : i < l.length
  ·have hr := hr.ext he1
   obtain ⟨b, o, rfl, hb, c1, c2⟩ := hr.atP hlt
   have HS := hid (R.smallTo_succ l i)
   have hsl := R.smallTo_length l i
   go_wp2
   go_loopw [6, 7] (fun s kk wr => ∃ (k : Nat) (t : Bool), k ≤ l.length ∧ kk = .int .i64 (k : Int) ∧ s = .bool t ∧ Hid (t = !anyTo (R.inner l i) k) ∧ Ext wo wr) (fun _ kk _ => l.length - (intOf kk).toNat)
   case atStart => exact ⟨0, true, by omega, rfl, rfl, rfl, Ext.refl _⟩
   case round =>
    obtain ⟨k, t, hk, rfl, rfl, ht, he2⟩ := hrel
    by_cases hks : k < l.length
    ·obtain ⟨b', o', hA, _, d1, d2⟩ := hr.atP hks
     obtain ⟨rfl, rfl⟩ := same_addr rfl hA
     have c1 := he2.some_ c1
     have c2 := he2.some_ c2
     have d1 := he2.some_ d1
     have d2 := he2.some_ d2
     have hb := Nat.lt_of_lt_of_le hb he2.size
     clear hA hr
     have HI : Hid (R.inner l i k = _) := hid rfl
     cases t
     ·go_upto_region 10 with fail
      refine wp_region_later (by kernel_rfl) (by kernel_rfl) ?_
      repeat (go_big_quiet_step (fail))
      refine wpQuiet_nil ?_
      rintro _ ⟨⟨w3, he3⟩, rfl⟩
      go_wp2
      go_roundw
      case rel => exact ⟨k + 1, false, by omega, by go_num, rfl, by have := ht.out; show _ = _; simp [anyTo] at this ⊢; simp [this], he2.trans he3⟩
      case measure => simp [intOf]; omega
     ·by_cases q0 : k = i
      ·obtain rfl := q0
       go_upto_region 10 with fail
       refine wp_region_later (by kernel_rfl) (by kernel_rfl) ?_
       repeat (go_big_quiet_step (fail))
       refine wpQuiet_nil ?_
       rintro _ ⟨⟨w3, he3⟩, rfl⟩
       go_wp2
       go_roundw
       case rel => exact ⟨k + 1, true, by omega, by go_num, rfl, by have := ht.out; show _ = _; simp at this; simp [anyTo, this, R.inner, Nat.lt_irrefl], he2.trans he3⟩
       case measure => simp [intOf]; omega
      ·have e0 : ((k : Int) == (i : Int)) = false := by simp; omega
       have e0' : (k == i) = false := by simp; omega
       by_cases q1 : (nth l k).1 < (nth l i).1
       ·have e1 : decide ((nth l k).1 < (nth l i).1) = true := by simpa using q1
        go_upto_region 10 with fail
        refine wp_region_later (by kernel_rfl) (by kernel_rfl) ?_
        repeat (go_big_quiet_step (fail))
        refine wpQuiet_nil ?_
        rintro _ ⟨⟨w3, he3⟩, rfl⟩
        go_wp2
        go_roundw
        case rel => exact ⟨k + 1, true, by omega, by go_num, rfl, by have := ht.out; show _ = _; simp at this; simp [anyTo, this, R.inner, q1], he2.trans he3⟩
        case measure => simp [intOf]; omega
       ·have e1 : decide ((nth l k).1 < (nth l i).1) = false := by simpa using q1
        by_cases q2 : (nth l i).2 < (nth l k).2
        ·have e2 : decide ((nth l i).2 < (nth l k).2) = true := by simpa using q2
         go_upto_region 10 with fail
         refine wp_region_later (by kernel_rfl) (by kernel_rfl) ?_
         repeat (go_big_quiet_step (fail))
         refine wpQuiet_nil ?_
         rintro _ ⟨⟨w3, he3⟩, rfl⟩
         go_wp2
         go_roundw
         case rel => exact ⟨k + 1, true, by omega, by go_num, rfl, by have := ht.out; show _ = _; simp at this; simp [anyTo, this, R.inner, q2], he2.trans he3⟩
         case measure => simp [intOf]; omega
        ·have e2 : decide ((nth l i).2 < (nth l k).2) = false := by simpa using q2
         go_upto_region 10 with fail
         refine wp_region_later (by kernel_rfl) (by kernel_rfl) ?_
         repeat (go_big_quiet_step (fail))
         refine wpQuiet_nil ?_
         rintro _ ⟨⟨w3, he3⟩, rfl⟩
         go_wp2
         go_roundw
         case rel => exact ⟨k + 1, false, by omega, by go_num, rfl, by have := ht.out; show _ = _; simp at this; simp [anyTo, this, R.inner, q0, q1, q2], he2.trans he3⟩
         case measure => simp [intOf]; omega
    ·obtain rfl : k = l.length := by omega
     have c1 := he2.some_ c1
     have c2 := he2.some_ c2
     have hb := Nat.lt_of_lt_of_le hb he2.size
     clear hr
     have hsm : R.isSm l i = t := ht.out.symm
     have HM := hid hsm
     clear hsm
     cases t
     ·go_wp2_with fail
      go_roundw
      case rel => exact ⟨i + 1, by omega, by go_num, by rw [HS.out, HM.out]; simpa using hown.ext he2, he1.trans he2⟩
      case measure => simp [intOf]; omega
     ·go_wp2_with (at_builtin; refine wpList_append_rows rfl _ _ 53 rfl elem53 rfl ((hown.ext he2).ext (Ext.alloc (Ext.refl _) _)) _ 1 1 [[((nth l i).1 : Int), ((nth l i).2 : Int)]] rfl rfl (by simp) (by intro j; simp [cellsOf]) (by rw [rows2_length]; omega) (by have := he1.size; have := he2.size; simp; omega) ?_; intro v' w4 hown2 hg2)
      go_roundw
      case rel => exact ⟨i + 1, by omega, by go_num, by rw [HS.out, HM.out, if_pos rfl, rows2_append]; simpa [rows2] using hown2, ((he1.trans he2).alloc _).grown hg2 fun g hg => (hown.ext he2).block hg⟩
      case measure => simp [intOf]; omega
  ·go_wp2_with fail
   go_ret
   obtain rfl : i = l.length := by omega
   exact ⟨_, rfl, he.trans (hw2.trans he1), by rw [HG.out]; exact hown.base (he.trans hw2).size⟩
end Go.Proofs.YtkhjmedfhobebaaGreat
