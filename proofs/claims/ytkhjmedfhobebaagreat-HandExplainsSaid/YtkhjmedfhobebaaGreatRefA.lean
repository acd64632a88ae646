/- Walks of the reference's small functions: whether a number is off, what is booked, the gap, who is there. The watch is right, as Ok says. -/
import Derived.Test.YtkhjmedfhobebaaGreatProg
import Derived.Test.YtkhjmedfhobebaaGreatCore
import Derived.Test.YtkhjmedfhobebaaGreatSpec
namespace Go.Proofs.YtkhjmedfhobebaaGreat
open Go.RowKit HandSpec
set_option maxHeartbeats 400000
set_option maxRecDepth 100000

theorem ret_int {k : IntKind} {a b : Int} (h : a = b) : Ending.returned (.int k a) = .returned (.int k b) := by rw [h]
theorem ret_bool {a b : Bool} (h : a = b) : Ending.returned (.bool a) = .returned (.bool b) := by rw [h]

/-- A value that is a watch: three numbers, three slices that can be read. -/
def IsW (w : World) (v : Value) (x : WD) : Prop :=
  ∃ A1 c1 A2 c2 A3 c3, v = .agg #[.int .i64 x.hours, .int .i64 x.allow, .int .i64 x.hands, .slice A1 x.cn c1, .slice A2 x.bn c2, .slice A3 x.sn c3] ∧
    Rd w A1 x.cn 3 x.c ∧ Rd w A2 x.bn 2 x.b ∧ Rd w A3 x.sn 3 x.s
theorem IsW.ext {w w' : World} {v : Value} {x : WD} (h : IsW w v x) (e : Ext w w') : IsW w' v x := by
  obtain ⟨A1, c1, A2, c2, A3, c3, hv, h1, h2, h3⟩ := h
  exact ⟨A1, c1, A2, c2, A3, c3, hv, h1.ext e, h2.ext e, h3.ext e⟩

theorem off_any (n lo hi : Int) (w : World) : Calls Tryz.prog 117 #[.int .i64 n, .int .i64 lo, .int .i64 hi] w fun e w' => e = .returned (.bool (offB n lo hi)) ∧ w = w' := by
  by_cases h1 : n < lo
  · go_enter Tryz.func117, Tryz.ntmps117
    go_wp2
    go_ret
    exact ⟨ret_bool (by simp [offB, h1]), rfl⟩
  · by_cases h2 : hi < n
    all_goals
      go_enter Tryz.func117, Tryz.ntmps117
      go_wp2
      go_ret
      exact ⟨ret_bool (by simp [offB, h1, h2]), rfl⟩

theorem booked_any {x : WD} (hx : Ok x) {w : World} {v : Value} (hv : IsW w v x) (a b : Nat) (ha : a < x.cn) (hb : b < x.cn) :
    Calls Tryz.prog 56 #[v, .agg #[.int .i64 a, .int .i64 b]] w fun e w' => e = .returned (.int .i64 (R.booked x a b)) ∧ Ext w w' := by
  obtain ⟨A1, c1, A2, c2, A3, c3, rfl, r1, r2, r3⟩ := hv
  have hcn := hx.cn
  have hbn := hx.bn
  obtain ⟨cb, co, rfl, hcb, ca, _, _⟩ := r1.at3 ha
  obtain ⟨_, _, hq, _, cb', _, _⟩ := r1.at3 hb
  obtain ⟨rfl, rfl⟩ : cb = _ ∧ co = _ := by simpa using hq
  clear hq r1 r3
  go_enter Tryz.func56, Tryz.ntmps56
  go_wp2
  go_loop [5, 6, 7] (fun n i _ => ∃ k : Nat, k ≤ x.bn ∧ i = .int .i64 k ∧ n = .int .i64 (sumTo (R.bookf x a b) k)) (fun _ i _ => x.bn - (intOf i).toNat)
  case atStart => exact ⟨0, Nat.zero_le _, rfl, rfl⟩
  case round =>
    obtain ⟨k, hk, rfl, rfl⟩ := hrel
    by_cases hlt : k < x.bn
    · obtain ⟨bb, bo, rfl, hbb, b0, b1⟩ := r2.at2 hlt
      obtain ⟨g1, g2⟩ := R.booked_bound' hx a b k hk
      obtain ⟨g3, g4⟩ := hx.bsack k hlt
      have hs : sumTo (R.bookf x a b) (k+1) = sumTo (R.bookf x a b) k + R.bookf x a b k := rfl
      have HS := hid hs
      clear hs hx r2
      by_cases q1 : x.c a 0 < x.b k 0
      · by_cases q2 : x.b k 0 ≤ x.c b 0
        all_goals
          have HQ : Hid _ := hid (show R.bookf x a b k = _ by unfold R.bookf; simp [q1, q2]; rfl)
          go_wp2
          go_round
          case rel => exact ⟨k + 1, by omega, by go_num, by simp only [HS.out, HQ.out, Int.add_zero]⟩
          case measure => simp [intOf]; omega
      · have HQ : Hid _ := hid (show R.bookf x a b k = _ by unfold R.bookf; simp [q1]; rfl)
        go_wp2
        go_round
        case rel => exact ⟨k + 1, by omega, by go_num, by simp only [HS.out, HQ.out, Int.add_zero]⟩
        case measure => simp [intOf]; omega
    · go_wp2
      go_ret
      obtain rfl : k = x.bn := by omega
      exact ⟨rfl, ((Ext.refl _).alloc _).alloc _⟩

end Go.Proofs.YtkhjmedfhobebaaGreat
