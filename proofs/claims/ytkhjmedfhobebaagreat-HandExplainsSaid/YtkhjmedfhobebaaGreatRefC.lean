/- Walks of the reference: hands that can have been there, all hands, members of a set, who is there. The watch is right, as Ok says. -/
import Derived.Test.YtkhjmedfhobebaaGreatRefB
namespace Go.Proofs.YtkhjmedfhobebaaGreat
open Go.RowKit HandSpec
set_option maxHeartbeats 400000
set_option maxRecDepth 100000

theorem elem56 : ElemOk Tryz.prog 56 3 1 8 := ⟨Tryz.underlying56, by
  obtain ⟨i, hi, h1, h2, h3⟩ := info_parts (show (Tryz.prog.info? 3).map (fun i => (i.zero, i.size, i.bytes)) = some (some (.int .i64 0), 1, 8) by kernel_rfl)
  exact ⟨i, _, hi, h1, h2, h3, rfl⟩, by omega, by omega⟩

theorem members_any (m : Nat) (hm : m < 2 ^ 62) (w : World) :
    Calls Tryz.prog 127 #[.int .i64 m] w fun e w' => ∃ v, e = .returned v ∧ Ext w w' ∧ OwnR w' w.heap.size 3 1 v (rows1 (ones 62 m)) := by
  go_enter Tryz.func127, Tryz.ntmps127
  go_wp2
  go_loopw [0, 3, 4] (fun s o i wr => ∃ k : Nat, k ≤ 62 ∧ i = .int .i64 (k : Int) ∧ s = .int .i64 ((m / 2 ^ k : Nat) : Int) ∧ OwnR wr w.heap.size 3 1 o (rows1 (ones k m)) ∧ Ext w wr) (fun s _ _ _ => (intOf s).toNat)
  case atStart => exact ⟨0, Nat.zero_le _, rfl, by simp, by simpa [ones, rows1] using OwnR.nil, Ext.refl _⟩
  case round =>
    obtain ⟨k, hk, rfl, rfl, hown, he⟩ := hrel
    have hb := ones_succ k m
    rw [testBit_div] at hb
    have hd : m / 2 ^ (k + 1) = m / 2 ^ k / 2 := by rw [Nat.pow_succ, Nat.div_div_eq_div_mul]
    have hq : m / 2 ^ k < 2 ^ 62 := Nat.lt_of_le_of_lt (Nat.div_le_self _ _) hm
    have hq' : m / 2 ^ k = 0 ∨ k < 62 := by
      rcases Nat.lt_or_ge k 62 with h | h
      · exact .inr h
      · refine .inl (Nat.div_eq_of_lt (Nat.lt_of_lt_of_le hm (Nat.pow_le_pow_right (by omega) h)))
    have hz : m / 2 ^ k = 0 → m < 2 ^ k := fun h => by
      rcases Nat.div_eq_zero_iff.1 h with h | h
      · have := Nat.two_pow_pos k; omega
      · exact h
    have hll := ones_length k m
    generalize hg : m / 2 ^ k = q at *
    have HB := hid hb
    have HD := hid hd
    have HZ := hid hz
    have HG := hid hg
    clear hb hd hz hg
    by_cases h0 : 0 < q
    · by_cases h1 : q % 2 = 1
      · have e1 : ((q : Int) % 2 == 1) = true := by simp; omega
        go_wp2_with (at_builtin; refine wpList_append_rows rfl _ _ 56 rfl elem56 rfl (hown.ext (Ext.alloc (Ext.refl _) _)) wr.heap.size 1 1 [[(k : Int)]] rfl rfl (by simp) (by intro i; simp [cellsOf]) (by rw [rows1_length]; omega) (by have := he.size; simp; omega) ?_; intro v' w2 hown2 hg2)
        go_roundw
        case rel => exact ⟨k + 1, by omega, by go_num, by rw [HD.out]; simp, by rw [HB.out, rows1_append]; simpa [h1, rows1] using hown2, (he.alloc _).grown hg2 fun g hg => hown.block hg⟩
        case measure => simp [intOf]; omega
      · have e1 : ((q : Int) % 2 == 1) = false := by simp; omega
        go_wp2
        go_roundw
        case rel => exact ⟨k + 1, by omega, by go_num, by rw [HD.out]; simp, by simpa [HB.out, h1] using hown, he⟩
        case measure => simp [intOf]; omega
    · go_wp2
      go_ret
      obtain rfl : q = 0 := by omega
      refine ⟨_, rfl, he, ?_⟩
      rw [← ones_of (HZ.out rfl) hm]
      exact hown

theorem whole_any {x : WD} (hx : Ok x) {w : World} {v : Value} (hv : IsW w v x) :
    Calls Tryz.prog 23 #[v] w fun e w' => e = .returned (.int .i64 ((2 ^ x.hands.toNat - 1 : Nat) : Int)) ∧ Ext w w' := by
  obtain ⟨A1, c1, A2, c2, A3, c3, rfl, r1, r2, r3⟩ := hv
  obtain ⟨hh1, hh2⟩ := hx.hands
  clear r1 r2 r3 hx
  generalize x.hands = hands at *
  obtain ⟨n, rfl⟩ := Int.eq_ofNat_of_zero_le (show 0 ≤ hands by omega)
  have hp : 2 ^ n ≤ 64 := Nat.le_trans (Nat.pow_le_pow_right (by omega) (show n ≤ 6 by omega)) (by decide)
  go_enter Tryz.func23, Tryz.ntmps23
  go_wp2
  go_loop [3, 4] (fun t h => ∃ k : Nat, k ≤ n ∧ h = .int .i64 (k : Int) ∧ t = .int .i64 ((2 ^ k : Nat) : Int)) (fun _ h => n - (intOf h).toNat)
  case atStart => exact ⟨0, Nat.zero_le _, rfl, rfl⟩
  case round =>
    obtain ⟨k, hk, rfl, rfl⟩ := hrel
    have hpk : 2 ^ k ≤ 2 ^ n := Nat.pow_le_pow_right (by omega) hk
    have hps : 2 ^ (k + 1) = 2 * 2 ^ k := by rw [Nat.pow_succ, Nat.mul_comm]
    have HS := hid hps; clear hps
    have h1 : 1 ≤ 2 ^ k := Nat.one_le_two_pow
    by_cases hlt : k < n
    · generalize hg : 2 ^ k = q at *
      have HG := hid hg; clear hg
      go_wp2
      go_round
      case rel => exact ⟨k + 1, by omega, by go_num, by rw [HS.out]; go_num⟩
      case measure => simp [intOf]; omega
    · obtain rfl : k = n := by omega
      generalize hg : 2 ^ k = q at *
      have HG := hid hg; clear hg
      go_wp2
      go_ret
      refine ⟨ret_int ?_, (Ext.refl _).alloc _⟩
      simp only [HG.out]
      omega

theorem can_any {x : WD} (hx : Ok x) {w : World} {v : Value} (hv : IsW w v x) (m : Nat) (hm : m < 2 ^ 62) (i : Nat) (hi : i + 1 < x.cn) :
    Calls Tryz.prog 118 #[v, .int .i64 (m : Int), .int .i64 (i : Int)] w fun e w' => e = .returned (.bool (R.can x m i)) ∧ Ext w w' := by
  have hv0 := hid hv
  obtain ⟨A1, c1, A2, c2, A3, c3, rfl, r1, r2, r3⟩ := hv
  obtain ⟨hh1, hh2⟩ := hx.hands
  have hcn := hx.cn
  obtain ⟨n, hn⟩ := Int.eq_ofNat_of_zero_le (show 0 ≤ x.hands by omega)
  have hcan : R.can x m i = anyTo (fun h : Nat => m.testBit h && R.is x i (i+1) h) n := by unfold R.can; rw [hn]; rfl
  have HC := hid hcan
  have HN := hid hn
  have hI : ∀ (w' : World) (_ : Ext w w') (h : Int), Calls Tryz.prog 126 #[.agg #[.int .i64 x.hours, .int .i64 x.allow, .int .i64 x.hands, .slice A1 x.cn c1, .slice A2 x.bn c2, .slice A3 x.sn c3], .agg #[.int .i64 i, .int .i64 ((i : Int) + 1)], .int .i64 h] w' fun e w'' => e = .returned (.bool (R.is x i (i+1) h)) ∧ Ext w' w'' :=
    fun _ he h => is_any hx (hv0.out.ext he) i (i+1) (by omega) hi h
  have HI := hid hI
  have hn1 : x.hands ≤ n := by omega
  have hn2 : (n : Int) ≤ x.hands := by omega
  clear hI hcan hn r1 r2 r3
  go_enter Tryz.func118, Tryz.ntmps118
  go_wp2
  go_loopw [1, 7] (fun s h wr => ∃ k : Nat, k ≤ n ∧ h = .int .i64 (k : Int) ∧ s = .int .i64 ((m / 2 ^ k : Nat) : Int) ∧ Hid (∀ j : Nat, j < k → (m.testBit j && R.is x i (i+1) j) = false) ∧ Ext (w.alloc (.cells #[.int .i64 x.hours, .int .i64 x.allow, .int .i64 x.hands, .slice A1 x.cn c1, .slice A2 x.bn c2, .slice A3 x.sn c3] 34)) wr) (fun _ h _ => n - (intOf h).toNat)
  case atStart => exact ⟨0, Nat.zero_le _, rfl, by simp, fun _ h => absurd h (by omega), Ext.refl _⟩
  case round =>
    obtain ⟨k, hk, rfl, rfl, hf, he⟩ := hrel
    obtain ⟨he', _, k1⟩ := he.new
    have hd : m / 2 ^ (k + 1) = m / 2 ^ k / 2 := by rw [Nat.pow_succ, Nat.div_div_eq_div_mul]
    have hq : m / 2 ^ k < 2 ^ 62 := Nat.lt_of_le_of_lt (Nat.div_le_self _ _) hm
    have ht := testBit_div m k
    generalize hg : m / 2 ^ k = q at *
    have HD := hid hd
    have HT := hid ht
    have HG := hid hg
    clear hd ht hg
    by_cases hlt : (k : Int) < x.hands
    · by_cases h1 : q % 2 = 1
      · have e1 : ((q : Int) % 2 == 1) = true := by simp; omega
        cases hb : R.is x i (i+1) k
        all_goals
          have HB := hid hb
          clear hb
        · go_wp2_with (go_at_call 126; refine (HI.out _ he' _).mono ?_; rintro e w2 ⟨rfl, he2⟩; rw [HB.out])
          go_roundw
          case rel => exact ⟨k + 1, by omega, by go_num, by rw [HD.out]; simp, anyTo_step hf.out (by rw [HB.out]; simp), he.trans he2⟩
          case measure => simp [intOf]; omega
        · go_wp2_with (go_at_call 126; refine (HI.out _ he' _).mono ?_; rintro e w2 ⟨rfl, he2⟩; rw [HB.out])
          go_ret
          refine ⟨ret_bool (Eq.symm ?_), he'.trans he2⟩
          rw [HC.out, anyTo_true]
          exact ⟨k, by omega, by rw [HB.out, HT.out]; simp [h1]⟩
      · have e1 : ((q : Int) % 2 == 1) = false := by simp; omega
        go_wp2_with fail
        go_roundw
        case rel => exact ⟨k + 1, by omega, by go_num, by rw [HD.out]; simp, anyTo_step hf.out (by rw [HT.out]; simp [h1]), he⟩
        case measure => simp [intOf]; omega
    · go_wp2_with fail
      go_ret
      obtain rfl : k = n := by omega
      refine ⟨ret_bool (Eq.symm ?_), he'⟩
      rw [HC.out, anyTo_false]
      exact hf.out
end Go.Proofs.YtkhjmedfhobebaaGreat
