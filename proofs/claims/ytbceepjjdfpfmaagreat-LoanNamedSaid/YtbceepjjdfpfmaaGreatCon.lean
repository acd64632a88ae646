/- Walks of Grow (179) at nil, and of Concat (146). The lists are short. -/
import Derived.Test.YtbceepjjdfpfmaaGreatGenB
import Derived.Test.YtbceepjjdfpfmaaGreatNest
import Derived.Lib.AppendZeros
namespace Go.Proofs.YtbceepjjdfpfmaaGreat
open Go.RowKit HandSpec
set_option maxHeartbeats 2000000
set_option maxRecDepth 100000
theorem zeros_run (w : World) (n : Nat) (h0 : 0 < n) (hn : n ≤ 1000000) : (Builtin.append_ #[22, 3] 22 #[.slice none 0 0, .int .i64 (n : Int)]).run Tryz.prog w =
    .ok (.slice (some ⟨w.heap.size, 0, none⟩) n (grownCap w n 0 3)) (w.drew.alloc (.cells (Builtin.zeroCells (Value.int .i64 0).cells n ++ Builtin.zeroCells (Value.int .i64 0).cells (grownCap w n 0 3 - n)) 3)) := by
  obtain ⟨i, hi, h1, h2, h3⟩ := info_parts (show (Tryz.prog.info? 3).map (fun i => (i.zero, i.size, i.bytes)) = some (some (.int .i64 0), 1, 8) by kernel_rfl)
  refine Lib.run_append_nil_zeros w 22 3 22 3 i (.int .i64 0) .i64 .i64 Tryz.underlying22 Tryz.underlying3 hi h1 n h0 (by omega) (by omega) (by rw [h3]; omega)
theorem grow179 (n : Nat) (hn : n ≤ 1000000) (w : World) : Calls Tryz.prog 179 #[.slice none 0 0, .int .i64 (n : Int)] w fun e w' => ∃ u, e = .returned u ∧ Ext w w' ∧ OwnR w' w.heap.size 3 1 u [] := by
  by_cases h0 : n = 0
  · subst h0
    go_enter Tryz.func179, Tryz.ntmps179
    go_wp2_with fail
    go_ret
    exact ⟨_, rfl, Ext.refl _, OwnR.nil⟩
  · have h1 : (0 : Int) < (n : Int) := by omega
    have hz := zeros_run w n (by omega) hn
    have hge := grownCap_ge w n 0 3
    have hle := grownCap_le_maxLen w n 0 3 (by unfold maxLen; omega)
    go_enter Tryz.func179, Tryz.ntmps179
    have E1 := hid (((Ext.refl w).drew).alloc (.cells (Builtin.zeroCells (Value.int .i64 0).cells n ++ Builtin.zeroCells (Value.int .i64 0).cells (grownCap w n 0 3 - n)) 3))
    obtain ⟨W, hW⟩ : ∃ W, Hid (W = w.drew.alloc (.cells (Builtin.zeroCells (Value.int .i64 0).cells n ++ Builtin.zeroCells (Value.int .i64 0).cells (grownCap w n 0 3 - n)) 3)) := ⟨_, hid rfl⟩
    obtain ⟨c, hc⟩ : ∃ c, Hid (grownCap w n 0 3 = c) := ⟨_, hid rfl⟩
    rw [← hW.out] at hz E1
    rw [hc.out] at hz hge hle
    go_wp2_with (at_builtin; refine Lib.wpList_append_run _ rfl _ _ _ _ rfl _ _ rfl rfl _ _ hz ?_)
    go_ret
    obtain ⟨Z, hZ1, hZ2⟩ : ∃ Z : Array Value, W = w.drew.alloc (.cells Z 3) ∧ Z.size = c := ⟨_, hW.out, by rw [hc.out]; simp [Builtin.zeroCells, Value.cells]; omega⟩
    refine ⟨_, rfl, E1.out, by simp, rfl, .inr ⟨w.heap.size, c, Z, rfl, Nat.le_refl _, ?_, Nat.zero_le _, hle, by rw [hZ2, Nat.mul_one], by simp [cellsOf]⟩⟩
    rw [hZ1]
    exact Blk.new w.drew 3 Z
/-- The rows one behind the other. -/
def allR (c : Nat → Nat) (gr : Nat → Nat → Int) : Nat → List (List Int)
  | 0 => []
  | k + 1 => allR c gr k ++ rowsG 1 (c k) (fun j _ => gr k j)
theorem allR_length (c : Nat → Nat) (gr : Nat → Nat → Int) {C : Nat} : ∀ k, (∀ i, i < k → c i ≤ C) → (allR c gr k).length ≤ k * C
  | 0, _ => by simp [allR]
  | k + 1, h => by
    have := allR_length c gr k fun i hi => h i (by omega)
    have := h k (by omega)
    simp only [allR, List.length_append, rowsG_length]
    rw [Nat.add_mul]
    omega
/-- How long they are in all. -/
def lenR (c : Nat → Nat) : Nat → Nat
  | 0 => 0
  | k + 1 => lenR c k + c k
theorem lenR_le (c : Nat → Nat) {C : Nat} : ∀ k, (∀ i, i < k → c i ≤ C) → lenR c k ≤ k * C
  | 0, _ => by simp [lenR]
  | k + 1, h => by
    have := lenR_le c k fun i hi => h i (by omega)
    have := h k (by omega)
    simp only [lenR]
    rw [Nat.add_mul]
    omega
theorem concat146 {w : World} {A : Option Addr} {n cap : Nat} {c : Nat → Nat} {gr : Nat → Nat → Int} (hr : RdN w A n c gr) (hn : n ≤ 100) (hm : ∀ k, k < n → c k ≤ 1000) :
    Calls Tryz.prog 146 #[.slice A n cap] w fun e w' => ∃ u, e = .returned u ∧ Ext w w' ∧ OwnR w' w.heap.size 3 1 u (allR c gr n) := by
  have HR := hid hr
  have HM := hid hm
  have HL := hid (fun k hk => allR_length c gr (C := 1000) k fun i hi => hm i (Nat.lt_of_lt_of_le hi hk))
  have HN := hid (fun k hk => lenR_le c (C := 1000) k fun i hi => hm i (Nat.lt_of_lt_of_le hi hk))
  clear hr hm
  go_enter Tryz.func146, Tryz.ntmps146
  go_upto_region 3 with fail
  go_loopw [3, 11] (fun s i wr => ∃ (k q : Nat), k ≤ n ∧ i = .int .i64 (k : Int) ∧ s = .int .i64 (q : Int) ∧ q ≤ 100000 ∧ Hid (q = lenR c k) ∧ Ext w wr) (fun _ i _ => n - (intOf i).toNat)
  case atStart => exact ⟨0, 0, Nat.zero_le _, rfl, rfl, Nat.zero_le _, hid rfl, Ext.refl _⟩
  case round =>
    obtain ⟨k, q, hk, rfl, rfl, hq, hqe, he⟩ := hrel
    by_cases hlt : k < n
    · obtain ⟨b, o, B', C', rfl, hb, hc, -⟩ := (HR.out.ext he).at_ hlt
      have h1 := HM.out k hlt
      have h2 := HN.out k hk
      have h3 := HN.out (k + 1) hlt
      have h4 := hid (show lenR c (k + 1) = lenR c k + c k from rfl)
      have h5 : q + c k ≤ 100000 := by have := h4.out; have := hqe.out; omega
      obtain ⟨ck, hck⟩ : ∃ z, Hid (c k = z) := ⟨_, hid rfl⟩
      rw [hck.out] at hc h1 h5 h4
      go_wp2_with fail
      go_roundw
      case rel => exact ⟨k + 1, q + ck, by omega, by go_num, by go_num, by omega, hid (by rw [h4.out, hqe.out]), he⟩
      case measure => simp [intOf]; omega
    · have : k = n := by omega
      subst this
      go_upto_region 9 with fail
      obtain ⟨W0, rfl⟩ : ∃ W : World, W = wr := ⟨_, rfl⟩
      have HE := hid he
      have hs0 := he.size
      go_upto_region 10 with (go_at_call 179; refine (grow179 q (by omega) _).mono ?_; rintro e w1 ⟨u, rfl, he1, ho1⟩; have E1 := hid he1; have O1 := hid ho1; clear he1 ho1)
      go_upto_region 11 with fail
      go_loopw [6, 27] (fun s i wr => ∃ j : Nat, j ≤ k ∧ i = .int .i64 (j : Int) ∧ Hid (OwnR wr W0.heap.size 3 1 s (allR c gr j)) ∧ Ext W0 wr) (fun _ i _ => k - (intOf i).toNat)
      case atStart => exact ⟨0, Nat.zero_le _, rfl, O1, E1.out⟩
      case round =>
        obtain ⟨j, hj, rfl, hO, he2⟩ := hrel
        by_cases hlj : j < k
        · obtain ⟨b, o, B', C', rfl, hb, hc, hR⟩ := (HR.out.ext (HE.out.trans he2)).at_ hlj
          have hRR := hid hR
          have h1 := HM.out j hlj
          have h2 := HL.out j hj
          have hsz := he2.size
          have hst := hid (show allR c gr (j + 1) = allR c gr j ++ rowsG 1 (c j) (fun i _ => gr j i) from rfl)
          clear hR
          go_wp2_with (at_builtin; refine wpList_append_rd rfl _ _ 22 rfl el22 rfl hO.out rfl hRR.out (by omega) (by omega) ?_; intro v' w3 hown3 hg3)
          go_roundw
          case rel => exact ⟨j + 1, by omega, by go_num, by rw [hst.out]; exact hid hown3, he2.grown hg3 fun g hg => hO.out.block hg⟩
          case measure => simp [intOf]; omega
        · have : j = k := by omega
          subst this
          go_wp2_with fail
          go_ret
          exact ⟨_, rfl, HE.out.trans he2, hO.out.base hs0⟩
end Go.Proofs.YtbceepjjdfpfmaaGreat
