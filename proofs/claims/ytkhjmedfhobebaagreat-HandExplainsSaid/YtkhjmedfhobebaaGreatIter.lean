/- The iterator over all stretches: it yields them by From, then by To. The watch has at most 99 counts. -/
import Derived.Test.YtkhjmedfhobebaaGreatProg
import Derived.Test.YtkhjmedfhobebaaGreatBaseC
import Derived.Test.YtkhjmedfhobebaaGreatSpec
namespace Go.Proofs.YtkhjmedfhobebaaGreat
open Go.RowKit HandSpec
attribute [local go_sem] Oper.semAt_some
set_option maxHeartbeats 400000
set_option maxRecDepth 100000

/-- A stretch of n counts. -/
abbrev Str (n : Nat) := { p : Nat × Nat // p.1 < p.2 ∧ p.2 < n }

set_option maxHeartbeats 2000000 in
theorem stretches1_stops {cn cap : Nat} (hcn : cn ≤ 99) {b1 n₁ : Nat} {M : Nat → Prop} {w0 : World} {A : Option Addr} {h a d s2 s3 : Value} (hb : Blk w0 b1 26 #[h, a, d, .slice A cn cap, s2, s3]) (hb1 : b1 < n₁) (hM : ¬ M b1) :
    SeqStopsK Fence.wide 2 Tryz.prog 236 #[.pointer (some ⟨b1, 0, none⟩)] (fun x : Str cn => #[.agg #[.int .i64 (x.1.1 : Int), .int .i64 (x.1.2 : Int)]]) (KpM n₁ M) (fun xs => xs.map (·.1) = stretches cn) (fun _ => True) 10000 w0 := by
  intro l J Jx W hW _ _ hY h0
  have hk0 := (hb.ext hW)
  have HY := hid hY
  clear hY
  refine callsIn_of_wp Tryz.func236 rfl trivial ?_ rfl
  simp only [Tryz.ntmps236, List.size_toArray, List.length_cons, List.length_nil, Nat.reduceAdd, Nat.reduceSub, Array.replicate_succ, Array.replicate_zero, List.push_toArray, List.append_toArray, List.nil_append, List.cons_append]
  have k0 := hk0.cell
  gi_wp2
  clear k0
  gi_loopw [3, 4, 8] (fun _ _ i wr => ∃ (k : Nat) (pre : List (Str cn)), k ≤ cn ∧ i = .int .i64 (k : Int) ∧ Hid (pre.map (·.1) = stretchesTo cn k) ∧ J pre wr ∧ Blk wr b1 26 #[h, a, d, .slice A cn cap, s2, s3]) (fun _ _ i _ => cn - (intOf i).toNat)
  case atStart => exact ⟨0, [], by omega, rfl, rfl, h0, hk0⟩
  case round =>
    obtain ⟨i, pre, hi, rfl, hp, hJ, hk⟩ := hrel
    have k1 := hk.cell
    by_cases hlt : i < cn
    · obtain ⟨wo, rfl⟩ : ∃ wo : World, wo = wr := ⟨_, rfl⟩
      gi_wp2
      clear k1
      gi_loopw [4] (fun kk wr => ∃ (k : Nat) (pre : List (Str cn)), i < k ∧ k ≤ cn ∧ kk = .int .i64 (k : Int) ∧ Hid (pre.map (·.1) = stretchesTo cn i ++ pairsTo k i) ∧ J pre wr ∧ Blk wr b1 26 #[h, a, d, .slice A cn cap, s2, s3]) (fun kk _ => cn - (intOf kk).toNat)
      case atStart => exact ⟨i + 1, pre, by omega, by omega, rfl, by rw [pairsTo_empty i (i+1) (by omega)]; simpa using hp, hJ, hk⟩
      case round =>
        obtain ⟨k, pre, hik, hk', rfl, hp, hJ, hk⟩ := hrel
        have k1 := hk.cell
        by_cases hks : k < cn
        · have hlen : pre.length < 10000 := by
            have h1 := congrArg List.length hp.out
            simp only [List.length_map, List.length_append] at h1
            have h2 := stretchesTo_length cn i
            have h3 := pairsTo_length i k
            have h4 : i * cn ≤ 98 * 99 := Nat.mul_le_mul (by omega) hcn
            omega
          obtain ⟨fn, tmps, assign, body, hy, hR⟩ := HY.out pre ⟨(i, k), hik, hks⟩ wr hJ hlen
          dsimp only at hy
          gi_wp2
          refine hR.mono ?_
          rintro e W3 (⟨rfl, hJ3, hk3⟩ | ⟨rfl, hJx3⟩)
          · gi_wp2
            go_roundw
            case rel => exact ⟨k + 1, _, by omega, by omega, by go_num, by show _ = _; rw [List.map_append, hp.out, pairsTo_succ, if_pos hik]; simp, hJ3, (hk3.2 b1 hb1 hM).trans hk⟩
            case measure => simp [intOf]; omega
          · gi_wp2
            refine bodyPost_ret (results_none rfl _ _ _) rfl ?_
            exact ⟨⟨_, rfl⟩, .inr ⟨_, trivial, hJx3⟩⟩
        · gi_wp2
          go_roundw
          case rel =>
            obtain rfl : k = cn := by omega
            exact ⟨i + 1, pre, by omega, by go_num, by rw [stretchesTo_succ]; exact hp, hJ, hk⟩
          case measure => simp [intOf]; omega
    · gi_wp2
      go_end0
      obtain rfl : i = cn := by omega
      exact ⟨⟨_, rfl⟩, .inl ⟨pre, hp, hJ⟩⟩
end Go.Proofs.YtkhjmedfhobebaaGreat
