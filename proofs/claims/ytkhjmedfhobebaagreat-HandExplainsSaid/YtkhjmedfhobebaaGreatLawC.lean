/- Walks of what the laws use: copies of a watch, comparisons, and stretches of the reference. -/
import Derived.Test.YtkhjmedfhobebaaGreatLawA
import Derived.Test.YtkhjmedfhobebaaGreatGenC
namespace Go.Proofs.YtkhjmedfhobebaaGreat
open Go.RowKit HandSpec
set_option maxHeartbeats 800000
set_option maxRecDepth 100000
theorem parts30 {w : World} {v : Value} {l : List (List Int)} (hv : SlR w 2 v l) (hn : l.length ≤ 1000) :
    Calls Tryz.prog 30 #[v] w fun e w' => ∃ u, e = .returned u ∧ Ext w w' ∧ ∃ l', SlR w' 2 u l' ∧ l'.length = l.length ∧ ∀ k, k < l.length → ∀ j, j < 2 → rowsAt l' k j = rowsAt l k j := by
  obtain ⟨A, cap, rfl, hr⟩ := hv
  go_enter Tryz.func30, Tryz.ntmps30
  go_wp2
  go_loopw [3, 8] (fun o i wr => ∃ k : Nat, k ≤ l.length ∧ i = .int .i64 (k : Int) ∧ OwnR wr w.heap.size 65 2 o (rowsG 2 k (rowsAt l)) ∧ Ext w wr) (fun _ i _ => l.length - (intOf i).toNat)
  case atStart => exact ⟨0, Nat.zero_le _, rfl, by simpa [rowsG] using OwnR.nil, Ext.refl _⟩
  case round =>
    obtain ⟨k, hk, rfl, hown, he⟩ := hrel
    by_cases hlt : k < l.length
    · obtain ⟨b, o, rfl, hb, c0, c1⟩ := (hr.ext he).at2 hlt
      have HS := hid (show rowsG 2 (k+1) (rowsAt l) = rowsG 2 k (rowsAt l) ++ [[rowsAt l k 0, rowsAt l k 1]] by unfold rowsG; rw [List.range_succ (n := k), List.map_append]; rfl)
      clear hr
      go_wp2_with (at_builtin; refine wpList_append_rows rfl _ _ 53 rfl elem53 rfl (hown.ext (Ext.alloc (Ext.alloc (Ext.refl _) _) _)) _ 1 1 [[rowsAt l k 0, rowsAt l k 1]] rfl rfl (by simp) (by intro i; simp [cellsOf]) (by rw [rowsG_length]; omega) (by have := he.size; simp; omega) ?_; intro v' w2 hown2 hg2)
      go_roundw
      case rel => exact ⟨k + 1, by omega, by go_num, by rw [HS.out]; exact hown2, ((he.alloc _).alloc _).grown hg2 fun g hg => hown.block hg⟩
      case measure => simp [intOf]; omega
    · go_wp2
      go_ret
      obtain rfl : k = l.length := by omega
      exact ⟨_, rfl, he, _, hown.slR, rowsG_length _ _ _, fun k hk j hj => rowsG_at hk hj⟩
def sameB (x y : WD) : Bool := decide (x.hours = y.hours) && decide (x.allow = y.allow) && decide (x.hands = y.hands) && eqB 3 x.cn y.cn x.c y.c && eqB 2 x.bn y.bn x.b y.b && eqB 3 x.sn y.sn x.s y.s
/-- Two watches of the same numbers are the same. -/
theorem same28 {x y : WD} {w : World} {u v : Value} (hu : IsW w u x) (hv : IsW w v y) (h1 : x.cn ≤ 1000) (h2 : x.bn ≤ 1000) (h3 : x.sn ≤ 1000) (h4 : x.hours = y.hours) (h5 : x.allow = y.allow) (h6 : x.hands = y.hands)
    (h7 : eqB 3 x.cn y.cn x.c y.c = true) (h8 : eqB 2 x.bn y.bn x.b y.b = true) (h9 : eqB 3 x.sn y.sn x.s y.s = true) :
    Calls Tryz.prog 28 #[u, v] w fun e w' => e = .returned (.bool true) ∧ Ext w w' := by
  obtain ⟨A1, c1, A2, c2, A3, c3, rfl, r1, r2, r3⟩ := hu
  obtain ⟨B1, d1, B2, d2, B3, d3, rfl, s1, s2, s3⟩ := hv
  have g1 : y.cn ≤ 1000 := by simp [eqB] at h7; omega
  have g2 : y.bn ≤ 1000 := by simp [eqB] at h8; omega
  have g3 : y.sn ≤ 1000 := by simp [eqB] at h9; omega
  have e4 : (x.hours == y.hours) = true := by simpa using h4
  have e5 : (x.allow == y.allow) = true := by simpa using h5
  have e6 : (x.hands == y.hands) = true := by simpa using h6
  have R1 := hid r1
  have R2 := hid r2
  have R3 := hid r3
  have S1 := hid s1
  have S2 := hid s2
  have S3 := hid s3
  have H7 := hid h7
  have H8 := hid h8
  have H9 := hid h9
  clear r1 r2 r3 s1 s2 s3 h4 h5 h6 h7 h8 h9
  go_enter Tryz.func28, Tryz.ntmps28
  go_upto_region 1 with fail
  refine wp_later fun w1 hw1 => ?_
  obtain ⟨E0, b1, b2⟩ := hw1.newB2
  have E := hid (Ext.refl w1)
  have k1 := b1.cell
  have k1l := b1.lt
  have k2 := b2.cell
  have k2l := b2.lt
  clear hw1
  go_wp2_with (first
    | (go_at_call 123; refine (eq123 (R1.out.ext (E0.trans E.out)) (S1.out.ext (E0.trans E.out)) h1 g1).mono ?_; rintro e w2 ⟨rfl, he2⟩; rw [H7.out]; have E := hid (E.out.trans he2); have k1 := (b1.ext E.out).cell; have k1l := (b1.ext E.out).lt; have k2 := (b2.ext E.out).cell; have k2l := (b2.ext E.out).lt)
    | (go_at_call 124; refine (eq124 (R2.out.ext (E0.trans E.out)) (S2.out.ext (E0.trans E.out)) h2 g2).mono ?_; rintro e w3 ⟨rfl, he3⟩; rw [H8.out]; have E := hid (E.out.trans he3); have k1 := (b1.ext E.out).cell; have k1l := (b1.ext E.out).lt; have k2 := (b2.ext E.out).cell; have k2l := (b2.ext E.out).lt)
    | (go_at_call 125; refine (eq125 (R3.out.ext (E0.trans E.out)) (S3.out.ext (E0.trans E.out)) h3 g3).mono ?_; rintro e w4 ⟨rfl, he4⟩; rw [H9.out]; have E := hid (E.out.trans he4)))
  go_ret
  exact ⟨rfl, E0.trans E.out⟩
end Go.Proofs.YtkhjmedfhobebaaGreat
