/- Walks of the reference: the errors of a stretch, the hands that are there, all stretches, the short ones. The watch is right, as Ok says. -/
import Derived.Test.YtkhjmedfhobebaaGreatRefC
namespace Go.Proofs.YtkhjmedfhobebaaGreat
open Go.RowKit HandSpec
set_option maxHeartbeats 400000
set_option maxRecDepth 100000

theorem elem53 : ElemOk Tryz.prog 53 65 2 16 := ⟨Tryz.underlying53, by
  obtain ⟨i, hi, h1, h2, h3⟩ := info_parts (show (Tryz.prog.info? 65).map (fun i => (i.zero, i.size, i.bytes)) = some (some (.agg #[.int .i64 0, .int .i64 0]), 2, 16) by kernel_rfl)
  exact ⟨i, _, hi, h1, h2, h3, rfl⟩, by omega, by omega⟩

theorem right_any {x : WD} (hx : x.cn ≤ 100) {w : World} {v : Value} (hv : IsW w v x) (a b : Int) :
    Calls Tryz.prog 55 #[v, .agg #[.int .i64 a, .int .i64 b]] w fun e w' => e = .returned (.int .i64 (R.right x a b)) ∧ Ext w w' := by
  obtain ⟨A1, c1, A2, c2, A3, c3, rfl, r1, r2, r3⟩ := hv
  clear r1 r2 r3
  cases h1 : offB a 0 (x.cn - 1)
  · cases h2 : offB b 0 (x.cn - 1)
    · by_cases h3 : b ≤ a
      all_goals
        have H1 := hid h1
        have H2 := hid h2
        clear h1 h2
        go_enter Tryz.func55, Tryz.ntmps55
        go_wp2_with (go_at_call 117; refine (off_any _ _ _ _).mono ?_; rintro e w' ⟨rfl, rfl⟩; first | rw [H1.out] | rw [H2.out])
        go_ret
        exact ⟨ret_int (by simp [R.right, H1.out, H2.out, h3]), ((Ext.refl _).alloc _).alloc _⟩
    · have H1 := hid h1
      have H2 := hid h2
      clear h1 h2
      go_enter Tryz.func55, Tryz.ntmps55
      go_wp2_with (go_at_call 117; refine (off_any _ _ _ _).mono ?_; rintro e w' ⟨rfl, rfl⟩; first | rw [H1.out] | rw [H2.out])
      go_ret
      exact ⟨ret_int (by simp [R.right, H1.out, H2.out]), ((Ext.refl _).alloc _).alloc _⟩
  · have H1 := hid h1
    clear h1
    go_enter Tryz.func55, Tryz.ntmps55
    go_wp2_with (go_at_call 117; refine (off_any _ _ _ _).mono ?_; rintro e w' ⟨rfl, rfl⟩; rw [H1.out])
    go_ret
    exact ⟨ret_int (by simp [R.right, H1.out]), ((Ext.refl _).alloc _).alloc _⟩

theorem there_any {x : WD} (hx : Ok x) {w : World} {v : Value} (hv : IsW w v x) (a b : Nat) (hab : a ≤ b) (hb : b < x.cn) :
    Calls Tryz.prog 58 #[v, .agg #[.int .i64 a, .int .i64 b]] w fun e w' => ∃ u, e = .returned u ∧ Ext w w' ∧ OwnR w' w.heap.size 3 1 u (rows1 (R.there x a b)) := by
  have hv0 := hid hv
  obtain ⟨A1, c1, A2, c2, A3, c3, rfl, r1, r2, r3⟩ := hv
  obtain ⟨hh1, hh2⟩ := hx.hands
  obtain ⟨n, hn⟩ := Int.eq_ofNat_of_zero_le (show 0 ≤ x.hands by omega)
  have HT : Hid (R.there x a b = (List.range n).filter fun h : Nat => R.is x a b h) := by unfold R.there; rw [hn]; rfl
  have hn1 : x.hands ≤ n := by omega
  have hn2 : (n : Int) ≤ x.hands := by omega
  clear hn r1 r2 r3
  go_enter Tryz.func58, Tryz.ntmps58
  go_wp2
  refine wp_later fun w1 hw1 => ?_
  obtain ⟨he, hk1, hk2⟩ := hw1.new2
  clear hw1
  go_loopw [5, 6] (fun o h wr => ∃ k : Nat, k ≤ n ∧ h = .int .i64 (k : Int) ∧ OwnR wr w1.heap.size 3 1 o (rows1 ((List.range k).filter fun h : Nat => R.is x a b h)) ∧ Ext w1 wr) (fun _ h _ => n - (intOf h).toNat)
  case atStart => exact ⟨0, Nat.zero_le _, rfl, by simpa [rows1] using OwnR.nil, Ext.refl _⟩
  case round =>
    obtain ⟨k, hk, rfl, hown, he1⟩ := hrel
    have k1 := (hk1.ext he1).2
    have k2 := (hk2.ext he1).2
    have hr : (List.range (k+1)).filter (fun h : Nat => R.is x a b h) = (List.range k).filter (fun h : Nat => R.is x a b h) ++ if R.is x a b k then [k] else [] := by
      rw [List.range_succ, List.filter_append]
      by_cases h : R.is x a b k <;> simp [h]
    have HR := hid hr
    have hl : ((List.range k).filter fun h : Nat => R.is x a b h).length ≤ k := Nat.le_trans (List.length_filter_le _ _) (by simp)
    clear hr
    by_cases hlt : (k : Int) < x.hands
    · cases hb : R.is x a b k
      all_goals
        have HB := hid hb
        clear hb
      · go_wp2_with (go_at_call 126; refine (is_any hx (hv0.out.ext (he.trans he1)) a b hab (by assumption) _).mono ?_; rintro e w2 ⟨rfl, he2⟩; rw [HB.out])
        go_roundw
        case rel => exact ⟨k + 1, by omega, by go_num, by rw [HR.out, HB.out]; simpa using hown.ext he2, he1.trans he2⟩
        case measure => simp [intOf]; omega
      · go_wp2_with (first
          | (go_at_call 126; refine (is_any hx (hv0.out.ext (he.trans he1)) a b hab (by assumption) _).mono ?_; rintro e w2 ⟨rfl, he2⟩; rw [HB.out])
          | (at_builtin; refine wpList_append_rows rfl _ _ 56 rfl elem56 rfl ((hown.ext he2).ext (Ext.alloc (Ext.refl _) _)) _ 1 1 [[(k : Int)]] rfl rfl (by simp) (by intro i; simp [cellsOf]) (by rw [rows1_length]; omega) (by have := he1.size; have := he2.size; simp; omega) ?_; intro v' w3 hown2 hg2))
        go_roundw
        case rel => exact ⟨k + 1, by omega, by go_num, by rw [HR.out, HB.out, rows1_append]; simpa [rows1] using hown2, ((he1.trans he2).alloc _).grown hg2 fun g hg => (hown.ext he2).block hg⟩
        case measure => simp [intOf]; omega
    · go_wp2_with fail
      go_ret
      obtain rfl : k = n := by omega
      exact ⟨_, rfl, he.trans he1, by rw [HT.out]; exact hown.base he.size⟩
end Go.Proofs.YtkhjmedfhobebaaGreat
