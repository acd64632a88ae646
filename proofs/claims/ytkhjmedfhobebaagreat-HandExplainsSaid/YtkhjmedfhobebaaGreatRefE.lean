/- Walks of the reference: all stretches, the short ones, the smallest ones. The watch is right, as Ok says. -/
import Derived.Test.YtkhjmedfhobebaaGreatRefD
import Derived.Test.YtkhjmedfhobebaaGreatSpec
namespace Go.Proofs.YtkhjmedfhobebaaGreat
open Go.RowKit HandSpec
set_option maxHeartbeats 400000
set_option maxRecDepth 100000

theorem _root_.Go.Rd.atP {w : World} {A : Option Addr} {l : List (Nat × Nat)} (h : Rd w A l.length 2 (rowsAt (rows2 l))) {k : Nat} (hk : k < l.length) :
    ∃ b o, A = some ⟨b, o, none⟩ ∧ b < w.heap.size ∧ w.cell? ⟨b, o + k * 2, none⟩ = some (.int .i64 ((nth l k).1 : Int)) ∧ w.cell? ⟨b, o + k * 2 + 1, none⟩ = some (.int .i64 ((nth l k).2 : Int)) := by
  obtain ⟨b, o, hA, hb, h0, h1⟩ := h.at2 hk
  unfold rowsAt at h0 h1
  rw [rowsAt_nth l hk] at h0 h1
  exact ⟨b, o, hA, hb, h0, h1⟩
theorem _root_.Go.Rd.atN {w : World} {A : Option Addr} {l : List Nat} (h : Rd w A l.length 1 (rowsAt (rows1 l))) {k : Nat} (hk : k < l.length) :
    ∃ b o, A = some ⟨b, o, none⟩ ∧ b < w.heap.size ∧ w.cell? ⟨b, o + k, none⟩ = some (.int .i64 ((l.getD k 0 : Nat) : Int)) := by
  obtain ⟨b, o, hA, hb, h0⟩ := h.at1 hk
  refine ⟨b, o, hA, hb, ?_⟩
  rw [h0]
  simp [rowsAt, rows1, hk]

theorem all_any {x : WD} (hx : x.cn ≤ 100) {w : World} {v : Value} (hv : IsW w v x) :
    Calls Tryz.prog 140 #[v] w fun e w' => ∃ u, e = .returned u ∧ Ext w w' ∧ OwnR w' w.heap.size 65 2 u (rows2 (stretches x.cn)) := by
  obtain ⟨A1, c1, A2, c2, A3, c3, rfl, r1, r2, r3⟩ := hv
  clear r1 r2 r3
  go_enter Tryz.func140, Tryz.ntmps140
  go_wp2
  refine wp_later fun w1 hw1 => ?_
  obtain ⟨he, hk1⟩ := hw1.new
  clear hw1
  go_loopw [3, 4, 5] (fun o i _ wr => ∃ k : Nat, k ≤ x.cn ∧ i = .int .i64 (k : Int) ∧ OwnR wr w1.heap.size 65 2 o (rows2 (stretchesTo x.cn k)) ∧ Ext w1 wr) (fun _ i _ _ => x.cn - (intOf i).toNat)
  case atStart => exact ⟨0, Nat.zero_le _, rfl, by simpa [rows2, stretchesTo] using OwnR.nil, Ext.refl _⟩
  case round =>
    obtain ⟨i, hi, rfl, hown, he1⟩ := hrel
    obtain ⟨wo, rfl⟩ : ∃ wo : World, wo = wr := ⟨_, rfl⟩
    have k1 := (hk1.ext he1).2
    by_cases hlt : i < x.cn
    · go_wp2
      clear k1
      go_loopw [3, 5] (fun o kk wr => ∃ k : Nat, i < k ∧ k ≤ x.cn ∧ kk = .int .i64 (k : Int) ∧ OwnR wr w1.heap.size 65 2 o (rows2 (stretchesTo x.cn i ++ pairsTo k i)) ∧ Ext w1 wr) (fun _ kk _ => x.cn - (intOf kk).toNat)
      case atStart => exact ⟨i + 1, by omega, by omega, rfl, by rw [pairsTo_empty i (i+1) (by omega)]; simpa using hown, he1⟩
      case round =>
        obtain ⟨k, hik, hk, rfl, hown1, he2⟩ := hrel
        have k1 := (hk1.ext he2).2
        have HP := hid (pairsTo_succ k i)
        have hl1 := stretchesTo_length x.cn i
        have hl2 := pairsTo_length i k
        have hl3 : i * x.cn ≤ 100 * 100 := Nat.mul_le_mul (by omega) hx
        by_cases hks : k < x.cn
        · go_wp2_with (at_builtin; refine wpList_append_rows rfl _ _ 53 rfl elem53 rfl (hown1.ext (Ext.alloc (Ext.refl _) _)) _ 1 1 [[(i : Int), (k : Int)]] rfl rfl (by simp) (by intro j; simp [cellsOf]) (by rw [rows2_length, List.length_append]; omega) (by have := he2.size; simp; omega) ?_; intro v' w3 hown2 hg2)
          go_roundw
          case rel => exact ⟨k + 1, by omega, by omega, by go_num, by rw [HP.out, if_pos hik, ← List.append_assoc, rows2_append]; simpa [rows2] using hown2, (he2.alloc _).grown hg2 fun g hg => hown1.block hg⟩
          case measure => simp [intOf]; omega
        · go_wp2
          go_roundw
          case rel =>
            obtain rfl : k = x.cn := by omega
            exact ⟨i + 1, by omega, by go_num, by rw [stretchesTo_succ]; exact hown1, he2⟩
          case measure => simp [intOf]; omega
    · go_wp2
      go_ret
      obtain rfl : i = x.cn := by omega
      exact ⟨_, rfl, he.trans he1, hown.base he.size⟩

theorem short_any {x : WD} (hx : Ok x) {w : World} {v : Value} (hv : IsW w v x) :
    Calls Tryz.prog 42 #[v] w fun e w' => ∃ u, e = .returned u ∧ Ext w w' ∧ OwnR w' w.heap.size 65 2 u (rows2 (R.short x)) := by
  have hv0 := hid hv
  obtain ⟨A1, c1, A2, c2, A3, c3, rfl, r1, r2, r3⟩ := hv
  have hcn := hx.cn
  clear r1 r2 r3
  go_enter Tryz.func42, Tryz.ntmps42
  go_wp2_with (go_at_call 140; refine (all_any (by omega) (hv0.out.ext (Ext.alloc (Ext.refl _) _))).mono ?_; rintro e w1 ⟨u, rfl, he0, hu⟩)
  obtain ⟨he, hk1⟩ := he0.new
  have hs := hu.slR
  have hll : (stretches x.cn).length ≤ 64 := Nat.le_trans (stretches_length _) (Nat.mul_le_mul hcn.2 hcn.2)
  have hmem : ∀ k, k < (stretches x.cn).length → (nth (stretches x.cn) k).1 < (nth (stretches x.cn) k).2 ∧ (nth (stretches x.cn) k).2 < x.cn := fun k hk => mem_stretches.1 (by simp [nth, hk])
  have HM := hid hmem
  have HG : Hid (R.short x = (stretches x.cn).filter fun p => decide (0 < R.gap x p.1 p.2)) := hid rfl
  clear hu he0 hmem
  obtain ⟨A, cap, rfl, hr⟩ := hs
  rw [rows2_length] at *
  generalize stretches x.cn = l at *
  refine wp_later fun w2 hw2 => ?_
  go_loopw [3, 5] (fun o i wr => ∃ k : Nat, k ≤ l.length ∧ i = .int .i64 (k : Int) ∧ OwnR wr w2.heap.size 65 2 o (rows2 ((l.take k).filter fun p => decide (0 < R.gap x p.1 p.2))) ∧ Ext w2 wr) (fun _ i _ => l.length - (intOf i).toNat)
  case atStart => exact ⟨0, Nat.zero_le _, rfl, by simpa [rows2] using OwnR.nil, Ext.refl _⟩
  case round =>
    obtain ⟨k, hk, rfl, hown, he1⟩ := hrel
    have k1 := (hk1.ext (hw2.trans he1)).2
    by_cases hlt : k < l.length
    · obtain ⟨b, o, rfl, hb, c1, c2⟩ := (hr.ext (hw2.trans he1)).atP hlt
      obtain ⟨m1, m2⟩ := HM.out k hlt
      have HN : Hid ((l.take (k+1)).filter (fun p => decide (0 < R.gap x p.1 p.2)) = (l.take k).filter (fun p => decide (0 < R.gap x p.1 p.2)) ++ if 0 < R.gap x (nth l k).1 (nth l k).2 then [nth l k] else []) := by
        show _ = _
        rw [List.take_succ_eq_append_getElem hlt, List.filter_append]
        have : l[k] = nth l k := by simp [nth, hlt]
        rw [this]
        by_cases h : 0 < R.gap x (nth l k).1 (nth l k).2 <;> simp [h]
      have hfl : ((l.take k).filter fun p => decide (0 < R.gap x p.1 p.2)).length ≤ k := Nat.le_trans (List.length_filter_le _ _) (by simp; omega)
      clear hr
      by_cases q : 0 < R.gap x (nth l k).1 (nth l k).2
      all_goals
        go_upto_region 6 with fail
        refine wp_region_later (by kernel_rfl) (by kernel_rfl) ?_
        repeat (go_big_quiet_step ((go_at_call 57; exact Calls.later (gap_any hx ((hv0.out.ext (he.trans (hw2.trans he1))).ext (Later.ext _)) _ _ (Nat.lt_trans m1 m2) m2))))
        refine wpQuiet_nil ?_
        rintro _ ⟨⟨w3, he3⟩, rfl⟩
        have c1 := he3.some_ c1
        have c2 := he3.some_ c2
        have k1 := ((hk1.ext (hw2.trans he1)).ext he3).2
        have hb3 := he3.size
      · go_wp2_with (at_builtin; refine wpList_append_rows rfl _ _ 53 rfl elem53 rfl ((hown.ext he3).ext (Ext.alloc (Ext.refl _) _)) _ 1 1 [[((nth l k).1 : Int), ((nth l k).2 : Int)]] rfl rfl (by simp) (by intro j; simp [cellsOf]) (by rw [rows2_length]; omega) (by have := he1.size; simp; omega) ?_; intro v' w4 hown2 hg2)
        go_roundw
        case rel => exact ⟨k + 1, by omega, by go_num, by rw [HN.out, if_pos q, rows2_append]; simpa [rows2] using hown2, ((he1.trans he3).alloc _).grown hg2 fun g hg => (hown.ext he3).block hg⟩
        case measure => simp [intOf]; omega
      · go_wp2
        go_roundw
        case rel => exact ⟨k + 1, by omega, by go_num, by rw [HN.out, if_neg q]; simpa using hown.ext he3, he1.trans he3⟩
        case measure => simp [intOf]; omega
    · go_wp2_with fail
      go_ret
      refine ⟨_, rfl, he.trans (hw2.trans he1), ?_⟩
      rw [HG.out, ← List.take_of_length_le (show l.length ≤ k by omega)]
      exact hown.base (he.trans hw2).size

set_option maxHeartbeats 1600000 in
theorem smallest_any {x : WD} (hx : Ok x) {w : World} {v : Value} (hv : IsW w v x) :
    Calls Tryz.prog 43 #[v] w fun e w' => ∃ u, e = .returned u ∧ Ext w w' ∧ OwnR w' w.heap.size 65 2 u (rows2 (R.smallest x)) := by
  have hv0 := hid hv
  obtain ⟨A1, c1, A2, c2, A3, c3, rfl, r1, r2, r3⟩ := hv
  have hcn := hx.cn
  clear r1 r2 r3
  go_enter Tryz.func43, Tryz.ntmps43
  go_wp2_with (go_at_call 42; refine (short_any hx (hv0.out.ext (Ext.alloc (Ext.refl _) _))).mono ?_; rintro e w1 ⟨u, rfl, he0, hu⟩)
  obtain ⟨he, _⟩ := he0.new
  have hs := hu.slR
  have hll : (R.short x).length ≤ 64 := Nat.le_trans (R.short_length _) (Nat.mul_le_mul hcn.2 hcn.2)
  have HG : Hid (R.smallest x = R.smallTo (R.short x) (R.short x).length) := hid rfl
  clear hu he0
  obtain ⟨A, cap, rfl, hr⟩ := hs
  rw [rows2_length] at *
  generalize R.short x = l at *
  refine wp_later fun w2 hw2 => ?_
  have hr := hr.ext hw2
  go_loopw [3, 5, 6, 7] (fun o i _ _ wr => ∃ k : Nat, k ≤ l.length ∧ i = .int .i64 (k : Int) ∧ OwnR wr w2.heap.size 65 2 o (rows2 (R.smallTo l k)) ∧ Ext w2 wr) (fun _ i _ _ _ => l.length - (intOf i).toNat)
  case atStart => exact ⟨0, Nat.zero_le _, rfl, by simpa [rows2, R.smallTo] using OwnR.nil, Ext.refl _⟩
  case round =>
    obtain ⟨i, hi, rfl, hown, he1⟩ := hrel
    obtain ⟨wo, rfl⟩ : ∃ wo : World, wo = wr := ⟨_, rfl⟩
    by_cases hlt : i < l.length
    · have hr := hr.ext he1
      obtain ⟨b, o, rfl, hb, c1, c2⟩ := hr.atP hlt
      have HS := hid (R.smallTo_succ l i)
      have hsl := R.smallTo_length l i
      go_wp2
      go_loopw [6, 7] (fun s kk wr => ∃ (k : Nat) (t : Bool), k ≤ l.length ∧ kk = .int .i64 (k : Int) ∧ s = .bool t ∧ Hid (t = !anyTo (R.inner l i) k) ∧ Ext wo wr) (fun _ kk _ => l.length - (intOf kk).toNat)
      case atStart => exact ⟨0, true, by omega, rfl, rfl, rfl, Ext.refl _⟩
      case round =>
        obtain ⟨k, t, hk, rfl, rfl, ht, he2⟩ := hrel
        by_cases hks : k < l.length
        · obtain ⟨b', o', hA, _, d1, d2⟩ := hr.atP hks
          obtain ⟨rfl, rfl⟩ := same_addr rfl hA
          have c1 := he2.some_ c1
          have c2 := he2.some_ c2
          have d1 := he2.some_ d1
          have d2 := he2.some_ d2
          have hb := Nat.lt_of_lt_of_le hb he2.size
          clear hA hr
          have HI : Hid (R.inner l i k = _) := hid rfl
          cases t
          · go_upto_region 10 with fail
            refine wp_region_later (by kernel_rfl) (by kernel_rfl) ?_
            repeat (go_big_quiet_step (fail))
            refine wpQuiet_nil ?_
            rintro _ ⟨⟨w3, he3⟩, rfl⟩
            go_wp2
            go_roundw
            case rel => exact ⟨k + 1, false, by omega, by go_num, rfl, by have := ht.out; show _ = _; simp [anyTo] at this ⊢; simp [this], he2.trans he3⟩
            case measure => simp [intOf]; omega
          · by_cases q0 : k = i
            · obtain rfl := q0
              go_upto_region 10 with fail
              refine wp_region_later (by kernel_rfl) (by kernel_rfl) ?_
              repeat (go_big_quiet_step (fail))
              refine wpQuiet_nil ?_
              rintro _ ⟨⟨w3, he3⟩, rfl⟩
              go_wp2
              go_roundw
              case rel => exact ⟨k + 1, true, by omega, by go_num, rfl, by have := ht.out; show _ = _; simp at this; simp [anyTo, this, R.inner, Nat.lt_irrefl], he2.trans he3⟩
              case measure => simp [intOf]; omega
            · have e0 : ((k : Int) == (i : Int)) = false := by simp; omega
              have e0' : (k == i) = false := by simp; omega
              by_cases q1 : (nth l k).1 < (nth l i).1
              · have e1 : decide ((nth l k).1 < (nth l i).1) = true := by simpa using q1
                go_upto_region 10 with fail
                refine wp_region_later (by kernel_rfl) (by kernel_rfl) ?_
                repeat (go_big_quiet_step (fail))
                refine wpQuiet_nil ?_
                rintro _ ⟨⟨w3, he3⟩, rfl⟩
                go_wp2
                go_roundw
                case rel => exact ⟨k + 1, true, by omega, by go_num, rfl, by have := ht.out; show _ = _; simp at this; simp [anyTo, this, R.inner, q1], he2.trans he3⟩
                case measure => simp [intOf]; omega
              · have e1 : decide ((nth l k).1 < (nth l i).1) = false := by simpa using q1
                by_cases q2 : (nth l i).2 < (nth l k).2
                · have e2 : decide ((nth l i).2 < (nth l k).2) = true := by simpa using q2
                  go_upto_region 10 with fail
                  refine wp_region_later (by kernel_rfl) (by kernel_rfl) ?_
                  repeat (go_big_quiet_step (fail))
                  refine wpQuiet_nil ?_
                  rintro _ ⟨⟨w3, he3⟩, rfl⟩
                  go_wp2
                  go_roundw
                  case rel => exact ⟨k + 1, true, by omega, by go_num, rfl, by have := ht.out; show _ = _; simp at this; simp [anyTo, this, R.inner, q2], he2.trans he3⟩
                  case measure => simp [intOf]; omega
                · have e2 : decide ((nth l i).2 < (nth l k).2) = false := by simpa using q2
                  go_upto_region 10 with fail
                  refine wp_region_later (by kernel_rfl) (by kernel_rfl) ?_
                  repeat (go_big_quiet_step (fail))
                  refine wpQuiet_nil ?_
                  rintro _ ⟨⟨w3, he3⟩, rfl⟩
                  go_wp2
                  go_roundw
                  case rel => exact ⟨k + 1, false, by omega, by go_num, rfl, by have := ht.out; show _ = _; simp at this; simp [anyTo, this, R.inner, q0, q1, q2], he2.trans he3⟩
                  case measure => simp [intOf]; omega
        · obtain rfl : k = l.length := by omega
          have c1 := he2.some_ c1
          have c2 := he2.some_ c2
          have hb := Nat.lt_of_lt_of_le hb he2.size
          clear hr
          have hsm : R.isSm l i = t := ht.out.symm
          have HM := hid hsm
          clear hsm
          cases t
          · go_wp2_with fail
            go_roundw
            case rel => exact ⟨i + 1, by omega, by go_num, by rw [HS.out, HM.out]; simpa using hown.ext he2, he1.trans he2⟩
            case measure => simp [intOf]; omega
          · go_wp2_with (at_builtin; refine wpList_append_rows rfl _ _ 53 rfl elem53 rfl ((hown.ext he2).ext (Ext.alloc (Ext.refl _) _)) _ 1 1 [[((nth l i).1 : Int), ((nth l i).2 : Int)]] rfl rfl (by simp) (by intro j; simp [cellsOf]) (by rw [rows2_length]; omega) (by have := he1.size; have := he2.size; simp; omega) ?_; intro v' w4 hown2 hg2)
            go_roundw
            case rel => exact ⟨i + 1, by omega, by go_num, by rw [HS.out, HM.out, if_pos rfl, rows2_append]; simpa [rows2] using hown2, ((he1.trans he2).alloc _).grown hg2 fun g hg => (hown.ext he2).block hg⟩
            case measure => simp [intOf]; omega
    · go_wp2_with fail
      go_ret
      obtain rfl : i = l.length := by omega
      exact ⟨_, rfl, he.trans (hw2.trans he1), by rw [HG.out]; exact hown.base (he.trans hw2).size⟩
end Go.Proofs.YtkhjmedfhobebaaGreat
