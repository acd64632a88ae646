/- All payments up to a year; what is left. The ledger is right. -/
import Derived.Test.YtbceepjjdfpfmaaGreatBook
namespace Go.Proofs.YtbceepjjdfpfmaaGreat
open Go.RowKit HandSpec LoanSpec
attribute [local go_sem] Oper.semAt_some
set_option maxHeartbeats 4000000
set_option maxRecDepth 100000
/-- Nothing that lay there has changed but the desk. -/
structure ChD (w0 w : World) (g : Nat) (w' : World) : Prop where
  e : Ext w0 w'
  sz : w.heap.size ≤ w'.heap.size
  ch : ∀ k, k < w.heap.size → k ≠ g → w'.heap[k]? = w.heap[k]?
theorem ChD.refl {w0 w : World} (h : Ext w0 w) (g : Nat) : ChD w0 w g w := ⟨h, Nat.le_refl _, fun _ _ _ => rfl⟩
theorem ChD.ext {w0 w w' w'' : World} {g : Nat} (h : ChD w0 w g w') (e : Ext w' w'') : ChD w0 w g w'' := ⟨h.e.trans e, Nat.le_trans h.sz e.size, fun k hk hm => (e.block (Nat.lt_of_lt_of_le hk h.sz)).trans (h.ch k hk hm)⟩
theorem ChD.trans {w0 w w' w'' : World} {g : Nat} (h : ChD w0 w g w') (k : ChD w0 w' g w'') : ChD w0 w g w'' := ⟨k.e, Nat.le_trans h.sz k.sz, fun i hi hm => (k.ch i (Nat.lt_of_lt_of_le hi h.sz) hm).trans (h.ch i hi hm)⟩
theorem book_ch {w0 w : World} {g : Nat} {x : LD} {p : LA} (hx : Ok x) (hfn : x.fn ≤ 1000) (hLA : IsLA w0 x p) (he0 : Ext w0 w) (hg : w0.heap.size ≤ g) {b : Nat → Int} (hd : Blk w g 177 (deskC x p b)) {k : Nat} (hk : k < x.pn)
    (hb : ∀ i, i < x.ln → 0 ≤ b i ∧ b i ≤ P.asked x i) :
    Calls Tryz.prog 137 #[.pointer (some ⟨g, 0, none⟩), .agg #[.int .i64 (x.pa k 0), .int .i64 (x.pa k 1), .int .i64 (x.pa k 2)]] w fun e w' => ∃ u, e = .returned (.tuple #[u, .int .i64 (P.book x k b).2]) ∧ ChD w0 w g w' ∧
      Blk w' g 177 (deskC x p (P.book x k b).1) ∧ OwnR w' w.heap.size 76 2 u (rowsP (P.parts (P.asked x) (P.mine x (x.pa k 0) (x.pa k 1)) b (x.pa k 2))) := by
  have hs := hx.psack k hk
  refine (book137 hx hfn hLA he0 hg hd (who := x.pa k 0) (year := x.pa k 1) (n := x.pa k 2) (by omega) hb).mono ?_
  rintro e w' ⟨u, rfl, h1, h2, h3, h4, h5⟩
  exact ⟨u, rfl, ⟨h1, h4, h5⟩, h2, h3⟩
theorem until116 {w0 w : World} {g : Nat} {x : LD} {p : LA} (hx : Ok x) (hfn : x.fn ≤ 1000) (hLA : IsLA w0 x p) (he0 : Ext w0 w) (hg : w0.heap.size ≤ g) (hd : Blk w g 177 (deskC x p fun _ => 0)) (year : Int) :
    Calls Tryz.prog 116 #[.pointer (some ⟨g, 0, none⟩), .int .i64 year] w fun e w' => (∃ v, e = .returned v) ∧ ChD w0 w g w' ∧ Blk w' g 177 (deskC x p (P.booked x year)) := by
  have HLA := hid hLA
  have HE := hid he0
  have hpn := hx.pn
  have HD := hid hd
  obtain ⟨A1, c1, A2, c2, A3, c3, A4, c4, A5, c5⟩ := p
  have kd5 := hd.cell 5
  have kdl := hd.lt
  unfold deskC at kd5
  simp only [List.getElem?_toArray, List.getElem?_cons_zero, List.getElem?_cons_succ] at kd5
  clear hd hLA he0
  go_enter Tryz.func116, Tryz.ntmps116
  go_wp2
  clear kd5 kdl
  go_loopw [12] (fun i wr => ∃ k : Nat, k ≤ x.pn ∧ i = .int .i64 (k : Int) ∧ ChD w0 w g wr ∧ Hid (Blk wr g 177 (deskC x ⟨A1, c1, A2, c2, A3, c3, A4, c4, A5, c5⟩ (P.untilTo x year k)))) (fun i _ => x.pn - (intOf i).toNat)
  case atStart => exact ⟨0, by omega, rfl, ChD.refl HE.out g, HD⟩
  case round =>
    obtain ⟨k, hk, rfl, hc, hb⟩ := hrel
    by_cases hlt : k < x.pn
    · obtain ⟨ga, oa, hA4, hga, q0, q1, q2⟩ := (HLA.out.r4.ext hc.e).at3 hlt
      dsimp only at hA4
      subst hA4
      have hki : (k : Int) < (x.pn : Int) := by omega
      have hbd := P.until_bd hx year k (by omega)
      obtain ⟨z1, hz1⟩ : ∃ z, Hid (z = x.pa k 1) := ⟨_, hid rfl⟩
      by_cases hy : x.pa k 1 ≤ year
      · have HY := hid (show P.untilTo x year (k+1) = (P.book x k (P.untilTo x year k)).1 from if_pos hy)
        go_wp2_with (go_at_call 137; refine (book_ch hx hfn HLA.out (hc.e.trans ((Ext.refl _).alloc _)) hg (hb.out.ext ((Ext.refl _).alloc _)) hlt hbd).mono ?_; rintro e w2 ⟨u, rfl, hc2, hd2, -⟩)
        go_roundw
        case rel => exact ⟨k + 1, by omega, by go_num, (hc.ext ((Ext.refl _).alloc _)).trans hc2, hid (by rw [HY.out]; exact hd2)⟩
        case measure => simp [intOf]; omega
      · have HY := hid (show P.untilTo x year (k+1) = P.untilTo x year k from if_neg hy)
        go_wp2_with fail
        go_roundw
        case rel => exact ⟨k + 1, by omega, by go_num, hc.ext ((Ext.refl _).alloc _), hid (by rw [HY.out]; exact hb.out.ext ((Ext.refl _).alloc _))⟩
        case measure => simp [intOf]; omega
    · go_wp2_with fail
      go_end0
      obtain rfl : k = x.pn := by omega
      exact ⟨⟨_, rfl⟩, hc, hb.out⟩
/-- What stands while what is left is summed. -/
structure Lf (w0 w1 w : World) (g : Nat) (x : LD) (p : LA) (year : Int) (b : Nat → Int) (s : Int) (W : World) : Prop where
  a : AtD w0 w1 (fun k => k = w.heap.size + 3) g x p W
  d : Blk W g 177 (deskC x p b)
  ch : ∀ k, k < w.heap.size → W.heap[k]? = w.heap[k]?
  b3 : Blk W w.heap.size 148 #[.pointer (some ⟨g, 0, none⟩)]
  b4 : Blk W (w.heap.size + 1) 3 #[.int .i64 year]
  b7 : Blk W (w.heap.size + 3) 3 #[.int .i64 s]
namespace Lf
variable {w0 w1 w W W' : World} {g : Nat} {x : LD} {p : LA} {year s : Int} {b : Nat → Int}
theorem kc {B : Nat} (h : Lf w0 w1 w g x p year b s W) (k : Kc B W W') (h0 : w0.heap.size ≤ B) (h1 : w1.heap.size ≤ B) (hw : w.heap.size ≤ w1.heap.size) : Lf w0 w1 w g x p year b s W' :=
  ⟨h.a.kc k h0 h1, h.d.kc k, fun i hi => (Kc.same k (by omega) (by have := h.a.sz; omega)).trans (h.ch i hi), h.b3.kc k, h.b4.kc k, h.b7.kc k⟩
theorem ext (h : Lf w0 w1 w g x p year b s W) (e : Ext W W') (hw : w.heap.size ≤ w1.heap.size) : Lf w0 w1 w g x p year b s W' :=
  ⟨h.a.ext e, h.d.ext e, fun i hi => (e.block (by have := h.a.sz; omega)).trans (h.ch i hi), h.b3.ext e, h.b4.ext e, h.b7.ext e⟩
theorem add (h : Lf w0 w1 w g x p year b s W) (z : Int) (h0 : w0.heap.size ≤ w.heap.size) (hgl : g < w.heap.size) : Lf w0 w1 w g x p year b z (W.setCell ⟨w.heap.size + 3, 0, none⟩ (.int .i64 z)) := by
  have d' : Blk (W.setCell ⟨w.heap.size + 3, 0, none⟩ (.int .i64 z)) g 177 (deskC x p b) := h.d.far (by simp; omega) _
  refine ⟨h.a.set_ _ _ (by simp; omega) (.inr rfl) ⟨_, d'⟩, d', fun k hk => ?_, h.b3.far (by simp) _, h.b4.far (by simp) _, h.b7.set_ 0 _⟩
  rw [Below.heap_setCell _ _ _ _ (by simp; omega)]
  exact h.ch k hk
theorem later (h : Lf w0 w1 w g x p year b s W) (h0 : Ext w0 w) (hw : w.heap.size ≤ w1.heap.size) : Ext w W :=
  ⟨(Below.os h.a.e).trans (Below.os h0).symm, (Below.tape h.a.e).trans (Below.tape h0).symm, (Below.output h.a.e).trans (Below.output h0).symm, by have := h.a.sz; omega, h.ch⟩
end Lf
theorem left98 {w0 w : World} {g : Nat} {x : LD} {p : LA} (hx : Ok x) (hfn : x.fn ≤ 1000) (hLA : IsLA w0 x p) (he0 : Ext w0 w) {b : Nat → Int} (hd : Blk w g 177 (deskC x p b)) (year : Int)
    (hb : ∀ i, i < x.ln → 0 ≤ b i ∧ b i ≤ P.asked x i) {fv : Value} {q : Nat → Bool} (hc : ∀ w1, Ext w w1 → Cnts w0 w1 (fun k => k = w.heap.size + 3) g x p fv q) :
    Calls Tryz.prog 98 #[.pointer (some ⟨g, 0, none⟩), .int .i64 year, .agg #[fv]] w fun e w' => e = .returned (.int .i64 (P.leftL x year q b (P.order x))) ∧ Ext w w' := by
  refine (callsIn_wide (n := 3)).1 (callsIn_of_wp_marks Tryz.func98 rfl trivial (wpIn_wide.2 ?_) rfl)
  simp only [Tryz.ntmps98, List.size_toArray, List.length_cons, List.length_nil, Nat.reduceAdd, Nat.reduceSub, Array.replicate_succ, Array.replicate_zero, List.push_toArray, List.append_toArray, List.nil_append, List.cons_append]
  go_wp2_with (go_at_call 162; refine (loans162 _ _ _).mono ?_; rintro e w1 ⟨rfl, he1, hb1, hb2⟩)
  obtain ⟨he, hk7⟩ := he1.newB
  obtain ⟨he, hk5⟩ := he.newB
  obtain ⟨he, hk4⟩ := he.newB
  obtain ⟨he, hk3⟩ := he.newB
  simp only [World.size_alloc, Nat.add_assoc, Nat.reduceAdd] at hk7 hk5 hk4 hb1 hb2
  have hs1 : w.heap.size + 4 ≤ w1.heap.size := by have := he1.size; simp only [World.size_alloc] at this; omega
  have hs2 := hb2.lt
  have hw0 := he0.size
  have hgl := hd.lt
  clear he1
  have HA : AtD w0 w1 (fun k => k = w.heap.size + 3) g x p w1 := ⟨he0.trans he, Nat.le_refl _, fun _ _ _ => rfl, b, hd.ext he⟩
  have HC := hc w1 he
  simp only [Nat.add_assoc, Nat.reduceAdd]
  refine wp_rangeK (gf := 190) rfl (enters_ Tryz.func190 (by kernel_rfl) rfl) (fun y : Lo x => .int .i64 (y.1 : Int)) (fun h1 h2 h => h2 (h1 h)) (fun W l o o' hl' ho hc _ h => h.put (by omega) hl' ho hc)
    (loans190_stops hx hLA hb1 (by omega) hb2 (by omega) HA HC) (Ext.refl _)
    (fun pre W => Lf w0 w1 w g x p year b (P.sumL (P.one x year b) (los pre)) W)
    (ownFrom_of fun pre W W' k h => h.kc k (by omega) (Nat.le_refl _) (by omega)) ⟨HA, hd.ext he, fun k hk => he.block hk, hk3, hk4, hk7⟩
    (fun (y : Lo x) tm a' W => a' = { tmps := (tm.setIfInBounds 12 (.int .i64 (y.1 : Int))).setIfInBounds 8 (.int .i64 (y.1 : Int)), defers := [] })
    (fun y a' => ownFrom_of fun _ W W' k h => h) ?_ ?_ ?_
  · intro l pre y W K hI hK
    simp only [List.setIfInBounds_toArray, List.set_cons_succ, List.set_cons_zero]
    gi_wp2
    exact hK _ _ (KeepsFrom.ext (Ext.refl _)) (fun h => h) hI rfl
  · rintro l pre y a' W hl - hB rfl hN
    simp only [List.setIfInBounds_toArray, List.set_cons_succ, List.set_cons_zero]
    obtain ⟨i, hi⟩ := y
    dsimp only
    have hsb := P.sumL_bd (f := P.one x year b) (B := 550) (l := los pre) (fun k hk => by
      obtain ⟨z, -, rfl⟩ := List.mem_map.1 hk
      exact P.one_bd hx z.2 (hb _ z.2))
    rw [los_length] at hsb
    have hai := R.asked_nonneg hx hi
    have hbi := hb i hi
    have hsn : P.sumL (P.one x year b) (los (pre ++ [⟨i, hi⟩])) = P.sumL (P.one x year b) (los pre) + P.one x year b i := by
      rw [los_snoc, P.sumL_append]; simp [P.sumL]
    obtain ⟨s, hs⟩ : ∃ s, s = P.sumL (P.one x year b) (los pre) := ⟨_, rfl⟩
    rw [← hs] at hsb hB hsn
    have HSN := hid hsn
    clear hsn hs
    obtain ⟨A1, c1, A2, c2, A3, c3, A4, c4, A5, c5⟩ := p
    have had := hB.a
    obtain ⟨ga, oa, hA3, hga, q0, q1, q2⟩ := (hLA.r3.ext had.e).at3 hi
    dsimp only at hA3
    subst hA3
    have hiL : (i : Int) < (x.ln : Int) := by omega
    have hii : (i : Int) < 10 := by have := hx.ln; omega
    obtain ⟨z, hz⟩ : ∃ z, Hid (z = b i) := ⟨_, hid rfl⟩
    obtain ⟨a, ha⟩ : ∃ a, Hid (a = P.asked x i) := ⟨_, hid rfl⟩
    obtain ⟨y, hy⟩ : ∃ y, Hid (y = x.lo i 1) := ⟨_, hid rfl⟩
    rw [← hy.out] at q1
    have kd := hB.d.cell
    have kdl := hB.d.lt
    have kdi := kd (7 + i)
    rw [deskC_at (show i < 10 by omega), ← hz.out] at kdi
    have kd0 := kd 0
    have kd1 := kd 1
    have kd2 := kd 2
    have kd3 := kd 3
    have kd4 := kd 4
    have kd5 := kd 5
    have kd6 := kd 6
    unfold deskC at kd0 kd1 kd2 kd3 kd4 kd5 kd6
    simp only [List.getElem?_toArray, List.getElem?_cons_zero, List.getElem?_cons_succ] at kd0 kd1 kd2 kd3 kd4 kd5 kd6
    have k3 := hB.b3.cell
    have k3l := hB.b3.lt
    have k4 := hB.b4.cell
    have k4l := hB.b4.lt
    have k7 := hB.b7.cell
    have k7l := hB.b7.lt
    have k7f := hB.b7.frozen
    rw [← hz.out, ← ha.out] at hbi
    rw [← ha.out] at hai
    clear kd
    have HB := hid hB
    clear hB
    by_cases hyy : y ≤ year
    · have HO := hid (show P.one x year b i = a - z by unfold P.one; rw [if_pos (by rw [← hy.out]; exact hyy), ← ha.out, ← hz.out])
      gi_wp2
      refine wpIn_round_later (by kernel_rfl) (by kernel_rfl) (by kernel_rfl) ?hq ?_
      case hq => rintro ⟨a, w, h⟩; exact h
      repeat (go_big_quiet_step (fail))
      refine wpQuiet_nil ?_
      rintro w2 ⟨⟨_, he2⟩, rfl⟩
      have HB2 := hid (HB.out.ext he2 (by omega))
      have kd0 := he2.some_ kd0
      have kd1 := he2.some_ kd1
      have kd2 := he2.some_ kd2
      have kd3 := he2.some_ kd3
      have kd4 := he2.some_ kd4
      have kd5 := he2.some_ kd5
      have kd6 := he2.some_ kd6
      have kdi := he2.some_ kdi
      have kdl := HB2.out.d.lt
      have k3 := HB2.out.b3.cell
      have k3l := HB2.out.b3.lt
      have k7 := HB2.out.b7.cell
      have k7l := HB2.out.b7.lt
      have k7f := HB2.out.b7.frozen
      have HAk : ∀ W', Ext w0 W' → Calls Tryz.prog 135 #[.agg #[.int .i64 x.folk, .int .i64 x.years, .slice A1 x.bn c1, .slice A2 x.fn c2, .slice (some ⟨ga, oa, none⟩) x.ln c3, .slice A4 x.pn c4, .slice A5 x.mn c5], .int .i64 (i : Int)] W' fun e w' => e = .returned (.int .i64 a) ∧ Ext W' w' := fun W' e => by
        rw [ha.out]; exact asked135 hx ((hLA.ext e).isL) hfn hi
      have HAK := hid HAk
      clear HAk k4 k4l q0 q1 q2
      gi_wp2
      refine wpIn_round_tail 15 (by kernel_rfl) (by kernel_rfl) (by kernel_rfl) ?hq ?_
      case hq => rintro ⟨a, w, h⟩; exact h
      simp only [List.take_succ_cons, List.take_zero, List.drop_succ_cons, List.drop_zero]
      repeat (go_big_quiet_step ((go_at_call 135; exact Calls.later (HAK.out _ (HB2.out.a.e.trans (Later.ext _))))))
      refine wpQuiet_nil ?_
      rintro w3 ⟨⟨_, he3⟩, rfl⟩
      have HB3 := HB2.out.ext he3 (by omega)
      have k7 := HB3.b7.cell
      have k7l := HB3.b7.lt
      have k7f := HB3.b7.frozen
      go_wp2
      gi_wp2
      have HB4 := HB3.add (s + (a - z)) hw0 hgl
      refine ⟨((KeepsFrom.ext he2).trans (.ext he3)).trans (.set _ _ _), fun _ => HB4.a, ?_⟩
      show Lf w0 w1 w g x _ year b (P.sumL (P.one x year b) (los (pre ++ [⟨i, hi⟩]))) _
      rw [HSN.out, HO.out]
      exact HB4
    · have HO := hid (show P.one x year b i = 0 by unfold P.one; rw [if_neg (by rw [← hy.out]; exact hyy)])
      gi_wp2
      refine wpIn_round_later (by kernel_rfl) (by kernel_rfl) (by kernel_rfl) ?hq ?_
      case hq => rintro ⟨a, w, h⟩; exact h
      repeat (go_big_quiet_step (fail))
      refine wpQuiet_nil ?_
      rintro w2 ⟨⟨_, he2⟩, rfl⟩
      have HB2 := HB.out.ext he2 (by omega)
      gi_wp2
      refine ⟨KeepsFrom.ext he2, fun h => h.ext he2, ?_⟩
      show Lf w0 w1 w g x _ year b (P.sumL (P.one x year b) (los (pre ++ [⟨i, hi⟩]))) _
      rw [HSN.out, HO.out, Int.add_zero]
      exact HB2
  · rintro D ys W hD hys hB hK
    have HY := hid hys
    clear hys
    have k7 := hB.b7.cell
    have k7l := hB.b7.lt
    go_wp2
    refine ⟨by simp, .inl ⟨_, _, rfl, run_takeDeferred hK, ?_⟩⟩
    have kp := Kc.put (.deferred none) hD hK rfl
    have hB4 := hB.kc kp (by omega) (Nat.le_refl _) (by omega)
    refine ⟨_, results_tmp rfl _ _ _, ?_⟩
    rw [P.leftL_filter, ← HY.out]
    exact ⟨rfl, hB4.later he0 (by omega)⟩
end Go.Proofs.YtbceepjjdfpfmaaGreat
