/- Walk of the program: the short stretches of a watch at work. The watch is right, as Ok says. -/
import Derived.Test.YtkhjmedfhobebaaGreatDoA
import Derived.Test.YtkhjmedfhobebaaGreatIter
namespace Go.Proofs.YtkhjmedfhobebaaGreat
open Go.RowKit HandSpec
attribute [local go_sem] Oper.semAt_some
set_option maxHeartbeats 400000
set_option maxRecDepth 100000

theorem elem45 : ElemOk Tryz.prog 45 51 2 16 := ⟨Tryz.underlying45, by
  obtain ⟨i, hi, h1, h2, h3⟩ := info_parts (show (Tryz.prog.info? 51).map (fun i => (i.zero, i.size, i.bytes)) = some (some (.agg #[.int .i64 0, .int .i64 0]), 2, 16) by kernel_rfl)
  exact ⟨i, _, hi, h1, h2, h3, rfl⟩, by omega, by omega⟩

theorem stretches_any {h a d s1 s2 s3 : Value} (w : World) : Calls Tryz.prog 193 #[.agg #[h, a, d, s1, s2, s3]] w fun e w' => e = .returned (.func (.func 236) #[] #[.pointer (some ⟨w.heap.size, 0, none⟩)]) ∧ Ext w w' ∧ Blk w' w.heap.size 26 #[h, a, d, s1, s2, s3] := by
  have hmf : ∀ (fn : Fn) (first cap : Array Value) (w : World), (Instr.makeFunc fn first cap).run Tryz.prog w = .ok (.func fn first cap) w := fun _ _ _ _ => rfl
  go_enter Tryz.func193, Tryz.ntmps193
  go_wp2
  go_ret
  exact ⟨rfl, (Ext.refl _).alloc _, Blk.new _ _ _⟩

def P.keep (x : WD) (l : List (Nat × Nat)) : List (Nat × Nat) := l.filter fun p => decide (0 < HandSpec.P.gap x p.1 p.2)

theorem enters_ {f : FuncId} {fn : Func} {c : Code} (hf : Tryz.prog.funcs[f]? = some fn) (hn : (fn.name == "runtime.NumGoroutine") = false) (hb : fn.body = some c) (args : Array Value) (w : World) : (callFunc f args).run Tryz.prog w = .ok (.enter f args) w := by
  simp [callFunc, hf, hb, program, Sem.run]
  simpa using hn
def fsts {n : Nat} (l : List (Str n)) : List (Nat × Nat) := l.map Subtype.val

set_option maxHeartbeats 2000000 in
theorem shortP_any {x : WD} (hx : Ok x) {w : World} {v : Value} (hv : IsD w v x) :
    Calls Tryz.prog 142 #[v] w fun e w' => ∃ u, e = .returned u ∧ Ext w w' ∧ OwnR w' w.heap.size 51 2 u (rows2 (P.keep x (stretches x.cn))) := by
  have hv0 := hid hv
  obtain ⟨db, A1, c1, A2, c2, A3, c3, mb, L, rfl, hk, -, -, -, -, -⟩ := hv
  have hcn := hx.cn
  have k0 := hk.cell
  have hdb := hk.lt
  refine (callsIn_wide (n := 3)).1 (callsIn_of_wp_marks Tryz.func142 rfl trivial (wpIn_wide.2 ?_) rfl)
  simp only [Tryz.ntmps142, List.size_toArray, List.length_cons, List.length_nil, Nat.reduceAdd, Nat.reduceSub, Array.replicate_succ, Array.replicate_zero, List.push_toArray, List.append_toArray, List.nil_append, List.cons_append]
  go_wp2_with (go_at_call 193; refine (stretches_any _).mono ?_; rintro e w1 ⟨rfl, he1, hb1⟩)
  simp only [World.size_alloc] at hb1
  obtain ⟨he, hkb, hko⟩ := he1.newB2
  have hs1 := he1.size
  simp only [World.size_alloc] at hs1
  have hbl := hb1.lt
  refine wp_range (gf := 236) rfl (enters_ Tryz.func236 (by kernel_rfl) rfl) (fun y : Str x.cn => .agg #[.int .i64 (y.1.1 : Int), .int .i64 (y.1.2 : Int)]) (fun k => k = w.heap.size + 1) (stretches1_stops (by omega) hb1 hbl (by simp)) (Ext.refl _)
    (fun (pre : List (Str x.cn)) W => w1.heap.size ≤ W.heap.size ∧ Ext w W ∧ Blk W w.heap.size 170 #[.pointer (some ⟨db, 0, none⟩)] ∧ ∃ u, Blk W (w.heap.size + 1) 45 #[u] ∧ OwnR W w1.heap.size 51 2 u (rows2 (P.keep x (fsts pre))))
    (ownFrom_of fun pre W W' k ⟨i0, i1, i2, u, i3, i4⟩ => ⟨Nat.le_trans i0 k.1, i1.kc k (by omega), i2.kc k, u, i3.kc k, i4.kc k⟩) ⟨Nat.le_refl _, he, hkb, _, hko, by simpa [P.keep, rows2, fsts] using OwnR.nil⟩
    (fun (y : Str x.cn) tm a' W => ∃ g, a' = { tmps := (tm.setIfInBounds 10 (.agg #[.int .i64 (y.1.1 : Int), .int .i64 (y.1.2 : Int)])).setIfInBounds 4 (.pointer (some ⟨g, 0, none⟩)), defers := [] } ∧ Blk W g 51 #[.int .i64 (y.1.1 : Int), .int .i64 (y.1.2 : Int)])
    (fun y a' => ownFrom_of fun _ W W' k ⟨g, h1, h2⟩ => ⟨g, h1, h2.kc k⟩) ?_ ?_ ?_
  · intro l pre y W K hI hK
    simp only [List.setIfInBounds_toArray, List.set_cons_succ, List.set_cons_zero]
    gi_wp2
    obtain ⟨i0, i1, i2, u, i3, i4⟩ := hI
    have e : Ext W (W.alloc (.cells #[.int .i64 (y.1.1 : Int), .int .i64 (y.1.2 : Int)] 51)) := (Ext.refl _).alloc _
    exact hK _ _ (KeepsFrom.ext e) (KpM.ext e i0) ⟨Nat.le_trans i0 e.size, i1.trans e, i2.ext e, u, i3.ext e, i4.ext e⟩ ⟨_, rfl, Blk.new _ _ _⟩
  · rintro l pre y a' W hl - ⟨i0, i1, i2, u, i3, i4⟩ ⟨g, rfl, hg⟩ hN
    simp only [List.setIfInBounds_toArray, List.set_cons_succ, List.set_cons_zero]
    obtain ⟨p1, p2⟩ := y.2
    have kb := i2.cell
    have kg := hg.cell
    have HN := hid hN
    have hall : (fsts pre).length < 10000 := by simpa [fsts] using hN
    have hkl : (P.keep x (fsts pre)).length < 10000 := Nat.lt_of_le_of_lt (List.length_filter_le _ _) hall
    have HP : Hid (P.keep x (fsts (pre ++ [y])) = P.keep x (fsts pre) ++ if 0 < HandSpec.P.gap x y.1.1 y.1.2 then [y.1] else []) := by
      show _ = _
      unfold P.keep fsts
      rw [List.map_append, List.filter_append]
      by_cases h : 0 < HandSpec.P.gap x y.1.1 y.1.2 <;> simp [h]
    clear hN hall
    have kc := i3.cell
    have kf := i3.frozen
    by_cases q : 0 < HandSpec.P.gap x y.1.1 y.1.2
    · gi_wp2_with (first
        | (gi_at_call 138; refine (CallsIn.inRound l (callsIn_wide.2 (gapP_any hx (hv0.out.ext i1) y.1.1 y.1.2 (Nat.le_of_lt p1) p2))).mono ?_; rintro e w2 ⟨rfl, he2⟩; have kb := (i2.ext he2).cell; have kg := (hg.ext he2).cell; have kc := (i3.ext he2).cell; have kf := (i3.ext he2).frozen)
        | (gi_at_builtin; refine wpListIn_append_rows rfl _ _ 45 rfl elem45 rfl ((i4.ext he2).ext (Ext.alloc (Ext.refl _) _)) _ 1 1 [[(y.1.1 : Int), (y.1.2 : Int)]] rfl rfl (by simp) (by intro j; simp [cellsOf]) (by rw [rows2_length]; omega) (by have := he2.size; simp; omega) ?_; intro v' w3 hown3 hg3; have b3 := ((i3.ext he2).ext (Ext.alloc (Ext.refl _) _)).grown hg3 (fun e => by have := i4.block e.symm; omega); have kc := b3.cell; have kf := b3.frozen; obtain ⟨A', cap', rfl, _⟩ := hown3.slR))
      have hg3 : World.grownBy _ _ u.ownBlock := hg3
      have h4 := (i4.ext he2).ext (Ext.alloc (Ext.refl w2) (.cells #[.int .i64 (y.1.1 : Int), .int .i64 (y.1.2 : Int)] 51))
      have ea : Ext W (w2.alloc (.cells #[.int .i64 (y.1.1 : Int), .int .i64 (y.1.2 : Int)] 51)) := he2.alloc _
      have hrow : ∀ k, u.ownBlock = some k → w1.heap.size ≤ k := fun k hk => i4.block hk
      refine ⟨((KeepsFrom.ext ea).trans (.grown hg3 h4.cells)).trans (.set _ _ _), ((KpM.ext ea i0).trans (.grown hg3 (Nat.le_trans i0 ea.size) fun k hk => .inl (hrow k hk))).trans (.setCell _ _ (.inr rfl)), ?_⟩
      refine ⟨Nat.le_trans i0 (Nat.le_trans ea.size (Nat.le_trans hg3.size (by simp))), ((i1.trans ea).grown hg3 fun k hk => by have := hrow k hk; omega).setCell _ (by simp), (((i2.ext ea).grown hg3 fun e => by have := hrow _ e.symm; omega).far (by simp) _), _, b3.set_ 0 _, ?_⟩
      rw [HP.out, if_pos q, rows2_append]
      simpa [rows2] using hown3.set_far (b := w.heap.size + 1) (by omega) _
    · gi_wp2_with (gi_at_call 138; refine (CallsIn.inRound l (callsIn_wide.2 (gapP_any hx (hv0.out.ext i1) y.1.1 y.1.2 (Nat.le_of_lt p1) p2))).mono ?_; rintro e w2 ⟨rfl, he2⟩)
      refine ⟨.ext he2, .ext he2 i0, Nat.le_trans i0 he2.size, i1.trans he2, i2.ext he2, u, i3.ext he2, ?_⟩
      rw [HP.out, if_neg (Int.not_lt.2 q), List.append_nil]
      exact i4.ext he2
  · rintro D ys W hD hys ⟨i0, i1, i2, u, i3, i4⟩ hK
    have kc := i3.cell
    go_wp2
    refine ⟨by simp, .inl ⟨_, _, rfl, run_takeDeferred hK, ?_⟩⟩
    have kp := Kc.put (.deferred none) hD hK rfl
    refine ⟨_, results_tmp rfl _ _ _, u, rfl, i1.kc kp (by omega), ?_⟩
    rw [← hys]
    exact (i4.kc kp).base (by omega)
end Go.Proofs.YtkhjmedfhobebaaGreat
