/- Walks of iterators and of short functions of the program. No condition. -/
import Derived.Test.YtkhjmedfhobebaaGreatMapP
import Derived.Test.YtkhjmedfhobebaaGreatRefA
import Derived.Test.YtkhjmedfhobebaaGreatSpec
import Derived.Test.YtkhjmedfhobebaaGreatProg
import Derived.Test.YtkhjmedfhobebaaGreatBaseC
namespace Go.Proofs.YtkhjmedfhobebaaGreat
open Go.RowKit HandSpec
set_option maxHeartbeats 400000
set_option maxRecDepth 100000

theorem in_any (n lo hi : Int) (w : World) : Calls Tryz.prog 150 #[.int .i64 n, .int .i64 lo, .int .i64 hi] w fun e w' => e = .returned (.bool (inB n lo hi)) ∧ w = w' := by
 by_cases h1 : lo ≤ n
 ·by_cases h2 : n ≤ hi
  all_goals
   go_enter Tryz.func150, Tryz.ntmps150
   go_wp2
   go_ret
   exact ⟨ret_bool (by simp [inB, h1, h2]), rfl⟩
 ·go_enter Tryz.func150, Tryz.ntmps150
  go_wp2
  go_ret
  exact ⟨ret_bool (by simp [inB]; omega), rfl⟩
theorem hand_any {w : World} {v : Value} {x : WD} (hv : IsW w v x) (n : Int) : Calls Tryz.prog 121 #[v, .int .i64 n] w fun e w' => e = .returned (.bool (inB n 0 (wrap64 (x.hands - 1)))) ∧ Ext w w' := by
 obtain ⟨A1, c1, A2, c2, A3, c3, rfl, r1, r2, r3⟩ := hv
 clear r1 r2 r3
 go_enter Tryz.func121, Tryz.ntmps121
 go_wp2_with (go_at_call 150; refine (in_any _ _ _ _).mono ?_; rintro e w' ⟨rfl, rfl⟩)
 go_ret
 exact ⟨rfl, (Ext.refl _).alloc _⟩
theorem count_any {w : World} {v : Value} {x : WD} (hv : IsW w v x) (hx : x.cn ≤ 1000) (n : Int) : Calls Tryz.prog 146 #[v, .int .i64 n] w fun e w' => e = .returned (.bool (inB n 0 (x.cn - 1))) ∧ Ext w w' := by
 obtain ⟨A1, c1, A2, c2, A3, c3, rfl, r1, r2, r3⟩ := hv
 clear r1 r2 r3
 go_enter Tryz.func146, Tryz.ntmps146
 go_wp2_with (go_at_call 150; refine (in_any _ _ _ _).mono ?_; rintro e w' ⟨rfl, rfl⟩)
 go_ret
 exact ⟨rfl, (Ext.refl _).alloc _⟩
theorem hour_any {w : World} {v : Value} {x : WD} (hv : IsW w v x) (n : Int) : Calls Tryz.prog 153 #[v, .int .i64 n] w fun e w' => e = .returned (.bool (inB n 0 x.hours)) ∧ Ext w w' := by
 obtain ⟨A1, c1, A2, c2, A3, c3, rfl, r1, r2, r3⟩ := hv
 clear r1 r2 r3
 go_enter Tryz.func153, Tryz.ntmps153
 go_wp2_with (go_at_call 150; refine (in_any _ _ _ _).mono ?_; rintro e w' ⟨rfl, rfl⟩)
 go_ret
 exact ⟨rfl, (Ext.refl _).alloc _⟩

/-- A value that is a watch at work. -/
def IsD (w : World) (v : Value) (x : WD) : Prop :=
 ∃ db A1 c1 A2 c2 A3 c3 mb L, v = .pointer (some ⟨db, 0, none⟩) ∧
  Blk w db 189 #[.int .i64 x.hours, .int .i64 x.allow, .int .i64 x.hands, .slice A1 x.cn c1, .slice A2 x.bn c2, .slice A3 x.sn c3, .int .i64 (P.sm x 0), .int .i64 (P.sm x 1), .int .i64 (P.sm x 2), .int .i64 (P.sm x 3), .int .i64 (P.sm x 4), .int .i64 (P.sm x 5), .int .i64 (P.sm x 6), .int .i64 (P.sm x 7), .map (some mb)] ∧
  Rd w A1 x.cn 3 x.c ∧ Rd w A2 x.bn 2 x.b ∧ Rd w A3 x.sn 3 x.s ∧ Mp w mb L ∧ ∀ a b, a < b → b < x.cn → lookV (a, b) L = P.th x a b
theorem IsD.ext {w w' : World} {v : Value} {x : WD} (h : IsD w v x) (e : Ext w w') : IsD w' v x := by
 obtain ⟨db, A1, c1, A2, c2, A3, c3, mb, L, hv, hb, h1, h2, h3, hm, hl⟩ := h
 exact ⟨db, A1, c1, A2, c2, A3, c3, mb, L, hv, hb.ext e, h1.ext e, h2.ext e, h3.ext e, hm.ext e, hl⟩
theorem sums_at {w : World} {db : Nat} {t : TypeId} {s : Nat → Int} {v0 v1 v2 v3 v4 v5 v6 : Value} (h : Blk w db t #[v0, v1, v2, v3, v4, v5, .int .i64 (s 0), .int .i64 (s 1), .int .i64 (s 2), .int .i64 (s 3), .int .i64 (s 4), .int .i64 (s 5), .int .i64 (s 6), .int .i64 (s 7), v6]) {i : Nat} (hi : i < 8) :
  w.cell? ⟨db, 6 + i, none⟩ = some (.int .i64 (s i)) := by
 rw [h.cell]
 match i, hi with
 | 0, _ | 1, _ | 2, _ | 3, _ | 4, _ | 5, _ | 6, _ | 7, _ => rfl

theorem blk2 {C D : Array Value} {t u : TypeId} (w : World) : Blk ((w.alloc (.cells C t)).alloc (.cells D u)).drew w.heap.size t C ∧ Blk ((w.alloc (.cells C t)).alloc (.cells D u)).drew (w.heap.size + 1) u D :=
 ⟨(Blk.new w t C).ext ((Ext.refl _).alloc _).drew, by have := (Blk.new (w.alloc (.cells C t)) u D).ext (Ext.refl _).drew; simpa using this⟩

theorem books_any {x : WD} (hx : Ok x) {w : World} {v : Value} (hv : IsD w v x) (a b : Nat) (hab : a ≤ b) (hb : b < x.cn) :
  Calls Tryz.prog 147 #[v, .agg #[.int .i64 a, .int .i64 b]] w fun e w' => e = .returned (.int .i64 (P.books x a b)) ∧ Ext w w' := by
 obtain ⟨db, A1, c1, A2, c2, A3, c3, mb, L, rfl, hk, -, -, -, -, -⟩ := hv
 have hcn := hx.cn
 have hdb := hk.lt
 go_enter Tryz.func147, Tryz.ntmps147
 go_wp2
 go_loop [5, 6] (fun n i => ∃ k : Nat, k ≤ b - a ∧ i = .int .i64 ((a + k : Nat) : Int) ∧ n = .int .i64 (sumTo (fun d => P.sm x (a + d)) k)) (fun _ i => b - (intOf i).toNat)
 case atStart => exact ⟨0, Nat.zero_le _, rfl, rfl⟩
 case round =>
  obtain ⟨k, hk', rfl, rfl⟩ := hrel
  have hb1 := P.books_bound hx a k (by omega)
  have hs1 := P.sm_bound hx (a + k)
  by_cases hlt : a + k < b
  ·have h1 := sums_at (s := P.sm x) hk (show a + k < 8 by omega)
   have HS : Hid (sumTo (fun d => P.sm x (a + d)) (k + 1) = sumTo (fun d => P.sm x (a + d)) k + P.sm x (a + k)) := hid rfl
   go_wp2
   go_round
   case rel => exact ⟨k + 1, by omega, by go_num, by rw [HS.out]⟩
   case measure => simp [intOf]; omega
  ·go_wp2
   go_ret
   obtain rfl : k = b - a := by omega
   exact ⟨rfl, (Ext.refl _).alloc _⟩

theorem gapP_any {x : WD} (hx : Ok x) {w : World} {v : Value} (hv : IsD w v x) (a b : Nat) (hab : a ≤ b) (hb : b < x.cn) :
  Calls Tryz.prog 138 #[v, .agg #[.int .i64 a, .int .i64 b]] w fun e w' => e = .returned (.int .i64 (P.gap x a b)) ∧ Ext w w' := by
 have hv0 := hid hv
 obtain ⟨db, A1, c1, A2, c2, A3, c3, mb, L, rfl, hk, r1, -, -, -, -⟩ := hv
 have ha : a < x.cn := by omega
 obtain ⟨cb, co, rfl, hcb, a0, a1, a2⟩ := r1.at3 ha
 obtain ⟨_, _, hq, _, b0, b1, b2⟩ := r1.at3 hb
 obtain ⟨rfl, rfl⟩ := same_addr hq rfl
 have g1 := hx.hour a ha
 have g2 := hx.hour b hb
 have g3 := hx.hours
 have g4 := hx.lo a ha
 have g5 := hx.hi b hb
 have g6 := hx.allow
 have g7 : -16000 ≤ P.books x a b ∧ P.books x a b ≤ 16000 := P.books_bound hx a (b - a) (by have := hx.cn; omega)
 have g9 : -1200 ≤ x.allow * (x.c b 0 - x.c a 0) ∧ x.allow * (x.c b 0 - x.c a 0) ≤ 1200 := by
  have h1 := Int.mul_le_mul_of_nonneg_left (show x.c b 0 - x.c a 0 ≤ 60 by omega) g6.1
  have h2 := Int.mul_le_mul_of_nonneg_left (show -60 ≤ x.c b 0 - x.c a 0 by omega) g6.1
  omega
 have k0 := hk.cell
 have hdb := hk.lt
 have hm1 : ((a : Nat) : Int) < x.cn := by omega
 have hm2 : ((b : Nat) : Int) < x.cn := by omega
 clear hq r1
 go_enter Tryz.func138, Tryz.ntmps138
 go_wp2
 refine wp_later fun w1 hw1 => ?_
 obtain ⟨he, hk1⟩ := hw1.newB
 have k1 := hk1.cell
 have k0' := (hk.ext he).cell
 have a0 := he.some_ a0
 have a1 := he.some_ a1
 have a2 := he.some_ a2
 have b0 := he.some_ b0
 have b1 := he.some_ b1
 have b2 := he.some_ b2
 go_cut [5, 6] (fun s5 s6 wx => ∃ g5 g6 : Nat, s5 = .pointer (some ⟨g5, 0, none⟩) ∧ s6 = .pointer (some ⟨g6, 0, none⟩) ∧ Ext w1 wx ∧ Blk wx g5 79 #[.int .i64 (x.c a 0), .int .i64 (x.c a 1), .int .i64 (x.c a 2)] ∧ Blk wx g6 79 #[.int .i64 (x.c b 0), .int .i64 (x.c b 1), .int .i64 (x.c b 2)])
 case first =>
  go_region_held3 (fun w' => Ext w1 w' ∧ ∀ b o, (w1.cell? ⟨b, o, none⟩).isSome = true → w'.cell? ⟨b, o, none⟩ = w1.cell? ⟨b, o, none⟩) (exact Ext.sees (by repeat (first | exact Ext.refl _ | refine Ext.drew ?_ | refine Ext.alloc ?_ _ | (refine Ext.setCell ?_ _ (by simp <;> omega))))) (fail)
  ·go_wp2_with fail
   go_meet
   exact ⟨_, _, rfl, rfl, (((Ext.refl _).alloc _).alloc _).drew, (blk2 _).1, (blk2 _).2⟩
  ·go_wp2_with fail
   go_meet
   exact ⟨_, _, rfl, rfl, (((Ext.refl _).alloc _).alloc _).drew, (blk2 _).2, (blk2 _).1⟩
 case rest =>
  obtain ⟨g5, g6, rfl, rfl, hex, q5, q6⟩ := hcut
  have k5 := q5.cell
  have k6 := q6.cell
  have k1 := (hk1.ext hex).cell
  have k0 := ((hk.ext he).ext hex).cell
  go_wp2_with fail
  refine wp_region_later (by kernel_rfl) (by kernel_rfl) ?_
  repeat (go_big_quiet_step ((go_at_call 147; exact Calls.later (books_any hx ((hv0.out.ext (he.trans hex)).ext (Later.ext _)) a b hab hb))))
  refine wpQuiet_nil ?_
  rintro _ ⟨⟨w3, he3⟩, rfl⟩
  go_wp2
  go_ret
  exact ⟨rfl, he.trans (hex.trans he3)⟩
end Go.Proofs.YtkhjmedfhobebaaGreat
namespace Go.Proofs.YtkhjmedfhobebaaGreat
open Go.RowKit HandSpec
attribute [local go_sem] Oper.semAt_some
set_option maxHeartbeats 400000
set_option maxRecDepth 100000

/-- A stretch of n counts. -/
abbrev Str (n : Nat) := { p : Nat × Nat // p.1 < p.2 ∧ p.2 < n }

set_option maxHeartbeats 2000000 in
theorem stretches1_stops {cn cap : Nat} (hcn : cn ≤ 99) {b1 n₁ : Nat} {M : Nat → Prop} {w0 : World} {A : Option Addr} {h a d s2 s3 : Value} (hb : Blk w0 b1 26 #[h, a, d, .slice A cn cap, s2, s3]) (hb1 : b1 < n₁) (hM : ¬ M b1) :
  SeqStopsK Fence.wide 2 Tryz.prog 236 #[.pointer (some ⟨b1, 0, none⟩)] (fun x : Str cn => #[.agg #[.int .i64 (x.1.1 : Int), .int .i64 (x.1.2 : Int)]]) (KpM n₁ M) (fun xs => xs.map (·.1) = stretches cn) (fun _ => True) 10000 w0 := by
 intro l J Jx W hW _ _ hY h0
 have hk0 := (hb.ext hW)
 have HY := hid hY
 clear hY
 refine callsIn_of_wp Tryz.func236 rfl trivial ?_ rfl
 simp only [Tryz.ntmps236, List.size_toArray, List.length_cons, List.length_nil, Nat.reduceAdd, Nat.reduceSub, Array.replicate_succ, Array.replicate_zero, List.push_toArray, List.append_toArray, List.nil_append, List.cons_append]
 have k0 := hk0.cell
 gi_wp2
 clear k0
 gi_loopw [3, 4, 8] (fun _ _ i wr => ∃ (k : Nat) (pre : List (Str cn)), k ≤ cn ∧ i = .int .i64 (k : Int) ∧ Hid (pre.map (·.1) = stretchesTo cn k) ∧ J pre wr ∧ Blk wr b1 26 #[h, a, d, .slice A cn cap, s2, s3]) (fun _ _ i _ => cn - (intOf i).toNat)
 case atStart => exact ⟨0, [], by omega, rfl, rfl, h0, hk0⟩
 case round =>
  obtain ⟨i, pre, hi, rfl, hp, hJ, hk⟩ := hrel
  have k1 := hk.cell
  by_cases hlt : i < cn
  ·obtain ⟨wo, rfl⟩ : ∃ wo : World, wo = wr := ⟨_, rfl⟩
   gi_wp2
   clear k1
   gi_loopw [4] (fun kk wr => ∃ (k : Nat) (pre : List (Str cn)), i < k ∧ k ≤ cn ∧ kk = .int .i64 (k : Int) ∧ Hid (pre.map (·.1) = stretchesTo cn i ++ pairsTo k i) ∧ J pre wr ∧ Blk wr b1 26 #[h, a, d, .slice A cn cap, s2, s3]) (fun kk _ => cn - (intOf kk).toNat)
   case atStart => exact ⟨i + 1, pre, by omega, by omega, rfl, by rw [pairsTo_empty i (i+1) (by omega)]; simpa using hp, hJ, hk⟩
   case round =>
    obtain ⟨k, pre, hik, hk', rfl, hp, hJ, hk⟩ := hrel
    have k1 := hk.cell
    by_cases hks : k < cn
    ·have hlen : pre.length < 10000 := by
      have h1 := congrArg List.length hp.out
      simp only [List.length_map, List.length_append] at h1
      have h2 := stretchesTo_length cn i
      have h3 := pairsTo_length i k
      have h4 : i * cn ≤ 98 * 99 := Nat.mul_le_mul (by omega) hcn
      omega
     obtain ⟨fn, tmps, assign, body, hy, hR⟩ := HY.out pre ⟨(i, k), hik, hks⟩ wr hJ hlen
     dsimp only at hy
     gi_wp2
     refine hR.mono ?_
     rintro e W3 (⟨rfl, hJ3, hk3⟩ | ⟨rfl, hJx3⟩)
     ·gi_wp2
      go_roundw
      case rel => exact ⟨k + 1, _, by omega, by omega, by go_num, by show _ = _; rw [List.map_append, hp.out, pairsTo_succ, if_pos hik]; simp, hJ3, (hk3.2 b1 hb1 hM).trans hk⟩
      case measure => simp [intOf]; omega
     ·gi_wp2
      refine bodyPost_ret (results_none rfl _ _ _) rfl ?_
      exact ⟨⟨_, rfl⟩, .inr ⟨_, trivial, hJx3⟩⟩
    ·gi_wp2
     go_roundw
     case rel =>
      obtain rfl : k = cn := by omega
      exact ⟨i + 1, pre, by omega, by go_num, by rw [stretchesTo_succ]; exact hp, hJ, hk⟩
     case measure => simp [intOf]; omega
  ·gi_wp2
   go_end0
   obtain rfl : i = cn := by omega
   exact ⟨⟨_, rfl⟩, .inl ⟨pre, hp, hJ⟩⟩
end Go.Proofs.YtkhjmedfhobebaaGreat
namespace Go.Proofs.YtkhjmedfhobebaaGreat
open Go.RowKit HandSpec
attribute [local go_sem] Oper.semAt_some
set_option maxHeartbeats 400000
set_option maxRecDepth 100000

theorem elem45 : ElemOk Tryz.prog 45 51 2 16 := ⟨Tryz.underlying45, by
 obtain ⟨i, hi, h1, h2, h3⟩ := info_parts (show (Tryz.prog.info? 51).map (fun i => (i.zero, i.size, i.bytes)) = some (some (.agg #[.int .i64 0, .int .i64 0]), 2, 16) by kernel_rfl)
 exact ⟨i, _, hi, h1, h2, h3, rfl⟩, by omega, by omega⟩

theorem stretches_any {h a d s1 s2 s3 : Value} (w : World) : Calls Tryz.prog 193 #[.agg #[h, a, d, s1, s2, s3]] w fun e w' => e = .returned (.func (.func 236) #[] #[.pointer (some ⟨w.heap.size, 0, none⟩)]) ∧ Ext w w' ∧ Blk w' w.heap.size 26 #[h, a, d, s1, s2, s3] := by
 have hmf : ∀ (fn : Fn) (first cap : Array Value) (w : World), (Instr.makeFunc fn first cap).run Tryz.prog w = .ok (.func fn first cap) w := fun _ _ _ _ => rfl
 go_enter Tryz.func193, Tryz.ntmps193
 go_wp2
 go_ret
 exact ⟨rfl, (Ext.refl _).alloc _, Blk.new _ _ _⟩

def P.keep (x : WD) (l : List (Nat × Nat)) : List (Nat × Nat) := l.filter fun p => decide (0 < HandSpec.P.gap x p.1 p.2)

theorem enters_ {f : FuncId} {fn : Func} {c : Code} (hf : Tryz.prog.funcs[f]? = some fn) (hn : (fn.name == "runtime.NumGoroutine") = false) (hb : fn.body = some c) (args : Array Value) (w : World) : (callFunc f args).run Tryz.prog w = .ok (.enter f args) w := by
 simp [callFunc, hf, hb, program, Sem.run]
 simpa using hn
def fsts {n : Nat} (l : List (Str n)) : List (Nat × Nat) := l.map Subtype.val

set_option maxHeartbeats 2000000 in
theorem shortP_any {x : WD} (hx : Ok x) {w : World} {v : Value} (hv : IsD w v x) :
  Calls Tryz.prog 142 #[v] w fun e w' => ∃ u, e = .returned u ∧ Ext w w' ∧ OwnR w' w.heap.size 51 2 u (rows2 (P.keep x (stretches x.cn))) := by
 have hv0 := hid hv
 obtain ⟨db, A1, c1, A2, c2, A3, c3, mb, L, rfl, hk, -, -, -, -, -⟩ := hv
 have hcn := hx.cn
 have k0 := hk.cell
 have hdb := hk.lt
 refine (callsIn_wide (n := 3)).1 (callsIn_of_wp_marks Tryz.func142 rfl trivial (wpIn_wide.2 ?_) rfl)
 simp only [Tryz.ntmps142, List.size_toArray, List.length_cons, List.length_nil, Nat.reduceAdd, Nat.reduceSub, Array.replicate_succ, Array.replicate_zero, List.push_toArray, List.append_toArray, List.nil_append, List.cons_append]
 go_wp2_with (go_at_call 193; refine (stretches_any _).mono ?_; rintro e w1 ⟨rfl, he1, hb1⟩)
 simp only [World.size_alloc] at hb1
 obtain ⟨he, hkb, hko⟩ := he1.newB2
 have hs1 := he1.size
 simp only [World.size_alloc] at hs1
 have hbl := hb1.lt
 refine wp_range (gf := 236) rfl (enters_ Tryz.func236 (by kernel_rfl) rfl) (fun y : Str x.cn => .agg #[.int .i64 (y.1.1 : Int), .int .i64 (y.1.2 : Int)]) (fun k => k = w.heap.size + 1) (stretches1_stops (by omega) hb1 hbl (by simp)) (Ext.refl _)
  (fun (pre : List (Str x.cn)) W => w1.heap.size ≤ W.heap.size ∧ Ext w W ∧ Blk W w.heap.size 170 #[.pointer (some ⟨db, 0, none⟩)] ∧ ∃ u, Blk W (w.heap.size + 1) 45 #[u] ∧ OwnR W w1.heap.size 51 2 u (rows2 (P.keep x (fsts pre))))
  (ownFrom_of fun pre W W' k ⟨i0, i1, i2, u, i3, i4⟩ => ⟨Nat.le_trans i0 k.1, i1.kc k (by omega), i2.kc k, u, i3.kc k, i4.kc k⟩) ⟨Nat.le_refl _, he, hkb, _, hko, by simpa [P.keep, rows2, fsts] using OwnR.nil⟩
  (fun (y : Str x.cn) tm a' W => ∃ g, a' = { tmps := (tm.setIfInBounds 10 (.agg #[.int .i64 (y.1.1 : Int), .int .i64 (y.1.2 : Int)])).setIfInBounds 4 (.pointer (some ⟨g, 0, none⟩)), defers := [] } ∧ Blk W g 51 #[.int .i64 (y.1.1 : Int), .int .i64 (y.1.2 : Int)])
  (fun y a' => ownFrom_of fun _ W W' k ⟨g, h1, h2⟩ => ⟨g, h1, h2.kc k⟩) ?_ ?_ ?_
 ·intro l pre y W K hI hK
  simp only [List.setIfInBounds_toArray, List.set_cons_succ, List.set_cons_zero]
  gi_wp2
  obtain ⟨i0, i1, i2, u, i3, i4⟩ := hI
  have e : Ext W (W.alloc (.cells #[.int .i64 (y.1.1 : Int), .int .i64 (y.1.2 : Int)] 51)) := (Ext.refl _).alloc _
  exact hK _ _ (KeepsFrom.ext e) (KpM.ext e i0) ⟨Nat.le_trans i0 e.size, i1.trans e, i2.ext e, u, i3.ext e, i4.ext e⟩ ⟨_, rfl, Blk.new _ _ _⟩
 ·rintro l pre y a' W hl - ⟨i0, i1, i2, u, i3, i4⟩ ⟨g, rfl, hg⟩ hN
  simp only [List.setIfInBounds_toArray, List.set_cons_succ, List.set_cons_zero]
  obtain ⟨p1, p2⟩ := y.2
  have kb := i2.cell
  have kg := hg.cell
  have HN := hid hN
  have hall : (fsts pre).length < 10000 := by simpa [fsts] using hN
  have hkl : (P.keep x (fsts pre)).length < 10000 := Nat.lt_of_le_of_lt (List.length_filter_le _ _) hall
  have HP : Hid (P.keep x (fsts (pre ++ [y])) = P.keep x (fsts pre) ++ if 0 < HandSpec.P.gap x y.1.1 y.1.2 then [y.1] else []) := by
   show _ = _
   unfold P.keep fsts
   rw [List.map_append, List.filter_append]
   by_cases h : 0 < HandSpec.P.gap x y.1.1 y.1.2 <;> simp [h]
  clear hN hall
  have kc := i3.cell
  have kf := i3.frozen
  by_cases q : 0 < HandSpec.P.gap x y.1.1 y.1.2
  ·gi_wp2_with (first
    | (gi_at_call 138; refine (CallsIn.inRound l (callsIn_wide.2 (gapP_any hx (hv0.out.ext i1) y.1.1 y.1.2 (Nat.le_of_lt p1) p2))).mono ?_; rintro e w2 ⟨rfl, he2⟩; have kb := (i2.ext he2).cell; have kg := (hg.ext he2).cell; have kc := (i3.ext he2).cell; have kf := (i3.ext he2).frozen)
    | (gi_at_builtin; refine wpListIn_append_rows rfl _ _ 45 rfl elem45 rfl ((i4.ext he2).ext (Ext.alloc (Ext.refl _) _)) _ 1 1 [[(y.1.1 : Int), (y.1.2 : Int)]] rfl rfl (by simp) (by intro j; simp [cellsOf]) (by rw [rows2_length]; omega) (by have := he2.size; simp; omega) ?_; intro v' w3 hown3 hg3; have b3 := ((i3.ext he2).ext (Ext.alloc (Ext.refl _) _)).grown hg3 (fun e => by have := i4.block e.symm; omega); have kc := b3.cell; have kf := b3.frozen; obtain ⟨A', cap', rfl, _⟩ := hown3.slR))
   have hg3 : World.grownBy _ _ u.ownBlock := hg3
   have h4 := (i4.ext he2).ext (Ext.alloc (Ext.refl w2) (.cells #[.int .i64 (y.1.1 : Int), .int .i64 (y.1.2 : Int)] 51))
   have ea : Ext W (w2.alloc (.cells #[.int .i64 (y.1.1 : Int), .int .i64 (y.1.2 : Int)] 51)) := he2.alloc _
   have hrow : ∀ k, u.ownBlock = some k → w1.heap.size ≤ k := fun k hk => i4.block hk
   refine ⟨((KeepsFrom.ext ea).trans (.grown hg3 h4.cells)).trans (.set _ _ _), ((KpM.ext ea i0).trans (.grown hg3 (Nat.le_trans i0 ea.size) fun k hk => .inl (hrow k hk))).trans (.setCell _ _ (.inr rfl)), ?_⟩
   refine ⟨Nat.le_trans i0 (Nat.le_trans ea.size (Nat.le_trans hg3.size (by simp))), ((i1.trans ea).grown hg3 fun k hk => by have := hrow k hk; omega).setCell _ (by simp), (((i2.ext ea).grown hg3 fun e => by have := hrow _ e.symm; omega).far (by simp) _), _, b3.set_ 0 _, ?_⟩
   rw [HP.out, if_pos q, rows2_append]
   simpa [rows2] using hown3.set_far (b := w.heap.size + 1) (by omega) _
  ·gi_wp2_with (gi_at_call 138; refine (CallsIn.inRound l (callsIn_wide.2 (gapP_any hx (hv0.out.ext i1) y.1.1 y.1.2 (Nat.le_of_lt p1) p2))).mono ?_; rintro e w2 ⟨rfl, he2⟩)
   refine ⟨.ext he2, .ext he2 i0, Nat.le_trans i0 he2.size, i1.trans he2, i2.ext he2, u, i3.ext he2, ?_⟩
   rw [HP.out, if_neg (Int.not_lt.2 q), List.append_nil]
   exact i4.ext he2
 ·rintro D ys W hD hys ⟨i0, i1, i2, u, i3, i4⟩ hK
  have kc := i3.cell
  go_wp2
  refine ⟨by simp, .inl ⟨_, _, rfl, run_takeDeferred hK, ?_⟩⟩
  have kp := Kc.put (.deferred none) hD hK rfl
  refine ⟨_, results_tmp rfl _ _ _, u, rfl, i1.kc kp (by omega), ?_⟩
  rw [← hys]
  exact (i4.kc kp).base (by omega)
end Go.Proofs.YtkhjmedfhobebaaGreat
