/- Walks of the program's small functions, and of what a watch at work answers: bookings and gaps. The watch is right, as Ok says. -/
import Derived.Test.YtkhjmedfhobebaaGreatMapP
import Derived.Test.YtkhjmedfhobebaaGreatRefE
import Derived.Test.YtkhjmedfhobebaaGreatSpec
namespace Go.Proofs.YtkhjmedfhobebaaGreat
open Go.RowKit HandSpec
set_option maxHeartbeats 400000
set_option maxRecDepth 100000

theorem in_any (n lo hi : Int) (w : World) : Calls Tryz.prog 150 #[.int .i64 n, .int .i64 lo, .int .i64 hi] w fun e w' => e = .returned (.bool (inB n lo hi)) ∧ w = w' := by
  by_cases h1 : lo ≤ n
  · by_cases h2 : n ≤ hi
    all_goals
      go_enter Tryz.func150, Tryz.ntmps150
      go_wp2
      go_ret
      exact ⟨ret_bool (by simp [inB, h1, h2]), rfl⟩
  · go_enter Tryz.func150, Tryz.ntmps150
    go_wp2
    go_ret
    exact ⟨ret_bool (by simp [inB]; omega), rfl⟩
theorem hand_any {w : World} {v : Value} {x : WD} (hv : IsW w v x) (n : Int) : Calls Tryz.prog 121 #[v, .int .i64 n] w fun e w' => e = .returned (.bool (inB n 0 (wrap64 (x.hands - 1)))) ∧ Ext w w' := by
  obtain ⟨A1, c1, A2, c2, A3, c3, rfl, r1, r2, r3⟩ := hv
  clear r1 r2 r3
  go_enter Tryz.func121, Tryz.ntmps121
  go_wp2_with (go_at_call 150; refine (in_any _ _ _ _).mono ?_; rintro e w' ⟨rfl, rfl⟩)
  go_ret
  exact ⟨rfl, (Ext.refl _).alloc _⟩
theorem count_any {w : World} {v : Value} {x : WD} (hv : IsW w v x) (hx : x.cn ≤ 1000) (n : Int) : Calls Tryz.prog 146 #[v, .int .i64 n] w fun e w' => e = .returned (.bool (inB n 0 (x.cn - 1))) ∧ Ext w w' := by
  obtain ⟨A1, c1, A2, c2, A3, c3, rfl, r1, r2, r3⟩ := hv
  clear r1 r2 r3
  go_enter Tryz.func146, Tryz.ntmps146
  go_wp2_with (go_at_call 150; refine (in_any _ _ _ _).mono ?_; rintro e w' ⟨rfl, rfl⟩)
  go_ret
  exact ⟨rfl, (Ext.refl _).alloc _⟩
theorem hour_any {w : World} {v : Value} {x : WD} (hv : IsW w v x) (n : Int) : Calls Tryz.prog 153 #[v, .int .i64 n] w fun e w' => e = .returned (.bool (inB n 0 x.hours)) ∧ Ext w w' := by
  obtain ⟨A1, c1, A2, c2, A3, c3, rfl, r1, r2, r3⟩ := hv
  clear r1 r2 r3
  go_enter Tryz.func153, Tryz.ntmps153
  go_wp2_with (go_at_call 150; refine (in_any _ _ _ _).mono ?_; rintro e w' ⟨rfl, rfl⟩)
  go_ret
  exact ⟨rfl, (Ext.refl _).alloc _⟩

/-- A value that is a watch at work. -/
def IsD (w : World) (v : Value) (x : WD) : Prop :=
  ∃ db A1 c1 A2 c2 A3 c3 mb L, v = .pointer (some ⟨db, 0, none⟩) ∧
    Blk w db 189 #[.int .i64 x.hours, .int .i64 x.allow, .int .i64 x.hands, .slice A1 x.cn c1, .slice A2 x.bn c2, .slice A3 x.sn c3, .int .i64 (P.sm x 0), .int .i64 (P.sm x 1), .int .i64 (P.sm x 2), .int .i64 (P.sm x 3), .int .i64 (P.sm x 4), .int .i64 (P.sm x 5), .int .i64 (P.sm x 6), .int .i64 (P.sm x 7), .map (some mb)] ∧
    Rd w A1 x.cn 3 x.c ∧ Rd w A2 x.bn 2 x.b ∧ Rd w A3 x.sn 3 x.s ∧ Mp w mb L ∧ ∀ a b, a < b → b < x.cn → lookV (a, b) L = P.th x a b
theorem IsD.ext {w w' : World} {v : Value} {x : WD} (h : IsD w v x) (e : Ext w w') : IsD w' v x := by
  obtain ⟨db, A1, c1, A2, c2, A3, c3, mb, L, hv, hb, h1, h2, h3, hm, hl⟩ := h
  exact ⟨db, A1, c1, A2, c2, A3, c3, mb, L, hv, hb.ext e, h1.ext e, h2.ext e, h3.ext e, hm.ext e, hl⟩
theorem sums_at {w : World} {db : Nat} {t : TypeId} {s : Nat → Int} {v0 v1 v2 v3 v4 v5 v6 : Value} (h : Blk w db t #[v0, v1, v2, v3, v4, v5, .int .i64 (s 0), .int .i64 (s 1), .int .i64 (s 2), .int .i64 (s 3), .int .i64 (s 4), .int .i64 (s 5), .int .i64 (s 6), .int .i64 (s 7), v6]) {i : Nat} (hi : i < 8) :
    w.cell? ⟨db, 6 + i, none⟩ = some (.int .i64 (s i)) := by
  rw [h.cell]
  match i, hi with
  | 0, _ | 1, _ | 2, _ | 3, _ | 4, _ | 5, _ | 6, _ | 7, _ => rfl

theorem blk2 {C D : Array Value} {t u : TypeId} (w : World) : Blk ((w.alloc (.cells C t)).alloc (.cells D u)).drew w.heap.size t C ∧ Blk ((w.alloc (.cells C t)).alloc (.cells D u)).drew (w.heap.size + 1) u D :=
  ⟨(Blk.new w t C).ext ((Ext.refl _).alloc _).drew, by have := (Blk.new (w.alloc (.cells C t)) u D).ext (Ext.refl _).drew; simpa using this⟩

theorem books_any {x : WD} (hx : Ok x) {w : World} {v : Value} (hv : IsD w v x) (a b : Nat) (hab : a ≤ b) (hb : b < x.cn) :
    Calls Tryz.prog 147 #[v, .agg #[.int .i64 a, .int .i64 b]] w fun e w' => e = .returned (.int .i64 (P.books x a b)) ∧ Ext w w' := by
  obtain ⟨db, A1, c1, A2, c2, A3, c3, mb, L, rfl, hk, -, -, -, -, -⟩ := hv
  have hcn := hx.cn
  have hdb := hk.lt
  go_enter Tryz.func147, Tryz.ntmps147
  go_wp2
  go_loop [5, 6] (fun n i => ∃ k : Nat, k ≤ b - a ∧ i = .int .i64 ((a + k : Nat) : Int) ∧ n = .int .i64 (sumTo (fun d => P.sm x (a + d)) k)) (fun _ i => b - (intOf i).toNat)
  case atStart => exact ⟨0, Nat.zero_le _, rfl, rfl⟩
  case round =>
    obtain ⟨k, hk', rfl, rfl⟩ := hrel
    have hb1 := P.books_bound hx a k (by omega)
    have hs1 := P.sm_bound hx (a + k)
    by_cases hlt : a + k < b
    · have h1 := sums_at (s := P.sm x) hk (show a + k < 8 by omega)
      have HS : Hid (sumTo (fun d => P.sm x (a + d)) (k + 1) = sumTo (fun d => P.sm x (a + d)) k + P.sm x (a + k)) := hid rfl
      go_wp2
      go_round
      case rel => exact ⟨k + 1, by omega, by go_num, by rw [HS.out]⟩
      case measure => simp [intOf]; omega
    · go_wp2
      go_ret
      obtain rfl : k = b - a := by omega
      exact ⟨rfl, (Ext.refl _).alloc _⟩

theorem gapP_any {x : WD} (hx : Ok x) {w : World} {v : Value} (hv : IsD w v x) (a b : Nat) (hab : a ≤ b) (hb : b < x.cn) :
    Calls Tryz.prog 138 #[v, .agg #[.int .i64 a, .int .i64 b]] w fun e w' => e = .returned (.int .i64 (P.gap x a b)) ∧ Ext w w' := by
  have hv0 := hid hv
  obtain ⟨db, A1, c1, A2, c2, A3, c3, mb, L, rfl, hk, r1, -, -, -, -⟩ := hv
  have ha : a < x.cn := by omega
  obtain ⟨cb, co, rfl, hcb, a0, a1, a2⟩ := r1.at3 ha
  obtain ⟨_, _, hq, _, b0, b1, b2⟩ := r1.at3 hb
  obtain ⟨rfl, rfl⟩ := same_addr hq rfl
  have g1 := hx.hour a ha
  have g2 := hx.hour b hb
  have g3 := hx.hours
  have g4 := hx.lo a ha
  have g5 := hx.hi b hb
  have g6 := hx.allow
  have g7 : -16000 ≤ P.books x a b ∧ P.books x a b ≤ 16000 := P.books_bound hx a (b - a) (by have := hx.cn; omega)
  have g9 : -1200 ≤ x.allow * (x.c b 0 - x.c a 0) ∧ x.allow * (x.c b 0 - x.c a 0) ≤ 1200 := by
    have h1 := Int.mul_le_mul_of_nonneg_left (show x.c b 0 - x.c a 0 ≤ 60 by omega) g6.1
    have h2 := Int.mul_le_mul_of_nonneg_left (show -60 ≤ x.c b 0 - x.c a 0 by omega) g6.1
    omega
  have k0 := hk.cell
  have hdb := hk.lt
  have hm1 : ((a : Nat) : Int) < x.cn := by omega
  have hm2 : ((b : Nat) : Int) < x.cn := by omega
  clear hq r1
  go_enter Tryz.func138, Tryz.ntmps138
  go_wp2
  refine wp_later fun w1 hw1 => ?_
  obtain ⟨he, hk1⟩ := hw1.newB
  have k1 := hk1.cell
  have k0' := (hk.ext he).cell
  have a0 := he.some_ a0
  have a1 := he.some_ a1
  have a2 := he.some_ a2
  have b0 := he.some_ b0
  have b1 := he.some_ b1
  have b2 := he.some_ b2
  go_cut [5, 6] (fun s5 s6 wx => ∃ g5 g6 : Nat, s5 = .pointer (some ⟨g5, 0, none⟩) ∧ s6 = .pointer (some ⟨g6, 0, none⟩) ∧ Ext w1 wx ∧ Blk wx g5 79 #[.int .i64 (x.c a 0), .int .i64 (x.c a 1), .int .i64 (x.c a 2)] ∧ Blk wx g6 79 #[.int .i64 (x.c b 0), .int .i64 (x.c b 1), .int .i64 (x.c b 2)])
  case first =>
    go_region_held3 (fun w' => Ext w1 w' ∧ ∀ b o, (w1.cell? ⟨b, o, none⟩).isSome = true → w'.cell? ⟨b, o, none⟩ = w1.cell? ⟨b, o, none⟩) (exact Ext.sees (by repeat (first | exact Ext.refl _ | refine Ext.drew ?_ | refine Ext.alloc ?_ _ | (refine Ext.setCell ?_ _ (by simp <;> omega))))) (fail)
    · go_wp2_with fail
      go_meet
      exact ⟨_, _, rfl, rfl, (((Ext.refl _).alloc _).alloc _).drew, (blk2 _).1, (blk2 _).2⟩
    · go_wp2_with fail
      go_meet
      exact ⟨_, _, rfl, rfl, (((Ext.refl _).alloc _).alloc _).drew, (blk2 _).2, (blk2 _).1⟩
  case rest =>
    obtain ⟨g5, g6, rfl, rfl, hex, q5, q6⟩ := hcut
    have k5 := q5.cell
    have k6 := q6.cell
    have k1 := (hk1.ext hex).cell
    have k0 := ((hk.ext he).ext hex).cell
    go_wp2_with fail
    refine wp_region_later (by kernel_rfl) (by kernel_rfl) ?_
    repeat (go_big_quiet_step ((go_at_call 147; exact Calls.later (books_any hx ((hv0.out.ext (he.trans hex)).ext (Later.ext _)) a b hab hb))))
    refine wpQuiet_nil ?_
    rintro _ ⟨⟨w3, he3⟩, rfl⟩
    go_wp2
    go_ret
    exact ⟨rfl, he.trans (hex.trans he3)⟩
end Go.Proofs.YtkhjmedfhobebaaGreat
