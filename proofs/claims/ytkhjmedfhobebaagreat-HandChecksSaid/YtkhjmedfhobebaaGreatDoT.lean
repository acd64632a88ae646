/- Walks of the program: bookings, gap and hands of a stretch, or the errors. The lists are not longer than 1000. -/
import Derived.Test.YtkhjmedfhobebaaGreatDoM
namespace HandSpec
/-- The hands of a stretch, by bits and one by one. -/
theorem there_eq {x : WD} (hx : Ok x) {a b : Nat} (hab : a < b) (hb : b < x.cn) : ones 6 (P.th x a b) = R.there x a b := by
  have h := P.th_lt' hx a b
  have hh := hx.hands
  rw [ones_of (k := 6) (N := x.hands.toNat) (Nat.lt_of_lt_of_le h (Nat.pow_le_pow_right (by omega) (by omega))) h]
  unfold ones R.there
  exact List.filter_congr fun i _ => P.th_bit hx hab hb i
theorem str_nat {x : WD} {a b : Int} (h : P.chk x = 0) (e : P.strE x a b = 0) : ∃ p q : Nat, a = p ∧ b = q ∧ p < q ∧ q < x.cn := by
  unfold P.strE at e
  rw [if_neg (by simpa using h)] at e
  by_cases h1 : (!inB a 0 (x.cn - 1) || !inB b 0 (x.cn - 1)) = true
  · rw [if_pos h1] at e; cases e
  · rw [if_neg h1] at e
    simp only [Bool.or_eq_true, Bool.not_eq_true', not_or, Bool.not_eq_false] at h1
    unfold inB at h1
    simp only [decide_eq_true_eq] at h1
    by_cases h2 : b ≤ a
    · rw [if_pos h2] at e; cases e
    · exact ⟨a.toNat, b.toNat, by omega, by omega, by omega, by omega⟩
end HandSpec
namespace Go.Proofs.YtkhjmedfhobebaaGreat
open Go.RowKit HandSpec
set_option maxHeartbeats 1600000
set_option maxRecDepth 100000
theorem bookedX_err {x : WD} {w : World} {v : Value} (hv : IsW w v x) (h1 : x.cn ≤ 1000) (h2 : x.bn ≤ 1000) (h3 : x.sn ≤ 1000) (a b : Int) (he : P.strE x a b ≠ 0) :
    Calls Tryz.prog 60 #[v, .agg #[.int .i64 a, .int .i64 b]] w fun e w' => e = .returned (.tuple #[.int .i64 0, .int .i64 (P.strE x a b)]) ∧ Ext w w' := by
  have HV := hid hv
  obtain ⟨A1, c1, A2, c2, A3, c3, rfl, r1, r2, r3⟩ := hv
  clear r1 r2 r3
  have hne : (P.strE x a b == 0) = false := by simpa using he
  have hne2 : (P.strE x a b != 0) = true := by simpa using he
  have HE := hid he
  clear he
  go_enter Tryz.func60, Tryz.ntmps60
  go_upto_region 1 with fail
  refine wp_later fun w1 hw1 => ?_
  obtain ⟨E0, B1, B2⟩ := hw1.newB2
  have k1 := B1.cell
  have k1l := B1.lt
  have k2 := B2.cell
  have k2l := B2.lt
  clear hw1
  go_wp2_with (go_at_call 137; refine (str_err (HV.out.ext E0) h1 h2 h3 a b HE.out).mono ?_; rintro e w2 ⟨rfl, he2⟩)
  go_ret2
  exact ⟨rfl, E0.trans he2⟩
theorem bookedX_ok {x : WD} {w : World} {v : Value} (hv : IsW w v x) (h1 : x.cn ≤ 1000) (h2 : x.bn ≤ 1000) (h3 : x.sn ≤ 1000) (hc : P.chk x = 0) {a b : Nat} (hab : a < b) (hb : b < x.cn) (he : P.strE x a b = 0) :
    Calls Tryz.prog 60 #[v, .agg #[.int .i64 (a : Int), .int .i64 (b : Int)]] w fun e w' => e = .returned (.tuple #[.int .i64 (P.books x a b), .int .i64 0]) ∧ Ext w w' := by
  have HV := hid hv
  obtain ⟨A1, c1, A2, c2, A3, c3, rfl, r1, r2, r3⟩ := hv
  clear r1 r2 r3
  have hx := Ok.of_chk hc
  have HE := hid he
  clear he hc
  go_enter Tryz.func60, Tryz.ntmps60
  go_upto_region 1 with fail
  refine wp_later fun w1 hw1 => ?_
  obtain ⟨E0, B1, B2⟩ := hw1.newB2
  have k1 := B1.cell
  have k1l := B1.lt
  have k2 := B2.cell
  have k2l := B2.lt
  clear hw1
  go_wp2_with (first
    | (go_at_call 137; refine (str_ok (HV.out.ext E0) h1 h2 h3 (a : Int) (b : Int) HE.out).mono ?_; rintro e w2 ⟨u, rfl, he2, hu⟩; have HU := hid hu; clear hu; have k2 := (B2.ext he2).cell; have k2l := (B2.ext he2).lt)
    | (go_at_call 147; refine (books_any hx HU.out a b (Nat.le_of_lt hab) hb).mono ?_; rintro e w3 ⟨rfl, he3⟩))
  go_ret2
  exact ⟨rfl, E0.trans (he2.trans he3)⟩
theorem gapX_err {x : WD} {w : World} {v : Value} (hv : IsW w v x) (h1 : x.cn ≤ 1000) (h2 : x.bn ≤ 1000) (h3 : x.sn ≤ 1000) (a b : Int) (he : P.strE x a b ≠ 0) :
    Calls Tryz.prog 61 #[v, .agg #[.int .i64 a, .int .i64 b]] w fun e w' => e = .returned (.tuple #[.int .i64 0, .int .i64 (P.strE x a b)]) ∧ Ext w w' := by
  have HV := hid hv
  obtain ⟨A1, c1, A2, c2, A3, c3, rfl, r1, r2, r3⟩ := hv
  clear r1 r2 r3
  have hne : (P.strE x a b == 0) = false := by simpa using he
  have hne2 : (P.strE x a b != 0) = true := by simpa using he
  have HE := hid he
  clear he
  go_enter Tryz.func61, Tryz.ntmps61
  go_upto_region 1 with fail
  refine wp_later fun w1 hw1 => ?_
  obtain ⟨E0, B1, B2⟩ := hw1.newB2
  have k1 := B1.cell
  have k1l := B1.lt
  have k2 := B2.cell
  have k2l := B2.lt
  clear hw1
  go_wp2_with (go_at_call 137; refine (str_err (HV.out.ext E0) h1 h2 h3 a b HE.out).mono ?_; rintro e w2 ⟨rfl, he2⟩)
  go_ret2
  exact ⟨rfl, E0.trans he2⟩
theorem gapX_ok {x : WD} {w : World} {v : Value} (hv : IsW w v x) (h1 : x.cn ≤ 1000) (h2 : x.bn ≤ 1000) (h3 : x.sn ≤ 1000) (hc : P.chk x = 0) {a b : Nat} (hab : a < b) (hb : b < x.cn) (he : P.strE x a b = 0) :
    Calls Tryz.prog 61 #[v, .agg #[.int .i64 (a : Int), .int .i64 (b : Int)]] w fun e w' => e = .returned (.tuple #[.int .i64 (P.gap x a b), .int .i64 0]) ∧ Ext w w' := by
  have HV := hid hv
  obtain ⟨A1, c1, A2, c2, A3, c3, rfl, r1, r2, r3⟩ := hv
  clear r1 r2 r3
  have hx := Ok.of_chk hc
  have HE := hid he
  clear he hc
  go_enter Tryz.func61, Tryz.ntmps61
  go_upto_region 1 with fail
  refine wp_later fun w1 hw1 => ?_
  obtain ⟨E0, B1, B2⟩ := hw1.newB2
  have k1 := B1.cell
  have k1l := B1.lt
  have k2 := B2.cell
  have k2l := B2.lt
  clear hw1
  go_wp2_with (first
    | (go_at_call 137; refine (str_ok (HV.out.ext E0) h1 h2 h3 (a : Int) (b : Int) HE.out).mono ?_; rintro e w2 ⟨u, rfl, he2, hu⟩; have HU := hid hu; clear hu; have k2 := (B2.ext he2).cell; have k2l := (B2.ext he2).lt)
    | (go_at_call 138; refine (gapP_any hx HU.out a b (Nat.le_of_lt hab) hb).mono ?_; rintro e w3 ⟨rfl, he3⟩))
  go_ret2
  exact ⟨rfl, E0.trans (he2.trans he3)⟩
theorem thereX_err {x : WD} {w : World} {v : Value} (hv : IsW w v x) (h1 : x.cn ≤ 1000) (h2 : x.bn ≤ 1000) (h3 : x.sn ≤ 1000) (a b : Int) (he : P.strE x a b ≠ 0) :
    Calls Tryz.prog 62 #[v, .agg #[.int .i64 a, .int .i64 b]] w fun e w' => e = .returned (.tuple #[.slice none 0 0, .int .i64 (P.strE x a b)]) ∧ Ext w w' := by
  have HV := hid hv
  obtain ⟨A1, c1, A2, c2, A3, c3, rfl, r1, r2, r3⟩ := hv
  clear r1 r2 r3
  have hne : (P.strE x a b == 0) = false := by simpa using he
  have hne2 : (P.strE x a b != 0) = true := by simpa using he
  have HE := hid he
  clear he
  go_enter Tryz.func62, Tryz.ntmps62
  go_upto_region 1 with fail
  refine wp_later fun w1 hw1 => ?_
  obtain ⟨E0, B1, B2⟩ := hw1.newB2
  have k1 := B1.cell
  have k1l := B1.lt
  have k2 := B2.cell
  have k2l := B2.lt
  clear hw1
  go_wp2_with (go_at_call 137; refine (str_err (HV.out.ext E0) h1 h2 h3 a b HE.out).mono ?_; rintro e w2 ⟨rfl, he2⟩)
  go_ret2
  exact ⟨rfl, E0.trans he2⟩
theorem thereX_ok {x : WD} {w : World} {v : Value} (hv : IsW w v x) (h1 : x.cn ≤ 1000) (h2 : x.bn ≤ 1000) (h3 : x.sn ≤ 1000) (hc : P.chk x = 0) {a b : Nat} (hab : a < b) (hb : b < x.cn) (he : P.strE x a b = 0) :
    Calls Tryz.prog 62 #[v, .agg #[.int .i64 (a : Int), .int .i64 (b : Int)]] w fun e w' => ∃ u, e = .returned (.tuple #[u, .int .i64 0]) ∧ Ext w w' ∧ SlR w' 1 u (rows1 (ones 6 (P.th x a b))) := by
  have HV := hid hv
  obtain ⟨A1, c1, A2, c2, A3, c3, rfl, r1, r2, r3⟩ := hv
  clear r1 r2 r3
  have hx := Ok.of_chk hc
  have HE := hid he
  clear he hc
  go_enter Tryz.func62, Tryz.ntmps62
  go_upto_region 1 with fail
  refine wp_later fun w1 hw1 => ?_
  obtain ⟨E0, B1, B2⟩ := hw1.newB2
  have k1 := B1.cell
  have k1l := B1.lt
  have k2 := B2.cell
  have k2l := B2.lt
  clear hw1
  go_upto_region 4 with (go_at_call 137; refine (str_ok (HV.out.ext E0) h1 h2 h3 (a : Int) (b : Int) HE.out).mono ?_; rintro e w2 ⟨u, rfl, he2, hu⟩; have HU := hid hu; obtain ⟨db, B1', d1, B2', d2, B3', d3, mb, M, rfl, hd, -, -, -, hmp, hl⟩ := hu; have HL := hid hl; clear hl; have k2 := (B2.ext he2).cell; have k2l := (B2.ext he2).lt; have kd := hd.cell; have kdl := hd.lt)
  have hlk : ∀ w1, Ext w2 w1 → (Instr.lookup 187 (.map (some mb)) (.agg #[.int .i64 (a : Int), .int .i64 (b : Int)]) false).run Tryz.prog w1 = .ok (.int .i64 (P.th x a b : Int)) w1 := fun w1 e => by
    rw [lookup_run (hmp.ext e), HL.out a b hab hb]
  have hlk2 : ∀ n : Later w2, (Instr.lookup 187 (.map (some mb)) (.agg #[.int .i64 (a : Int), .int .i64 (b : Int)]) false).run Tryz.prog n.at_ = .ok (.int .i64 (P.th x a b : Int)) n.at_ := fun n => hlk _ n.ok
  have HLK := hid hlk
  clear hlk
  have hth := P.th_lt hx a b
  refine wp_region_mono 9 [(1, fun v _ _ _ => v = .pointer (some ⟨db, 0, none⟩)), (6, fun v _ _ w => SlR w 1 v (rows1 (ones 6 (P.th x a b))))] (by kernel_rfl) (by kernel_rfl) (by kernel_rfl) ?hS ?_
  case hS =>
    simp only [List.forall_mem_cons]
    exact ⟨fun _ _ _ _ _ _ h => h, fun _ _ _ _ _ e h => SlR.ext h e, fun _ h => by simp at h⟩
  simp only [List.take_succ_cons, List.drop_succ_cons, List.take_nil, List.drop_nil]
  refine wpM_plain rfl ?_
  go_big_quiet_step (fail)
  refine wpQuiet_nil ?_
  refine wpM_spec _ rfl rfl (fun w4 hw4 _ => ?_) (fun va la ha ga1 ga2 _ hva => ?_)
  · go_wp2
    exact ⟨_, w4.heap.size, w4.heap.size, rfl, Ext.refl _, Nat.le_refl _, Nat.le_refl _, Nat.le_refl _, rfl⟩
  obtain ⟨_, rfl⟩ := hva
  simp only [Act.put, List.setIfInBounds_toArray, List.set_cons_succ, List.set_cons_zero]
  iterate 4
    refine wpM_plain rfl ?_
    go_big_quiet_step (fail)
    refine wpQuiet_nil ?_
  refine wpM_spec _ rfl rfl (fun w4 hw4 _ => ?_) (fun vb lb hb2 gb1 gb2 _ hvb => ?_)
  · go_wp2_with (go_at_call 135; refine (membersP_any (P.th x a b) hth _).mono ?_; rintro e w5 ⟨vc, rfl, he5, ho5⟩)
    exact ⟨_, _, _, rfl, he5, Nat.le_refl _, he5.size, Nat.le_refl _, ho5.slR⟩
  simp only [Act.put, List.setIfInBounds_toArray, List.set_cons_succ, List.set_cons_zero]
  iterate 2
    refine wpM_plain rfl ?_
    go_big_quiet_step (fail)
    refine wpQuiet_nil ?_
  refine wpM_nil fun w6 hw6 hF => ?_
  simp only [List.forall_mem_cons] at hF
  obtain ⟨⟨-, hs6⟩, -⟩ := hF
  go_wp2_with fail
  go_ret2
  exact ⟨_, rfl, E0.trans (he2.trans hw6), hs6⟩
end Go.Proofs.YtkhjmedfhobebaaGreat
