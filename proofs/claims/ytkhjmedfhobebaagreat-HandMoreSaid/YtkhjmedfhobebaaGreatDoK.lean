/- Walks of the program: the fewest hands, and those that must have taken something. -/
import Derived.Test.YtkhjmedfhobebaaGreatDoG
import Derived.Test.YtkhjmedfhobebaaGreatDoJ
namespace HandSpec
namespace P
def holdsF (x : WD) (l : List Nat) : Bool := (left x (set l)).isEmpty
def fewest (x : WD) : List Nat := ((List.range (x.hands.toNat + 1)).findSome? fun m => pick (holdsF x) x.hands.toNat m [] 0).getD []
/-- The hands but for one, by bits. -/
def but (x : WD) (h : Nat) : Nat := 2 ^ x.hands.toNat - 1 - 2 ^ h
def mustTo (x : WD) (n : Nat) : List Nat := (List.range n).filter fun h => !(left x (but x h)).isEmpty
def must (x : WD) : List Nat := mustTo x x.hands.toNat
theorem mustTo_succ (x : WD) (n : Nat) : mustTo x (n+1) = mustTo x n ++ if (left x (but x n)).isEmpty then [] else [n] := by
 unfold mustTo
 rw [List.range_succ, List.filter_append]
 by_cases h : (left x (but x n)).isEmpty <;> simp [h]
theorem mustTo_length (x : WD) (n : Nat) : (mustTo x n).length ≤ n := Nat.le_trans (List.length_filter_le _ _) (by simp)
end P
end HandSpec
namespace Go.Proofs.YtkhjmedfhobebaaGreat
open Go.RowKit HandSpec
set_option maxHeartbeats 800000
set_option maxRecDepth 100000
theorem newB3 {w w1 : World} {A B C : Array Value} {t u v : TypeId} (h : Ext (((w.alloc (.cells A t)).alloc (.cells B u)).alloc (.cells C v)) w1) :
  Ext w w1 ∧ Blk w1 w.heap.size t A ∧ Blk w1 (w.heap.size + 1) u B ∧ Blk w1 (w.heap.size + 2) v C := by
 obtain ⟨h1, h2⟩ := h.newB
 obtain ⟨h3, h4, h5⟩ := h1.newB2
 exact ⟨h3, h4, h5, by simpa using h2⟩
theorem newB4 {w w1 : World} {A B C D : Array Value} {t u v z : TypeId} (h : Ext ((((w.alloc (.cells A t)).alloc (.cells B u)).alloc (.cells C v)).alloc (.cells D z)) w1) :
  Ext w w1 ∧ Blk w1 w.heap.size t A ∧ Blk w1 (w.heap.size + 1) u B ∧ Blk w1 (w.heap.size + 2) v C ∧ Blk w1 (w.heap.size + 3) z D := by
 obtain ⟨h1, h2⟩ := h.newB
 obtain ⟨h3, h4, h5, h6⟩ := newB3 h1
 exact ⟨h3, h4, h5, h6, by simpa using h2⟩
theorem lists_any {w : World} {fv : Value} {many limit : Nat} {holds : List Nat → Bool} (hA : AsksL w fv limit holds) (hm : many ≤ 64) (hlim : limit ≤ 64) :
  Calls Tryz.prog 133 #[.agg #[fv], .int .i64 (many : Int), .int .i64 (limit : Int)] w (PickPost w (P.pick holds limit many [] 0)) := by
 have hmf : ∀ (fn : Fn) (first cap : Array Value) (w : World), (Instr.makeFunc fn first cap).run Tryz.prog w = .ok (.func fn first cap) w := fun _ _ _ _ => rfl
 have hcf := enters_ Tryz.func201 (by kernel_rfl) rfl
 have HA := hid hA
 obtain ⟨fn, caps, rfl, -, -⟩ := hA
 go_enter Tryz.func133, Tryz.ntmps133
 go_upto_region 2 with fail
 refine wp_later fun w1 hw1 => ?_
 obtain ⟨he, b0, b1, b2, b3⟩ := newB4 hw1
 clear hw1
 have hst : (store ⟨w.heap.size + 3, 0, none⟩ (.func (.func 201) #[] #[.pointer (some ⟨w.heap.size + 1, 0, none⟩), .pointer (some ⟨w.heap.size, 0, none⟩), .pointer (some ⟨w.heap.size + 2, 0, none⟩), .pointer (some ⟨w.heap.size + 3, 0, none⟩)])).run Tryz.prog w1
   = .ok () (w1.setCell ⟨w.heap.size + 3, 0, none⟩ (.func (.func 201) #[] #[.pointer (some ⟨w.heap.size + 1, 0, none⟩), .pointer (some ⟨w.heap.size, 0, none⟩), .pointer (some ⟨w.heap.size + 2, 0, none⟩), .pointer (some ⟨w.heap.size + 3, 0, none⟩)])) := by
  have k := b3.cell 0
  have f := b3.frozen 0
  rw [run_store _ _ _ _ _ (by rfl), k, f]; rfl
 go_upto_region 3 with fail
 refine wp_later fun w2 hw2 => ?_
 have c0 := (b0.far (p := ⟨w.heap.size + 3, 0, none⟩) (by simp) (.func (.func 201) #[] #[.pointer (some ⟨w.heap.size + 1, 0, none⟩), .pointer (some ⟨w.heap.size, 0, none⟩), .pointer (some ⟨w.heap.size + 2, 0, none⟩), .pointer (some ⟨w.heap.size + 3, 0, none⟩)])).ext hw2
 have c1 := (b1.far (p := ⟨w.heap.size + 3, 0, none⟩) (by simp) (.func (.func 201) #[] #[.pointer (some ⟨w.heap.size + 1, 0, none⟩), .pointer (some ⟨w.heap.size, 0, none⟩), .pointer (some ⟨w.heap.size + 2, 0, none⟩), .pointer (some ⟨w.heap.size + 3, 0, none⟩)])).ext hw2
 have c2 := (b2.far (p := ⟨w.heap.size + 3, 0, none⟩) (by simp) (.func (.func 201) #[] #[.pointer (some ⟨w.heap.size + 1, 0, none⟩), .pointer (some ⟨w.heap.size, 0, none⟩), .pointer (some ⟨w.heap.size + 2, 0, none⟩), .pointer (some ⟨w.heap.size + 3, 0, none⟩)])).ext hw2
 have c3 := (b3.set_ 0 (.func (.func 201) #[] #[.pointer (some ⟨w.heap.size + 1, 0, none⟩), .pointer (some ⟨w.heap.size, 0, none⟩), .pointer (some ⟨w.heap.size + 2, 0, none⟩), .pointer (some ⟨w.heap.size + 3, 0, none⟩)])).ext hw2
 have e2 : Ext w w2 := (he.setCell (.func (.func 201) #[] #[.pointer (some ⟨w.heap.size + 1, 0, none⟩), .pointer (some ⟨w.heap.size, 0, none⟩), .pointer (some ⟨w.heap.size + 2, 0, none⟩), .pointer (some ⟨w.heap.size + 3, 0, none⟩)]) (p := ⟨w.heap.size + 3, 0, none⟩) (by simp)).trans hw2
 have k3 := c3.cell
 have k3l := c3.lt
 clear hst b0 b1 b2 b3 hw2 he
 have HC := hid (more_any (holds := holds) c1 c2 c3 c0 (HA.out.ext e2) hm hlim many [] 0 w2 (.slice none 0 0) (Ext.refl _) ⟨none, 0, rfl, Rd.nil⟩ (by simp) (by simp) (Nat.zero_le _))
 clear c0 c1 c2 c3
 go_wp2_with (go_at_call 201; refine HC.out.mono ?_; rintro e w4 ⟨he4, vd, rfl, hu4⟩)
 go_ret2
 exact PickPost.ret (e2.trans he4) rfl hu4
theorem run130 {x : WD} (hx : Ok x) {w : World} {v u : Value} {g : Nat} {l : List Nat} (hu : IsD w u x) (hb : Blk w g 170 #[u]) (hv : SlR w 1 v (rows1 l)) (hl : ∀ i ∈ l, i < 6) (hn : l.length ≤ 64) :
  Calls Tryz.prog 130 #[v, .pointer (some ⟨g, 0, none⟩)] w fun e w' => e = .returned (.bool (P.holdsF x l)) ∧ Ext w w' := by
 have HU := hid hu
 have HV := hid hv
 obtain ⟨db, A1, c1, A2, c2, A3, c3, mb, L, rfl, -, -, -, -, -, -⟩ := hu
 have k0 := hb.cell
 have kl := hb.lt
 have hs : P.set l < 64 := set_lt hl
 have HL : Hid (P.holdsF x l = decide ((P.left x (P.set l)).length = 0)) := hid (by unfold P.holdsF; cases P.left x (P.set l) <;> simp)
 obtain ⟨A, cap, rfl, hr⟩ := hv
 rw [rows1_length] at *
 go_enter Tryz.func130, Tryz.ntmps130
 go_upto_region 1 with fail
 refine wp_region_tail 3 (by kernel_rfl) (by kernel_rfl) ?_
 simp only [List.take_succ_cons, List.take_zero, List.drop_succ_cons, List.drop_zero]
 repeat (go_big_quiet_step ((go_at_call 132; exact Calls.later (set_any hl (by omega) (HV.out.ext (Later.ext _))))))
 refine wpQuiet_nil ?_
 rintro _ ⟨⟨w4, he4⟩, rfl⟩
 go_wp2_with (go_at_call 131; refine (leftP_any hx (HU.out.ext he4) hs).mono ?_; rintro e w5 ⟨va, rfl, he5, hu5⟩; obtain ⟨B, cb, rfl, _⟩ := hu5.slR; rw [rows2_length])
 go_ret
 exact ⟨ret_bool (by rw [HL.out]; by_cases h : (P.left x (P.set l)).length = 0 <;> simp [h]), he4.trans he5⟩
theorem asks130 {x : WD} (hx : Ok x) {w : World} {u : Value} {g : Nat} (hu : IsD w u x) (hb : Blk w g 170 #[u]) : AsksL w (.func (.func 130) #[] #[.pointer (some ⟨g, 0, none⟩)]) x.hands.toNat (P.holdsF x) :=
 ⟨_, _, rfl, enters_ Tryz.func130 (by kernel_rfl) rfl, fun l hl hn w' v e hv => run130 hx (hu.ext e) (hb.ext e) hv (fun i hi => by have := hl i hi; have := hx.hands; omega) hn⟩
theorem fewest_err {x : WD} {w : World} {v : Value} (hv : IsW w v x) (h1 : x.cn ≤ 1000) (h2 : x.bn ≤ 1000) (h3 : x.sn ≤ 1000) (he : P.toldE x false ≠ 0) :
  Calls Tryz.prog 35 #[v] w fun e w' => e = .returned (.tuple #[.slice none 0 0, .int .i64 (P.toldE x false)]) ∧ Ext w w' := by
 have HV := hid hv
 obtain ⟨A1, c1, A2, c2, A3, c3, rfl, r1, r2, r3⟩ := hv
 clear r1 r2 r3
 have hne : (P.toldE x false == 0) = false := by simpa using he
 have HE := hid he
 clear he
 go_enter Tryz.func35, Tryz.ntmps35
 go_wp2_with (go_at_call 120; refine (told_err (HV.out.ext ((Ext.refl _).alloc _)) h1 h2 h3 false HE.out).mono ?_; rintro e w1 ⟨rfl, he1⟩; obtain ⟨he1, hb⟩ := he1.newB)
 go_ret2
 exact ⟨rfl, he1.alloc _⟩
theorem fewest_first {x : WD} {k : Nat} {out : List Nat} (hk : k ≤ x.hands.toNat) (h : ∀ j, j < k → P.pick (P.holdsF x) x.hands.toNat j [] 0 = none) (ho : P.pick (P.holdsF x) x.hands.toNat k [] 0 = some out) : P.fewest x = out := by
 unfold P.fewest
 obtain ⟨d, hd⟩ := Nat.le.dest (show k + 1 ≤ x.hands.toNat + 1 by omega)
 rw [← hd, List.range_add, List.findSome?_append, List.range_succ, List.findSome?_append, List.findSome?_eq_none_iff.2 (fun e he => h e (by simpa using he))]
 simp [ho]
theorem fewest_none {x : WD} (h : ∀ j, j < x.hands.toNat + 1 → P.pick (P.holdsF x) x.hands.toNat j [] 0 = none) : P.fewest x = [] := by
 unfold P.fewest
 rw [List.findSome?_eq_none_iff.2 (fun e he => h e (by simpa using he))]
 rfl
theorem fewest_ok {x : WD} {w : World} {v : Value} (hv : IsW w v x) (h1 : x.cn ≤ 1000) (h2 : x.bn ≤ 1000) (h3 : x.sn ≤ 1000) (he : P.toldE x false = 0) :
  Calls Tryz.prog 35 #[v] w fun e w' => ∃ u, e = .returned (.tuple #[u, .int .i64 0]) ∧ Ext w w' ∧ SlR w' 1 u (rows1 (P.fewest x)) := by
 have hmf : ∀ (fn : Fn) (first cap : Array Value) (w : World), (Instr.makeFunc fn first cap).run Tryz.prog w = .ok (.func fn first cap) w := fun _ _ _ _ => rfl
 have HV := hid hv
 obtain ⟨A1, c1, A2, c2, A3, c3, rfl, r1, r2, r3⟩ := hv
 clear r1 r2 r3
 have hx := Ok.of_chk (P.toldE_ok he).1
 have HE := hid he
 clear he
 have hh := hx.hands
 have HN : Hid (((x.hands.toNat : Nat) : Int) = x.hands) := hid (by omega)
 go_enter Tryz.func35, Tryz.ntmps35
 go_upto_region 4 with (go_at_call 120; refine (told_ok (HV.out.ext ((Ext.refl _).alloc _)) h1 h2 h3 false HE.out).mono ?_; rintro e w1 ⟨va, rfl, he1, hu⟩; obtain ⟨he1, hb⟩ := he1.newB; have HU := hid hu; obtain ⟨db, B1, d1, B2, d2, B3, d3, mb, L, rfl, -, -, -, -, -, -⟩ := hu)
 refine wp_later fun w2 hw2 => ?_
 obtain ⟨he2, hb4⟩ := hw2.newB
 clear hw2
 have HA := hid (asks130 hx (HU.out.ext he2) hb4)
 have hst : (store ⟨w2.heap.size, 0, none⟩ (.func (.func 130) #[] #[.pointer (some ⟨w1.heap.size, 0, none⟩)])).run Tryz.prog (w2.alloc (.cells #[.nilFunc] 182))
   = .ok () ((w2.alloc (.cells #[.nilFunc] 182)).setCell ⟨w2.heap.size, 0, none⟩ (.func (.func 130) #[] #[.pointer (some ⟨w1.heap.size, 0, none⟩)])) := by
  have b2 := Blk.new w2 182 #[.nilFunc]
  have k := b2.cell 0
  have f := b2.frozen 0
  rw [run_store _ _ _ _ _ (by rfl), k, f]; rfl
 go_upto_region 5 with fail
 refine wp_later fun w3 hw3 => ?_
 obtain ⟨E3, B6⟩ := hw3.newB
 clear hst hw3
 have kb := ((hb.ext he2).ext E3).cell
 have kbl := ((hb.ext he2).ext E3).lt
 have hs1 := he1.size
 have hs2 := he2.size
 have hs3 := E3.size
 go_wp2
 go_loopw [23] (fun i wr => ∃ k : Nat, k ≤ x.hands.toNat + 1 ∧ i = .int .i64 (k : Int) ∧ Hid (∀ j, j < k → P.pick (P.holdsF x) x.hands.toNat j [] 0 = none) ∧ Ext w3 wr) (fun i _ => x.hands.toNat + 1 - (intOf i).toNat)
 case atStart => exact ⟨0, Nat.zero_le _, rfl, fun _ h => absurd h (by omega), Ext.refl _⟩
 case round =>
  clear kb kbl
  obtain ⟨k, hk, rfl, hp, he⟩ := hrel
  have kb := (((hb.ext he2).ext E3).ext he).cell
  have kbl := (((hb.ext he2).ext E3).ext he).lt
  have k6 := (B6.ext he).cell
  have k6l := (B6.ext he).lt
  by_cases hlt : k < x.hands.toNat + 1
  ·have hki : (k : Int) < x.hands + 1 := by omega
   have hc := lists_any (w := wr) (many := k) (HA.out.ext (E3.trans he)) (by omega) (show x.hands.toNat ≤ 64 by omega)
   rw [HN.out] at hc
   have HC := hid hc
   clear hc
   cases hpk : P.pick (P.holdsF x) x.hands.toNat k [] 0 with
   | none =>
    have HP := hid hpk
    clear hpk
    go_wp2_with (go_at_call 133; refine HC.out.mono ?_; rintro e w4 ⟨he4, vd, rfl, hu4⟩; rw [HP.out])
    go_roundw
    case rel => exact ⟨k + 1, by omega, by go_num, hid fun j hj => by
     rcases Nat.lt_or_eq_of_le (Nat.le_of_lt_succ hj) with h | h
     ·exact hp.out j h
     ·rw [h]; exact HP.out, he.trans he4⟩
    case measure => simp [intOf]; omega
   | some out =>
    have HP := hid hpk
    clear hpk
    go_wp2_with (go_at_call 133; refine HC.out.mono ?_; rintro e w4 ⟨he4, vd, rfl, hu4⟩; rw [HP.out])
    go_ret2
    exact ⟨_, rfl, he1.trans (he2.trans (E3.trans (he.trans he4))), by rw [fewest_first (by omega) hp.out HP.out]; exact hu4 _ HP.out⟩
  ·have hki : ¬ (k : Int) < x.hands + 1 := by omega
   obtain rfl : k = x.hands.toNat + 1 := by omega
   go_wp2
   go_ret2
   exact ⟨_, rfl, he1.trans (he2.trans (E3.trans he)), by rw [fewest_none hp.out]; exact ⟨none, 0, rfl, Rd.nil⟩⟩
theorem wrap2' {i : Nat} (h : i ≤ 6) : IntKind.i64.wrap ((2 : Int) ^ i) = (2 : Int) ^ i := by
 match i, h with
 | 0, _ | 1, _ | 2, _ | 3, _ | 4, _ | 5, _ | 6, _ => rfl
theorem but_lt (x : WD) (hx : Ok x) (h : Nat) : P.but x h < 64 := by
 unfold P.but
 have h2 := hx.hands
 have h3 : 2 ^ x.hands.toNat ≤ 64 := Nat.pow_le_pow_right (n := 2) (by omega) (show x.hands.toNat ≤ 6 by omega)
 generalize 2 ^ x.hands.toNat = A at *
 generalize 2 ^ h = B at *
 omega
theorem wrap_but {x : WD} (hx : Ok x) {h : Nat} (hh : h < x.hands.toNat) : IntKind.i64.wrap ((2 : Int) ^ x.hands.toNat - 1 - (2 : Int) ^ h) = ((P.but x h : Nat) : Int) ∧ IntKind.i64.wrap ((2 : Int) ^ x.hands.toNat - 1) = (2 : Int) ^ x.hands.toNat - 1 := by
 have h2 := hx.hands
 have h3 : 2 ^ x.hands.toNat ≤ 64 := Nat.pow_le_pow_right (n := 2) (by omega) (show x.hands.toNat ≤ 6 by omega)
 have h4 : 2 ^ h < 2 ^ x.hands.toNat := Nat.pow_lt_pow_right (by omega) hh
 have e1 : ((2 : Int) ^ x.hands.toNat) = ((2 ^ x.hands.toNat : Nat) : Int) := by simp
 have e2 : ((2 : Int) ^ h) = ((2 ^ h : Nat) : Int) := by simp
 unfold P.but
 rw [e1, e2]
 clear e1 e2
 generalize 2 ^ x.hands.toNat = A at *
 generalize 2 ^ h = B at *
 rw [IntWalk.i64_in _ (by omega), IntWalk.i64_in _ (by omega)]
 omega
theorem must_ok {x : WD} {w : World} {v : Value} (hv : IsW w v x) (h1 : x.cn ≤ 1000) (h2 : x.bn ≤ 1000) (h3 : x.sn ≤ 1000) (he : P.toldE x false = 0) :
  Calls Tryz.prog 36 #[v] w fun e w' => ∃ u, e = .returned (.tuple #[u, .int .i64 0]) ∧ Ext w w' ∧ SlR w' 1 u (rows1 (P.must x)) := by
 have HV := hid hv
 obtain ⟨A1, c1, A2, c2, A3, c3, rfl, r1, r2, r3⟩ := hv
 clear r1 r2 r3
 have hx := Ok.of_chk (P.toldE_ok he).1
 have HE := hid he
 clear he
 have hh := hx.hands
 go_enter Tryz.func36, Tryz.ntmps36
 go_wp2_with (go_at_call 120; refine (told_ok (HV.out.ext ((Ext.refl _).alloc _)) h1 h2 h3 false HE.out).mono ?_; rintro e w1 ⟨va, rfl, he1, hu⟩; obtain ⟨he1, hb⟩ := he1.newB; have HU := hid hu; obtain ⟨db, B1, d1, B2, d2, B3, d3, mb, L, rfl, -, -, -, -, -, -⟩ := hu; have kb := hb.cell; have kbl := hb.lt)
 clear kb kbl
 have hs1 := he1.size
 go_loopw [6, 18] (fun o i wr => ∃ k : Nat, k ≤ x.hands.toNat ∧ i = .int .i64 (k : Int) ∧ OwnR wr w1.heap.size 3 1 o (rows1 (P.mustTo x k)) ∧ Ext w1 wr) (fun _ i _ => x.hands.toNat - (intOf i).toNat)
 case atStart => exact ⟨0, Nat.zero_le _, rfl, by simpa [P.mustTo, rows1] using OwnR.nil, Ext.refl _⟩
 case round =>
  obtain ⟨k, hk, rfl, hown, he⟩ := hrel
  have kb := (hb.ext he).cell
  have kbl := (hb.ext he).lt
  have hml := P.mustTo_length x k
  by_cases hlt : k < x.hands.toNat
  ·have HM := hid (P.mustTo_succ x k)
   obtain ⟨hw2, hw1⟩ := wrap_but hx hlt
   have hw3 := wrap2' (i := k) (by omega)
   have hw4 := wrap2' (i := x.hands.toNat) (by omega)
   have hki : (k : Int) < x.hands := by omega
   go_upto_region 8 with fail
   refine wp_region_tail 8 (by kernel_rfl) (by kernel_rfl) ?_
   simp only [List.take_succ_cons, List.take_zero, List.drop_succ_cons, List.drop_zero]
   repeat (go_big_quiet_step (fail))
   refine wpQuiet_nil ?_
   rintro _ ⟨⟨w4, he4⟩, rfl⟩
   have HB := hid hw2
   clear hw1 hw2 hw3 hw4 kb kbl
   have hlen : decide (0 < (P.left x (P.but x k)).length) = !(P.left x (P.but x k)).isEmpty := by cases P.left x (P.but x k) <;> simp
   have HLN := hid hlen
   clear hlen
   cases hem : (P.left x (P.but x k)).isEmpty
   ·have hl0 : (0 : Int) < ((P.left x (P.but x k)).length : Int) := by
     have := HLN.out
     rw [hem] at this
     simpa using this
    have HEM := hid hem
    clear hem
    go_wp2_with (first
     | (go_at_call 131; refine (leftP_any hx (HU.out.ext (he.trans he4)) (but_lt x hx k)).mono ?_; rintro e w5 ⟨vb, rfl, he5, hu5⟩; obtain ⟨Bz, cb, rfl, _⟩ := hu5.slR; rw [rows2_length])
     | (at_builtin; refine wpList_append_rows rfl _ _ 56 rfl elem56 rfl (hown.ext ((he4.trans he5).alloc _)) w5.heap.size 1 1 [[(k : Int)]] rfl rfl (by simp) (by intro i; simp [cellsOf]) (by rw [rows1_length]; omega) (by have := he.size; have := he4.size; have := he5.size; simp; omega) ?_; intro v' w6 hown2 hg2))
    go_roundw
    case rel => exact ⟨k + 1, by omega, by go_num, by rw [HM.out, HEM.out, rows1_append]; simpa [rows1] using hown2, ((he.trans (he4.trans he5)).alloc _).grown hg2 fun g hg => hown.block hg⟩
    case measure => simp [intOf]; omega
   ·have hl0 : ¬ (0 : Int) < ((P.left x (P.but x k)).length : Int) := by
     have := HLN.out
     rw [hem] at this
     simpa using this
    have HEM := hid hem
    clear hem
    go_wp2_with (first
     | (go_at_call 131; refine (leftP_any hx (HU.out.ext (he.trans he4)) (but_lt x hx k)).mono ?_; rintro e w5 ⟨vb, rfl, he5, hu5⟩; obtain ⟨Bz, cb, rfl, _⟩ := hu5.slR; rw [rows2_length]))
    go_roundw
    case rel => exact ⟨k + 1, by omega, by go_num, by rw [HM.out, HEM.out]; simpa using hown.ext (he4.trans he5), he.trans (he4.trans he5)⟩
    case measure => simp [intOf]; omega
  ·have hki : ¬ (k : Int) < x.hands := by omega
   go_wp2
   go_ret2
   obtain rfl : k = x.hands.toNat := by omega
   exact ⟨_, rfl, he1.trans he, hown.slR⟩
end Go.Proofs.YtkhjmedfhobebaaGreat
