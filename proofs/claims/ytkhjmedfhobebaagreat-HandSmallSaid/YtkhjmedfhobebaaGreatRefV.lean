/- Walks of the reference: fewest, must, can. No condition. -/
import Derived.Test.YtkhjmedfhobebaaGreatGenB
import Derived.Test.YtkhjmedfhobebaaGreatRefG
import Derived.Test.YtkhjmedfhobebaaGreatMathN
import Derived.Test.YtkhjmedfhobebaaGreatLawD
namespace Go
open Go.RowKit
/-- A new slice whose cells are these rows of numbers. -/
def NewS (e : TypeId) (c n : Nat) (g : Nat → Nat → Int) (v : Value) (lo : Nat) (w : World) : Prop :=
 ∃ q cur, v = .slice (some ⟨lo, 0, none⟩) n q ∧ n ≤ q ∧ Blk w lo e cur ∧ ∀ i j, i < n → j < c → cur[i * c + j]? = some (.int .i64 (g i j))
theorem NewS.ext {e : TypeId} {c n : Nat} {g : Nat → Nat → Int} {v : Value} {lo : Nat} {w w' : World} (h : NewS e c n g v lo w) (x : Ext w w') : NewS e c n g v lo w' := by
 obtain ⟨q, cur, h1, h2, h3, h4⟩ := h
 exact ⟨q, cur, h1, h2, h3.ext x, h4⟩
theorem blk_rd {w : World} {lo : Nat} {e : TypeId} {c n : Nat} {g : Nat → Nat → Int} {cur : Array Value} (h3 : Blk w lo e cur) (h4 : ∀ i j, i < n → j < c → cur[i * c + j]? = some (.int .i64 (g i j))) : Rd w (some ⟨lo, 0, none⟩) n c g :=
 fun _ => ⟨lo, 0, rfl, fun k hk j hj => by rw [h3.cell, Nat.zero_add]; exact h4 k j hk hj⟩
theorem Rd.suf {w : World} {A : Option Addr} {n c k : Nat} {g : Nat → Nat → Int} (h : Rd w A n c g) (hk : k < n) : Rd w (A.map (·.add (k * c))) (n - k) c (fun i j => g (k + i) j) := fun _ => by
 obtain ⟨b, o, rfl, hc⟩ := h (by omega)
 refine ⟨b, o + k * c, by rw [Option.map_some, addr_add], fun i hi j hj => ?_⟩
 have := hc (k + i) (by omega) j hj
 rw [Nat.add_mul, ← Nat.add_assoc o] at this
 exact this
section
variable {P : Program} {w : World}
/-- append of a slice that can be read to an empty one without room. -/
theorem wpList_append_copy {ops : Array Oper} {rest : List Oper} {o : Oper} {a : Act} {Q : Exit → Act → World → Prop} (hgd : o.guard = none) (s x : Operand) (T : TypeId)
  (ho : o.op = .call { callee := .builtin .append, args := #[s, x], argTypes := #[T, T] }) {e : TypeId} {c bytes : Nat} (hE : ElemOk P T e c bytes)
  (b : Addr) (hs : a.eval s = .slice (some b) 0 0) {A : Option Addr} {m cap : Nat} {g : Nat → Nat → Int} (hx : a.eval x = .slice A m cap) (hr : Rd w A m c g)
  (hm : 0 < m) (hlen : m ≤ 1000000)
  (h : ∀ v C, NewS e c m g v w.heap.size (w.drew.alloc (.cells C e)) → wpList P ops Q rest (a.put o.dst v) (w.drew.alloc (.cells C e))) :
  wpList P ops Q (o :: rest) a w := by
 obtain ⟨i, z, hi, hz, h1, h2, h3⟩ := hE.i
 have hb0 := hE.b
 obtain ⟨b2, off, rfl, hc⟩ := hr hm
 have hcl : (cellsOf (rowsG c m g)).length = m * c := by rw [cellsOf_length rowsG_row, rowsG_length]
 have hnews : ∀ j u, (cellsOf (rowsG c m g))[j]? = some u → w.cell? ((⟨b2, off, none⟩ : Addr).add j) = some u := fun j u hu => by
  obtain ⟨k, q, hk, hq, rfl, rfl⟩ := cellsOf_rowsG hu
  rw [addr_add, ← Nat.add_assoc]
  exact hc k hk q hq
 have hrun := run_append_grow (P := P) w T o.type e i z hE.u hi hz b 0 0 [] (by simp) (fun j v hj => by simp at hj) ⟨b2, off, none⟩ m cap (cellsOf (rowsG c m g)) (by rw [hcl, h1]) hnews (by omega) (by omega)
  (growslice_fits (by omega) (by rw [h2, Nat.zero_add]; have := Nat.mul_le_mul hlen hb0; omega))
 rw [Nat.zero_add] at hrun
 refine wpList_plain hgd fun K hK => ?_
 unfold Oper.wp
 simp only [execOp, ho, resolve, invoke, builtin, Sem.run_bind, Sem.run_pure, Result.andThen_ok, List.map_toArray, List.map_cons, List.map_nil, hs, hx, hrun]
 refine hK _ _ (h _ _ ⟨_, _, rfl, grownCap_ge w m 0 e, Blk.new w.drew _ _, fun k j hk hj => ?_⟩)
 have hget := cellsOf_get (rowsG_row (c := c) (m := m) (g := g)) (k := k) (j := j) (by rw [rowsG_length]; exact hk) hj
 have hat := rowsG_at (g := g) hk hj
 unfold rowsAt at hat
 rw [hat] at hget
 have hlt : k * c + j < (cellsOf (rowsG c m g)).length := by
  rw [hcl]
  have := Nat.mul_le_mul_right c (show k + 1 ≤ m by omega)
  rw [Nat.add_mul] at this
  omega
 rw [Array.getElem?_append_left (by simp; omega)]
 simpa using hget
end
end Go
namespace Go.Proofs.YtkhjmedfhobebaaGreat
open Go.RowKit HandSpec
set_option maxHeartbeats 1600000
set_option maxRecDepth 100000
theorem lexB_at : ∀ {a b : List Nat} {k : Nat}, a.length = b.length → k < a.length → (∀ j, j < k → a.getD j 0 = b.getD j 0) → a.getD k 0 ≠ b.getD k 0 → lexB a b = decide (a.getD k 0 < b.getD k 0)
 | a :: a1, b :: b1, 0, _, _, _, hne => by
  have h : a ≠ b := by simpa using hne
  unfold lexB; rw [if_pos h]; simp
 | a :: a1, b :: b1, k+1, hl, hk, h, hne => by
  have h0 : a = b := by simpa using h 0 (by omega)
  unfold lexB
  rw [if_neg (by simpa using h0)]
  have := lexB_at (a := a1) (b := b1) (k := k) (by simpa using hl) (by simpa using hk) (fun j hj => by simpa using h (j+1) (by omega)) (by simpa using hne)
  simpa using this
 | [], _, k, _, hk, _, _ => by simp at hk
 | _ :: _, [], _, hl, _, _, _ => by simp at hl
theorem lexB_same : ∀ {a b : List Nat}, a.length = b.length → (∀ j, j < a.length → a.getD j 0 = b.getD j 0) → lexB a b = false
 | [], _, _, _ => by simp [lexB]
 | a :: a1, [], hl, _ => by simp at hl
 | a :: a1, b :: b1, hl, h => by
  have h0 : a = b := by simpa using h 0 (by simp)
  unfold lexB
  rw [if_neg (by simpa using h0)]
  exact lexB_same (by simpa using hl) fun j hj => by simpa using h (j+1) (by simpa using hj)
theorem ahead_any {w : World} {u v : Value} {a b : List Nat} (hu : SlR w 1 u (rows1 a)) (hv : SlR w 1 v (rows1 b)) (h1 : a.length ≤ 1000) (_h2 : b.length ≤ 1000) :
  Calls Tryz.prog 128 #[u, v] w fun e w' => e = .returned (.bool (aheadB a b)) ∧ Ext w w' := by
 obtain ⟨A, q, rfl, hr⟩ := hu
 obtain ⟨B, r, rfl, hs⟩ := hv
 rw [rows1_length] at hr hs ⊢
 rw [rows1_length]
 by_cases hl : a.length = b.length
 ·have hl' : ((a.length : Int) != (b.length : Int)) = false := by rw [hl]; simp
  have HA := hid (show aheadB a b = lexB a b by unfold aheadB; rw [if_neg (by simpa using hl)])
  have HL := hid hl
  have hle : b.length ≤ a.length := by omega
  have hle' : a.length ≤ b.length := by omega
  clear hl
  go_enter Tryz.func128, Tryz.ntmps128
  go_wp2
  go_loopw [5] (fun s wr => ∃ k : Nat, k ≤ a.length ∧ s = .int .i64 (k : Int) ∧ Hid (∀ j, j < k → a.getD j 0 = b.getD j 0) ∧ Ext w wr) (fun s _ => a.length - (intOf s).toNat)
  case atStart => exact ⟨0, Nat.zero_le _, rfl, fun _ h => absurd h (by omega), Ext.refl _⟩
  case round =>
   obtain ⟨k, hk, rfl, hj, he⟩ := hrel
   by_cases hlt : k < a.length
   ·obtain ⟨ab, ao, rfl, hab, a0⟩ := (hr.ext he).atN hlt
    obtain ⟨bb, bo, rfl, hbb, b0⟩ := (hs.ext he).atN (show k < b.length by omega)
    have hki : (k : Int) < (a.length : Int) := by omega
    have hkj : (k : Int) < (b.length : Int) := by omega
    obtain ⟨p, hp⟩ : ∃ p, p = a.getD k 0 := ⟨_, rfl⟩
    obtain ⟨q', hq⟩ : ∃ q', q' = b.getD k 0 := ⟨_, rfl⟩
    rw [← hp] at a0
    rw [← hq] at b0
    have HP := hid hp
    have HQ := hid hq
    clear hp hq
    go_upto_region 6 with fail
    refine wp_region_later (by kernel_rfl) (by kernel_rfl) ?_
    repeat (go_big_quiet_step (fail))
    refine wpQuiet_nil ?_
    rintro _ ⟨⟨w2, he2⟩, rfl⟩
    by_cases hne : p = q'
    ·have hb : ((p : Int) != (q' : Int)) = false := by rw [hne]; simp
     have HN := hid hne
     clear hne
     go_wp2
     go_roundw
     case rel => exact ⟨k + 1, by omega, by go_num, fun j hj' => by
      rcases Nat.lt_or_eq_of_le (Nat.le_of_lt_succ hj') with h | h
      ·exact hj.out j h
      ·rw [h, ← HP.out, ← HQ.out]; exact HN.out, he.trans he2⟩
     case measure => simp [intOf]; omega
    ·have hb : ((p : Int) != (q' : Int)) = true := by rw [bne_iff_ne]; omega
     have HN := hid hne
     clear hne
     have a0 := he2.some_ a0
     have b0 := he2.some_ b0
     have hab := Nat.lt_of_lt_of_le hab he2.size
     have hbb := Nat.lt_of_lt_of_le hbb he2.size
     go_upto_region 7 with fail
     refine wp_region_later (by kernel_rfl) (by kernel_rfl) ?_
     repeat (go_big_quiet_step (fail))
     refine wpQuiet_nil ?_
     rintro _ ⟨⟨w3, he3⟩, rfl⟩
     go_wp2
     go_ret
     exact ⟨ret_bool (by rw [HA.out, lexB_at HL.out hlt hj.out (by rw [← HP.out, ← HQ.out]; exact HN.out), ← HP.out, ← HQ.out]), he.trans (he2.trans he3)⟩
   ·obtain rfl : k = a.length := by omega
    go_wp2
    go_ret
    exact ⟨ret_bool (by rw [HA.out, lexB_same HL.out hj.out]), he⟩
 ·have hl' : ((a.length : Int) != (b.length : Int)) = true := by rw [bne_iff_ne]; omega
  have HA := hid (show aheadB a b = decide (a.length < b.length) by unfold aheadB; rw [if_pos hl])
  clear hl
  go_enter Tryz.func128, Tryz.ntmps128
  go_wp2
  go_ret
  exact ⟨ret_bool (by rw [HA.out]), Ext.refl _⟩
theorem whole_bd {x : WD} (hx : Ok x) : R.whole x < 64 ∧ 1 ≤ R.whole x := by
 have h2 := hx.hands
 have h3 : 2 ^ x.hands.toNat ≤ 2 ^ 6 := Nat.pow_le_pow_right (by omega) (by omega)
 have h4 : 2 ^ 1 ≤ 2 ^ x.hands.toNat := Nat.pow_le_pow_right (by omega) (by omega)
 unfold R.whole; omega
theorem whole_w {x : WD} (hx : Ok x) {w : World} {v : Value} (hv : IsW w v x) :
  Calls Tryz.prog 23 #[v] w fun e w' => e = .returned (.int .i64 ((R.whole x : Nat) : Int)) ∧ Ext w w' := whole_any hx hv
theorem few_length (x : WD) (k : Nat) : (R.few x k).length ≤ 62 := by
 rcases (R.few_spec x k).1 with h | ⟨m, _, _, h⟩ <;> (rw [h]; exact ones_length _ _)
theorem fewestR_any {x : WD} (hx : Ok x) {w : World} {v : Value} (hv : IsW w v x) :
  Calls Tryz.prog 32 #[v] w fun e w' => ∃ u, e = .returned u ∧ Ext w w' ∧ SlR w' 1 u (rows1 (R.fewest x)) := by
 have HV := hid hv
 obtain ⟨A1, c1, A2, c2, A3, c3, rfl, r1, r2, r3⟩ := hv
 clear r1 r2 r3
 obtain ⟨hw1, hw2⟩ := whole_bd hx
 go_enter Tryz.func32, Tryz.ntmps32
 go_upto_region 2 with (first
  | (go_at_call 23; refine (whole_w hx (HV.out.ext ((Ext.refl _).alloc _))).mono ?_; rintro e w1 ⟨rfl, he1⟩; obtain ⟨E1, b1⟩ := he1.newB; have k1 := b1.cell; have k1l := b1.lt)
  | (go_at_call 127; refine (members_any (R.whole x) (by omega) _).mono ?_; rintro e w2 ⟨va, rfl, he2, ho2⟩))
 have S0 := hid ho2.slR
 have B2 := hid (b1.ext he2)
 have E2 := E1.trans he2
 clear ho2 k1 k1l b1 E1 he1 he2
 go_wp2_with fail
 go_loopw [3, 4] (fun s3 s4 wr => ∃ k : Nat, k ≤ R.whole x + 1 ∧ s4 = .int .i64 (k : Int) ∧ SlR wr 1 s3 (rows1 (R.few x k)) ∧ Ext w wr ∧ Blk wr w.heap.size 34 #[.int .i64 x.hours, .int .i64 x.allow, .int .i64 x.hands, .slice A1 x.cn c1, .slice A2 x.bn c2, .slice A3 x.sn c3]) (fun _ s4 _ => R.whole x + 1 - (intOf s4).toNat)
 case atStart => exact ⟨0, Nat.zero_le _, rfl, S0.out, E2, B2.out⟩
 case round =>
  clear S0 B2 E2
  obtain ⟨k, hk, rfl, hs, he, hb⟩ := hrel
  have k1 := hb.cell
  have k1l := hb.lt
  have S := hid hs
  obtain ⟨A, q, rfl, -⟩ := hs
  have E := hid (Ext.refl wr)
  have hfl := few_length x k
  by_cases hlt : k ≤ R.whole x
  ·have HF := hid (show R.few x (k+1) = if R.fwOk x k && aheadB (ones 62 k) (R.few x k) then ones 62 k else R.few x k from rfl)
   cases hf : R.fwOk x k
   ·have HFW := hid hf
    clear hf
    go_wp2_with (first
     | (go_at_call 23; refine (whole_w hx (HV.out.ext (he.trans E.out))).mono ?_; rintro e w3 ⟨rfl, he3⟩; have E := hid (E.out.trans he3); have k1 := (hb.ext E.out).cell; have k1l := (hb.ext E.out).lt)
     | (go_at_call 22; refine (forward_any hx (HV.out.ext (he.trans E.out)) k (by omega)).mono ?_; rintro e w4 ⟨u4, rfl, he4, -⟩; rw [HFW.out]; have E := hid (E.out.trans he4); have k1 := (hb.ext E.out).cell; have k1l := (hb.ext E.out).lt))
    go_roundw
    case rel => exact ⟨k + 1, by omega, by go_num, by rw [HF.out, HFW.out]; exact S.out.ext E.out, he.trans E.out, hb.ext E.out⟩
    case measure => simp [intOf]; omega
   ·have HFW := hid hf
    clear hf
    cases ha : aheadB (ones 62 k) (R.few x k)
    all_goals
     have HAH := hid ha
     clear ha
     go_wp2_with (first
      | (go_at_call 23; refine (whole_w hx (HV.out.ext (he.trans E.out))).mono ?_; rintro e w3 ⟨rfl, he3⟩; have E := hid (E.out.trans he3); have k1 := (hb.ext E.out).cell; have k1l := (hb.ext E.out).lt)
      | (go_at_call 22; refine (forward_any hx (HV.out.ext (he.trans E.out)) k (by omega)).mono ?_; rintro e w4 ⟨u4, rfl, he4, -⟩; rw [HFW.out]; have E := hid (E.out.trans he4); have k1 := (hb.ext E.out).cell; have k1l := (hb.ext E.out).lt)
      | (go_at_call 127; refine (members_any k (by omega) _).mono ?_; rintro e w5 ⟨va, rfl, he5, ho5⟩; have HO := hid ho5.slR; clear ho5; have E := hid (E.out.trans he5); have k1 := (hb.ext E.out).cell; have k1l := (hb.ext E.out).lt)
      | (go_at_call 128; refine (ahead_any HO.out (S.out.ext E.out) (Nat.le_trans (ones_length _ _) (by omega)) (by omega)).mono ?_; rintro e w6 ⟨rfl, he6⟩; rw [HAH.out]; have E := hid (E.out.trans he6); have k1 := (hb.ext E.out).cell; have k1l := (hb.ext E.out).lt))
     go_roundw
    case rel => exact ⟨k + 1, by omega, by go_num, by rw [HF.out, HFW.out, HAH.out]; exact S.out.ext E.out, he.trans E.out, hb.ext E.out⟩
    case measure => simp [intOf]; omega
    case rel => exact ⟨k + 1, by omega, by go_num, by rw [HF.out, HFW.out, HAH.out]; exact HO.out, he.trans E.out, hb.ext E.out⟩
    case measure => simp [intOf]; omega
  ·have hno : ¬ ((k : Int) ≤ ((R.whole x : Nat) : Int)) := by omega
   go_wp2_with (go_at_call 23; refine (whole_w hx (HV.out.ext (he.trans E.out))).mono ?_; rintro e w3 ⟨rfl, he3⟩; have E := hid (E.out.trans he3))
   go_ret
   obtain rfl : k = R.whole x + 1 := by omega
   exact ⟨_, rfl, he.trans E.out, S.out.ext E.out⟩
theorem mustR_succ (x : WD) (n : Nat) : R.mustTo x (n+1) = R.mustTo x n ++ if R.fwOk x (R.whole x - 2 ^ n) then [] else [n] := by
 unfold R.mustTo
 rw [List.range_succ, List.filter_append]
 by_cases h : R.fwOk x (R.whole x - 2 ^ n) <;> simp [h]
theorem mustR_length (x : WD) (n : Nat) : (R.mustTo x n).length ≤ n := Nat.le_trans (List.length_filter_le _ _) (by simp)
def pwr (k : Nat) : Int := ((2 ^ k : Nat) : Int)
theorem pwr_step (k : Nat) : pwr (k+1) = 2 * pwr k := by unfold pwr; rw [Nat.pow_succ]; omega
theorem pwr_bd {x : WD} (hx : Ok x) {k : Nat} (h : (k : Int) < x.hands) : 1 ≤ pwr k ∧ pwr k ≤ 64 ∧ ((R.whole x : Nat) : Int) - pwr k = ((R.whole x - 2 ^ k : Nat) : Int) ∧ R.whole x - 2 ^ k < 2 ^ 62 := by
 have hhd := hx.hands
 have h1 : 2 ^ k ≤ 2 ^ 6 := Nat.pow_le_pow_right (by omega) (by omega)
 have h2 : 1 ≤ 2 ^ k := Nat.one_le_two_pow
 have h3 : 2 ^ k < 2 ^ x.hands.toNat := Nat.pow_lt_pow_right (by omega) (by omega)
 have h4 := (whole_bd hx).1
 have h5 : R.whole x = 2 ^ x.hands.toNat - 1 := rfl
 unfold pwr
 refine ⟨by omega, by omega, by omega, ?_⟩
 exact Nat.lt_of_lt_of_le (show R.whole x - 2 ^ k < 64 by omega) (by decide)
theorem mustR_any {x : WD} (hx : Ok x) {w : World} {v : Value} (hv : IsW w v x) :
  Calls Tryz.prog 33 #[v] w fun e w' => ∃ u, e = .returned u ∧ Ext w w' ∧ SlR w' 1 u (rows1 (R.must x)) := by
 have HV := hid hv
 obtain ⟨A1, c1, A2, c2, A3, c3, rfl, r1, r2, r3⟩ := hv
 clear r1 r2 r3
 obtain ⟨hw1, hw2⟩ := whole_bd hx
 have hhd := hx.hands
 go_enter Tryz.func33, Tryz.ntmps33
 go_upto_region 1 with fail
 refine wp_later fun w1 hw1' => ?_
 obtain ⟨E1, b1⟩ := hw1'.newB
 have B1 := hid b1
 clear hw1' b1
 go_wp2_with fail
 go_loopw [3, 4, 5] (fun s3 s4 s5 wr => ∃ k : Nat, (k : Int) ≤ x.hands ∧ s5 = .int .i64 (k : Int) ∧ s4 = .int .i64 (pwr k) ∧ OwnR wr (w.heap.size + 1) 3 1 s3 (rows1 (R.mustTo x k)) ∧ Ext w wr ∧ Blk wr w.heap.size 34 #[.int .i64 x.hours, .int .i64 x.allow, .int .i64 x.hands, .slice A1 x.cn c1, .slice A2 x.bn c2, .slice A3 x.sn c3]) (fun _ _ s5 _ => x.hands.toNat - (intOf s5).toNat)
 case atStart => exact ⟨0, by omega, rfl, rfl, OwnR.nil, E1, B1.out⟩
 case round =>
  clear B1 E1
  obtain ⟨k, hk, rfl, rfl, hown, he, hb⟩ := hrel
  have k1 := hb.cell
  have k1l := hb.lt
  by_cases hlt : (k : Int) < x.hands
  ·have hml := mustR_length x k
   have HS := hid (mustR_succ x k)
   obtain ⟨hp1, hp2, hp3, hp4⟩ := pwr_bd hx hlt
   have HP3 := hid hp3
   have HPS := hid (pwr_step k)
   clear hp3
   have HOWN := hid hown
   clear hown
   have hd1 : 0 ≤ ((R.whole x : Nat) : Int) - pwr k := by rw [HP3.out]; omega
   have hfw2 : ∀ w2 : World, Ext wr w2 → Calls Tryz.prog 22 #[.agg #[.int .i64 x.hours, .int .i64 x.allow, .int .i64 x.hands, .slice A1 x.cn c1, .slice A2 x.bn c2, .slice A3 x.sn c3], .int .i64 (((R.whole x : Nat) : Int) - pwr k)] w2 fun e w' => ∃ u, e = .returned (.tuple #[u, .bool (R.fwOk x (R.whole x - 2 ^ k))]) ∧ Ext w2 w' := fun w2 hw2 => by
    rw [HP3.out]
    exact (forward_any hx (HV.out.ext (he.trans hw2)) (R.whole x - 2 ^ k) hp4).mono fun e w5 ⟨u, h1, h2, _⟩ => ⟨u, h1, h2⟩
   go_upto_region 6 with fail
   cases hf : R.fwOk x (R.whole x - 2 ^ k)
   all_goals
    have HFW := hid hf
    clear hf
    refine wp_region_mono 11 [(2, fun v _ _ _ => v = .int .i64 ((R.whole x : Nat) : Int)), (5, fun v _ _ _ => ∃ u, v = .tuple #[u, .bool (R.fwOk x (R.whole x - 2 ^ k))])] (by kernel_rfl) (by kernel_rfl) (by kernel_rfl) ?hS ?_
    case hS =>
     simp only [List.forall_mem_cons]
     exact ⟨fun _ _ _ _ _ _ h => h, fun _ _ _ _ _ _ h => h, fun _ h => by simp at h⟩
    simp only [List.take_succ_cons, List.drop_succ_cons, List.take_nil, List.drop_nil]
    refine wpM_plain rfl ?_
    go_big_quiet_step (fail)
    refine wpQuiet_nil ?_
    refine wpM_plain rfl ?_
    go_big_quiet_step (fail)
    refine wpQuiet_nil ?_
    refine wpM_spec _ rfl rfl (fun w2 hw2 _ => ?_) (fun va la ha ga1 ga2 _ hva => ?_)
    ·go_wp2_with (go_at_call 23; refine (whole_w hx (HV.out.ext (he.trans hw2))).mono ?_; rintro e w5 ⟨rfl, he5⟩)
     exact ⟨_, _, _, rfl, he5, Nat.le_refl _, he5.size, Nat.le_refl _, rfl⟩
    obtain ⟨_, rfl⟩ := hva
    simp only [Act.put, List.setIfInBounds_toArray, List.set_cons_succ, List.set_cons_zero]
    refine wpM_plain rfl ?_
    go_big_quiet_step (fail)
    refine wpQuiet_nil ?_
    refine wpM_plain rfl ?_
    go_big_quiet_step (fail)
    refine wpQuiet_nil ?_
    refine wpM_spec _ rfl rfl (fun w2 hw2 _ => ?_) (fun va la ha ga1 ga2 _ hva => ?_)
    ·go_wp2_with (go_at_call 22; refine (hfw2 _ hw2).mono ?_; rintro e w5 ⟨u, rfl, he5⟩)
     exact ⟨_, _, _, rfl, he5, Nat.le_refl _, he5.size, Nat.le_refl _, u, rfl⟩
    obtain ⟨_, u, rfl⟩ := hva
    rw [HFW.out]
    simp only [Act.put, List.setIfInBounds_toArray, List.set_cons_succ, List.set_cons_zero]
    refine wpM_plain rfl ?_
    go_big_quiet_step (fail)
    refine wpQuiet_nil ?_
    refine wpM_plain rfl ?_
    go_big_quiet_step (fail)
    refine wpQuiet_nil ?_
    refine wpM_plain rfl ?_
    go_big_quiet_step (fail)
    refine wpQuiet_nil ?_
    refine wpM_plain rfl ?_
    go_big_quiet_step (fail)
    refine wpQuiet_nil ?_
    refine wpM_plain rfl ?_
    go_big_quiet_step (fail)
    refine wpQuiet_nil ?_
    refine wpM_nil fun w6 hw6 _ => ?_
    have k1 := (hb.ext hw6).cell
    have k1l := (hb.ext hw6).lt
   ·go_wp2_with (at_builtin; refine wpList_append_rows rfl _ _ 56 rfl elem56 rfl ((HOWN.out.ext hw6).ext (Ext.alloc (Ext.refl _) _)) _ 1 1 [[(k : Int)]] rfl rfl (by simp) (by intro j; simp [cellsOf]) (by rw [rows1_length]; omega) (by have := hb.lt; have := hw6.size; simp; omega) ?_; intro v' w8 hown2 hg2)
    go_roundw
    case rel => exact ⟨k + 1, by omega, by go_num, by rw [HPS.out], by rw [HS.out, HFW.out, if_neg Bool.false_ne_true, rows1_append]; exact hown2, ((he.trans hw6).alloc _).grown hg2 fun g hg => by have := (HOWN.out.ext hw6).block hg; omega, ((hb.ext hw6).ext (Ext.alloc (Ext.refl _) _)).grown hg2 (fun e => by have := (HOWN.out.ext hw6).block e.symm; omega)⟩
    case measure => simp [intOf]; omega
   ·go_wp2_with fail
    go_roundw
    case rel => exact ⟨k + 1, by omega, by go_num, by rw [HPS.out], by rw [HS.out, HFW.out, if_pos rfl, List.append_nil]; exact HOWN.out.ext hw6, he.trans hw6, hb.ext hw6⟩
    case measure => simp [intOf]; omega
  ·go_wp2_with fail
   go_ret
   have : k = x.hands.toNat := by omega
   subst this
   exact ⟨_, rfl, he, hown.slR⟩
end Go.Proofs.YtkhjmedfhobebaaGreat
namespace Go.Proofs.YtkhjmedfhobebaaGreat
open Go.RowKit HandSpec
set_option maxHeartbeats 1600000
set_option maxRecDepth 100000
/-- A value that is a watch, and its first slice has room for its counts. -/
def IsWC (w : World) (v : Value) (x : WD) : Prop :=
 ∃ A1 c1 A2 c2 A3 c3, v = .agg #[.int .i64 x.hours, .int .i64 x.allow, .int .i64 x.hands, .slice A1 x.cn c1, .slice A2 x.bn c2, .slice A3 x.sn c3] ∧
  Rd w A1 x.cn 3 x.c ∧ Rd w A2 x.bn 2 x.b ∧ Rd w A3 x.sn 3 x.s ∧ x.cn ≤ c1
theorem IsWC.isW {w : World} {v : Value} {x : WD} (h : IsWC w v x) : IsW w v x := by
 obtain ⟨A1, c1, A2, c2, A3, c3, hv, h1, h2, h3, -⟩ := h
 exact ⟨A1, c1, A2, c2, A3, c3, hv, h1, h2, h3⟩
theorem IsWC.ext {w w' : World} {v : Value} {x : WD} (h : IsWC w v x) (e : Ext w w') : IsWC w' v x := by
 obtain ⟨A1, c1, A2, c2, A3, c3, hv, h1, h2, h3, h4⟩ := h
 exact ⟨A1, c1, A2, c2, A3, c3, hv, h1.ext e, h2.ext e, h3.ext e, h4⟩
/-- The cells of the counts, once one has a number of sacks. -/
theorem cur_setc {x : WD} {cur : Array Value} {n : Nat} (h : ∀ i j, i < n → j < 3 → cur[i * 3 + j]? = some (.int .i64 (x.c i j))) {k : Nat} (hk : k < n) (s : Int) :
  ∀ i j, i < n → j < 3 → ((cur.setIfInBounds (k * 3 + 1) (.int .i64 s)).setIfInBounds (k * 3 + 2) (.int .i64 s))[i * 3 + j]? = some (.int .i64 ((setc x k s).c i j)) := by
 intro i j hi hj
 have hs : k * 3 + 2 < cur.size := by
  rcases Nat.lt_or_ge (k * 3 + 2) cur.size with q | q
  ·exact q
  ·have := h k 2 hk (by omega)
   rw [Array.getElem?_eq_none q] at this; cases this
 have h0 := h i j hi hj
 rw [Array.getElem?_setIfInBounds]
 by_cases e2 : k * 3 + 2 = i * 3 + j
 ·obtain ⟨rfl, rfl⟩ : k = i ∧ j = 2 := by omega
  rw [if_pos rfl, if_pos (by simpa using hs), setc_at x k s (by omega)]
 ·rw [if_neg e2, Array.getElem?_setIfInBounds]
  by_cases e1 : k * 3 + 1 = i * 3 + j
  ·obtain ⟨rfl, rfl⟩ : k = i ∧ j = 1 := by omega
   rw [if_pos rfl, if_pos (by omega), setc_at x k s (by omega)]
  ·rw [if_neg e1, h0]
   by_cases e : i = k
   ·subst e
    obtain rfl : j = 0 := by omega
    rw [setc_hour]
   ·rw [setc_ne x s j e]
/-- The worlds behind the stores of a new watch. -/
theorem own_chain {w W W' : World} {G H : Nat} {t u : TypeId} {cur : Array Value} {z0 z1 z2 z3 z4 z5 : Value} (e : Ext w W) (hH : w.heap.size ≤ H) (hne : G ≠ H) (bG : Blk W G t cur) (bH : Blk W H u #[z0, z1, z2, z3, z4, z5])
  {a b c d f g : Value} (hw : Ext ((((((W.setCell ⟨H, 0, none⟩ a).setCell ⟨H, 1, none⟩ b).setCell ⟨H, 2, none⟩ c).setCell ⟨H, 3, none⟩ d).setCell ⟨H, 4, none⟩ f).setCell ⟨H, 5, none⟩ g) W') :
  Ext w W' ∧ Blk W' G t cur ∧ Blk W' H u #[a, b, c, d, f, g] :=
 ⟨((((((e.setCell a (p := ⟨H, 0, none⟩) hH).setCell b (p := ⟨H, 1, none⟩) hH).setCell c (p := ⟨H, 2, none⟩) hH).setCell d (p := ⟨H, 3, none⟩) hH).setCell f (p := ⟨H, 4, none⟩) hH).setCell g (p := ⟨H, 5, none⟩) hH).trans hw,
  ((((((bG.far (p := ⟨H, 0, none⟩) hne a).far (p := ⟨H, 1, none⟩) hne b).far (p := ⟨H, 2, none⟩) hne c).far (p := ⟨H, 3, none⟩) hne d).far (p := ⟨H, 4, none⟩) hne f).far (p := ⟨H, 5, none⟩) hne g).ext hw,
  ((((((bH.set_ 0 a).set_ 1 b).set_ 2 c).set_ 3 d).set_ 4 f).set_ 5 g).ext hw⟩
theorem two_chain {w W W' : World} {G H p q : Nat} {t u : TypeId} {cur C : Array Value} (e : Ext w W) (hG : w.heap.size ≤ G) (hne : G ≠ H) (bG : Blk W G t cur) (bH : Blk W H u C) {v v' : Value}
  (hw : Ext ((W.setCell ⟨G, p, none⟩ v).setCell ⟨G, q, none⟩ v') W') : Ext w W' ∧ Blk W' G t ((cur.setIfInBounds p v).setIfInBounds q v') ∧ Blk W' H u C :=
 ⟨((e.setCell v (p := ⟨G, p, none⟩) hG).setCell v' (p := ⟨G, q, none⟩) hG).trans hw, ((bG.set_ p v).set_ q v').ext hw, ((bH.far (p := ⟨G, p, none⟩) hne.symm v).far (p := ⟨G, q, none⟩) hne.symm v').ext hw⟩
def Emp : MSpec := fun v lo hi _w => v = .slice (some ⟨lo, 0, none⟩) 0 0 ∧ hi = lo + 1
def NewM (n : Nat) (g : Nat → Nat → Int) : MSpec := fun v lo hi w => NewS 82 3 n g v lo w ∧ hi = lo + 1
theorem el82' : ElemOk Tryz.prog 30 82 3 24 := el82
def fwB (b : Bool) : MSpec := fun v _ _ _ => ∃ u, v = .tuple #[u, .bool b]
theorem behind_any {x : WD} (hx : Ok x) {w : World} {v : Value} (hv : IsWC w v x) {k : Nat} (hk : k < x.cn) {s : Int} (hs : 0 ≤ s ∧ s ≤ 500) :
  Calls Tryz.prog 129 #[v, .int .i64 (k : Int), .int .i64 s] w fun e w' => e = .returned (.bool (R.behind x k s)) ∧ Ext w w' := by
 have HV := hid hv.isW
 obtain ⟨A1, c1, A2, c2, A3, c3, rfl, r1, r2, r3, hcap⟩ := hv
 have hcn := hx.cn
 have hwb := whole_bd hx
 have hck : ¬ c1 = k := by omega
 have hki : (k : Int) ≤ (x.cn : Int) := by omega
 have R1 := hid (r1.suf hk)
 have R2 := hid r2
 have R3 := hid r3
 have HX := hid (setc_ok (suf_ok hx hk) 0 hs)
 clear r1 r2 r3
 go_enter Tryz.func129, Tryz.ntmps129
 go_upto_region 1 with fail
 refine wp_later fun w1 hw1 => ?_
 obtain ⟨E1, b1⟩ := hw1.newB
 have k1 := b1.cell
 have k1l := b1.lt
 clear hw1
 refine wp_region_mono 18 [(6, Emp), (11, NewM (x.cn - k) (suf x k).c), (17, PtI 34 z26)] (by kernel_rfl) (by kernel_rfl) (by kernel_rfl) ?hS ?_
 case hS =>
  simp only [List.forall_mem_cons]
  exact ⟨fun _ _ _ _ _ _ h => h, fun _ _ _ _ _ e h => ⟨h.1.ext e, h.2⟩, fun _ _ _ _ _ e h => PtI.ext h e, fun _ h => by simp at h⟩
 simp only [List.take_succ_cons, List.take_zero, List.drop_succ_cons, List.drop_zero]
 iterate 6
  refine wpM_plain rfl ?_
  go_big_quiet_step (fail)
  refine wpQuiet_nil ?_
 refine wpM_spec _ rfl rfl (fun w2 hw2 _ => ?_) (fun va la ha ga1 ga2 _ hva => ?_)
 ·go_wp2
  exact ⟨_, w2.heap.size, w2.heap.size + 1, rfl, (Ext.refl _).alloc _, Nat.le_refl _, Nat.le_succ _, by simp, rfl, rfl⟩
 simp only [Act.put, List.setIfInBounds_toArray, List.set_cons_succ, List.set_cons_zero]
 obtain ⟨_, rfl, rfl⟩ := hva
 iterate 4
  refine wpM_plain rfl ?_
  go_big_quiet_step (fail)
  refine wpQuiet_nil ?_
 refine wpM_spec _ rfl rfl (fun w2 hw2 _ => ?_) (fun vb lb hb gb1 gb2 db hvb => ?_)
 ·go_wp2_with (at_builtin; refine wpList_append_copy rfl _ _ 30 rfl el82 _ rfl rfl (R1.out.ext (E1.trans hw2)) (by omega) (by omega) ?_; intro v' C hn)
  exact ⟨_, w2.heap.size, w2.heap.size + 1, rfl, (Ext.refl _).drew.alloc _, Nat.le_refl _, Nat.le_succ _, by simp, hn, rfl⟩
 simp only [Act.put, List.setIfInBounds_toArray, List.set_cons_succ, List.set_cons_zero]
 obtain ⟨_, ⟨q, cur0, rfl, -⟩, rfl⟩ := hvb
 iterate 5
  refine wpM_plain rfl ?_
  go_big_quiet_step (fail)
  refine wpQuiet_nil ?_
 refine wpM_spec _ rfl rfl (fun w2 hw2 _ => ?_) (fun vg lg hg gg1 gg2 dg hvg => ?_)
 ·go_wp2
  exact ⟨_, w2.heap.size, w2.heap.size + 1, rfl, (Ext.refl _).alloc _, Nat.le_refl _, Nat.le_succ _, by simp, rfl, rfl, Blk.new _ _ _⟩
 simp only [Act.put, List.setIfInBounds_toArray, List.set_cons_succ, List.set_cons_zero]
 obtain ⟨_, rfl, rfl, -⟩ := hvg
 simp only [List.forall_mem_cons] at dg
 refine wpM_nil fun w4 hw4 hF => ?_
 simp only [List.forall_mem_cons] at hF
 obtain ⟨⟨-, -, -, bH⟩, ⟨hsz, ⟨⟨q2, cur, hq2, hnq, bG, hcur⟩, -⟩⟩, -⟩ := hF
 obtain rfl : q = q2 := by simpa using hq2
 have hne : lb ≠ lg := by omega
 have hGl := bG.lt
 have hHl := bH.lt
 have kG := bG.cell
 have kH := bH.cell
 have qG := bG.frozen
 have qH := bH.frozen
 have BH := hid bH
 have BG := hid bG
 have CUR := hid hcur
 clear bG bH hcur
 unfold z26 at kH
 go_upto_region 2 with fail
 refine wp_later fun w5 hw5 => ?_
 obtain ⟨e5, g5, h5⟩ := own_chain (w := w1) hw4 (by omega) hne BG.out BH.out hw5
 have kG := g5.cell
 have kH := h5.cell
 have kGl := g5.lt
 have kHl := h5.lt
 have qG := g5.frozen
 have hc1 : ∃ v1, cur[1]? = some v1 := ⟨_, CUR.out 0 1 (by omega) (by omega)⟩
 have hc2 : ∃ v2, cur[2]? = some v2 := ⟨_, CUR.out 0 2 (by omega) (by omega)⟩
 obtain ⟨v1, hc1⟩ := hc1
 obtain ⟨v2, hc2⟩ := hc2
 have kG1 : w5.cell? ⟨lb, 1, none⟩ = some v1 := by rw [kG, hc1]
 have kG2 : w5.cell? ⟨lb, 2, none⟩ = some v2 := by rw [kG, hc2]
 clear kG hw5 qH hGl hHl
 go_upto_region 3 with fail
 refine wp_later fun w6 hw6 => ?_
 obtain ⟨e6, g6, h6⟩ := two_chain (w := w1) e5 (by omega) hne g5 h5 hw6
 have hcur2 := cur_setc (x := suf x k) (n := x.cn - k) CUR.out (k := 0) (by omega) s
 have OWN : Hid (IsW w6 (.agg #[.int .i64 x.hours, .int .i64 x.allow, .int .i64 x.hands, .slice (some ⟨lb, 0, none⟩) (x.cn - k) q, .slice A2 x.bn c2, .slice A3 x.sn c3]) (setc (suf x k) 0 s)) :=
  hid ⟨_, _, _, _, _, _, rfl, blk_rd g6 hcur2, R2.out.ext (E1.trans e6), R3.out.ext (E1.trans e6)⟩
 have E6 := hid (E1.trans e6)
 have k1 := (b1.ext e6).cell
 have k1l := (b1.ext e6).lt
 have kH := h6.cell
 have kHl := h6.lt
 clear kG1 kG2 hc1 hc2 kGl qG hw6 g6 h6 e6 e5 g5 h5 hcur2 CUR BG BH E1 b1
 refine wp_region_mono 9 [(2, fun v _ _ _ => v = .int .i64 ((R.whole x : Nat) : Int)), (3, fwB (R.behind x k s))] (by kernel_rfl) (by kernel_rfl) (by kernel_rfl) ?hS ?_
 case hS =>
  simp only [List.forall_mem_cons]
  exact ⟨fun _ _ _ _ _ _ h => h, fun _ _ _ _ _ _ h => h, fun _ h => by simp at h⟩
 simp only [List.take_succ_cons, List.drop_succ_cons, List.take_nil, List.drop_nil]
 iterate 2
  refine wpM_plain rfl ?_
  go_big_quiet_step (fail)
  refine wpQuiet_nil ?_
 refine wpM_spec _ rfl rfl (fun w2 hw2 _ => ?_) (fun va la ha ga1 ga2 _ hva => ?_)
 ·go_wp2_with (go_at_call 23; refine (whole_w hx (HV.out.ext (E6.out.trans hw2))).mono ?_; rintro e w5 ⟨rfl, he5⟩)
  exact ⟨_, _, _, rfl, he5, Nat.le_refl _, he5.size, Nat.le_refl _, rfl⟩
 obtain ⟨_, rfl⟩ := hva
 simp only [Act.put, List.setIfInBounds_toArray, List.set_cons_succ, List.set_cons_zero]
 refine wpM_spec _ rfl rfl (fun w2 hw2 _ => ?_) (fun va la ha ga1 ga2 _ hva => ?_)
 ·go_wp2_with (go_at_call 22; refine (forward_any HX.out (OWN.out.ext hw2) (R.whole x) (Nat.lt_of_lt_of_le hwb.1 (by decide))).mono ?_; rintro e w5 ⟨u, rfl, he5, -⟩)
  exact ⟨_, _, _, rfl, he5, Nat.le_refl _, he5.size, Nat.le_refl _, u, rfl⟩
 obtain ⟨_, u, rfl⟩ := hva
 simp only [Act.put, List.setIfInBounds_toArray, List.set_cons_succ, List.set_cons_zero]
 iterate 5
  refine wpM_plain rfl ?_
  go_big_quiet_step (fail)
  refine wpQuiet_nil ?_
 refine wpM_nil fun w7 hw7 _ => ?_
 go_wp2_with fail
 go_ret
 exact ⟨rfl, E6.out.trans hw7⟩
end Go.Proofs.YtkhjmedfhobebaaGreat
namespace Go.Proofs.YtkhjmedfhobebaaGreat
open Go.RowKit HandSpec
set_option maxHeartbeats 1600000
set_option maxRecDepth 100000
/-- A block of bools. -/
def BA (w : World) (g n : Nat) (f : Nat → Bool) : Prop := ∃ cur, Blk w g 4 cur ∧ ∀ i, i < n → cur[i]? = some (.bool (f i))
namespace BA
variable {w w' : World} {g n : Nat} {f : Nat → Bool}
theorem ext (a : BA w g n f) (e : Ext w w') : BA w' g n f := by obtain ⟨C, h1, h2⟩ := a; exact ⟨C, h1.ext e, h2⟩
theorem lt (a : BA w g n f) : g < w.heap.size := by obtain ⟨C, h1, _⟩ := a; exact h1.lt
theorem cell (a : BA w g n f) {i : Nat} (hi : i < n) : w.cell? ⟨g, i, none⟩ = some (.bool (f i)) := by obtain ⟨C, h1, h2⟩ := a; rw [h1.cell]; exact h2 i hi
theorem frozen (a : BA w g n f) (i : Nat) : w.frozen? ⟨g, i, none⟩ = false := by obtain ⟨C, h1, _⟩ := a; exact h1.frozen i
theorem congr {f' : Nat → Bool} (a : BA w g n f) (e : ∀ i, i < n → f i = f' i) : BA w g n f' := by obtain ⟨C, h1, h2⟩ := a; exact ⟨C, h1, fun i hi => by rw [← e i hi]; exact h2 i hi⟩
theorem grown (a : BA w g n f) {row : Option Nat} (hg : w.grownBy w' row) (hr : some g ≠ row) : BA w' g n f := by obtain ⟨C, h1, h2⟩ := a; exact ⟨C, h1.grown hg hr, h2⟩
theorem set_ (a : BA w g n f) {k : Nat} (hk : k < n) (b : Bool) : BA (w.setCell ⟨g, k, none⟩ (.bool b)) g n (fun i => if i = k then b else f i) := by
 obtain ⟨C, h1, h2⟩ := a
 refine ⟨_, h1.set_ k _, fun i hi => ?_⟩
 have hs : k < C.size := by
  rcases Nat.lt_or_ge k C.size with q | q
  ·exact q
  ·have := h2 k hk
   rw [Array.getElem?_eq_none q] at this; cases this
 rw [Array.getElem?_setIfInBounds]
 by_cases e : k = i
 ·subst e; rw [if_pos rfl, if_pos hs]; simp
 ·rw [if_neg e, h2 i hi]; simp [Ne.symm e]
end BA
/-- A slice of bools, made at once. -/
theorem wpList_make165 {w : World} {ops : Array Oper} {rest : List Oper} {o : Oper} {a : Act} {Q : Exit → Act → World → Prop} (hg : o.guard = none) (l c : Operand) (ho : o.op = Op.makeSlice 165 l c) (n : Nat) (L C : Int) (hl : a.eval l = .int .i64 L) (hc : a.eval c = .int .i64 C) (hL : L = (n : Int)) (hC : C = (n : Int)) (hn : n ≤ 100000)
  (h : ∀ w', Ext w w' → BA w' w.heap.size n (fun _ => false) → wpList Tryz.prog ops Q rest (a.put o.dst (.slice (some ⟨w.heap.size, 0, none⟩) n n)) w') : wpList Tryz.prog ops Q (o :: rest) a w := by
 obtain ⟨i, hi, hz, h1, h2⟩ := info_parts (show (Tryz.prog.info? 4).map (fun i => (i.zero, i.size, i.bytes)) = some (some (.bool false), 1, 1) by kernel_rfl)
 refine wpList_make_full w hg l c 165 ho w.heap.size 4 i (.bool false) 1 Tryz.underlying165 hi hz h1 .i64 .i64 L C n hl hc hL hC (by rw [h2]; omega) (by unfold maxLen; omega) (Nat.le_refl _) fun w' hown hg' => ?_
 refine h w' ((Ext.refl _).grown hg' (fun k hk => by cases hk)) ?_
 rcases hown.2 with ⟨h3, _⟩ | ⟨g, cap, cur, h3, _, hb, _, _, _, ht⟩
 ·cases h3
 ·simp only [Value.slice.injEq, Option.some.injEq, Addr.mk.injEq, and_true] at h3
  obtain ⟨rfl, -⟩ := h3
  refine ⟨cur, hb, fun j hj => ?_⟩
  have h4 := congrArg (fun l => l[j]?) ht
  simp only [Nat.mul_one] at h4
  rw [List.getElem?_take_of_lt hj] at h4
  rw [← Array.getElem?_toList, h4]
  simp [madeCells, hj, Value.cells, Nat.mod_one]
/-- The worlds of the walk. -/
structure FR (x : WD) (w W : World) (A1 : Option Addr) (c1 : Nat) (A2 : Option Addr) (c2 : Nat) (A3 : Option Addr) (c3 : Nat) (gb B : Nat) (u : Value) (f : Nat → Bool) : Prop where
 e : Ext w W
 b : Blk W w.heap.size 34 #[.int .i64 x.hours, .int .i64 x.allow, .int .i64 x.hands, .slice A1 x.cn c1, .slice A2 x.bn c2, .slice A3 x.sn c3]
 g : w.heap.size < gb ∧ gb < B ∧ B ≤ W.heap.size
 r : OwnR W B 67 2 u (R.rowsF x (R.whole x) (x.cn - 1))
 a : BA W gb x.hands.toNat f
namespace FR
variable {x : WD} {w W W' : World} {A1 : Option Addr} {c1 : Nat} {A2 : Option Addr} {c2 : Nat} {A3 : Option Addr} {c3 : Nat} {gb B : Nat} {u : Value} {f : Nat → Bool}
theorem ext (h : FR x w W A1 c1 A2 c2 A3 c3 gb B u f) (e : Ext W W') : FR x w W' A1 c1 A2 c2 A3 c3 gb B u f := ⟨h.e.trans e, h.b.ext e, ⟨h.g.1, h.g.2.1, Nat.le_trans h.g.2.2 e.size⟩, h.r.ext e, h.a.ext e⟩
theorem congr {f' : Nat → Bool} (h : FR x w W A1 c1 A2 c2 A3 c3 gb B u f) (e : ∀ i, i < x.hands.toNat → f i = f' i) : FR x w W A1 c1 A2 c2 A3 c3 gb B u f' := ⟨h.e, h.b, h.g, h.r, h.a.congr e⟩
theorem set_ (h : FR x w W A1 c1 A2 c2 A3 c3 gb B u f) {k : Nat} (hk : k < x.hands.toNat) (b : Bool) : FR x w (W.setCell ⟨gb, k, none⟩ (.bool b)) A1 c1 A2 c2 A3 c3 gb B u (fun i => if i = k then b else f i) :=
 ⟨h.e.setCell _ (p := ⟨gb, k, none⟩) (Nat.le_of_lt h.g.1), h.b.far (p := ⟨gb, k, none⟩) (Nat.ne_of_lt h.g.1) _, ⟨h.g.1, h.g.2.1, by have := h.g.2.2; simpa using this⟩, OwnR.far h.r (p := ⟨gb, k, none⟩) h.g.2.1 _, h.a.set_ hk b⟩
end FR
theorem canTo_no {x : WD} {i t : Nat} (h : R.canQ x i = false) : R.canTo x i t = R.canTo x (i+1) t := by
 show _ = (R.canTo x i t || (R.canQ x i && R.is x i (i+1) (t : Int)))
 rw [h]; simp
/-- Which hands are found, while an interval is gone through. -/
def cAt (x : WD) (i h : Nat) (t : Nat) : Bool := R.canTo x i t || (decide (t < h) && R.is x i (i+1) (t : Int))
theorem cAt_zero (x : WD) (i t : Nat) : R.canTo x i t = cAt x i 0 t := by simp [cAt]
theorem cAt_end {x : WD} {i n t : Nat} (h : R.canQ x i = true) (ht : t < n) : cAt x i n t = R.canTo x (i+1) t := by
 show _ = (R.canTo x i t || (R.canQ x i && R.is x i (i+1) (t : Int)))
 unfold cAt
 rw [h, decide_eq_true ht]
theorem cAt_self (x : WD) (i h : Nat) : cAt x i h h = R.canTo x i h := by simp [cAt]
theorem cAt_set {x : WD} {i h : Nat} {b : Bool} (hb : b = (R.canTo x i h || R.is x i (i+1) (h : Int))) (t : Nat) : (if t = h then b else cAt x i h t) = cAt x i (h+1) t := by
 unfold cAt
 by_cases e : t = h
 ·subst e
  rw [if_pos rfl, hb, decide_eq_true (Nat.lt_succ_self t)]; simp
 ·rw [if_neg e]
  have : decide (t < h) = decide (t < h + 1) := by simp; omega
  rw [this]
theorem canR_any {x : WD} (hx : Ok x) (hw : R.fwOk x (R.whole x) = true) {w : World} {v : Value} (hv : IsWC w v x) :
  Calls Tryz.prog 34 #[v] w fun e w' => ∃ u, e = .returned u ∧ Ext w w' ∧ SlR w' 1 u (rows1 (R.can' x)) := by
 have HC := hid hv
 have HV := hid hv.isW
 obtain ⟨A1, c1, A2, c2, A3, c3, rfl, r1, r2, r3, hcap⟩ := hv
 have hcn := hx.cn
 have hhd := hx.hands
 have hwb := whole_bd hx
 have R1 := hid r1
 have HW := hid hw
 have hwm := hid (show R.whole x < 2 ^ 62 from Nat.lt_of_lt_of_le hwb.1 (by decide))
 clear r1 r2 r3 hw
 go_enter Tryz.func34, Tryz.ntmps34
 go_upto_region 1 with fail
 refine wp_later fun w1 hw1 => ?_
 obtain ⟨E1, b1⟩ := hw1.newB
 have k1 := b1.cell
 have k1l := b1.lt
 clear hw1
 go_upto_region 2 with (at_make; refine wpList_make165 rfl _ _ rfl x.hands.toNat _ _ rfl rfl (by omega) (by omega) (by omega) ?_; intro w2 he2 ha2)
 have B1 := hid (b1.ext he2)
 have k1 := (b1.ext he2).cell
 have k1l := (b1.ext he2).lt
 have HA := hid ha2
 have E2 := hid (E1.trans he2)
 have hb2 : w.heap.size < w1.heap.size := b1.lt
 have hb3 : w1.heap.size < w2.heap.size := ha2.lt
 clear ha2 b1 E1 he2
 refine wp_region_mono 9 [(2, fun v _ _ _ => v = .int .i64 ((R.whole x : Nat) : Int)), (3, fun v lo _ w => ∃ u, v = .tuple #[u, .bool true] ∧ OwnR w lo 67 2 u (R.rowsF x (R.whole x) (x.cn - 1)))] (by kernel_rfl) (by kernel_rfl) (by kernel_rfl) ?hS ?_
 case hS =>
  simp only [List.forall_mem_cons]
  exact ⟨fun _ _ _ _ _ _ h => h, fun _ _ _ _ _ e h => by obtain ⟨u, h1, h2⟩ := h; exact ⟨u, h1, h2.ext e⟩, fun _ h => by simp at h⟩
 simp only [List.take_succ_cons, List.drop_succ_cons, List.take_nil, List.drop_nil]
 iterate 2
  refine wpM_plain rfl ?_
  go_big_quiet_step (fail)
  refine wpQuiet_nil ?_
 refine wpM_spec _ rfl rfl (fun w3 hw3 _ => ?_) (fun va la ha ga1 ga2 _ hva => ?_)
 ·go_wp2_with (go_at_call 23; refine (whole_any hx (HV.out.ext (E2.out.trans hw3))).mono ?_; rintro e w5 ⟨rfl, he5⟩)
  exact ⟨_, _, _, rfl, he5, Nat.le_refl _, he5.size, Nat.le_refl _, rfl⟩
 obtain ⟨_, rfl⟩ := hva
 simp only [Act.put, List.setIfInBounds_toArray, List.set_cons_succ, List.set_cons_zero]
 refine wpM_spec _ rfl rfl (fun w3 hw3 _ => ?_) (fun vb lb hb gb1 gb2 _ hvb => ?_)
 ·go_wp2_with (go_at_call 22; refine (forward_any hx (HV.out.ext (E2.out.trans hw3)) (R.whole x) hwm.out).mono ?_; rintro e w5 ⟨u, rfl, he5, ho5⟩; rw [HW.out])
  exact ⟨_, _, _, rfl, he5, Nat.le_refl _, he5.size, Nat.le_refl _, u, rfl, ho5 HW.out⟩
 obtain ⟨_, u, rfl, -⟩ := hvb
 simp only [Act.put, List.setIfInBounds_toArray, List.set_cons_succ, List.set_cons_zero]
 iterate 5
  refine wpM_plain rfl ?_
  go_big_quiet_step (fail)
  refine wpQuiet_nil ?_
 refine wpM_nil fun w4 hw4 hF => ?_
 simp only [List.forall_mem_cons] at hF
 obtain ⟨⟨hz4, u', hu', ho⟩, -⟩ := hF
 obtain rfl : u = u' := by simpa using hu'
 have hlb : w2.heap.size ≤ lb := gb1
 have FR0 : Hid (FR x w w4 A1 c1 A2 c2 A3 c3 w1.heap.size w2.heap.size u (R.canTo x 0)) := hid ⟨E2.out.trans hw4, B1.out.ext hw4, ⟨hb2, hb3, hw4.size⟩, ho.base hlb, (HA.out.ext hw4).congr fun _ _ => rfl⟩
 obtain ⟨FA, fq, rfl, -⟩ := ho.slR
 rw [R.rowsF_length] at FR0 ⊢
 have hfn : x.cn - 1 + 1 = x.cn := by omega
 rw [hfn] at FR0 ⊢
 clear hu' ho hz4 B1 HA k1 k1l hfn
 go_wp2_with fail
 go_loopw [6] (fun s6 wr => ∃ i : Nat, i + 1 ≤ x.cn ∧ s6 = .int .i64 (i : Int) ∧ Hid (FR x w wr A1 c1 A2 c2 A3 c3 w1.heap.size w2.heap.size (.slice FA x.cn fq) (R.canTo x i))) (fun s6 _ => x.cn - (intOf s6).toNat)
 case atStart => exact ⟨0, by omega, rfl, FR0⟩
 case round =>
  clear FR0
  obtain ⟨i, hi, rfl, HI⟩ := hrel
  have k1 := HI.out.b.cell
  have k1l := HI.out.b.lt
  by_cases hlt : i + 1 < x.cn
  ·obtain ⟨cb, co, rfl, hcb, a0, a1, a2⟩ := (R1.out.ext HI.out.e).at3 hlt
   have g1 := hx.lo (i+1) hlt
   have g2 := hx.hi (i+1) hlt
   obtain ⟨g3, g4⟩ := R.low_bd hx HW.out hlt
   have hki : (i : Int) + 1 < (x.cn : Int) := by omega
   have HCA := hid (show (i : Int) + 1 = ((i + 1 : Nat) : Int) by omega)
   go_upto_region 7 with fail
   go_loopw [7] (fun s7 wq => ∃ z : Int, x.c (i+1) 1 ≤ z ∧ z ≤ R.low x (i+1) ∧ s7 = .int .i64 z ∧ Hid (FR x w wq (some ⟨cb, co, none⟩) c1 A2 c2 A3 c3 w1.heap.size w2.heap.size (.slice FA x.cn fq) (R.canTo x i))) (fun s7 _ => (R.low x (i+1) - intOf s7).toNat)
   case atStart => exact ⟨_, Int.le_refl _, g3, rfl, HI⟩
   case round =>
    clear HI k1 k1l a0 a1 a2 hcb
    obtain ⟨z, hz1, hz2, rfl, HJ⟩ := hrel
    have k1 := HJ.out.b.cell
    have k1l := HJ.out.b.lt
    have hbh : ∀ w9 : World, Ext wr w9 → Calls Tryz.prog 129 #[.agg #[.int .i64 x.hours, .int .i64 x.allow, .int .i64 x.hands, .slice (some ⟨cb, co, none⟩) x.cn c1, .slice A2 x.bn c2, .slice A3 x.sn c3], .int .i64 ((i : Int) + 1), .int .i64 z] w9 fun e w' => e = .returned (.bool (decide (z = R.low x (i+1)))) ∧ Ext w9 w' := fun w9 hw9 => by
     have h := behind_any hx (HC.out.ext (HJ.out.e.trans hw9)) hlt (s := z) ⟨by omega, by omega⟩
     rw [R.behind_eq hx HW.out hlt hz1 hz2] at h
     exact h
    by_cases hzl : z = R.low x (i+1)
    ·subst hzl
     have g5 := R.booked_bound hx i (i+1)
     have g6 := L.fw_ok hx HW.out (show i < x.cn by omega)
     have g7 := hx.hi i (by omega)
     have g8 := hx.lo i (by omega)
     go_upto_region 9 with (go_at_call 129; refine (hbh _ (Ext.refl _)).mono ?_; rintro e w5 ⟨rfl, he5⟩; rw [decide_eq_true rfl])
     have HJ := hid (HJ.out.ext he5)
     obtain ⟨FA', fq', hfe, hfr⟩ := HJ.out.r.slR
     rw [R.rowsF_length, show x.cn - 1 + 1 = x.cn by omega] at hfe hfr
     obtain ⟨rfl, rfl⟩ : FA = FA' ∧ fq = fq' := by simpa using hfe
     obtain ⟨fb, fo, rfl, hfb, f0, f1⟩ := hfr.at2 (k := i) (by omega)
     unfold rowsAt at f0 f1
     rw [R.rowsF_at x _ _ i (by omega)] at f0 f1
     have f1' : w5.cell? ⟨fb, fo + i * 2 + 1, none⟩ = some (.int .i64 (R.fw x (R.whole x) i).2) := f1
     have k1 := HJ.out.b.cell
     have k1l := HJ.out.b.lt
     have hki2 : (i : Int) < (x.cn : Int) := by omega
     clear f0 f1 hfe hfr hbh
     by_cases hq : 1 ≤ (R.fw x (R.whole x) i).2 + R.booked x i (i+1) - R.low x (i+1)
     ·have HQ := hid (show R.canQ x i = true from decide_eq_true hq)
      have hq' : ¬ (R.fw x (R.whole x) i).2 + R.booked x i (i+1) - R.low x (i+1) < 1 := by omega
      refine wp_region_later (by kernel_rfl) (by kernel_rfl) ?_
      repeat (go_big_quiet_step ((go_at_call 56; exact Calls.later (booked_any hx ((HV.out.ext HJ.out.e).ext (Later.ext _)) i (i+1) (by omega) hlt))))
      refine wpQuiet_nil ?_
      rintro _ ⟨⟨w7, he7⟩, rfl⟩
      have HJ := hid (HJ.out.ext he7)
      clear k1 k1l f1'
      go_wp2_with fail
      go_loopw [8] (fun s8 wq => ∃ h : Nat, (h : Int) ≤ x.hands ∧ s8 = .int .i64 (h : Int) ∧ Hid (FR x w wq (some ⟨cb, co, none⟩) c1 A2 c2 A3 c3 w1.heap.size w2.heap.size (.slice (some ⟨fb, fo, none⟩) x.cn fq) (cAt x i h))) (fun s8 _ => x.hands.toNat - (intOf s8).toNat)
      case atStart => exact ⟨0, by omega, rfl, hid (HJ.out.congr fun t _ => cAt_zero x i t)⟩
      case round =>
       clear HJ
       obtain ⟨h, hh, rfl, HK⟩ := hrel
       have k1 := HK.out.b.cell
       have k1l := HK.out.b.lt
       by_cases hlh : (h : Int) < x.hands
       ·have hhn : h < x.hands.toNat := by omega
        have hhi : (h : Int) < (x.hands.toNat : Int) := by omega
        have c0 := HK.out.a.cell hhn
        rw [cAt_self] at c0
        have cf := HK.out.a.frozen h
        have cl := HK.out.a.lt
        cases hc : R.canTo x i h
        ·rw [hc] at c0
         have HCT := hid hc
         clear hc
         go_wp2_with (go_at_call 126; refine (is_any hx (HV.out.ext HK.out.e) i (i+1) (by omega) hlt (h : Int)).mono ?_; rintro e w8 ⟨rfl, he8⟩; have c0 := ((HK.out.ext he8).a.cell hhn); rw [cAt_self, HCT.out] at c0; have cf := (HK.out.ext he8).a.frozen h; have cl := (HK.out.ext he8).a.lt)
         go_roundw
         case rel => exact ⟨h + 1, by omega, by go_num, hid (((HK.out.ext he8).set_ hhn _).congr fun t _ => cAt_set (by rw [HCT.out]; rfl) t)⟩
         case measure => simp [intOf]; omega
        ·rw [hc] at c0
         have HCT := hid hc
         clear hc
         go_wp2_with fail
         go_roundw
         case rel => exact ⟨h + 1, by omega, by go_num, hid ((HK.out.set_ hhn _).congr fun t _ => cAt_set (by rw [HCT.out]; rfl) t)⟩
         case measure => simp [intOf]; omega
       ·go_wp2_with fail
        go_roundw
        case rel => exact ⟨i + 1, by omega, by go_num, hid (HK.out.congr fun t ht => by
         obtain rfl : h = x.hands.toNat := by omega
         exact cAt_end HQ.out ht)⟩
        case measure => simp [intOf]; omega
     ·have HQ := hid (show R.canQ x i = false from decide_eq_false hq)
      have hq' : (R.fw x (R.whole x) i).2 + R.booked x i (i+1) - R.low x (i+1) < 1 := by omega
      refine wp_region_later (by kernel_rfl) (by kernel_rfl) ?_
      repeat (go_big_quiet_step ((go_at_call 56; exact Calls.later (booked_any hx ((HV.out.ext HJ.out.e).ext (Later.ext _)) i (i+1) (by omega) hlt))))
      refine wpQuiet_nil ?_
      rintro _ ⟨⟨w7, he7⟩, rfl⟩
      go_wp2_with fail
      go_roundw
      case rel => exact ⟨i + 1, by omega, by go_num, hid ((HJ.out.ext he7).congr fun t _ => canTo_no HQ.out)⟩
      case measure => simp [intOf]; omega
    ·have hd : decide (z = R.low x (i+1)) = false := decide_eq_false hzl
     go_wp2_with (go_at_call 129; refine (hbh _ (Ext.refl _)).mono ?_; rintro e w5 ⟨rfl, he5⟩; rw [hd])
     go_roundw
     case rel => exact ⟨z + 1, by omega, by omega, rfl, hid (HJ.out.ext he5)⟩
     case measure => simp [intOf]; omega
  ·obtain rfl : i = x.cn - 1 := by omega
   have hki : ¬ ((x.cn - 1 : Nat) : Int) + 1 < (x.cn : Int) := by omega
   obtain ⟨wo, rfl⟩ : ∃ wo : World, wo = wr := ⟨_, rfl⟩
   have hwo1 : w.heap.size < wo.heap.size := k1l
   have hwo2 : w1.heap.size < wo.heap.size := HI.out.a.lt
   go_wp2_with fail
   go_loopw [9, 10] (fun s9 s10 wq => ∃ h : Nat, (h : Int) ≤ x.hands ∧ s10 = .int .i64 (h : Int) ∧ OwnR wq wo.heap.size 3 1 s9 (rows1 (R.canL x h)) ∧ Ext w wq ∧ Blk wq w.heap.size 34 #[.int .i64 x.hours, .int .i64 x.allow, .int .i64 x.hands, .slice A1 x.cn c1, .slice A2 x.bn c2, .slice A3 x.sn c3] ∧ BA wq w1.heap.size x.hands.toNat (R.canTo x (x.cn - 1)) ∧ wo.heap.size ≤ wq.heap.size) (fun _ s10 _ => x.hands.toNat - (intOf s10).toNat)
   case atStart => exact ⟨0, by omega, rfl, OwnR.nil, HI.out.e, HI.out.b, HI.out.a, Nat.le_refl _⟩
   case round =>
    clear HI k1 k1l
    obtain ⟨h, hh, rfl, hown, he, hb, ha, hsz⟩ := hrel
    have k1 := hb.cell
    have k1l := hb.lt
    have HOWN := hid hown
    clear hown
    by_cases hlh : (h : Int) < x.hands
    ·have hhn : h < x.hands.toNat := by omega
     have hhi : (h : Int) < (x.hands.toNat : Int) := by omega
     have c0 := ha.cell hhn
     have cl := ha.lt
     have hml := R.canL_length x h
     have HS := hid (R.canL_succ x h)
     cases hc : R.canTo x (x.cn - 1) h
     ·rw [hc] at c0
      have HCT := hid hc
      clear hc
      go_wp2_with fail
      go_roundw
      case rel => exact ⟨h + 1, by omega, by go_num, by rw [HS.out, HCT.out, if_neg Bool.false_ne_true, List.append_nil]; exact HOWN.out, he, hb, ha, hsz⟩
      case measure => simp [intOf]; omega
     ·rw [hc] at c0
      have HCT := hid hc
      clear hc
      go_wp2_with (at_builtin; refine wpList_append_rows rfl _ _ 56 rfl elem56 rfl (HOWN.out.ext (Ext.alloc (Ext.refl _) _)) _ 1 1 [[(h : Int)]] rfl rfl (by simp) (by intro j; simp [cellsOf]) (by rw [rows1_length]; omega) (by simp; omega) ?_; intro v' w8 hown2 hg2)
      have hbl := fun g hg => HOWN.out.block (g := g) hg
      go_roundw
      case rel => exact ⟨h + 1, by omega, by go_num, by rw [HS.out, HCT.out, if_pos rfl, rows1_append]; exact hown2, (he.alloc _).grown hg2 fun g hg => by have := hbl g hg; omega, (hb.ext (Ext.alloc (Ext.refl _) _)).grown hg2 (fun e => by have := hbl _ e.symm; omega), (ha.ext (Ext.alloc (Ext.refl _) _)).grown hg2 (fun e => by have := hbl _ e.symm; omega), by have := hg2.size; simp at this; omega⟩
      case measure => simp [intOf]; omega
    ·go_wp2_with fail
     go_ret
     obtain rfl : h = x.hands.toNat := by omega
     exact ⟨_, rfl, he, HOWN.out.slR⟩
end Go.Proofs.YtkhjmedfhobebaaGreat
