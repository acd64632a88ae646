/- Walks of what the program tells of a stretch, and of its Add; words for two watches. No condition. -/
import Derived.Test.YtkhjmedfhobebaaGreatDoM
import Derived.Test.YtkhjmedfhobebaaGreatRefZ
import Derived.Test.YtkhjmedfhobebaaGreatLawD
import Derived.Test.YtkhjmedfhobebaaGreatOpen
namespace HandSpec
/-- The hands of a stretch, by bits and one by one. -/
theorem there_eq {x : WD} (hx : Ok x) {a b : Nat} (hab : a < b) (hb : b < x.cn) : ones 6 (P.th x a b) = R.there x a b := by
 have h := P.th_lt' hx a b
 have hh := hx.hands
 rw [ones_of (k := 6) (N := x.hands.toNat) (Nat.lt_of_lt_of_le h (Nat.pow_le_pow_right (by omega) (by omega))) h]
 unfold ones R.there
 exact List.filter_congr fun i _ => P.th_bit hx hab hb i
theorem str_nat {x : WD} {a b : Int} (h : P.chk x = 0) (e : P.strE x a b = 0) : ∃ p q : Nat, a = p ∧ b = q ∧ p < q ∧ q < x.cn := by
 unfold P.strE at e
 rw [if_neg (by simpa using h)] at e
 by_cases h1 : (!inB a 0 (x.cn - 1) || !inB b 0 (x.cn - 1)) = true
 ·rw [if_pos h1] at e; cases e
 ·rw [if_neg h1] at e
  simp only [Bool.or_eq_true, Bool.not_eq_true', not_or, Bool.not_eq_false] at h1
  unfold inB at h1
  simp only [decide_eq_true_eq] at h1
  by_cases h2 : b ≤ a
  ·rw [if_pos h2] at e; cases e
  ·exact ⟨a.toNat, b.toNat, by omega, by omega, by omega, by omega⟩
end HandSpec
namespace Go.Proofs.YtkhjmedfhobebaaGreat
open Go.RowKit HandSpec
set_option maxHeartbeats 1600000
set_option maxRecDepth 100000
theorem bookedX_err {x : WD} {w : World} {v : Value} (hv : IsW w v x) (h1 : x.cn ≤ 1000) (h2 : x.bn ≤ 1000) (h3 : x.sn ≤ 1000) (a b : Int) (he : P.strE x a b ≠ 0) :
  Calls Tryz.prog 60 #[v, .agg #[.int .i64 a, .int .i64 b]] w fun e w' => e = .returned (.tuple #[.int .i64 0, .int .i64 (P.strE x a b)]) ∧ Ext w w' := by
 have HV := hid hv
 obtain ⟨A1, c1, A2, c2, A3, c3, rfl, r1, r2, r3⟩ := hv
 clear r1 r2 r3
 have hne : (P.strE x a b == 0) = false := by simpa using he
 have hne2 : (P.strE x a b != 0) = true := by simpa using he
 have HE := hid he
 clear he
 go_enter Tryz.func60, Tryz.ntmps60
 go_upto_region 1 with fail
 refine wp_later fun w1 hw1 => ?_
 obtain ⟨E0, B1, B2⟩ := hw1.newB2
 have k1 := B1.cell
 have k1l := B1.lt
 have k2 := B2.cell
 have k2l := B2.lt
 clear hw1
 go_wp2_with (go_at_call 137; refine (str_err (HV.out.ext E0) h1 h2 h3 a b HE.out).mono ?_; rintro e w2 ⟨rfl, he2⟩)
 go_ret2
 exact ⟨rfl, E0.trans he2⟩
theorem bookedX_ok {x : WD} {w : World} {v : Value} (hv : IsW w v x) (h1 : x.cn ≤ 1000) (h2 : x.bn ≤ 1000) (h3 : x.sn ≤ 1000) (hc : P.chk x = 0) {a b : Nat} (hab : a < b) (hb : b < x.cn) (he : P.strE x a b = 0) :
  Calls Tryz.prog 60 #[v, .agg #[.int .i64 (a : Int), .int .i64 (b : Int)]] w fun e w' => e = .returned (.tuple #[.int .i64 (P.books x a b), .int .i64 0]) ∧ Ext w w' := by
 have HV := hid hv
 obtain ⟨A1, c1, A2, c2, A3, c3, rfl, r1, r2, r3⟩ := hv
 clear r1 r2 r3
 have hx := Ok.of_chk hc
 have HE := hid he
 clear he hc
 go_enter Tryz.func60, Tryz.ntmps60
 go_upto_region 1 with fail
 refine wp_later fun w1 hw1 => ?_
 obtain ⟨E0, B1, B2⟩ := hw1.newB2
 have k1 := B1.cell
 have k1l := B1.lt
 have k2 := B2.cell
 have k2l := B2.lt
 clear hw1
 go_wp2_with (first
  | (go_at_call 137; refine (str_ok (HV.out.ext E0) h1 h2 h3 (a : Int) (b : Int) HE.out).mono ?_; rintro e w2 ⟨u, rfl, he2, hu⟩; have HU := hid hu; clear hu; have k2 := (B2.ext he2).cell; have k2l := (B2.ext he2).lt)
  | (go_at_call 147; refine (books_any hx HU.out a b (Nat.le_of_lt hab) hb).mono ?_; rintro e w3 ⟨rfl, he3⟩))
 go_ret2
 exact ⟨rfl, E0.trans (he2.trans he3)⟩
theorem gapX_err {x : WD} {w : World} {v : Value} (hv : IsW w v x) (h1 : x.cn ≤ 1000) (h2 : x.bn ≤ 1000) (h3 : x.sn ≤ 1000) (a b : Int) (he : P.strE x a b ≠ 0) :
  Calls Tryz.prog 61 #[v, .agg #[.int .i64 a, .int .i64 b]] w fun e w' => e = .returned (.tuple #[.int .i64 0, .int .i64 (P.strE x a b)]) ∧ Ext w w' := by
 have HV := hid hv
 obtain ⟨A1, c1, A2, c2, A3, c3, rfl, r1, r2, r3⟩ := hv
 clear r1 r2 r3
 have hne : (P.strE x a b == 0) = false := by simpa using he
 have hne2 : (P.strE x a b != 0) = true := by simpa using he
 have HE := hid he
 clear he
 go_enter Tryz.func61, Tryz.ntmps61
 go_upto_region 1 with fail
 refine wp_later fun w1 hw1 => ?_
 obtain ⟨E0, B1, B2⟩ := hw1.newB2
 have k1 := B1.cell
 have k1l := B1.lt
 have k2 := B2.cell
 have k2l := B2.lt
 clear hw1
 go_wp2_with (go_at_call 137; refine (str_err (HV.out.ext E0) h1 h2 h3 a b HE.out).mono ?_; rintro e w2 ⟨rfl, he2⟩)
 go_ret2
 exact ⟨rfl, E0.trans he2⟩
theorem gapX_ok {x : WD} {w : World} {v : Value} (hv : IsW w v x) (h1 : x.cn ≤ 1000) (h2 : x.bn ≤ 1000) (h3 : x.sn ≤ 1000) (hc : P.chk x = 0) {a b : Nat} (hab : a < b) (hb : b < x.cn) (he : P.strE x a b = 0) :
  Calls Tryz.prog 61 #[v, .agg #[.int .i64 (a : Int), .int .i64 (b : Int)]] w fun e w' => e = .returned (.tuple #[.int .i64 (P.gap x a b), .int .i64 0]) ∧ Ext w w' := by
 have HV := hid hv
 obtain ⟨A1, c1, A2, c2, A3, c3, rfl, r1, r2, r3⟩ := hv
 clear r1 r2 r3
 have hx := Ok.of_chk hc
 have HE := hid he
 clear he hc
 go_enter Tryz.func61, Tryz.ntmps61
 go_upto_region 1 with fail
 refine wp_later fun w1 hw1 => ?_
 obtain ⟨E0, B1, B2⟩ := hw1.newB2
 have k1 := B1.cell
 have k1l := B1.lt
 have k2 := B2.cell
 have k2l := B2.lt
 clear hw1
 go_wp2_with (first
  | (go_at_call 137; refine (str_ok (HV.out.ext E0) h1 h2 h3 (a : Int) (b : Int) HE.out).mono ?_; rintro e w2 ⟨u, rfl, he2, hu⟩; have HU := hid hu; clear hu; have k2 := (B2.ext he2).cell; have k2l := (B2.ext he2).lt)
  | (go_at_call 138; refine (gapP_any hx HU.out a b (Nat.le_of_lt hab) hb).mono ?_; rintro e w3 ⟨rfl, he3⟩))
 go_ret2
 exact ⟨rfl, E0.trans (he2.trans he3)⟩
theorem thereX_err {x : WD} {w : World} {v : Value} (hv : IsW w v x) (h1 : x.cn ≤ 1000) (h2 : x.bn ≤ 1000) (h3 : x.sn ≤ 1000) (a b : Int) (he : P.strE x a b ≠ 0) :
  Calls Tryz.prog 62 #[v, .agg #[.int .i64 a, .int .i64 b]] w fun e w' => e = .returned (.tuple #[.slice none 0 0, .int .i64 (P.strE x a b)]) ∧ Ext w w' := by
 have HV := hid hv
 obtain ⟨A1, c1, A2, c2, A3, c3, rfl, r1, r2, r3⟩ := hv
 clear r1 r2 r3
 have hne : (P.strE x a b == 0) = false := by simpa using he
 have hne2 : (P.strE x a b != 0) = true := by simpa using he
 have HE := hid he
 clear he
 go_enter Tryz.func62, Tryz.ntmps62
 go_upto_region 1 with fail
 refine wp_later fun w1 hw1 => ?_
 obtain ⟨E0, B1, B2⟩ := hw1.newB2
 have k1 := B1.cell
 have k1l := B1.lt
 have k2 := B2.cell
 have k2l := B2.lt
 clear hw1
 go_wp2_with (go_at_call 137; refine (str_err (HV.out.ext E0) h1 h2 h3 a b HE.out).mono ?_; rintro e w2 ⟨rfl, he2⟩)
 go_ret2
 exact ⟨rfl, E0.trans he2⟩
theorem thereX_ok {x : WD} {w : World} {v : Value} (hv : IsW w v x) (h1 : x.cn ≤ 1000) (h2 : x.bn ≤ 1000) (h3 : x.sn ≤ 1000) (hc : P.chk x = 0) {a b : Nat} (hab : a < b) (hb : b < x.cn) (he : P.strE x a b = 0) :
  Calls Tryz.prog 62 #[v, .agg #[.int .i64 (a : Int), .int .i64 (b : Int)]] w fun e w' => ∃ u, e = .returned (.tuple #[u, .int .i64 0]) ∧ Ext w w' ∧ SlR w' 1 u (rows1 (ones 6 (P.th x a b))) := by
 have HV := hid hv
 obtain ⟨A1, c1, A2, c2, A3, c3, rfl, r1, r2, r3⟩ := hv
 clear r1 r2 r3
 have hx := Ok.of_chk hc
 have HE := hid he
 clear he hc
 go_enter Tryz.func62, Tryz.ntmps62
 go_upto_region 1 with fail
 refine wp_later fun w1 hw1 => ?_
 obtain ⟨E0, B1, B2⟩ := hw1.newB2
 have k1 := B1.cell
 have k1l := B1.lt
 have k2 := B2.cell
 have k2l := B2.lt
 clear hw1
 go_upto_region 4 with (go_at_call 137; refine (str_ok (HV.out.ext E0) h1 h2 h3 (a : Int) (b : Int) HE.out).mono ?_; rintro e w2 ⟨u, rfl, he2, hu⟩; have HU := hid hu; obtain ⟨db, B1', d1, B2', d2, B3', d3, mb, M, rfl, hd, -, -, -, hmp, hl⟩ := hu; have HL := hid hl; clear hl; have k2 := (B2.ext he2).cell; have k2l := (B2.ext he2).lt; have kd := hd.cell; have kdl := hd.lt)
 have hlk : ∀ w1, Ext w2 w1 → (Instr.lookup 187 (.map (some mb)) (.agg #[.int .i64 (a : Int), .int .i64 (b : Int)]) false).run Tryz.prog w1 = .ok (.int .i64 (P.th x a b : Int)) w1 := fun w1 e => by
  rw [lookup_run (hmp.ext e), HL.out a b hab hb]
 have hlk2 : ∀ n : Later w2, (Instr.lookup 187 (.map (some mb)) (.agg #[.int .i64 (a : Int), .int .i64 (b : Int)]) false).run Tryz.prog n.at_ = .ok (.int .i64 (P.th x a b : Int)) n.at_ := fun n => hlk _ n.ok
 have HLK := hid hlk
 clear hlk
 have hth := P.th_lt hx a b
 refine wp_region_mono 9 [(1, fun v _ _ _ => v = .pointer (some ⟨db, 0, none⟩)), (6, fun v _ _ w => SlR w 1 v (rows1 (ones 6 (P.th x a b))))] (by kernel_rfl) (by kernel_rfl) (by kernel_rfl) ?hS ?_
 case hS =>
  simp only [List.forall_mem_cons]
  exact ⟨fun _ _ _ _ _ _ h => h, fun _ _ _ _ _ e h => SlR.ext h e, fun _ h => by simp at h⟩
 simp only [List.take_succ_cons, List.drop_succ_cons, List.take_nil, List.drop_nil]
 refine wpM_plain rfl ?_
 go_big_quiet_step (fail)
 refine wpQuiet_nil ?_
 refine wpM_spec _ rfl rfl (fun w4 hw4 _ => ?_) (fun va la ha ga1 ga2 _ hva => ?_)
 ·go_wp2
  exact ⟨_, w4.heap.size, w4.heap.size, rfl, Ext.refl _, Nat.le_refl _, Nat.le_refl _, Nat.le_refl _, rfl⟩
 obtain ⟨_, rfl⟩ := hva
 simp only [Act.put, List.setIfInBounds_toArray, List.set_cons_succ, List.set_cons_zero]
 iterate 4
  refine wpM_plain rfl ?_
  go_big_quiet_step (fail)
  refine wpQuiet_nil ?_
 refine wpM_spec _ rfl rfl (fun w4 hw4 _ => ?_) (fun vb lb hb2 gb1 gb2 _ hvb => ?_)
 ·go_wp2_with (go_at_call 135; refine (membersP_any (P.th x a b) hth _).mono ?_; rintro e w5 ⟨vc, rfl, he5, ho5⟩)
  exact ⟨_, _, _, rfl, he5, Nat.le_refl _, he5.size, Nat.le_refl _, ho5.slR⟩
 simp only [Act.put, List.setIfInBounds_toArray, List.set_cons_succ, List.set_cons_zero]
 iterate 2
  refine wpM_plain rfl ?_
  go_big_quiet_step (fail)
  refine wpQuiet_nil ?_
 refine wpM_nil fun w6 hw6 hF => ?_
 simp only [List.forall_mem_cons] at hF
 obtain ⟨⟨-, hs6⟩, -⟩ := hF
 go_wp2_with fail
 go_ret2
 exact ⟨_, rfl, E0.trans (he2.trans hw6), hs6⟩
end Go.Proofs.YtkhjmedfhobebaaGreat
namespace Go.Proofs.YtkhjmedfhobebaaGreat
open Go.RowKit HandSpec
set_option maxHeartbeats 1600000
set_option maxRecDepth 100000
theorem heap_cells (b : Nat) {k : Nat} (hk : k ≠ b) : ∀ (vs : List Value) (o : Nat) (w : World), (w.setCells b o vs).heap[k]? = w.heap[k]?
 | [], _, _ => rfl
 | v :: r, o, w => by rw [World.setCells, heap_cells b hk r, Below.heap_setCell w _ v k hk]
theorem Arr.same {w w' : World} {g N : Nat} {h : Nat → Int} (a : Arr w g N h) (e : w'.heap[g]? = w.heap[g]?) : Arr w' g N h := by
 refine ⟨?_, fun i hi => ?_⟩
 ·rcases Nat.lt_or_ge g w'.heap.size with q | q
  ·exact q
  ·have := a.1
   rw [Array.getElem?_eq_none q, Array.getElem?_eq_getElem this] at e
   cases e
 ·have := a.2 i hi
  simp only [World.cell?, World.frozen?, e] at this ⊢
  exact this
theorem Rd.from_ {w : World} {A : Option Addr} {n c k : Nat} {g : Nat → Nat → Int} (h : Rd w A n c g) (hk : k < n) : Rd w (A.map (·.add (k * c))) (n - k) c (fun i j => g (k + i) j) := fun _ => by
 obtain ⟨b, o, rfl, hc⟩ := h (by omega)
 refine ⟨b, o + k * c, by rw [Option.map_some, addr_add], fun i hi j hj => ?_⟩
 have := hc (k + i) (by omega) j hj
 rw [Nat.add_mul, ← Nat.add_assoc o] at this
 exact this
/-- copy of rows of numbers into a block that is known. -/
theorem wpList_copy_arr {P : Program} {w : World} {ops : Array Oper} {rest : List Oper} {o : Oper} {a : Act} {Q : Exit → Act → World → Prop} (hgd : o.guard = none) (d s : Operand) (T : TypeId)
  (ho : o.op = .call { callee := .builtin .copy, args := #[d, s], argTypes := #[T, T] }) {e : TypeId} {c bytes : Nat} (hE : ElemOk P T e c bytes)
  {dp sp : Option Addr} {dLen dCap sLen sCap : Nat} (hd : a.eval d = .slice dp dLen dCap) (hs : a.eval s = .slice sp sLen sCap)
  {g N off n : Nat} {hf : Nat → Int} {gg : Nat → Nat → Int} (ha : Arr w g N hf) (hn : n = Nat.min sLen dLen) (hpos : 0 < n → dp = some ⟨g, off, none⟩ ∧ Rd w sp n c gg) (hfit : off + n * c ≤ N)
  (hk : ∀ w', Arr w' g N (fun i => if off ≤ i ∧ i < off + n * c then gg ((i - off) / c) ((i - off) % c) else hf i) → (∀ w0, Ext w0 w → w0.heap.size ≤ g → Ext w0 w') → (∀ b, b ≠ g → w'.heap[b]? = w.heap[b]?) → wpList P ops Q rest (a.put o.dst (goInt n)) w') :
  wpList P ops Q (o :: rest) a w := by
 obtain ⟨i, z, hi, hz, h1, h2, h3⟩ := hE.i
 refine wpList_plain hgd fun K hK => ?_
 have fin : ∀ w', (Builtin.copy_ #[T, T] o.type #[.slice dp dLen dCap, .slice sp sLen sCap]).run P w = .ok (goInt n) w' → K (a.put o.dst (goInt n)) w' → Oper.wp P o a w K Q := by
  intro w' hrun hw
  unfold Oper.wp
  simp [execOp, ho, resolve, invoke, builtin, hd, hs, hrun, Result.andThen]
  exact hw
 rcases Nat.eq_zero_or_pos n with h0 | h0
 ·subst h0
  refine fin w ?_ (hK _ _ (hk w (ha.congr fun i _ => by rw [if_neg (by omega)]) (fun _ h _ => h) fun _ _ => rfl))
  cases dp <;> cases sp <;> simp [Builtin.copy_, run_underlying hE.u, Builtin.lenOf, Builtin.firstCells, sizeOf, typeInfo, hi, ← hn, storeCells, loadCells, loadCellsFrom]
 ·obtain ⟨rfl, hr⟩ := hpos h0
  obtain ⟨b2, o2, rfl, hc⟩ := hr h0
  have hcl : (cellsOf (rowsG c n gg)).length = n * c := by rw [cellsOf_length rowsG_row, rowsG_length]
  have hnews : ∀ j u, (cellsOf (rowsG c n gg))[j]? = some u → w.cell? ((⟨b2, o2, none⟩ : Addr).add j) = some u := fun j u hu => by
   obtain ⟨k, q, hk', hq, rfl, rfl⟩ := cellsOf_rowsG hu
   rw [addr_add, ← Nat.add_assoc]
   exact hc k hk' q hq
  have hl := run_loadCells_list (P := P) (w := w) ⟨b2, o2, none⟩ (cellsOf (rowsG c n gg)) hnews
  have hone : ∀ v ∈ cellsOf (rowsG c n gg), v.oneCell' = true := cellsOf_one
  have hst := run_storeCells_cells (P := P) g off (cellsOf (rowsG c n gg)) 0 w (by intro j hj; rw [ha.cell (by omega)]; rfl) (by intro j hj; exact ha.frozen (by omega)) hone
  simp only [Nat.add_zero] at hst
  rw [hcl] at hl
  refine fin (w.setCells g off (cellsOf (rowsG c n gg))) (by simp [Builtin.copy_, run_underlying hE.u, Builtin.lenOf, Builtin.firstCells, sizeOf, typeInfo, hi, h1, ← hn, hl, hst]) (hK _ _ (hk _ ⟨?_, fun i hi' => ⟨?_, ?_⟩⟩ (fun w0 q0 hg => ?_) fun b hb => heap_cells g hb _ _ _))
  ·rw [size_cells]; exact ha.1
  ·by_cases hin : off ≤ i ∧ i < off + n * c
   ·show _ = some (Value.int .i64 (if _ then _ else _))
    rw [if_pos hin]
    have := World.cell?_setCells_in g (cellsOf (rowsG c n gg)) off w (fun j hj => by rw [ha.cell (by omega)]; rfl) (i - off) (by omega)
    rw [show off + (i - off) = i by omega] at this
    rw [this]
    have hget := cellsOf_get (rowsG_row (c := c) (m := n) (g := gg)) (k := (i - off) / c) (j := (i - off) % c) (by rw [rowsG_length]; exact (Nat.div_lt_iff_lt_mul hE.c0).2 (by omega)) (Nat.mod_lt _ hE.c0)
    rw [Nat.div_add_mod' (i - off) c, List.getElem?_eq_getElem (show i - off < (cellsOf (rowsG c n gg)).length by omega)] at hget
    have hat := rowsG_at (c := c) (m := n) (g := gg) (k := (i - off) / c) (j := (i - off) % c) ((Nat.div_lt_iff_lt_mul hE.c0).2 (by omega)) (Nat.mod_lt _ hE.c0)
    unfold rowsAt at hat
    rw [hat] at hget
    exact hget
   ·show _ = some (Value.int .i64 (if _ then _ else _))
    rw [if_neg hin, World.cell?_setCells_out _ _ _ _ _ (fun _ _ => by simp only; omega)]
    exact ha.cell hi'
  ·rw [World.frozen?_setCells]; exact ha.frozen hi'
  ·exact below_setCells hg _ _ _ q0
/-- A slice of counts, made at once. -/
theorem wpList_make22 {w : World} {ops : Array Oper} {rest : List Oper} {o : Oper} {a : Act} {Q : Exit → Act → World → Prop} (hg : o.guard = none) (l c : Operand) (ho : o.op = Op.makeSlice 22 l c) (n : Nat) (L C : Int) (hl : a.eval l = .int .i64 L) (hc : a.eval c = .int .i64 C) (hL : L = (n : Int)) (hC : C = (n : Int)) (hn : n ≤ 100000)
  (h : ∀ w', Ext w w' → w.heap.size < w'.heap.size → Arr w' w.heap.size (n * 3) (fun _ => 0) → wpList Tryz.prog ops Q rest (a.put o.dst (.slice (some ⟨w.heap.size, 0, none⟩) n n)) w') : wpList Tryz.prog ops Q (o :: rest) a w := by
 obtain ⟨i, hi, hz, h1, h2⟩ := info_parts (show (Tryz.prog.info? 79).map (fun i => (i.zero, i.size, i.bytes)) = some (some (.agg #[.int .i64 0, .int .i64 0, .int .i64 0]), 3, 24) by kernel_rfl)
 refine wpList_make_full w hg l c 22 ho w.heap.size 79 i (.agg #[.int .i64 0, .int .i64 0, .int .i64 0]) 3 Tryz.underlying22 hi hz h1 .i64 .i64 L C n hl hc hL hC (by rw [h2]; omega) (by unfold maxLen; omega) (Nat.le_refl _) fun w' hown hg' => ?_
 rcases hown.2 with ⟨h3, _⟩ | ⟨g, cap, cur, h3, _, hb, _, _, hs, ht⟩
 ·cases h3
 ·simp only [Value.slice.injEq, Option.some.injEq, Addr.mk.injEq, and_true] at h3
  obtain ⟨rfl, -⟩ := h3
  have hlt : w.heap.size < w'.heap.size := by
   rcases Nat.lt_or_ge w.heap.size w'.heap.size with q | q
   ·exact q
   ·rw [Array.getElem?_eq_none q] at hb; cases hb
  refine h w' ((Ext.refl _).grown hg' (fun k hk => by cases hk)) hlt ⟨hlt, fun j hj => ⟨?_, ?_⟩⟩
  ·have h4 := congrArg (fun l => l[j]?) ht
   rw [List.getElem?_take_of_lt hj] at h4
   simp only [World.cell?, hb]
   rw [← Array.getElem?_toList, h4]
   have hj3 : j % 3 = 0 ∨ j % 3 = 1 ∨ j % 3 = 2 := by omega
   rcases hj3 with q | q | q <;> simp [madeCells, hj, Value.cells, q]
  ·simp [World.frozen?, hb]
/-- A watch, and its first slice has room for its counts. -/
def IsWR (w : World) (v : Value) (x : WD) : Prop :=
 ∃ A1 c1 A2 c2 A3 c3, v = .agg #[.int .i64 x.hours, .int .i64 x.allow, .int .i64 x.hands, .slice A1 x.cn c1, .slice A2 x.bn c2, .slice A3 x.sn c3] ∧
  Rd w A1 x.cn 3 x.c ∧ Rd w A2 x.bn 2 x.b ∧ Rd w A3 x.sn 3 x.s ∧ x.cn ≤ c1
theorem IsWR.isW {w : World} {v : Value} {x : WD} (h : IsWR w v x) : IsW w v x := by
 obtain ⟨A1, c1, A2, c2, A3, c3, hv, h1, h2, h3, -⟩ := h
 exact ⟨A1, c1, A2, c2, A3, c3, hv, h1, h2, h3⟩
theorem IsWR.ext {w w' : World} {v : Value} {x : WD} (h : IsWR w v x) (e : Ext w w') : IsWR w' v x := by
 obtain ⟨A1, c1, A2, c2, A3, c3, hv, h1, h2, h3, h4⟩ := h
 exact ⟨A1, c1, A2, c2, A3, c3, hv, h1.ext e, h2.ext e, h3.ext e, h4⟩
/-- A slice of rows in a block of its own, or nil. -/
def Clr (lo hi : Nat) (w : World) (D : Option Addr) (n c : Nat) (g : Nat → Nat → Int) : Prop :=
 (D = none ∧ n = 0) ∨ ∃ b, D = some ⟨b, 0, none⟩ ∧ lo ≤ b ∧ b < hi ∧ Arr w b (n * c) (fun i => g (i / c) (i % c))
theorem Clr.ext {lo hi : Nat} {w w' : World} {D : Option Addr} {n c : Nat} {g : Nat → Nat → Int} (h : Clr lo hi w D n c g) (e : Ext w w') : Clr lo hi w' D n c g := by
 rcases h with h | ⟨b, h1, h2, h3, h4⟩
 ·exact .inl h
 ·exact .inr ⟨b, h1, h2, h3, h4.ext e⟩
theorem Clr.far {lo hi : Nat} {w : World} {D : Option Addr} {n c : Nat} {g : Nat → Nat → Int} (h : Clr lo hi w D n c g) {p : Addr} (u : Value) (hp : p.block < lo ∨ hi ≤ p.block) : Clr lo hi (w.setCell p u) D n c g := by
 rcases h with h | ⟨b, h1, h2, h3, h4⟩
 ·exact .inl h
 ·exact .inr ⟨b, h1, h2, h3, h4.far u (by omega)⟩
theorem Clr.far6 {lo hi : Nat} {W : World} {D : Option Addr} {n c : Nat} {e : Nat → Nat → Int} (h : Clr lo hi W D n c e) {H : Nat} (hH : H < lo) (a b d f g i : Value) :
  Clr lo hi ((((((W.setCell ⟨H, 0, none⟩ a).setCell ⟨H, 1, none⟩ b).setCell ⟨H, 2, none⟩ d).setCell ⟨H, 3, none⟩ f).setCell ⟨H, 4, none⟩ g).setCell ⟨H, 5, none⟩ i) D n c e :=
 (((((h.far (p := ⟨H, 0, none⟩) a (.inl hH)).far (p := ⟨H, 1, none⟩) b (.inl hH)).far (p := ⟨H, 2, none⟩) d (.inl hH)).far (p := ⟨H, 3, none⟩) f (.inl hH)).far (p := ⟨H, 4, none⟩) g (.inl hH)).far (p := ⟨H, 5, none⟩) i (.inl hH)
theorem Clr.same {lo hi : Nat} {w w' : World} {D : Option Addr} {n c : Nat} {g : Nat → Nat → Int} (h : Clr lo hi w D n c g) {q : Nat} (e : ∀ b, b ≠ q → w'.heap[b]? = w.heap[b]?) (hq : q < lo ∨ hi ≤ q) : Clr lo hi w' D n c g := by
 rcases h with h | ⟨b, h1, h2, h3, h4⟩
 ·exact .inl h
 ·exact .inr ⟨b, h1, h2, h3, Arr.same h4 (e b (by omega))⟩
theorem Clr.rd {lo hi : Nat} {w : World} {D : Option Addr} {n c : Nat} {g : Nat → Nat → Int} (h : Clr lo hi w D n c g) (hc : 0 < c) : Rd w D n c g := by
 rcases h with ⟨rfl, rfl⟩ | ⟨b, rfl, h2, h3, h4⟩
 ·exact Rd.nil
 ·refine (h4.rd (o := 0) (n := n) (c := c) (by omega)).congr fun k hk j hj => ?_
  show g ((0 + k * c + j) / c) ((0 + k * c + j) % c) = g k j
  rw [Nat.zero_add, Nat.mul_comm k c, Nat.mul_add_div hc, Nat.div_eq_of_lt hj, Nat.add_zero, Nat.mul_add_mod, Nat.mod_eq_of_lt hj]
def ClrI (n c : Nat) (g : Nat → Nat → Int) : MSpec := fun v lo hi w => ∃ D q, v = .slice D n q ∧ Clr lo hi w D n c g
theorem ClrI.ext {n c : Nat} {g : Nat → Nat → Int} {v : Value} {lo hi : Nat} {w w' : World} (h : ClrI n c g v lo hi w) (e : Ext w w') : ClrI n c g v lo hi w' := by
 obtain ⟨D, q, h1, h2⟩ := h
 exact ⟨D, q, h1, h2.ext e⟩
theorem ClrI.of {B : Nat} {w : World} {t : TypeId} {c n : Nat} {g : Nat → Nat → Int} {v : Value} (h : OwnR w B t c v (rowsG c n g)) : ClrI n c g v B w.heap.size w := by
 rcases OwnR.arr h with ⟨h1, h2⟩ | ⟨b, cap, h1, h2, _, h4⟩
 ·have hl := congrArg List.length h2
  rw [rowsG_length] at hl
  simp only [List.length_nil] at hl
  subst hl
  exact ⟨none, 0, h1, .inl ⟨rfl, rfl⟩⟩
 ·rw [rowsG_length] at h1 h4
  refine ⟨_, cap, h1, .inr ⟨b, rfl, h2, h4.1, h4.congr fun i hi => ?_⟩⟩
  have hc : 0 < c := by
   rcases Nat.eq_zero_or_pos c with q | q
   ·subst q; simp at hi
   ·exact q
  exact rowsG_at ((Nat.div_lt_iff_lt_mul hc).2 hi) (Nat.mod_lt _ hc)
def MkI (n : Nat) : MSpec := fun v lo hi w => v = .slice (some ⟨lo, 0, none⟩) n n ∧ hi = lo + 1 ∧ Arr w lo (n * 3) (fun _ => 0)
theorem MkI.ext {n : Nat} {v : Value} {lo hi : Nat} {w w' : World} (h : MkI n v lo hi w) (e : Ext w w') : MkI n v lo hi w' := ⟨h.1, h.2.1, h.2.2.ext e⟩
/-- What Add returns: a watch whose slices are its own. -/
def OutW (lo : Nat) (w : World) (v : Value) (x : WD) : Prop :=
 ∃ D1 q1 D2 q2 D3 q3 l1 l2 l3 h1 h2 h3, v = .agg #[.int .i64 x.hours, .int .i64 x.allow, .int .i64 x.hands, .slice D1 x.cn q1, .slice D2 x.bn q2, .slice D3 x.sn q3] ∧
  Clr l1 h1 w D1 x.cn 3 x.c ∧ Clr l2 h2 w D2 x.bn 2 x.b ∧ Clr l3 h3 w D3 x.sn 3 x.s ∧ lo ≤ l1 ∧ lo ≤ l2 ∧ lo ≤ l3 ∧ (h1 ≤ l2 ∨ h2 ≤ l1) ∧ (h1 ≤ l3 ∨ h3 ≤ l1) ∧ (h2 ≤ l3 ∨ h3 ≤ l2)
theorem outW_zero (lo : Nat) (w : World) : OutW lo w (.agg #[.int .i64 0, .int .i64 0, .int .i64 0, .slice none 0 0, .slice none 0 0, .slice none 0 0]) zeroW :=
 ⟨none, 0, none, 0, none, 0, lo, lo, lo, lo, lo, lo, rfl, .inl ⟨rfl, rfl⟩, .inl ⟨rfl, rfl⟩, .inl ⟨rfl, rfl⟩, Nat.le_refl _, Nat.le_refl _, Nat.le_refl _, .inl (Nat.le_refl _), .inl (Nat.le_refl _), .inl (Nat.le_refl _)⟩
theorem OutW.isW {lo : Nat} {w : World} {v : Value} {x : WD} (h : OutW lo w v x) : IsW w v x := by
 obtain ⟨D1, q1, D2, q2, D3, q3, l1, l2, l3, h1, h2, h3, hv, c1, c2, c3, -⟩ := h
 exact ⟨D1, q1, D2, q2, D3, q3, hv, c1.rd (by omega), c2.rd (by omega), c3.rd (by omega)⟩
/-- The cells behind both copies and the store are those of the watch with one count more. -/
theorem ins_cells {x : WD} {p : Nat} {h lo hi : Int} (hp : p ≤ x.cn) {f : Nat → Int} (h0 : ∀ a b, a < p → b < 3 → f (a * 3 + b) = x.c a b) (h1 : f (p * 3) = h ∧ f (p * 3 + 1) = lo ∧ f (p * 3 + 2) = hi)
  (h2 : ∀ a b, p ≤ a → a < x.cn → b < 3 → f ((a + 1) * 3 + b) = x.c a b) : ∀ i, i < (x.cn + 1) * 3 → f i = (insC x p h lo hi).c (i / 3) (i % 3) := by
 intro i hi'
 have hb : i % 3 < 3 := Nat.mod_lt _ (by omega)
 have he : i = i / 3 * 3 + i % 3 := by omega
 have ha : i / 3 < x.cn + 1 := by omega
 generalize i / 3 = a at *
 generalize i % 3 = b at *
 subst he
 rcases Nat.lt_trichotomy a p with c | c | c
 ·rw [insC_lt b c]; exact h0 a b c hb
 ·subst c
  have hb3 : b = 0 ∨ b = 1 ∨ b = 2 := by omega
  rcases hb3 with rfl | rfl | rfl
  ·rw [insC_0]; exact h1.1
  ·rw [insC_1]; exact h1.2.1
  ·rw [insC_2]; exact h1.2.2
 ·obtain ⟨q, rfl⟩ : ∃ q, a = q + 1 := ⟨a - 1, by omega⟩
  rw [insC_gt b (by omega)]
  exact h2 q b (by omega) (by omega) hb
theorem add59 {x : WD} {w : World} {v : Value} (hv : IsWR w v x) (h1 : x.cn ≤ 1000) (h2 : x.bn ≤ 1000) (h3 : x.sn ≤ 1000) (h lo hi : Int) :
  Calls Tryz.prog 59 #[v, .agg #[.int .i64 h, .int .i64 lo, .int .i64 hi]] w fun e w' => ∃ u, e = .returned (.tuple #[u, .int .i64 (addE x h lo hi)]) ∧ Ext w w' ∧ OutW w.heap.size w' u (addW x h lo hi) := by
 have HV := hid hv.isW
 obtain ⟨A1, c1, A2, c2, A3, c3, rfl, r1, r2, r3, hcap⟩ := hv
 have R1 := hid r1
 have R2 := hid r2
 have R3 := hid r3
 clear r1 r2 r3
 go_enter Tryz.func59, Tryz.ntmps59
 go_upto_region 1 with fail
 refine wp_later fun w1 hw1 => ?_
 obtain ⟨E1, b2, b3, b4⟩ := newB3' hw1
 have k2 := b2.cell
 have k2l := b2.lt
 have k4l := b4.lt
 clear hw1
 by_cases hc0 : P.chk x ≠ 0
 ·have hb : (P.chk x == 0) = false := by simpa using hc0
  have HE := hid (addE_chk (h := h) (lo := lo) (hi := hi) hc0)
  have HZ := hid (addW_zero (x := x) (h := h) (lo := lo) (hi := hi) (by rw [addE_chk hc0]; exact hc0))
  clear hc0
  go_wp2_with (go_at_call 54; refine (check_any (HV.out.ext E1) h1 h2 h3).mono ?_; rintro e w5 ⟨rfl, he5⟩; have k4 := (b4.ext he5).cell; have k4l := (b4.ext he5).lt; have f4 := (b4.ext he5).frozen)
  try rw [Exit.noGoto_ret]
  exact bodyPost_ret (v := .tuple #[.agg #[.int .i64 0, .int .i64 0, .int .i64 0, .slice none 0 0, .slice none 0 0, .slice none 0 0], .int .i64 (P.chk x)]) (by simp [results, Tryz.results59, go_sem, k4]) rfl ⟨_, by rw [HE.out], ext6b (E1.trans he5) (by omega) _ _ _ _ _ _, by rw [HZ.out]; exact outW_zero _ _⟩
 have hc := Classical.not_not.1 hc0
 clear hc0
 have hx := Ok.of_chk hc
 have hcn := hx.cn
 have HC := hid hc
 clear hc
 by_cases hn8 : x.cn = 8
 ·have HE := hid (addE_full (h := h) (lo := lo) (hi := hi) HC.out hn8)
  have HZ := hid (addW_zero (x := x) (h := h) (lo := lo) (hi := hi) (by rw [HE.out]; decide))
  have e8 : ((x.cn : Int) == 8) = true := by rw [hn8]; rfl
  have HN := hid hn8
  clear hn8
  go_wp2_with (go_at_call 54; refine (check_any (HV.out.ext E1) h1 h2 h3).mono ?_; rintro e w5 ⟨rfl, he5⟩; rw [HC.out]; have k2 := (b2.ext he5).cell; have k2l := (b2.ext he5).lt; have k4 := (b4.ext he5).cell; have k4l := (b4.ext he5).lt; have f4 := (b4.ext he5).frozen)
  try rw [Exit.noGoto_ret]
  exact bodyPost_ret (v := .tuple #[.agg #[.int .i64 0, .int .i64 0, .int .i64 0, .slice none 0 0, .slice none 0 0, .slice none 0 0], .int .i64 9]) (by simp [results, Tryz.results59, go_sem, k4]) rfl ⟨_, by rw [HE.out], ext6b (E1.trans he5) (by omega) _ _ _ _ _ _, by rw [HZ.out]; exact outW_zero _ _⟩
 have e8 : ((x.cn : Int) == 8) = false := by rw [beq_eq_false_iff_ne]; omega
 have HN := hid hn8
 clear hn8
 have HX := hid hx
 go_upto_region 7 with (first
  | (go_at_call 54; refine (check_any (HV.out.ext E1) h1 h2 h3).mono ?_; rintro e w5 ⟨rfl, he5⟩; rw [HC.out]; have k2 := (b2.ext he5).cell; have k2l := (b2.ext he5).lt; have k3 := (b3.ext he5).cell; have k3l := (b3.ext he5).lt)
  | (go_at_call 165; refine (bsearch165 (R1.out.ext (E1.trans he5)) h1 (fun i j a b => HX.out.lt a b) (cmp166 x.cn x.c h)).mono ?_; rintro e w6 ⟨p, rfl, hp1, hp2, hp3, he6⟩))
 obtain rfl := pos_unique hx hp1 hp2 hp3
 rw [← has_at hx h]
 have E6 := hid (E1.trans (he5.trans he6))
 have B2 := hid ((b2.ext he5).ext he6)
 have B3 := hid ((b3.ext he5).ext he6)
 have B4 := hid ((b4.ext he5).ext he6)
 have HP := hid (And.intro hp2 hp3)
 clear k2 k2l k3 k3l he5 he6 hp2 hp3 b2 b3 b4
 obtain ⟨p, hp⟩ : ∃ p, pos x h = p := ⟨_, rfl⟩
 rw [hp] at hp1 HP ⊢
 have HPP := hid hp
 clear hp
 have k4l := B4.out.lt
 cases hb : hasB x h
 ·have HB := hid hb
  clear hb
  go_upto_region 9 with fail
  have k2 := B2.out.cell
  have k2l := B2.out.lt
  have hi1 : (p : Int) ≤ (x.cn : Int) := by omega
  have k3 := B3.out.cell
  have k3l := B3.out.lt
  refine wp_region_mono 19 [(8, ClrI x.bn 2 x.b), (11, ClrI x.sn 3 x.s), (16, MkI (x.cn + 1)), (18, PtI 26 z26)] (by kernel_rfl) (by kernel_rfl) (by kernel_rfl) ?hS ?_
  case hS =>
   simp only [List.forall_mem_cons]
   exact ⟨fun _ _ _ _ _ e h => ClrI.ext h e, fun _ _ _ _ _ e h => ClrI.ext h e, fun _ _ _ _ _ e h => MkI.ext h e, fun _ _ _ _ _ e h => PtI.ext h e, fun _ h => by simp at h⟩
  simp only [List.take_succ_cons, List.take_zero, List.drop_succ_cons, List.drop_zero]
  refine wpM_plain rfl ?_
  go_big_quiet_step (fail)
  refine wpQuiet_nil ?_
  refine wpM_plain rfl ?_
  go_big_quiet_step (fail)
  refine wpQuiet_nil ?_
  refine wpM_plain rfl ?_
  go_big_quiet_step (fail)
  refine wpQuiet_nil ?_
  refine wpM_plain rfl ?_
  go_big_quiet_step (fail)
  refine wpQuiet_nil ?_
  refine wpM_plain rfl ?_
  go_big_quiet_step (fail)
  refine wpQuiet_nil ?_
  refine wpM_plain rfl ?_
  go_big_quiet_step (fail)
  refine wpQuiet_nil ?_
  refine wpM_plain rfl ?_
  go_big_quiet_step (fail)
  refine wpQuiet_nil ?_
  refine wpM_plain rfl ?_
  go_big_quiet_step (fail)
  refine wpQuiet_nil ?_
  refine wpM_spec _ rfl rfl (fun w2 hw2 _ => ?_) (fun va la ha ga1 ga2 da hva => ?_)
  ·go_wp2_with (go_at_call 167; refine (clone167 (R2.out.ext (E6.out.trans hw2)) h2).mono ?_; rintro e w7 ⟨u, rfl, he7, hu⟩)
   exact ⟨_, _, _, rfl, he7, Nat.le_refl _, he7.size, Nat.le_refl _, ClrI.of hu⟩
  simp only [Act.put, List.setIfInBounds_toArray, List.set_cons_succ, List.set_cons_zero]
  obtain ⟨_, D2, q2, rfl, -⟩ := hva
  refine wpM_plain rfl ?_
  go_big_quiet_step (fail)
  refine wpQuiet_nil ?_
  refine wpM_plain rfl ?_
  go_big_quiet_step (fail)
  refine wpQuiet_nil ?_
  refine wpM_spec _ rfl rfl (fun w2 hw2 _ => ?_) (fun vb lb hb gb1 gb2 db hvb => ?_)
  ·go_wp2_with (go_at_call 168; refine (clone168 (R3.out.ext (E6.out.trans hw2)) h3).mono ?_; rintro e w7 ⟨u, rfl, he7, hu⟩)
   exact ⟨_, _, _, rfl, he7, Nat.le_refl _, he7.size, Nat.le_refl _, ClrI.of hu⟩
  simp only [Act.put, List.setIfInBounds_toArray, List.set_cons_succ, List.set_cons_zero]
  obtain ⟨_, D3, q3, rfl, -⟩ := hvb
  refine wpM_plain rfl ?_
  go_big_quiet_step (fail)
  refine wpQuiet_nil ?_
  refine wpM_plain rfl ?_
  go_big_quiet_step (fail)
  refine wpQuiet_nil ?_
  refine wpM_plain rfl ?_
  go_big_quiet_step (fail)
  refine wpQuiet_nil ?_
  refine wpM_plain rfl ?_
  go_big_quiet_step (fail)
  refine wpQuiet_nil ?_
  refine wpM_spec _ rfl rfl (fun w2 hw2 _ => ?_) (fun vm lm hm gm1 gm2 dm hvm => ?_)
  ·go_wp2_with (at_make; refine wpList_make22 rfl _ _ rfl (x.cn + 1) _ _ rfl rfl (by omega) (by omega) (by omega) ?_; intro w7 he7 hlt7 ha7)
   exact ⟨_, w2.heap.size, w2.heap.size + 1, rfl, he7, Nat.le_refl _, Nat.le_succ _, hlt7, rfl, rfl, ha7⟩
  simp only [Act.put, List.setIfInBounds_toArray, List.set_cons_succ, List.set_cons_zero]
  obtain ⟨_, rfl, rfl, -⟩ := hvm
  refine wpM_plain rfl ?_
  go_big_quiet_step (fail)
  refine wpQuiet_nil ?_
  refine wpM_spec _ rfl rfl (fun w2 hw2 _ => ?_) (fun vg lg hg gg1 gg2 dg hvg => ?_)
  ·go_wp2
   exact ⟨_, w2.heap.size, w2.heap.size + 1, rfl, (Ext.refl _).alloc _, Nat.le_refl _, Nat.le_succ _, by simp, rfl, rfl, Blk.new _ _ _⟩
  simp only [Act.put, List.setIfInBounds_toArray, List.set_cons_succ, List.set_cons_zero]
  obtain ⟨_, rfl, rfl, -⟩ := hvg
  simp only [List.forall_mem_cons] at db dm dg
  refine wpM_nil fun w9 hw9 hF => ?_
  simp only [List.forall_mem_cons] at hF
  obtain ⟨⟨-, -, -, bG⟩, ⟨-, -, -, aM⟩, ⟨zs, D3', q3', hq3, cS⟩, ⟨zb, D2', q2', hq2, cB⟩, -⟩ := hF
  obtain ⟨rfl, rfl⟩ : D3 = D3' ∧ q3 = q3' := by simpa using hq3
  obtain ⟨rfl, rfl⟩ : D2 = D2' ∧ q2 = q2' := by simpa using hq2
  have DB := hid db
  have DM := hid dm
  have DG := hid dg
  clear da db dm dg hq3 hq2 k2 k2l k3 k3l
  have hGl := bG.lt
  have kG := bG.cell
  have qG := bG.frozen
  have BG := hid bG
  have AM := hid aM
  have CS := hid cS
  have CB := hid cB
  clear bG aM cS cB
  unfold z26 at kG
  go_upto_region 10 with fail
  refine wp_later fun w10 hw10 => ?_
  have e10 := (ext6b hw9 (H := lg) gg1 (.int .i64 x.hours) (.int .i64 x.allow) (.int .i64 x.hands) (.slice (some ⟨lm, 0, none⟩) (x.cn + 1) (x.cn + 1)) (.slice D2 x.bn q2) (.slice D3 x.sn q3)).trans hw10
  have bG := ((((((BG.out.set_ 0 (.int .i64 x.hours)).set_ 1 (.int .i64 x.allow)).set_ 2 (.int .i64 x.hands)).set_ 3 (.slice (some ⟨lm, 0, none⟩) (x.cn + 1) (x.cn + 1))).set_ 4 (.slice D2 x.bn q2)).set_ 5 (.slice D3 x.sn q3)).ext hw10
  unfold z26 at bG
  simp only [List.setIfInBounds_toArray, List.set_cons_succ, List.set_cons_zero] at bG
  have nMG : lg ≠ lm := by have := DG.out; omega
  have AM := hid (Arr.ext ((((((AM.out.far (p := ⟨lg, 0, none⟩) (.int .i64 x.hours) nMG).far (p := ⟨lg, 1, none⟩) (.int .i64 x.allow) nMG).far (p := ⟨lg, 2, none⟩) (.int .i64 x.hands) nMG).far (p := ⟨lg, 3, none⟩) (.slice (some ⟨lm, 0, none⟩) (x.cn + 1) (x.cn + 1)) nMG).far (p := ⟨lg, 4, none⟩) (.slice D2 x.bn q2) nMG).far (p := ⟨lg, 5, none⟩) (.slice D3 x.sn q3) nMG) hw10)
  have nB : lg < la ∨ ha ≤ lg := by have := DG.out; omega
  have nS : lg < lb ∨ hb ≤ lg := by have := DG.out; omega
  have CB := hid (((((((CB.out.far (p := ⟨lg, 0, none⟩) (.int .i64 x.hours) nB).far (p := ⟨lg, 1, none⟩) (.int .i64 x.allow) nB).far (p := ⟨lg, 2, none⟩) (.int .i64 x.hands) nB).far (p := ⟨lg, 3, none⟩) (.slice (some ⟨lm, 0, none⟩) (x.cn + 1) (x.cn + 1)) nB).far (p := ⟨lg, 4, none⟩) (.slice D2 x.bn q2) nB).far (p := ⟨lg, 5, none⟩) (.slice D3 x.sn q3) nB).ext hw10)
  have CS := hid (((((((CS.out.far (p := ⟨lg, 0, none⟩) (.int .i64 x.hours) nS).far (p := ⟨lg, 1, none⟩) (.int .i64 x.allow) nS).far (p := ⟨lg, 2, none⟩) (.int .i64 x.hands) nS).far (p := ⟨lg, 3, none⟩) (.slice (some ⟨lm, 0, none⟩) (x.cn + 1) (x.cn + 1)) nS).far (p := ⟨lg, 4, none⟩) (.slice D2 x.bn q2) nS).far (p := ⟨lg, 5, none⟩) (.slice D3 x.sn q3) nS).ext hw10)
  have BG := hid bG
  have E10 := hid e10
  clear bG e10 hw10 hw9 kG qG hGl nMG nB nS
  have kG := BG.out.cell
  have kGl := BG.out.lt
  have qG := BG.out.frozen
  have k2 := (B2.out.ext E10.out).cell
  have k2l := (B2.out.ext E10.out).lt
  have hp0 : (0 : Int) ≤ (p : Int) := by omega
  have hpc : (p : Int) ≤ (c1 : Int) := by omega
  refine wp_region_tail 6 (by kernel_rfl) (by kernel_rfl) ?_
  simp only [List.take_succ_cons, List.take_zero, List.drop_succ_cons, List.drop_zero]
  repeat (go_big_quiet_step (fail))
  refine wpQuiet_nil ?_
  rintro w11 ⟨⟨_, he11⟩, rfl⟩
  have AM := hid (AM.out.ext he11)
  have E11 := hid (E10.out.trans he11)
  have BG := hid (BG.out.ext he11)
  have CB := hid (CB.out.ext he11)
  have CS := hid (CS.out.ext he11)
  have hmin1 : p = Nat.min p (x.cn + 1) := (Nat.min_eq_left (by omega)).symm
  have HM1 := hid hmin1
  clear hmin1 k2 k2l kG kGl qG
  go_upto_region 11 with ((with_reducible refine wpList_here ⟨_, .call { callee := .builtin .copy, args := #[_, _], argTypes := #[22, 22] }, _, _, _, _⟩ ?_); refine wpList_copy_arr (n := p) (off := 0) (gg := x.c) rfl _ _ 22 rfl el22 rfl rfl AM.out HM1.out (fun hpp => ⟨rfl, fun _ => by obtain ⟨b, o, hA, hc⟩ := (R1.out.ext (E6.out.trans E11.out)) (by omega); exact ⟨b, o, hA, fun k hk j hj => hc k (by omega) j hj⟩⟩) (by omega) ?_; intro w12 ha12 hx12 ho12)
  have nGM : lg ≠ lm := by have := DG.out; omega
  have E12 := hid (hx12 w6 E11.out gm1)
  have BG : Hid (Blk w12 lg 26 #[.int .i64 x.hours, .int .i64 x.allow, .int .i64 x.hands, .slice (some ⟨lm, 0, none⟩) (x.cn + 1) (x.cn + 1), .slice D2 x.bn q2, .slice D3 x.sn q3]) := hid ((ho12 lg nGM).trans BG.out)
  have CB := hid (CB.out.same ho12 (by have := DM.out; omega))
  have CS := hid (CS.out.same ho12 (by have := DM.out; omega))
  obtain ⟨f1, hf1⟩ : ∃ f1 : Nat → Int, f1 = fun i => if 0 ≤ i ∧ i < 0 + p * 3 then x.c ((i - 0) / 3) ((i - 0) % 3) else 0 := ⟨_, rfl⟩
  rw [← hf1] at ha12
  have AM := hid ha12
  have HF1 := hid hf1
  clear ha12 hx12 ho12 hf1
  have z0 := AM.out.cell (show p * 3 < (x.cn + 1) * 3 by omega)
  have z1 := AM.out.cell (show p * 3 + 1 < (x.cn + 1) * 3 by omega)
  have z2 := AM.out.cell (show p * 3 + 1 + 1 < (x.cn + 1) * 3 by omega)
  have y0 := AM.out.frozen (show p * 3 < (x.cn + 1) * 3 by omega)
  have y1 := AM.out.frozen (show p * 3 + 1 < (x.cn + 1) * 3 by omega)
  have y2 := AM.out.frozen (show p * 3 + 1 + 1 < (x.cn + 1) * 3 by omega)
  have hlm := AM.out.1
  have kG := BG.out.cell
  have kGl := BG.out.lt
  have k3 := (B3.out.ext E12.out).cell
  have k3l := (B3.out.ext E12.out).lt
  have hpi : (p : Int) < (x.cn : Int) + 1 := by omega
  have hpi2 : (p : Int) < ((x.cn + 1 : Nat) : Int) := by omega
  go_upto_region 12 with fail
  refine wp_later fun w13 hw13 => ?_
  have am := (((AM.out.set_ (p * 3) h (by omega)).set_ (p * 3 + 1) lo (by omega)).set_ (p * 3 + 2) hi (by omega)).ext hw13
  obtain ⟨f2, hf2⟩ : ∃ f2 : Nat → Int, f2 = upd (upd (upd f1 (p * 3) h) (p * 3 + 1) lo) (p * 3 + 2) hi := ⟨_, rfl⟩
  rw [← hf2] at am
  have AM := hid am
  have HF2 := hid hf2
  have E13 := hid ((((E12.out.setCell (.int .i64 h) (p := ⟨lm, p * 3, none⟩) gm1).setCell (.int .i64 lo) (p := ⟨lm, p * 3 + 1, none⟩) gm1).setCell (.int .i64 hi) (p := ⟨lm, p * 3 + 2, none⟩) gm1).trans hw13)
  have BG := hid ((((BG.out.far (p := ⟨lm, p * 3, none⟩) nGM (.int .i64 h)).far (p := ⟨lm, p * 3 + 1, none⟩) nGM (.int .i64 lo)).far (p := ⟨lm, p * 3 + 2, none⟩) nGM (.int .i64 hi)).ext hw13)
  have nB : lm < la ∨ ha ≤ lm := by have := DM.out; omega
  have nS : lm < lb ∨ hb ≤ lm := by have := DM.out; omega
  have CB := hid ((((CB.out.far (p := ⟨lm, p * 3, none⟩) (.int .i64 h) nB).far (p := ⟨lm, p * 3 + 1, none⟩) (.int .i64 lo) nB).far (p := ⟨lm, p * 3 + 2, none⟩) (.int .i64 hi) nB).ext hw13)
  have CS := hid ((((CS.out.far (p := ⟨lm, p * 3, none⟩) (.int .i64 h) nS).far (p := ⟨lm, p * 3 + 1, none⟩) (.int .i64 lo) nS).far (p := ⟨lm, p * 3 + 2, none⟩) (.int .i64 hi) nS).ext hw13)
  clear am hf2 hw13 z0 z1 z2 y0 y1 y2 hlm kG kGl k3 k3l
  have kG := BG.out.cell
  have kGl := BG.out.lt
  have k2 := (B2.out.ext E13.out).cell
  have k2l := (B2.out.ext E13.out).lt
  by_cases c : p < x.cn
  ·have n1 : ¬ x.cn + 1 = p + 1 := by omega
   have n2 : ¬ c1 = p := by omega
   have n3 : ¬ x.cn = p := by omega
   refine wp_region_tail 9 (by kernel_rfl) (by kernel_rfl) ?_
   simp only [List.take_succ_cons, List.take_zero, List.drop_succ_cons, List.drop_zero]
   repeat (go_big_quiet_step (fail))
   refine wpQuiet_nil ?_
   rintro w14 ⟨⟨_, he14⟩, rfl⟩
   have AM := hid (AM.out.ext he14)
   have E14 := hid (E13.out.trans he14)
   have BG := hid (BG.out.ext he14)
   have CB := hid (CB.out.ext he14)
   have CS := hid (CS.out.ext he14)
   clear k2 k2l kG kGl
   go_upto_region 13 with ((with_reducible refine wpList_here ⟨_, .call { callee := .builtin .copy, args := #[_, _], argTypes := #[22, 22] }, _, _, _, _⟩ ?_); refine wpList_copy_arr (n := x.cn - p) (off := (p + 1) * 3) (gg := fun i j => x.c (p + i) j) rfl _ _ 22 rfl el22 rfl rfl AM.out (by simp) (fun _ => ⟨by simp, by have h9 := Rd.from_ (R1.out.ext (E6.out.trans E14.out)) c; simpa using h9⟩) (by omega) ?_; intro w15 ha15 hx15 ho15)
   have E15 := hid (hx15 w6 E14.out gm1)
   have BG : Hid (Blk w15 lg 26 #[.int .i64 x.hours, .int .i64 x.allow, .int .i64 x.hands, .slice (some ⟨lm, 0, none⟩) (x.cn + 1) (x.cn + 1), .slice D2 x.bn q2, .slice D3 x.sn q3]) := hid ((ho15 lg nGM).trans BG.out)
   have CB := hid (CB.out.same ho15 (by have := DM.out; omega))
   have CS := hid (CS.out.same ho15 (by have := DM.out; omega))
   clear hx15 ho15
   have AM := hid ha15
   have HFY := hid (ins_cells (x := x) (p := p) (h := h) (lo := lo) (hi := hi) hp1 (f := fun i => if (p + 1) * 3 ≤ i ∧ i < (p + 1) * 3 + (x.cn - p) * 3 then x.c (p + (i - (p + 1) * 3) / 3) ((i - (p + 1) * 3) % 3) else f2 i)
    (fun a b ha' hb' => by
     show (if _ then _ else _) = _
     rw [if_neg (by omega), HF2.out, upd_other _ _ (by omega), upd_other _ _ (by omega), upd_other _ _ (by omega), HF1.out]
     show (if _ then _ else _) = _
     rw [if_pos (by omega), show (a * 3 + b - 0) / 3 = a by omega, show (a * 3 + b - 0) % 3 = b by omega])
    ⟨by show (if _ then _ else _) = _
        rw [if_neg (by omega), HF2.out, upd_other _ _ (by omega), upd_other _ _ (by omega), upd_same],
     by show (if _ then _ else _) = _
        rw [if_neg (by omega), HF2.out, upd_other _ _ (by omega), upd_same],
     by show (if _ then _ else _) = _
        rw [if_neg (by omega), HF2.out, upd_same]⟩
    (fun a b ha' hb' hc' => by
     show (if _ then _ else _) = _
     rw [if_pos (by omega), show ((a + 1) * 3 + b - (p + 1) * 3) % 3 = b by omega, show p + ((a + 1) * 3 + b - (p + 1) * 3) / 3 = a by omega]))
   have AY : Hid (Clr lm (lm + 1) w15 (some ⟨lm, 0, none⟩) (x.cn + 1) 3 (insC x p h lo hi).c) := hid (.inr ⟨lm, rfl, Nat.le_refl _, Nat.lt_succ_self _, AM.out.congr HFY.out⟩)
   have HIW : Hid (∀ w', Ext w15 w' → IsW w' (.agg #[.int .i64 x.hours, .int .i64 x.allow, .int .i64 x.hands, .slice (some ⟨lm, 0, none⟩) (x.cn + 1) (x.cn + 1), .slice D2 x.bn q2, .slice D3 x.sn q3]) (insC x p h lo hi)) :=
    hid fun w' e => ⟨_, _, D2, q2, D3, q3, rfl, (AY.out.rd (by omega)).ext e, (CB.out.rd (by omega)).ext e, (CS.out.rd (by omega)).ext e⟩
   have v1 : (insC x p h lo hi).cn ≤ 1000 := by show x.cn + 1 ≤ 1000; omega
   have HE := hid (show addE x h lo hi = P.chk (insC x p h lo hi) by rw [← HPP.out]; exact addE_ins HC.out HN.out HB.out)
   have kG := BG.out.cell
   have kGl := BG.out.lt
   have b4' := B4.out.ext E15.out
   have hz4 : w.heap.size + 1 + 1 < w6.heap.size := k4l
   clear AM HFY
   obtain ⟨Y, hY⟩ : ∃ Y, insC x p h lo hi = Y := ⟨_, rfl⟩
   rw [hY] at HIW v1 HE
   have HY := hid hY
   clear hY
   by_cases hcy : P.chk Y = 0
   ·have HCY := hid hcy
    have HW := hid (show addW x h lo hi = Y by rw [addW_ins (by rw [HE.out]; exact hcy), HPP.out, HY.out])
    clear hcy
    go_wp2_with (go_at_call 54; refine (check_any (HIW.out _ (Ext.refl _)) v1 (by rw [← HY.out]; exact h2) (by rw [← HY.out]; exact h3)).mono ?_; rintro e w20 ⟨rfl, he20⟩; rw [HCY.out]; have k4 := (b4'.ext he20).cell; have k4l := (b4'.ext he20).lt; have f4 := (b4'.ext he20).frozen; have kG := (BG.out.ext he20).cell; have kGl := (BG.out.ext he20).lt)
    try rw [Exit.noGoto_ret]
    exact bodyPost_ret (v := .tuple #[.agg #[.int .i64 x.hours, .int .i64 x.allow, .int .i64 x.hands, .slice (some ⟨lm, 0, none⟩) (x.cn + 1) (x.cn + 1), .slice D2 x.bn q2, .slice D3 x.sn q3], .int .i64 0]) (by simp [results, Tryz.results59, go_sem, k4]) rfl ⟨_, by rw [HE.out, HCY.out], ext6b (E6.out.trans (E15.out.trans he20)) (by omega) _ _ _ _ _ _, by
     rw [HW.out, ← HY.out]
     have d1 := DM.out
     have d2 := DB.out
     exact ⟨_, _, D2, q2, D3, q3, lm, la, lb, lm + 1, ha, hb, rfl, (AY.out.ext he20).far6 (by omega) _ _ _ _ _ _, (CB.out.ext he20).far6 (by omega) _ _ _ _ _ _, (CS.out.ext he20).far6 (by omega) _ _ _ _ _ _, by omega, by omega, by omega, by omega, by omega, by omega⟩⟩
   ·have hcy1 : (P.chk Y == 0) = false := by simpa using hcy
    have hcy2 : (P.chk Y != 0) = true := by simpa using hcy
    have HZ := hid (addW_zero (x := x) (h := h) (lo := lo) (hi := hi) (by rw [HE.out]; exact hcy))
    clear hcy
    go_wp2_with (go_at_call 54; refine (check_any (HIW.out _ (Ext.refl _)) v1 (by rw [← HY.out]; exact h2) (by rw [← HY.out]; exact h3)).mono ?_; rintro e w20 ⟨rfl, he20⟩; have k4 := (b4'.ext he20).cell; have k4l := (b4'.ext he20).lt; have f4 := (b4'.ext he20).frozen)
    try rw [Exit.noGoto_ret]
    exact bodyPost_ret (v := .tuple #[.agg #[.int .i64 0, .int .i64 0, .int .i64 0, .slice none 0 0, .slice none 0 0, .slice none 0 0], .int .i64 (P.chk Y)]) (by simp [results, Tryz.results59, go_sem, k4]) rfl ⟨_, by rw [HE.out], ext6b (E6.out.trans (E15.out.trans he20)) (by omega) _ _ _ _ _ _, by rw [HZ.out]; exact outW_zero _ _⟩
  ·have hpe : p = x.cn := by omega
   by_cases hcp : c1 = p
   all_goals
    refine wp_region_tail 9 (by kernel_rfl) (by kernel_rfl) ?_
    simp only [List.take_succ_cons, List.take_zero, List.drop_succ_cons, List.drop_zero]
    repeat (go_big_quiet_step (fail))
    refine wpQuiet_nil ?_
    rintro w14 ⟨⟨_, he14⟩, rfl⟩
    have AM := hid (AM.out.ext he14)
    have E14 := hid (E13.out.trans he14)
    have BG := hid (BG.out.ext he14)
    have CB := hid (CB.out.ext he14)
    have CS := hid (CS.out.ext he14)
    clear k2 k2l kG kGl
    go_upto_region 13 with ((with_reducible refine wpList_here ⟨_, .call { callee := .builtin .copy, args := #[_, _], argTypes := #[22, 22] }, _, _, _, _⟩ ?_); refine wpList_copy_arr (n := x.cn - p) (off := (p + 1) * 3) (gg := fun i j => x.c (p + i) j) rfl _ _ 22 rfl el22 rfl rfl AM.out (by simp [hpe]) (fun q => absurd q (by omega)) (by omega) ?_; intro w15 ha15 hx15 ho15)
    have E15 := hid (hx15 w6 E14.out gm1)
    have BG : Hid (Blk w15 lg 26 #[.int .i64 x.hours, .int .i64 x.allow, .int .i64 x.hands, .slice (some ⟨lm, 0, none⟩) (x.cn + 1) (x.cn + 1), .slice D2 x.bn q2, .slice D3 x.sn q3]) := hid ((ho15 lg nGM).trans BG.out)
    have CB := hid (CB.out.same ho15 (by have := DM.out; omega))
    have CS := hid (CS.out.same ho15 (by have := DM.out; omega))
    clear hx15 ho15
    have AM := hid ha15
    have HFY := hid (ins_cells (x := x) (p := p) (h := h) (lo := lo) (hi := hi) hp1 (f := fun i => if (p + 1) * 3 ≤ i ∧ i < (p + 1) * 3 + (x.cn - p) * 3 then x.c (p + (i - (p + 1) * 3) / 3) ((i - (p + 1) * 3) % 3) else f2 i)
     (fun a b ha' hb' => by
      show (if _ then _ else _) = _
      rw [if_neg (by omega), HF2.out, upd_other _ _ (by omega), upd_other _ _ (by omega), upd_other _ _ (by omega), HF1.out]
      show (if _ then _ else _) = _
      rw [if_pos (by omega), show (a * 3 + b - 0) / 3 = a by omega, show (a * 3 + b - 0) % 3 = b by omega])
     ⟨by show (if _ then _ else _) = _
         rw [if_neg (by omega), HF2.out, upd_other _ _ (by omega), upd_other _ _ (by omega), upd_same],
      by show (if _ then _ else _) = _
         rw [if_neg (by omega), HF2.out, upd_other _ _ (by omega), upd_same],
      by show (if _ then _ else _) = _
         rw [if_neg (by omega), HF2.out, upd_same]⟩
     (fun a b ha' hb' hc' => by
      show (if _ then _ else _) = _
      rw [if_pos (by omega), show ((a + 1) * 3 + b - (p + 1) * 3) % 3 = b by omega, show p + ((a + 1) * 3 + b - (p + 1) * 3) / 3 = a by omega]))
    have AY : Hid (Clr lm (lm + 1) w15 (some ⟨lm, 0, none⟩) (x.cn + 1) 3 (insC x p h lo hi).c) := hid (.inr ⟨lm, rfl, Nat.le_refl _, Nat.lt_succ_self _, AM.out.congr HFY.out⟩)
    have HIW : Hid (∀ w', Ext w15 w' → IsW w' (.agg #[.int .i64 x.hours, .int .i64 x.allow, .int .i64 x.hands, .slice (some ⟨lm, 0, none⟩) (x.cn + 1) (x.cn + 1), .slice D2 x.bn q2, .slice D3 x.sn q3]) (insC x p h lo hi)) :=
     hid fun w' e => ⟨_, _, D2, q2, D3, q3, rfl, (AY.out.rd (by omega)).ext e, (CB.out.rd (by omega)).ext e, (CS.out.rd (by omega)).ext e⟩
    have v1 : (insC x p h lo hi).cn ≤ 1000 := by show x.cn + 1 ≤ 1000; omega
    have HE := hid (show addE x h lo hi = P.chk (insC x p h lo hi) by rw [← HPP.out]; exact addE_ins HC.out HN.out HB.out)
    have kG := BG.out.cell
    have kGl := BG.out.lt
    have b4' := B4.out.ext E15.out
    have hz4 : w.heap.size + 1 + 1 < w6.heap.size := k4l
    clear AM HFY
    obtain ⟨Y, hY⟩ : ∃ Y, insC x p h lo hi = Y := ⟨_, rfl⟩
    rw [hY] at HIW v1 HE
    have HY := hid hY
    clear hY
    by_cases hcy : P.chk Y = 0
    ·have HCY := hid hcy
     have HW := hid (show addW x h lo hi = Y by rw [addW_ins (by rw [HE.out]; exact hcy), HPP.out, HY.out])
     clear hcy
     go_wp2_with (go_at_call 54; refine (check_any (HIW.out _ (Ext.refl _)) v1 (by rw [← HY.out]; exact h2) (by rw [← HY.out]; exact h3)).mono ?_; rintro e w20 ⟨rfl, he20⟩; rw [HCY.out]; have k4 := (b4'.ext he20).cell; have k4l := (b4'.ext he20).lt; have f4 := (b4'.ext he20).frozen; have kG := (BG.out.ext he20).cell; have kGl := (BG.out.ext he20).lt)
     try rw [Exit.noGoto_ret]
     exact bodyPost_ret (v := .tuple #[.agg #[.int .i64 x.hours, .int .i64 x.allow, .int .i64 x.hands, .slice (some ⟨lm, 0, none⟩) (x.cn + 1) (x.cn + 1), .slice D2 x.bn q2, .slice D3 x.sn q3], .int .i64 0]) (by simp [results, Tryz.results59, go_sem, k4]) rfl ⟨_, by rw [HE.out, HCY.out], ext6b (E6.out.trans (E15.out.trans he20)) (by omega) _ _ _ _ _ _, by
      rw [HW.out, ← HY.out]
      have d1 := DM.out
      have d2 := DB.out
      exact ⟨_, _, D2, q2, D3, q3, lm, la, lb, lm + 1, ha, hb, rfl, (AY.out.ext he20).far6 (by omega) _ _ _ _ _ _, (CB.out.ext he20).far6 (by omega) _ _ _ _ _ _, (CS.out.ext he20).far6 (by omega) _ _ _ _ _ _, by omega, by omega, by omega, by omega, by omega, by omega⟩⟩
    ·have hcy1 : (P.chk Y == 0) = false := by simpa using hcy
     have hcy2 : (P.chk Y != 0) = true := by simpa using hcy
     have HZ := hid (addW_zero (x := x) (h := h) (lo := lo) (hi := hi) (by rw [HE.out]; exact hcy))
     clear hcy
     go_wp2_with (go_at_call 54; refine (check_any (HIW.out _ (Ext.refl _)) v1 (by rw [← HY.out]; exact h2) (by rw [← HY.out]; exact h3)).mono ?_; rintro e w20 ⟨rfl, he20⟩; have k4 := (b4'.ext he20).cell; have k4l := (b4'.ext he20).lt; have f4 := (b4'.ext he20).frozen)
     try rw [Exit.noGoto_ret]
     exact bodyPost_ret (v := .tuple #[.agg #[.int .i64 0, .int .i64 0, .int .i64 0, .slice none 0 0, .slice none 0 0, .slice none 0 0], .int .i64 (P.chk Y)]) (by simp [results, Tryz.results59, go_sem, k4]) rfl ⟨_, by rw [HE.out], ext6b (E6.out.trans (E15.out.trans he20)) (by omega) _ _ _ _ _ _, by rw [HZ.out]; exact outW_zero _ _⟩
 ·have HE := hid (addE_has (h := h) (lo := lo) (hi := hi) HC.out HN.out hb)
  have HZ := hid (addW_zero (x := x) (h := h) (lo := lo) (hi := hi) (by rw [HE.out]; decide))
  clear hb
  have k4 := B4.out.cell
  have f4 := B4.out.frozen
  go_wp2_with fail
  try rw [Exit.noGoto_ret]
  exact bodyPost_ret (v := .tuple #[.agg #[.int .i64 0, .int .i64 0, .int .i64 0, .slice none 0 0, .slice none 0 0, .slice none 0 0], .int .i64 5]) (by simp [results, Tryz.results59, go_sem, k4]) rfl ⟨_, by rw [HE.out], ext6b E6.out (by omega) _ _ _ _ _ _, by rw [HZ.out]; exact outW_zero _ _⟩
end Go.Proofs.YtkhjmedfhobebaaGreat
namespace Go.Proofs.YtkhjmedfhobebaaGreat
open Go.RowKit HandSpec
set_option maxRecDepth 100000
/-- 'clear' of a slice that lies in a block of its own. -/
theorem wpList_clear_clr {P : Program} {w : World} {ops : Array Oper} {rest : List Oper} {o : Oper} {a : Act} {Q : Exit → Act → World → Prop} (hgd : o.guard = none) (x : Operand) (T : TypeId)
  (ho : o.op = .call { callee := .builtin .clear, args := #[x], argTypes := #[T] }) {e : TypeId} {c bytes : Nat} (hE : ElemOk P T e c bytes) {z : Value} (hz : ∀ w, (zeroValue e).run P w = .ok z w) (hzc : z.cells = Array.replicate c (.int .i64 0))
  {lo hi n cap : Nat} {D : Option Addr} {g : Nat → Nat → Int} (hx : a.eval x = .slice D n cap) (hc : Clr lo hi w D n c g) {w1 : World} (hd : Clr lo hi w1 D n c g)
  (hk : ∀ w', (∀ w0, Ext w0 w → w0.heap.size ≤ lo → Ext w0 w') → (∀ b, b < lo ∨ hi ≤ b ∨ w1.heap.size ≤ b → w'.heap[b]? = w.heap[b]?) → wpList P ops Q rest (a.put o.dst (.tuple #[])) w') :
  wpList P ops Q (o :: rest) a w := by
 refine wpList_plain hgd fun K hK => ?_
 have fin : ∀ w', (Builtin.clear_ #[T] o.type #[.slice D n cap]).run P w = .ok (.tuple #[]) w' → K (a.put o.dst (.tuple #[])) w' → Oper.wp P o a w K Q := by
  intro w' hrun hw
  unfold Oper.wp
  simp [execOp, ho, resolve, invoke, builtin, hx, hrun, Result.andThen]
  exact hw
 rcases hc with ⟨rfl, rfl⟩ | ⟨b, rfl, hlo, hhi, ha⟩
 ·exact fin w (by simp [Builtin.clear_, run_underlying hE.u]) (hK _ _ (hk w (fun _ h _ => h) fun _ _ => rfl))
 ·have hbw : b < w1.heap.size := by
   rcases hd with ⟨h, _⟩ | ⟨b', h, _, _, h4⟩
   ·cases h
   ·simp only [Option.some.injEq, Addr.mk.injEq, and_true] at h
    subst h; exact h4.1
  rcases Nat.eq_zero_or_pos n with h0 | h0
  ·subst h0
   exact fin w (by simp [Builtin.clear_, run_underlying hE.u]) (hK _ _ (hk w (fun _ h _ => h) fun _ _ => rfl))
  ·obtain ⟨m, rfl⟩ : ∃ m, n = m + 1 := ⟨n - 1, by omega⟩
   have hlen : (Builtin.zeroCells z.cells (m + 1)).toList.length = (m + 1) * c := by simp [Builtin.zeroCells, hzc]
   have hall : ∀ v ∈ (Builtin.zeroCells z.cells (m + 1)).toList, v = .int .i64 0 := by
    intro v hv
    simp [Builtin.zeroCells, hzc] at hv
    obtain ⟨i, hi, rfl⟩ := hv
    have h0c : i % c < c := Nat.mod_lt _ hE.c0
    simp [h0c]
   have hst := run_storeCells_cells (P := P) b 0 (Builtin.zeroCells z.cells (m + 1)).toList 0 w (by intro j hj; rw [ha.cell (by omega)]; rfl) (by intro j hj; exact ha.frozen (by omega)) (by intro v hv; rw [hall v hv]; rfl)
   simp only [Nat.add_zero] at hst
   refine fin (w.setCells b 0 (Builtin.zeroCells z.cells (m + 1)).toList) (by simp [Builtin.clear_, run_underlying hE.u, hz, hst]) (hK _ _ (hk _ (fun w0 q0 hg => ?_) fun k hk' => heap_cells b (by omega) _ _ _))
   exact below_setCells (show w0.heap.size ≤ b by omega) _ _ _ q0
theorem Clr.sameR {lo hi l h N : Nat} {w w' : World} {D : Option Addr} {n c : Nat} {g : Nat → Nat → Int} (q : Clr l h w D n c g) (e : ∀ b, b < lo ∨ hi ≤ b ∨ N ≤ b → w'.heap[b]? = w.heap[b]?) (hd : hi ≤ l ∨ h ≤ lo) : Clr l h w' D n c g := by
 rcases q with q | ⟨b, h1, h2, h3, h4⟩
 ·exact .inl q
 ·exact .inr ⟨b, h1, h2, h3, Arr.same h4 (e b (by omega))⟩
/-- A slice in a watch has room for its counts. -/
def CapR (n : Nat) (v : Value) : Prop := ∀ a b c A q s t, v = .agg #[a, b, c, .slice A n q, s, t] → n ≤ q
theorem CapR.of {lo : Nat} {w : World} {v : Value} {x : WD} (h : IsWF lo w v x) : CapR x.cn v := by
 obtain ⟨A1, c1, A2, c2, A3, c3, rfl, -, -, -, -, -, -, hc⟩ := h
 intro a b c A q s t e
 simp only [Value.agg.injEq, Array.mk.injEq, List.cons.injEq, Value.slice.injEq, true_and] at e
 omega
def WIR (x : WD) : MSpec := fun v lo hi w => IsWI lo hi w v x ∧ CapR x.cn v
theorem WIR.ext {x : WD} {v : Value} {lo hi : Nat} {w w' : World} (h : WIR x v lo hi w) (e : Ext w w') : WIR x v lo hi w' := ⟨h.1.ext e, h.2⟩
theorem IsWR.of {x : WD} {w : World} {A1 A2 A3 : Option Addr} {c1 c2 c3 : Nat} (h : IsW w (.agg #[.int .i64 x.hours, .int .i64 x.allow, .int .i64 x.hands, .slice A1 x.cn c1, .slice A2 x.bn c2, .slice A3 x.sn c3]) x) (hc : x.cn ≤ c1) :
  IsWR w (.agg #[.int .i64 x.hours, .int .i64 x.allow, .int .i64 x.hands, .slice A1 x.cn c1, .slice A2 x.bn c2, .slice A3 x.sn c3]) x := by
 obtain ⟨B1, d1, B2, d2, B3, d3, e, h1, h2, h3⟩ := h
 simp only [Value.agg.injEq, Array.mk.injEq, List.cons.injEq, Value.slice.injEq, true_and, and_true] at e
 obtain ⟨⟨rfl, rfl⟩, ⟨rfl, rfl⟩, ⟨rfl, rfl⟩⟩ := e
 exact ⟨_, _, _, _, _, _, rfl, h1, h2, h3, hc⟩
def Box6R (t : TypeId) (W : World) (g : Nat) (x : WD) : Prop :=
 ∃ A1 c1 A2 c2 A3 c3, Blk W g t #[.int .i64 x.hours, .int .i64 x.allow, .int .i64 x.hands, .slice A1 x.cn c1, .slice A2 x.bn c2, .slice A3 x.sn c3] ∧ IsW W (.agg #[.int .i64 x.hours, .int .i64 x.allow, .int .i64 x.hands, .slice A1 x.cn c1, .slice A2 x.bn c2, .slice A3 x.sn c3]) x ∧ x.cn ≤ c1
theorem boxesR {x : WD} {w1 W : World} {la ha lb hb G H : Nat} {A1 A2 A3 D1 D2 D3 : Option Addr} {q1 q2 q3 p1 p2 p3 : Nat} {z0 z1 z2 z3 z4 z5 y0 y1 y2 y3 y4 y5 : Value} (e1 : Ext w1 W)
  (va : IsWI la ha W (.agg #[.int .i64 x.hours, .int .i64 x.allow, .int .i64 x.hands, .slice A1 x.cn q1, .slice A2 x.bn q2, .slice A3 x.sn q3]) x) (hc : x.cn ≤ q1) (vb : IsWI lb hb W (.agg #[.int .i64 x.hours, .int .i64 x.allow, .int .i64 x.hands, .slice D1 x.cn p1, .slice D2 x.bn p2, .slice D3 x.sn p3]) x)
  (sa : ha ≤ W.heap.size) (sb : hb ≤ W.heap.size) (hG : Blk W G 26 #[z0, z1, z2, z3, z4, z5]) (hH : Blk W H 34 #[y0, y1, y2, y3, y4, y5]) (hn : G ≠ H) (hG1 : w1.heap.size ≤ G) (hH1 : w1.heap.size ≤ H)
  (maG : ha ≤ G ∨ G < la) (maH : ha ≤ H ∨ H < la) (mbG : hb ≤ G ∨ G < lb) (mbH : hb ≤ H ∨ H < lb) :
  Boxes x w1 G H (fun b => b = G ∨ b = H) W ((((((((((((W.setCell ⟨G, 0, none⟩ (.int .i64 x.hours)).setCell ⟨G, 1, none⟩ (.int .i64 x.allow)).setCell ⟨G, 2, none⟩ (.int .i64 x.hands)).setCell ⟨G, 3, none⟩ (.slice A1 x.cn q1)).setCell ⟨G, 4, none⟩ (.slice A2 x.bn q2)).setCell ⟨G, 5, none⟩ (.slice A3 x.sn q3)).setCell ⟨H, 0, none⟩ (.int .i64 x.hours)).setCell ⟨H, 1, none⟩ (.int .i64 x.allow)).setCell ⟨H, 2, none⟩ (.int .i64 x.hands)).setCell ⟨H, 3, none⟩ (.slice D1 x.cn p1)).setCell ⟨H, 4, none⟩ (.slice D2 x.bn p2)).setCell ⟨H, 5, none⟩ (.slice D3 x.sn p3)) ∧
  Box6R 26 ((((((((((((W.setCell ⟨G, 0, none⟩ (.int .i64 x.hours)).setCell ⟨G, 1, none⟩ (.int .i64 x.allow)).setCell ⟨G, 2, none⟩ (.int .i64 x.hands)).setCell ⟨G, 3, none⟩ (.slice A1 x.cn q1)).setCell ⟨G, 4, none⟩ (.slice A2 x.bn q2)).setCell ⟨G, 5, none⟩ (.slice A3 x.sn q3)).setCell ⟨H, 0, none⟩ (.int .i64 x.hours)).setCell ⟨H, 1, none⟩ (.int .i64 x.allow)).setCell ⟨H, 2, none⟩ (.int .i64 x.hands)).setCell ⟨H, 3, none⟩ (.slice D1 x.cn p1)).setCell ⟨H, 4, none⟩ (.slice D2 x.bn p2)).setCell ⟨H, 5, none⟩ (.slice D3 x.sn p3)) G x := by
 obtain ⟨k1, k2⟩ := blk12 hG hH hn (.int .i64 x.hours) (.int .i64 x.allow) (.int .i64 x.hands) (.slice A1 x.cn q1) (.slice A2 x.bn q2) (.slice A3 x.sn q3) (.int .i64 x.hours) (.int .i64 x.allow) (.int .i64 x.hands) (.slice D1 x.cn p1) (.slice D2 x.bn p2) (.slice D3 x.sn p3)
 have hk := set12 (n := W.heap.size) (G := G) (H := H) W (.int .i64 x.hours) (.int .i64 x.allow) (.int .i64 x.hands) (.slice A1 x.cn q1) (.slice A2 x.bn q2) (.slice A3 x.sn q3) (.int .i64 x.hours) (.int .i64 x.allow) (.int .i64 x.hands) (.slice D1 x.cn p1) (.slice D2 x.bn p2) (.slice D3 x.sn p3)
 refine ⟨boxes e1 va vb sa sb hG hH hn hG1 hH1 maG maH mbG mbH, _, _, _, _, _, _, k1, ?_, hc⟩
 exact (va.kpm hk sa (by rintro b h1 h2 (rfl | rfl) <;> omega)).isW
/-- A count, and a stretch, as data. -/
theorem open79 {H : Type} {enc : TypeId × Value → H} {w : World} {base : Nat} {spare : Nat → Bool} {held : Bool} {r : Reach} {b0 : Nat} {v : Value} {d : DataW H} {p : List MemPlace} (hv : Value.okWide Tryz.prog w r b0 79 v) (h : DataW.Trod enc Tryz.prog w base spare held 79 v d p) : ∃ a b c : Int, v = .agg #[.int .i64 a, .int .i64 b, .int .i64 c] := by
 obtain ⟨⟨l⟩, rfl, hsz⟩ := Go.WideShapes.okWide_struct Tryz.underlying79 hv
 rw [cells79] at hsz
 match l, hsz with
 | [c0, c1, c2], _ =>
  obtain ⟨fuel, hf⟩ := h
  have hi := (ints79 hf).2
  obtain ⟨a, e0⟩ := hi 0 (by omega)
  obtain ⟨b, e1⟩ := hi 1 (by omega)
  obtain ⟨c, e2⟩ := hi 2 (by omega)
  simp [Value.cells] at e0 e1 e2
  subst e0 e1 e2
  exact ⟨a, b, c, rfl⟩
theorem open51 {H : Type} {enc : TypeId × Value → H} {w : World} {base : Nat} {spare : Nat → Bool} {held : Bool} {r : Reach} {b0 : Nat} {v : Value} {d : DataW H} {p : List MemPlace} (hv : Value.okWide Tryz.prog w r b0 51 v) (h : DataW.Trod enc Tryz.prog w base spare held 51 v d p) : ∃ a b : Int, v = .agg #[.int .i64 a, .int .i64 b] := by
 obtain ⟨⟨l⟩, rfl, hsz⟩ := Go.WideShapes.okWide_struct Tryz.underlying51 hv
 rw [cells51] at hsz
 match l, hsz with
 | [c0, c1], _ =>
  obtain ⟨fuel, hf⟩ := h
  have hi := (ints51 hf).2
  obtain ⟨a, e0⟩ := hi 0 (by omega)
  obtain ⟨b, e1⟩ := hi 1 (by omega)
  simp [Value.cells] at e0 e1
  subst e0 e1
  exact ⟨a, b, rfl⟩
end Go.Proofs.YtkhjmedfhobebaaGreat
