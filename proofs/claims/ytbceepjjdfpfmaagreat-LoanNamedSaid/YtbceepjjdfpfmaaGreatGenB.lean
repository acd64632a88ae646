/- Words for loops over arrays; walks of clones. No condition. -/
import Derived.Test.YtbceepjjdfpfmaaGreatBaseC
import Derived.Test.YtbceepjjdfpfmaaGreatGenA
namespace Go
open Go.RowKit
/-- The rows of a slice that can be read. -/
def rowsG (c m : Nat) (g : Nat → Nat → Int) : List (List Int) := (List.range m).map fun k => (List.range c).map fun j => g k j
theorem rowsG_length (c m : Nat) (g : Nat → Nat → Int) : (rowsG c m g).length = m := by simp [rowsG]
theorem rowsG_row {c m : Nat} {g : Nat → Nat → Int} : ∀ q ∈ rowsG c m g, q.length = c := by
 intro q hq
 simp only [rowsG, List.mem_map] at hq
 obtain ⟨k, _, rfl⟩ := hq
 simp
theorem rowsG_at {c m : Nat} {g : Nat → Nat → Int} {k j : Nat} (hk : k < m) (hj : j < c) : rowsAt (rowsG c m g) k j = g k j := by
 simp [rowsAt, rowsG, hk, hj]
theorem cellsOf_rowsG {c m : Nat} {g : Nat → Nat → Int} {i : Nat} {u : Value} (h : (cellsOf (rowsG c m g))[i]? = some u) : ∃ k j, k < m ∧ j < c ∧ i = k * c + j ∧ u = .int .i64 (g k j) := by
 have hlen := cellsOf_length (rowsG_row (c := c) (m := m) (g := g))
 rw [rowsG_length] at hlen
 have hi : i < m * c := by
  rcases Nat.lt_or_ge i (m * c) with h' | h'
  ·exact h'
  ·rw [List.getElem?_eq_none (by omega)] at h; cases h
 have hc : 0 < c := by
  rcases Nat.eq_zero_or_pos c with h' | h'
  ·subst h'; omega
  ·exact h'
 refine ⟨i / c, i % c, Nat.div_lt_of_lt_mul (by rw [Nat.mul_comm]; exact hi), Nat.mod_lt _ hc, by rw [Nat.mul_comm]; exact (Nat.div_add_mod i c).symm, ?_⟩
 have hk : i / c < m := Nat.div_lt_of_lt_mul (by rw [Nat.mul_comm]; exact hi)
 have := cellsOf_get (rowsG_row (c := c) (m := m) (g := g)) (k := i / c) (j := i % c) (by rw [rowsG_length]; exact hk) (Nat.mod_lt _ hc)
 rw [show i / c * c + i % c = i from by rw [Nat.mul_comm]; exact Nat.div_add_mod i c, h] at this
 injection this with this
 rw [this]
 exact congrArg (Value.int .i64) (rowsG_at hk (Nat.mod_lt _ hc))
theorem addr_add (b o i : Nat) : (⟨b, o, none⟩ : Addr).add i = ⟨b, o + i, none⟩ := by
 unfold Addr.add
 by_cases h : i = 0 <;> simp [h]
section
variable {P : Program} {w : World}
theorem run_append_nothing (base : Nat) (t ty e : TypeId) (i : TypeInfo) (size : Nat) (ht : P.underlying t = some (.slice e)) (hi : P.info? e = some i)
  (v : Value) (n : Nat) (xs : List Value) (hown : w.ownsRow base e size v n xs) (c : Nat) : (Builtin.append_ #[t, t] ty #[v, .slice none 0 c]).run P w = .ok v w := by
 rcases hown.2 with ⟨rfl, rfl⟩ | ⟨g, cap, cur, rfl, _, _, hnc, _⟩
 ·simp [Builtin.append_, run_underlying ht, sizeOf, typeInfo, hi, Builtin.lenOf, Builtin.firstCells]
 ·simp [Builtin.append_, run_underlying ht, sizeOf, typeInfo, hi, Builtin.lenOf, Builtin.firstCells, hnc, storeCells]
/-- append of a slice that can be read to an own one. -/
theorem wpList_append_rd {ops : Array Oper} {rest : List Oper} {o : Oper} {a : Act} {Q : Exit → Act → World → Prop} (hgd : o.guard = none) (s x : Operand) (T : TypeId)
  (ho : o.op = .call { callee := .builtin .append, args := #[s, x], argTypes := #[T, T] }) {e : TypeId} {c bytes : Nat} (hE : ElemOk P T e c bytes)
  {B : Nat} {v : Value} {l : List (List Int)} (hs : a.eval s = v) (hown : OwnR w B e c v l) {A : Option Addr} {m cap : Nat} {g : Nat → Nat → Int} (hx : a.eval x = .slice A m cap) (hr : Rd w A m c g)
  (hlen : l.length + m ≤ 1000000) (hB : B ≤ w.heap.size)
  (h : ∀ v' w', OwnR w' B e c v' (l ++ rowsG c m g) → w.grownBy w' v.ownBlock → wpList P ops Q rest (a.put o.dst v') w') :
  wpList P ops Q (o :: rest) a w := by
 obtain ⟨i, z, hi, hz, h1, h2, h3⟩ := hE.i
 have hb0 := hE.b
 have fin : ∀ ad : Addr, A = some ad → (∀ j u, (cellsOf (rowsG c m g))[j]? = some u → w.cell? (ad.add j) = some u) → wpList P ops Q (o :: rest) a w := by
  rintro ad rfl hc
  refine wpList_append_own w hgd s x T ho B e i z c bytes hE.u hi hz h1 h2 h3 hE.c0 v l.length (cellsOf l) hs hown.2 ad m cap (cellsOf (rowsG c m g)) hx (by rw [cellsOf_length rowsG_row, rowsG_length]) hc cellsOf_one ?_ ?_ hB ?_
  ·unfold maxLen; omega
  ·have := Nat.mul_le_mul hlen hb0; omega
  ·intro v' w' hown' hg _
   exact h v' w' ⟨fun q hq => (List.mem_append.1 hq).elim (hown.1 q) (rowsG_row q), by rw [List.length_append, rowsG_length, cellsOf_append]; exact hown'⟩ hg
 rcases Nat.eq_zero_or_pos m with h0 | h0
 ·subst h0
  cases A with
  | some ad => exact fin ad rfl (fun j u hu => by simp [rowsG, cellsOf] at hu)
  | none =>
   refine wpList_plain hgd fun K hK => ?_
   have hrun := run_append_nothing (P := P) (w := w) B T o.type e i c hE.u hi v l.length (cellsOf l) hown.2 cap
   have := h v w (by simpa [rowsG] using hown) (World.grownBy.refl w _)
   unfold Oper.wp
   simp [execOp, ho, resolve, invoke, builtin, hs, hx, hrun, Result.andThen]
   exact hK _ _ this
 ·obtain ⟨b, off, hA, hc⟩ := hr h0
  refine fin _ hA fun j u hu => ?_
  obtain ⟨k, q, hk, hq, rfl, rfl⟩ := cellsOf_rowsG hu
  rw [addr_add, ← Nat.add_assoc]
  exact hc k hk q hq
end
end Go
namespace Go.Proofs.YtbceepjjdfpfmaaGreat
open Go.RowKit HandSpec
set_option maxHeartbeats 400000
set_option maxRecDepth 100000
def neB (c : Nat) (g h : Nat → Nat → Int) (k : Nat) : Bool := anyTo (fun j => decide (g k j ≠ h k j)) c
/-- Two lists of rows are the same. -/
def eqB (c n m : Nat) (g h : Nat → Nat → Int) : Bool := decide (n = m) && !anyTo (neB c g h) n

theorem el72 : ElemOk Tryz.prog 72 76 2 16 := ⟨Tryz.underlying72, by
 obtain ⟨i, hi, h1, h2, h3⟩ := info_parts (show (Tryz.prog.info? 76).map (fun i => (i.zero, i.size, i.bytes)) = some (some (.agg #[.int .i64 0, .int .i64 0]), 2, 16) by kernel_rfl)
 exact ⟨i, _, hi, h1, h2, h3, rfl⟩, by omega, by omega⟩

theorem el22 : ElemOk Tryz.prog 22 3 1 8 := ⟨Tryz.underlying22, by
 obtain ⟨i, hi, h1, h2, h3⟩ := info_parts (show (Tryz.prog.info? 3).map (fun i => (i.zero, i.size, i.bytes)) = some (some (.int .i64 0), 1, 8) by kernel_rfl)
 exact ⟨i, _, hi, h1, h2, h3, rfl⟩, by omega, by omega⟩

theorem el23 : ElemOk Tryz.prog 23 68 3 24 := ⟨Tryz.underlying23, by
 obtain ⟨i, hi, h1, h2, h3⟩ := info_parts (show (Tryz.prog.info? 68).map (fun i => (i.zero, i.size, i.bytes)) = some (some (.agg #[.int .i64 0, .int .i64 0, .int .i64 0]), 3, 24) by kernel_rfl)
 exact ⟨i, _, hi, h1, h2, h3, rfl⟩, by omega, by omega⟩

theorem el24 : ElemOk Tryz.prog 24 71 3 24 := ⟨Tryz.underlying24, by
 obtain ⟨i, hi, h1, h2, h3⟩ := info_parts (show (Tryz.prog.info? 71).map (fun i => (i.zero, i.size, i.bytes)) = some (some (.agg #[.int .i64 0, .int .i64 0, .int .i64 0]), 3, 24) by kernel_rfl)
 exact ⟨i, _, hi, h1, h2, h3, rfl⟩, by omega, by omega⟩

theorem clone184 {w : World} {A : Option Addr} {n cap : Nat} {g : Nat → Nat → Int} (hr : Rd w A n 3 g) (hn : n ≤ 1000) :
  Calls Tryz.prog 184 #[.slice A n cap] w fun e w' => ∃ u, e = .returned u ∧ Ext w w' ∧ OwnR w' w.heap.size 71 3 u (rowsG 3 n g) := by
 cases A with
 | none =>
  obtain rfl : n = 0 := by rcases hr.wf with h | ⟨b, o, h⟩ <;> first | exact h | cases h
  have hnil := fun (w : World) => Lib.run_eql_slice_nil (P := Tryz.prog) w 24 71 none 0 cap 0 0 Tryz.underlying24
  clear hr
  go_enter Tryz.func184, Tryz.ntmps184
  go_wp2
  go_ret
  exact ⟨_, rfl, Ext.refl _, by simpa [rowsG] using OwnR.nil⟩
 | some ad =>
  have hnil := fun (w : World) => Lib.run_eql_slice_nil (P := Tryz.prog) w 24 71 (some ad) n cap 0 0 Tryz.underlying24
  go_enter Tryz.func184, Tryz.ntmps184
  go_wp2_with (at_builtin; refine wpList_append_rd rfl _ _ 24 rfl el24 rfl (OwnR.made (B := w.heap.size) (c := 3) [] (by simp) rfl (n := 0) rfl (Nat.le_refl _) (by omega)) rfl (hr.ext ((Ext.refl _).alloc _)) (by simp; omega) (by simp) ?_; intro v' w2 hown2 hg2)
  go_ret
  have hg2 : World.grownBy _ w2 (some w.heap.size) := hg2
  exact ⟨_, rfl, ((Ext.refl _).alloc _).grown hg2 (fun k hk => by cases hk; omega), by simpa using hown2⟩

theorem clone181 {w : World} {A : Option Addr} {n cap : Nat} {g : Nat → Nat → Int} (hr : Rd w A n 1 g) (hn : n ≤ 1000) :
  Calls Tryz.prog 181 #[.slice A n cap] w fun e w' => ∃ u, e = .returned u ∧ Ext w w' ∧ OwnR w' w.heap.size 3 1 u (rowsG 1 n g) := by
 cases A with
 | none =>
  obtain rfl : n = 0 := by rcases hr.wf with h | ⟨b, o, h⟩ <;> first | exact h | cases h
  have hnil := fun (w : World) => Lib.run_eql_slice_nil (P := Tryz.prog) w 22 3 none 0 cap 0 0 Tryz.underlying22
  clear hr
  go_enter Tryz.func181, Tryz.ntmps181
  go_wp2
  go_ret
  exact ⟨_, rfl, Ext.refl _, by simpa [rowsG] using OwnR.nil⟩
 | some ad =>
  have hnil := fun (w : World) => Lib.run_eql_slice_nil (P := Tryz.prog) w 22 3 (some ad) n cap 0 0 Tryz.underlying22
  go_enter Tryz.func181, Tryz.ntmps181
  go_wp2_with (at_builtin; refine wpList_append_rd rfl _ _ 22 rfl el22 rfl (OwnR.made (B := w.heap.size) (c := 1) [] (by simp) rfl (n := 0) rfl (Nat.le_refl _) (by omega)) rfl (hr.ext ((Ext.refl _).alloc _)) (by simp; omega) (by simp) ?_; intro v' w2 hown2 hg2)
  go_ret
  have hg2 : World.grownBy _ w2 (some w.heap.size) := hg2
  exact ⟨_, rfl, ((Ext.refl _).alloc _).grown hg2 (fun k hk => by cases hk; omega), by simpa using hown2⟩

theorem dup66 {w : World} {A : Option Addr} {n cap : Nat} {g : Nat → Nat → Int} (hr : Rd w A n 1 g) (hn : n ≤ 1000) :
  Calls Tryz.prog 66 #[.slice A n cap] w fun e w' => ∃ u, e = .returned u ∧ Ext w w' ∧ OwnR w' w.heap.size 3 1 u (rowsG 1 n g) := by
 obtain ⟨i, z, hi, hz, h1, h2, h3⟩ := el22.i
 go_enter Tryz.func66, Tryz.ntmps66
 go_wp2_with (first
  | (at_make; refine wpList_make_own _ rfl _ _ 22 rfl w.heap.size 3 i z 1 Tryz.underlying22 hi hz h1 .i64 .i64 _ n rfl rfl rfl (by rw [h2]; omega) (by unfold maxLen; omega) (Nat.le_refl _) ?_; intro w1 hown1 hg1)
  | (at_builtin; refine wpList_append_rd rfl _ _ 22 rfl el22 rfl (⟨by simp, hown1⟩ : OwnR w1 w.heap.size 3 1 (.slice (some ⟨w.heap.size, 0, none⟩) 0 n) []) rfl (hr.ext ((Ext.refl _).grown hg1 (fun k hk => by cases hk))) (by simp; omega) hg1.size ?_; intro v' w2 hown2 hg2))
 go_ret
 have hg2 : World.grownBy _ w2 (some w.heap.size) := hg2
 exact ⟨_, rfl, ((Ext.refl _).grown hg1 (fun k hk => by cases hk)).grown hg2 (fun k hk => by cases hk; omega), by simpa using hown2⟩

theorem dup92 {w : World} {A : Option Addr} {n cap : Nat} {g : Nat → Nat → Int} (hr : Rd w A n 3 g) (hn : n ≤ 1000) :
  Calls Tryz.prog 92 #[.slice A n cap] w fun e w' => ∃ u, e = .returned u ∧ Ext w w' ∧ OwnR w' w.heap.size 68 3 u (rowsG 3 n g) := by
 obtain ⟨i, z, hi, hz, h1, h2, h3⟩ := el23.i
 go_enter Tryz.func92, Tryz.ntmps92
 go_wp2_with (first
  | (at_make; refine wpList_make_own _ rfl _ _ 23 rfl w.heap.size 68 i z 3 Tryz.underlying23 hi hz h1 .i64 .i64 _ n rfl rfl rfl (by rw [h2]; omega) (by unfold maxLen; omega) (Nat.le_refl _) ?_; intro w1 hown1 hg1)
  | (at_builtin; refine wpList_append_rd rfl _ _ 23 rfl el23 rfl (⟨by simp, hown1⟩ : OwnR w1 w.heap.size 68 3 (.slice (some ⟨w.heap.size, 0, none⟩) 0 n) []) rfl (hr.ext ((Ext.refl _).grown hg1 (fun k hk => by cases hk))) (by simp; omega) hg1.size ?_; intro v' w2 hown2 hg2))
 go_ret
 have hg2 : World.grownBy _ w2 (some w.heap.size) := hg2
 exact ⟨_, rfl, ((Ext.refl _).grown hg1 (fun k hk => by cases hk)).grown hg2 (fun k hk => by cases hk; omega), by simpa using hown2⟩

theorem dup93 {w : World} {A : Option Addr} {n cap : Nat} {g : Nat → Nat → Int} (hr : Rd w A n 3 g) (hn : n ≤ 1000) :
  Calls Tryz.prog 93 #[.slice A n cap] w fun e w' => ∃ u, e = .returned u ∧ Ext w w' ∧ OwnR w' w.heap.size 71 3 u (rowsG 3 n g) := by
 obtain ⟨i, z, hi, hz, h1, h2, h3⟩ := el24.i
 go_enter Tryz.func93, Tryz.ntmps93
 go_wp2_with (first
  | (at_make; refine wpList_make_own _ rfl _ _ 24 rfl w.heap.size 71 i z 3 Tryz.underlying24 hi hz h1 .i64 .i64 _ n rfl rfl rfl (by rw [h2]; omega) (by unfold maxLen; omega) (Nat.le_refl _) ?_; intro w1 hown1 hg1)
  | (at_builtin; refine wpList_append_rd rfl _ _ 24 rfl el24 rfl (⟨by simp, hown1⟩ : OwnR w1 w.heap.size 71 3 (.slice (some ⟨w.heap.size, 0, none⟩) 0 n) []) rfl (hr.ext ((Ext.refl _).grown hg1 (fun k hk => by cases hk))) (by simp; omega) hg1.size ?_; intro v' w2 hown2 hg2))
 go_ret
 have hg2 : World.grownBy _ w2 (some w.heap.size) := hg2
 exact ⟨_, rfl, ((Ext.refl _).grown hg1 (fun k hk => by cases hk)).grown hg2 (fun k hk => by cases hk; omega), by simpa using hown2⟩

end Go.Proofs.YtbceepjjdfpfmaaGreat
namespace Go.Proofs.YtbceepjjdfpfmaaGreat
open Go.RowKit HandSpec
set_option maxHeartbeats 800000
set_option maxRecDepth 100000
theorem el25 : ElemOk Tryz.prog 25 64 3 24 := ⟨Tryz.underlying25, by
 obtain ⟨i, hi, h1, h2, h3⟩ := info_parts (show (Tryz.prog.info? 64).map (fun i => (i.zero, i.size, i.bytes)) = some (some (.agg #[.int .i64 0, .int .i64 0, .int .i64 0]), 3, 24) by kernel_rfl)
 exact ⟨i, _, hi, h1, h2, h3, rfl⟩, by omega, by omega⟩
theorem clone185 {w : World} {A : Option Addr} {n cap : Nat} {g : Nat → Nat → Int} (hr : Rd w A n 3 g) (hn : n ≤ 1000) :
  Calls Tryz.prog 185 #[.slice A n cap] w fun e w' => ∃ u, e = .returned u ∧ Ext w w' ∧ OwnR w' w.heap.size 64 3 u (rowsG 3 n g) := by
 cases A with
 | none =>
  obtain rfl : n = 0 := by rcases hr.wf with h | ⟨b, o, h⟩ <;> first | exact h | cases h
  have hnil := fun (w : World) => Lib.run_eql_slice_nil (P := Tryz.prog) w 25 64 none 0 cap 0 0 Tryz.underlying25
  clear hr
  go_enter Tryz.func185, Tryz.ntmps185
  go_wp2
  go_ret
  exact ⟨_, rfl, Ext.refl _, by simpa [rowsG] using OwnR.nil⟩
 | some ad =>
  have hnil := fun (w : World) => Lib.run_eql_slice_nil (P := Tryz.prog) w 25 64 (some ad) n cap 0 0 Tryz.underlying25
  go_enter Tryz.func185, Tryz.ntmps185
  go_wp2_with (at_builtin; refine wpList_append_rd rfl _ _ 25 rfl el25 rfl (OwnR.made (B := w.heap.size) (c := 3) [] (by simp) rfl (n := 0) rfl (Nat.le_refl _) (by omega)) rfl (hr.ext ((Ext.refl _).alloc _)) (by simp; omega) (by simp) ?_; intro v' w2 hown2 hg2)
  go_ret
  have hg2 : World.grownBy _ w2 (some w.heap.size) := hg2
  exact ⟨_, rfl, ((Ext.refl _).alloc _).grown hg2 (fun k hk => by cases hk; omega), by simpa using hown2⟩
theorem dup50 {w : World} {A : Option Addr} {n cap : Nat} {g : Nat → Nat → Int} (hr : Rd w A n 3 g) (hn : n ≤ 1000) :
  Calls Tryz.prog 50 #[.slice A n cap] w fun e w' => ∃ u, e = .returned u ∧ Ext w w' ∧ OwnR w' w.heap.size 64 3 u (rowsG 3 n g) := by
 obtain ⟨i, z, hi, hz, h1, h2, h3⟩ := el25.i
 go_enter Tryz.func50, Tryz.ntmps50
 go_wp2_with (first
  | (at_make; refine wpList_make_own _ rfl _ _ 25 rfl w.heap.size 64 i z 3 Tryz.underlying25 hi hz h1 .i64 .i64 _ n rfl rfl rfl (by rw [h2]; omega) (by unfold maxLen; omega) (Nat.le_refl _) ?_; intro w1 hown1 hg1)
  | (at_builtin; refine wpList_append_rd rfl _ _ 25 rfl el25 rfl (⟨by simp, hown1⟩ : OwnR w1 w.heap.size 64 3 (.slice (some ⟨w.heap.size, 0, none⟩) 0 n) []) rfl (hr.ext ((Ext.refl _).grown hg1 (fun k hk => by cases hk))) (by simp; omega) hg1.size ?_; intro v' w2 hown2 hg2))
 go_ret
 have hg2 : World.grownBy _ w2 (some w.heap.size) := hg2
 exact ⟨_, rfl, ((Ext.refl _).grown hg1 (fun k hk => by cases hk)).grown hg2 (fun k hk => by cases hk; omega), by simpa using hown2⟩
end Go.Proofs.YtbceepjjdfpfmaaGreat
