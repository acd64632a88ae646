/- Base words for walks: later worlds, slices of structs of integers, drawn regions walked once. No condition. -/
import Derived.WalkKit
import Derived.WalkSpells
import Derived.WalkLawsBesides
import Derived.BigQuiet
import Derived.BigRegion
import Derived.Deep.DeepFit
import Derived.Deep.RegionHeld3
import Derived.Deep.DeepCutAuto
import Derived.Maps.AppendAt
import Derived.Deep.AppendLies
import Derived.StillTail
namespace Go
open Go.RowKit

theorem hid {p : Prop} (h : p) : Hid p := h

/-- A later world: all that was there is as it was. -/
def Ext (w w' : World) : Prop := Below w.heap.size w w'
namespace Ext
variable {w w' w'' : World}
theorem refl (w : World) : Ext w w := Below.refl _ _
theorem size (h : Ext w w') : w.heap.size ≤ w'.heap.size := Below.size h
theorem trans (h : Ext w w') (k : Ext w' w'') : Ext w w'' := Below.trans h (Below.mono k (Below.size h))
theorem drew (h : Ext w w') : Ext w w'.drew := Below.drew h
theorem drewN (h : Ext w w') (n : Nat) : Ext w (w'.drewN n) := Below.trans h ⟨rfl, rfl, rfl, Nat.le_refl _, fun _ _ => rfl⟩
theorem alloc (h : Ext w w') (o : Obj) : Ext w (w'.alloc o) := Below.alloc h (Below.size h) o
theorem setCell (h : Ext w w') {p : Addr} (u : Value) (hp : w.heap.size ≤ p.block) : Ext w (w'.setCell p u) := Below.setCell h hp u
theorem cell (h : Ext w w') {b o : Nat} (hb : b < w.heap.size) : w'.cell? ⟨b, o, none⟩ = w.cell? ⟨b, o, none⟩ := Below.cell h (p := ⟨b, o, none⟩) hb
theorem frozen (h : Ext w w') {b o : Nat} (hb : b < w.heap.size) : w'.frozen? ⟨b, o, none⟩ = w.frozen? ⟨b, o, none⟩ := Below.frozen h (p := ⟨b, o, none⟩) hb
theorem some_ (h : Ext w w') {b o : Nat} {v : Value} (hv : w.cell? ⟨b, o, none⟩ = some v) : w'.cell? ⟨b, o, none⟩ = some v :=
 (h.cell (World.block_lt_of_cell? w ⟨b, o, none⟩ hv)).trans hv
theorem block (h : Ext w w') {b : Nat} (hb : b < w.heap.size) : w'.heap[b]? = w.heap[b]? := Below.block h b hb
theorem grown (h : Ext w w') {row : Option Nat} (hg : w'.grownBy w'' row) (hr : ∀ k, row = some k → w.heap.size ≤ k) : Ext w w'' := Below.grown h hg (Below.size h) hr
/-- The two rules by which the walk reads old cells in a later world. -/
theorem rules (h : Ext w w') : (∀ b o, b < w.heap.size → w'.cell? ⟨b, o, none⟩ = w.cell? ⟨b, o, none⟩) ∧ (∀ b o, b < w.heap.size → w'.frozen? ⟨b, o, none⟩ = w.frozen? ⟨b, o, none⟩) :=
 ⟨fun _ _ hb => h.cell hb, fun _ _ hb => h.frozen hb⟩
end Ext

/-- A world that is later than w below block B. -/
structure Later (w : World) where
 at_ : World
 ok : Ext w at_
instance {w : World} : Nonempty (Later w) := ⟨⟨w, Ext.refl _⟩⟩
theorem Ext.cell_some {w w' : World} (e : Ext w w') {b o : Nat} (h : (w.cell? ⟨b, o, none⟩).isSome = true) : w'.cell? ⟨b, o, none⟩ = w.cell? ⟨b, o, none⟩ := by
 cases hv : w.cell? ⟨b, o, none⟩ with
 | none => rw [hv] at h; cases h
 | some v => exact e.some_ hv
theorem Later.cell {w : World} (n : Later w) {b o : Nat} (h : (w.cell? ⟨b, o, none⟩).isSome = true) : n.at_.cell? ⟨b, o, none⟩ = w.cell? ⟨b, o, none⟩ := n.ok.cell_some h
attribute [go_sem] Later.cell
theorem Later.ext {w : World} (n : Later w) : Ext w n.at_ := n.ok

theorem wp_region_later {P : Program} {id : Nat} {Q : Exit → Act → World → Prop} {a : Act} {w : World} {l : List Oper} (hm : P.follows .mixedOrders = true) (hB : Region.lexB .any l.toArray = true)
  (h : wpQuiet P l.toArray (fun w' => ∃ n : Later w, w' = n.at_) (fun a' => ∀ w', (∃ n : Later w, w' = n.at_) → Q .normal a' w') l a) : (Code.region id l.toArray true).wp P Q a w :=
 wp_region_quiet (C := fun w' => ∃ n : Later w, w' = n.at_) hm hB ⟨⟨_, (Ext.refl w).drew⟩, rfl⟩ (by simpa using h)
theorem Calls.later {P : Program} {f : FuncId} {args : Array Value} {w : World} {n : Later w} {v : Value}
  (h : Calls P f args n.at_ fun e w' => e = .returned v ∧ Ext n.at_ w') : Calls P f args n.at_ fun e w' => e = .returned v ∧ ∃ m : Later w, w' = m.at_ :=
 h.mono fun _ w' ⟨he, hb⟩ => ⟨he, ⟨⟨w', Ext.trans n.ok hb⟩, rfl⟩⟩

/-- The world behind some news is a letter. -/
theorem wp_later {P : Program} {c : Code} {Q : Exit → Act → World → Prop} {a : Act} {W : World} (h : ∀ w1, Ext W w1 → c.wp P Q a w1) : c.wp P Q a W := h W (Ext.refl _)
/-- Block b is a row of these cells. -/
def Box (w : World) (b : Nat) (C : Array Value) : Prop := b < w.heap.size ∧ ∀ i, w.cell? ⟨b, i, none⟩ = C[i]?
theorem Box.ext {w w' : World} {b : Nat} {C : Array Value} (h : Box w b C) (e : Ext w w') : Box w' b C := ⟨Nat.lt_of_lt_of_le h.1 e.size, fun i => (e.cell h.1).trans (h.2 i)⟩
theorem Ext.new {w w1 : World} {C : Array Value} {t : TypeId} (h : Ext (w.alloc (.cells C t)) w1) : Ext w w1 ∧ Box w1 w.heap.size C :=
 ⟨((Ext.refl w).alloc _).trans h, Box.ext ⟨by simp, fun i => by simp⟩ h⟩
theorem Ext.new2 {w w1 : World} {C D : Array Value} {t u : TypeId} (h : Ext ((w.alloc (.cells C t)).alloc (.cells D u)) w1) :
  Ext w w1 ∧ Box w1 w.heap.size C ∧ Box w1 (w.heap.size + 1) D := by
 obtain ⟨h1, h2⟩ := h.new
 obtain ⟨h3, h4⟩ := h1.new
 exact ⟨h3, h4, by simpa using h2⟩

/-- A slice of n structs of c integers each: what stands at place j of element k. -/
def Rd (w : World) (A : Option Addr) (n c : Nat) (g : Nat → Nat → Int) : Prop :=
 0 < n → ∃ b o, A = some ⟨b, o, none⟩ ∧ ∀ k, k < n → ∀ j, j < c → w.cell? ⟨b, o + k * c + j, none⟩ = some (.int .i64 (g k j))
namespace Rd
variable {w w' : World} {A : Option Addr} {n c : Nat} {g : Nat → Nat → Int}
theorem ext (h : Rd w A n c g) (e : Ext w w') : Rd w' A n c g := fun hn => by
 obtain ⟨b, o, hA, hc⟩ := h hn
 exact ⟨b, o, hA, fun k hk j hj => e.some_ (hc k hk j hj)⟩
theorem congr {g' : Nat → Nat → Int} (h : Rd w A n c g) (e : ∀ k, k < n → ∀ j, j < c → g k j = g' k j) : Rd w A n c g' := fun hn => by
 obtain ⟨b, o, hA, hc⟩ := h hn
 exact ⟨b, o, hA, fun k hk j hj => by rw [← e k hk j hj]; exact hc k hk j hj⟩
theorem nil {g : Nat → Nat → Int} : Rd w A 0 c g := fun h => absurd h (by omega)
theorem at1 (h : Rd w A n 1 g) {k : Nat} (hk : k < n) : ∃ b o, A = some ⟨b, o, none⟩ ∧ b < w.heap.size ∧ w.cell? ⟨b, o + k, none⟩ = some (.int .i64 (g k 0)) := by
 obtain ⟨b, o, hA, hc⟩ := h (by omega)
 have h0 := hc k hk 0 (by omega)
 exact ⟨b, o, hA, World.block_lt_of_cell? w _ h0, by simpa using h0⟩
theorem at2 (h : Rd w A n 2 g) {k : Nat} (hk : k < n) : ∃ b o, A = some ⟨b, o, none⟩ ∧ b < w.heap.size ∧ w.cell? ⟨b, o + k * 2, none⟩ = some (.int .i64 (g k 0)) ∧ w.cell? ⟨b, o + k * 2 + 1, none⟩ = some (.int .i64 (g k 1)) := by
 obtain ⟨b, o, hA, hc⟩ := h (by omega)
 have h0 := hc k hk 0 (by omega)
 exact ⟨b, o, hA, World.block_lt_of_cell? w _ h0, by simpa using h0, hc k hk 1 (by omega)⟩
theorem at3 (h : Rd w A n 3 g) {k : Nat} (hk : k < n) : ∃ b o, A = some ⟨b, o, none⟩ ∧ b < w.heap.size ∧ w.cell? ⟨b, o + k * 3, none⟩ = some (.int .i64 (g k 0)) ∧ w.cell? ⟨b, o + k * 3 + 1, none⟩ = some (.int .i64 (g k 1)) ∧ w.cell? ⟨b, o + k * 3 + 2, none⟩ = some (.int .i64 (g k 2)) := by
 obtain ⟨b, o, hA, hc⟩ := h (by omega)
 have h0 := hc k hk 0 (by omega)
 exact ⟨b, o, hA, World.block_lt_of_cell? w _ h0, by simpa using h0, hc k hk 1 (by omega), hc k hk 2 (by omega)⟩
theorem wf (h : Rd w A n c g) : n = 0 ∨ ∃ b o, A = some ⟨b, o, none⟩ := by
 rcases Nat.eq_zero_or_pos n with h0 | h0
 ·exact .inl h0
 ·obtain ⟨b, o, hA, _⟩ := h h0
  exact .inr ⟨b, o, hA⟩
end Rd

/-! Slices of the call's own: rows of integers. -/

def cellsOf (l : List (List Int)) : List Value := l.flatMap fun r => r.map (Value.int .i64)
theorem cellsOf_append (l r : List (List Int)) : cellsOf (l ++ r) = cellsOf l ++ cellsOf r := by simp [cellsOf]
theorem cellsOf_length {c : Nat} : ∀ {l : List (List Int)}, (∀ r ∈ l, r.length = c) → (cellsOf l).length = l.length * c
 | [], _ => by simp [cellsOf]
 | r :: l, h => by
  have h1 := cellsOf_length (c := c) (l := l) fun q hq => h q (List.mem_cons_of_mem _ hq)
  have h2 := h r (List.mem_cons_self ..)
  simp only [cellsOf, List.flatMap_cons, List.length_append, List.length_map, List.length_cons] at *
  rw [h1, h2, Nat.add_mul]; omega
theorem cellsOf_get {c : Nat} : ∀ {l : List (List Int)}, (∀ r ∈ l, r.length = c) → ∀ {k j : Nat}, k < l.length → j < c → (cellsOf l)[k * c + j]? = some (.int .i64 ((l.getD k []).getD j 0))
 | [], _, k, _, hk, _ => by simp at hk
 | r :: l, h, k, j, hk, hj => by
  have h2 := h r (List.mem_cons_self ..)
  have e : cellsOf (r :: l) = r.map (Value.int .i64) ++ cellsOf l := by simp [cellsOf]
  rw [e]
  cases k with
  | zero =>
   rw [List.getElem?_append_left (by simp; omega)]
   have : j < r.length := by omega
   simp [List.getElem?_eq_getElem this]
  | succ k =>
   rw [List.getElem?_append_right (by simp [h2, Nat.add_mul]; omega)]
   have e2 : (k + 1) * c + j - (r.map (Value.int .i64)).length = k * c + j := by simp [h2, Nat.add_mul]; omega
   rw [e2, cellsOf_get (c := c) (fun q hq => h q (List.mem_cons_of_mem _ hq)) (by simpa using hk) hj]
   simp
theorem cellsOf_one {l : List (List Int)} : ∀ u ∈ cellsOf l, u.oneCell' = true := by
 intro u hu
 simp only [cellsOf, List.mem_flatMap, List.mem_map] at hu
 obtain ⟨_, _, _, _, rfl⟩ := hu
 rfl
/-- The slice v is the call's own: it holds these rows of c integers each, in a block from B on. -/
def OwnR (w : World) (B : Nat) (e : TypeId) (c : Nat) (v : Value) (l : List (List Int)) : Prop := (∀ r ∈ l, r.length = c) ∧ w.ownsRow B e c v l.length (cellsOf l)
def rowsAt (l : List (List Int)) (k j : Nat) : Int := (l.getD k []).getD j 0
theorem OwnR.nil {w : World} {B : Nat} {e : TypeId} {c : Nat} : OwnR w B e c (.slice none 0 0) [] := ⟨by simp, by simp [World.ownsRow, cellsOf]⟩
/-- A slice that reads as rows. -/
def SlR (w : World) (c : Nat) (v : Value) (l : List (List Int)) : Prop := ∃ A cap, v = .slice A l.length cap ∧ Rd w A l.length c (rowsAt l)
theorem SlR.ext {w w' : World} {c : Nat} {v : Value} {l : List (List Int)} (h : SlR w c v l) (e : Ext w w') : SlR w' c v l := by
 obtain ⟨A, cap, hv, hr⟩ := h
 exact ⟨A, cap, hv, hr.ext e⟩
theorem OwnR.slR {w : World} {B : Nat} {e : TypeId} {c : Nat} {v : Value} {l : List (List Int)} (h : OwnR w B e c v l) : SlR w c v l := by
 obtain ⟨hc, hlen, hv⟩ := h
 rcases hv with ⟨rfl, h0⟩ | ⟨g, cap, cur, rfl, _, hh, _, _, _, ht⟩
 ·obtain rfl := List.eq_nil_of_length_eq_zero h0
  exact ⟨none, 0, rfl, Rd.nil⟩
 ·refine ⟨_, cap, rfl, fun _ => ⟨g, 0, rfl, fun k hk j hj => ?_⟩⟩
  have h1 := cellsOf_get hc hk hj
  rw [← ht] at h1
  have h2 : k * c + j < l.length * c := by
   have := Nat.mul_le_mul_right c (Nat.succ_le_of_lt hk)
   simp only [Nat.succ_eq_add_one, Nat.add_mul] at this
   omega
  rw [List.getElem?_take_of_lt h2] at h1
  rw [show (0 : Nat) + k * c + j = k * c + j from by omega]
  simpa [World.cell?, hh, rowsAt] using h1
theorem OwnR.grownBy_other {w w' : World} {B : Nat} {e : TypeId} {c : Nat} {v : Value} {l : List (List Int)} {row : Option Nat} (h : OwnR w B e c v l) (hg : w.grownBy w' row) (hne : ∀ g, v.ownBlock = some g → some g ≠ row) : OwnR w' B e c v l :=
 ⟨h.1, h.2.1, by
  rcases h.2.2 with h0 | ⟨g, cap, cur, rfl, hb, hh, hr⟩
  ·exact .inl h0
  ·refine .inr ⟨g, cap, cur, rfl, hb, ?_, hr⟩
   rw [hg.block g ?_ (hne g rfl)]
   ·exact hh
   ·rcases Nat.lt_or_ge g w.heap.size with h' | h'
    ·exact h'
    ·rw [Array.getElem?_eq_none h'] at hh; cases hh⟩
theorem OwnR.ext {w w' : World} {B : Nat} {e : TypeId} {c : Nat} {v : Value} {l : List (List Int)} (h : OwnR w B e c v l) (he : Ext w w') : OwnR w' B e c v l :=
 ⟨h.1, h.2.1, by
  rcases h.2.2 with h0 | ⟨g, cap, cur, rfl, hb, hh, hr⟩
  ·exact .inl h0
  ·refine .inr ⟨g, cap, cur, rfl, hb, ?_, hr⟩
   rw [he.block ?_]
   ·exact hh
   ·rcases Nat.lt_or_ge g w.heap.size with h' | h'
    ·exact h'
    ·rw [Array.getElem?_eq_none h'] at hh; cases hh⟩
theorem OwnR.base {w : World} {B B' : Nat} {e : TypeId} {c : Nat} {v : Value} {l : List (List Int)} (h : OwnR w B e c v l) (hB : B' ≤ B) : OwnR w B' e c v l :=
 ⟨h.1, h.2.1, h.2.2.imp id fun ⟨g, cap, cur, hv, hb, hr⟩ => ⟨g, cap, cur, hv, by omega, hr⟩⟩
theorem OwnR.block {w : World} {B : Nat} {e : TypeId} {c : Nat} {v : Value} {l : List (List Int)} (h : OwnR w B e c v l) {g : Nat} (hg : v.ownBlock = some g) : B ≤ g := by
 rcases h.2.2 with ⟨rfl, _⟩ | ⟨g', cap, cur, rfl, hb, _⟩
 ·cases hg
 ·simp only [Value.ownBlock, Option.some.injEq] at hg; omega
/-- What the table says of a slice's element. -/
structure ElemOk (P : Program) (T e : TypeId) (c bytes : Nat) : Prop where
 u : P.underlying T = some (.slice e)
 i : ∃ i z, P.info? e = some i ∧ i.zero = some z ∧ i.size = c ∧ i.bytes = bytes ∧ z.cells.size = c
 c0 : 0 < c
 b : bytes ≤ 1000
/-- append of rows to an own slice. -/
theorem wpList_append_rows {P : Program} {w : World} {ops : Array Oper} {rest : List Oper} {o : Oper} {a : Act} {Q : Exit → Act → World → Prop} (hgd : o.guard = none) (s x : Operand) (T : TypeId)
  (ho : o.op = .call { callee := .builtin .append, args := #[s, x], argTypes := #[T, T] }) {e : TypeId} {c bytes : Nat} (hE : ElemOk P T e c bytes)
  {B : Nat} {v : Value} {l : List (List Int)} (hs : a.eval s = v) (hown : OwnR w B e c v l) (g m cap : Nat) (r : List (List Int)) (hx : a.eval x = .slice (some ⟨g, 0, none⟩) m cap)
  (hm : r.length = m) (hrc : ∀ q ∈ r, q.length = c) (hb : ∀ i, w.cell? ⟨g, i, none⟩ = (cellsOf r)[i]?) (hlen : l.length + m ≤ 1000000) (hB : B ≤ w.heap.size)
  (h : ∀ v' w', OwnR w' B e c v' (l ++ r) → w.grownBy w' v.ownBlock → wpList P ops Q rest (a.put o.dst v') w') :
  wpList P ops Q (o :: rest) a w := by
 obtain ⟨i, z, hi, hz, h1, h2, h3⟩ := hE.i
 have hb0 := hE.b
 refine wpList_append_own w hgd s x T ho B e i z c bytes hE.u hi hz h1 h2 h3 hE.c0 v l.length (cellsOf l) hs hown.2 ⟨g, 0, none⟩ m cap (cellsOf r) hx (by rw [cellsOf_length hrc, hm]) ?_ cellsOf_one ?_ ?_ hB ?_
 ·intro j u hu
  rw [show (⟨g, 0, none⟩ : Addr).add j = ⟨g, j, none⟩ from by unfold Addr.add; by_cases h0 : j = 0 <;> simp [h0], hb, hu]
 ·unfold maxLen; omega
 ·have := Nat.mul_le_mul hlen hb0; omega
 ·intro v' w' hown' hg _
  exact h v' w' ⟨fun q hq => (List.mem_append.1 hq).elim (hown.1 q) (hrc q), by rw [List.length_append, hm, cellsOf_append]; exact hown'⟩ hg
/-- What a drawn region's loads lean on: a later world, and the rule by which its old cells read. -/
theorem Ext.sees {w w' : World} (e : Ext w w') : Ext w w' ∧ ∀ b o, (w.cell? ⟨b, o, none⟩).isSome = true → w'.cell? ⟨b, o, none⟩ = w.cell? ⟨b, o, none⟩ := ⟨e, fun _ _ h => e.cell_some h⟩
/-- Block g is just these cells of element type t; none is frozen. -/
def Blk (w : World) (g : Nat) (t : TypeId) (C : Array Value) : Prop := w.heap[g]? = some (.cells C t (0, 0))
namespace Blk
variable {w w' : World} {g : Nat} {t : TypeId} {C : Array Value}
theorem lt (h : Blk w g t C) : g < w.heap.size := by
 rcases Nat.lt_or_ge g w.heap.size with hlt | hge
 ·exact hlt
 ·unfold Blk at h; rw [Array.getElem?_eq_none hge] at h; cases h
theorem cell (h : Blk w g t C) (i : Nat) : w.cell? ⟨g, i, none⟩ = C[i]? := by unfold Blk at h; simp [World.cell?, h]
theorem frozen (h : Blk w g t C) (i : Nat) : w.frozen? ⟨g, i, none⟩ = false := by unfold Blk at h; simp [World.frozen?, h]
theorem ext (h : Blk w g t C) (e : Ext w w') : Blk w' g t C := (e.block h.lt).trans h
theorem new (w : World) (t : TypeId) (C : Array Value) : Blk (w.alloc (.cells C t)) w.heap.size t C := by unfold Blk; show (w.heap.push _)[w.heap.size]? = _; simp
theorem set_ (h : Blk w g t C) (i : Nat) (u : Value) : Blk (w.setCell ⟨g, i, none⟩ u) g t (C.setIfInBounds i u) := by
 unfold Blk at h ⊢
 simp [World.setCell, Array.getElem?_modify, h]
theorem far (h : Blk w g t C) {p : Addr} (hp : g ≠ p.block) (u : Value) : Blk (w.setCell p u) g t C := (Below.heap_setCell w p u g hp).trans h
theorem grown (h : Blk w g t C) {row : Option Nat} (hg : w.grownBy w' row) (hne : some g ≠ row) : Blk w' g t C := (hg.block g h.lt hne).trans h
end Blk
theorem Ext.newB {w w1 : World} {C : Array Value} {t : TypeId} (h : Ext (w.alloc (.cells C t)) w1) : Ext w w1 ∧ Blk w1 w.heap.size t C :=
 ⟨((Ext.refl w).alloc _).trans h, (Blk.new w t C).ext h⟩
theorem Ext.newB2 {w w1 : World} {C D : Array Value} {t u : TypeId} (h : Ext ((w.alloc (.cells C t)).alloc (.cells D u)) w1) :
  Ext w w1 ∧ Blk w1 w.heap.size t C ∧ Blk w1 (w.heap.size + 1) u D := by
 obtain ⟨h1, h2⟩ := h.newB
 obtain ⟨h3, h4⟩ := h1.newB
 exact ⟨h3, h4, by simpa using h2⟩
end Go
namespace Go
section
variable {P : Program} {ops : Array Oper} {md : Region.Mode} {C : World → Prop}

/-- f operations of the head are still to come, in whatever order; then L. -/
def HeadAny (P : Program) (md : Region.Mode) (ops : Array Oper) (C : World → Prop) (n : Nat) (L : Array Bool → Act → Prop) : Nat → Array Bool → Act → Prop
 | 0, listed, a => L listed a
 | f + 1, listed, a => Region.ready md ops listed ≠ [] ∧ ∀ i, i ∈ Region.ready md ops listed → i < n ∧ qOp P ops C i (fun a' => HeadAny P md ops C n L f (listed.setIfInBounds i true) a') a

theorem HeadAny.toAny {n g : Nat} {L : Array Bool → Act → Prop} {Q : Exit → Act → World → Prop} (hL : ∀ listed a w, C w → L listed a → wpAny P md ops Q g listed a w) (f : Nat) :
  ∀ (listed : Array Bool) (a : Act) (w : World), C w → HeadAny P md ops C n L f listed a → wpAny P md ops Q (f + g) listed a w := by
 induction f with
 | zero => intro listed a w hw h; rw [Nat.zero_add]; exact hL _ _ _ hw h
 | succ f ih =>
  intro listed a w hw h
  rw [Nat.succ_add]
  exact ⟨fun h0 => (h.1 h0).elim, fun i hi => wpOp_of_qOp hw (fun a' w' hw' h' => ih _ a' w' hw' h') (h.2 i hi).2⟩

theorem HeadAny.first {n i : Nat} {oi : Oper} {v : Value} {L : Array Bool → Act → Prop} (hi : ops[i]? = some oi) (hns : Region.noSelect ops = true)
  (hs : Region.sinkB md ops n = true) (hc : Region.chainB md ops n = true) (hn : n < ops.size) (hin : i < n)
  (hL : ∀ listed a, L listed a → ∀ j, j ∈ Region.ready md ops listed → n ≤ j) (f : Nat) :
  ∀ (listed : Array Bool) (a : Act), HeadInv md ops n listed →
   (∀ j oj, ops[j]? = some oj → j ≠ i → listed.getD j true = false → (∀ e ∈ oj.after, Region.binds md e = true → e.on ≠ i) → oi.apart ops oj = true) →
   i ∈ Region.ready md ops listed → YieldsIn P ops C oi v a →
   HeadAny P md ops C n L f (listed.setIfInBounds i true) (a.put oi.dst v) → HeadAny P md ops C n L (f + 1) listed a := by
 have sel := Region.noSelect_spec hns
 induction f with
 | zero =>
  intro listed a inv _ hr hy H
  refine ⟨fun h0 => by rw [h0] at hr; exact absurd hr (by simp), fun j hj => ?_⟩
  by_cases hji : j = i
  ·subst hji
   exact ⟨hin, hy.qOp hi H⟩
  ·have hjn := hL _ _ H j (ready_mono hj hji)
   exact absurd hj (tail_waits hs hc hn inv _ i rfl hin (mem_ready.1 hr).1 j hjn)
 | succ f ih =>
  intro listed a inv hfree hr hy H
  have hun := (mem_ready.1 hr).1
  refine ⟨fun h0 => by rw [h0] at hr; exact absurd hr (by simp), fun j hj => ?_⟩
  by_cases hji : j = i
  ·subst hji
   exact ⟨hin, hy.qOp hi H⟩
  ·have hjn : j < n := by
    rcases Nat.lt_or_ge j n with h | h
    ·exact h
    ·exact absurd hj (tail_waits hs hc hn inv _ i rfl hin hun j h)
   refine ⟨hjn, ?_⟩
   obtain ⟨hjun, oj, hoj, hall⟩ := mem_ready.1 hj
   have hnot : ∀ e ∈ oj.after, Region.binds md e = true → e.on ≠ i := by
    intro e he hb heq
    have h1 := hall e he hb
    rw [heq, getD_both hun] at h1
    cases h1
   have hq := qOp_put hoj (hfree j oj hoj hji hjun hnot) (fun cs b => sel i oi cs b hi) (fun cs b => sel j oj cs b hoj) hy (H.2 j (ready_mono hj hji)).2
   refine qOp_mono (fun a' h3 => ih _ a' (inv.set hj hjn) ?_ (ready_mono hr (Ne.symm hji)) h3.1 ?_) hq
   ·intro k ok hk hki hunk hno
    refine hfree k ok hk hki ?_ hno
    by_cases hjk : j = k
    ·exact hjk ▸ hjun
    ·rwa [getD_set_ne true hjk] at hunk
   ·rw [Array.setIfInBounds_comm _ _ hji]
    exact h3.2

theorem HeadAny.lex {n g : Nat} {R : Act → Prop} (hns : Region.noSelect ops = true) (hs : Region.sinkB md ops n = true) (hc : Region.chainB md ops n = true) (hn : n < ops.size) (l : List Oper) :
  ∀ (k : Nat) (listed : Array Bool) (a : Act), (∀ j, j < l.length → l[j]? = ops[k + j]?) → k + l.length = n → HeadInv md ops n listed → Region.lexHead md ops g l.length k listed = true →
  wpQuiet P ops C R l a → HeadAny P md ops C n (fun listed' a' => Region.seqB md ops g n listed' = true ∧ R a') l.length listed a := by
 induction l with
 | nil =>
  intro k listed a _ hk _ hB h
  obtain rfl : k = n := by simpa using hk
  exact ⟨by simpa [Region.lexHead] using hB, h⟩
 | cons o l ih =>
  intro k listed a hl hk inv hB h
  have h0 : ops[k]? = some o := by simpa using (hl 0 (by simp)).symm
  simp only [List.length_cons] at hk
  simp only [List.length_cons, Region.lexHead, Bool.and_eq_true] at hB
  have hkn : k < n := by omega
  have hr : k ∈ Region.ready md ops listed := by simpa using hB.1.1
  have hq : qOp P ops C k (fun a' => wpQuiet P ops C R l a') a := by unfold qOp; simp only [h0]; exact h
  obtain ⟨v, hy, hK⟩ := yieldsIn_of_qOp h0 hq
  refine HeadAny.first h0 hns hs hc hn hkn (fun _ _ hL => seqB_ready hL.1) l.length listed a inv (Region.free_spec h0 hB.1.2) hr hy ?_
  refine ih (k + 1) _ _ (fun j hj => ?_) (by omega) (inv.set hr hkn) hB.2 hK
  have := hl (j + 1) (by simp; omega)
  rw [show k + 1 + j = k + (j + 1) by omega]
  simpa using this

theorem wpAny_tail {Q : Exit → Act → World → Prop} {a : Act} {w : World} {l : List Oper} (n : Nat) (hB : Region.lexTailB .any l.toArray n = true)
  (h : wpQuiet P l.toArray (fun w' => ∃ n : Later w, w' = n.at_) (fun a' => ∀ w', (∃ n : Later w, w' = n.at_) → wpList P l.toArray Q (l.drop n) a' w') (l.take n) a) :
  wpAny P .any l.toArray Q l.toArray.size (Array.replicate l.toArray.size false) a { w with drawn := w.drawn + 1 } := by
 simp only [Region.lexTailB, Bool.and_eq_true, decide_eq_true_eq] at hB
 obtain ⟨⟨⟨⟨hns, hn⟩, hs⟩, hc⟩, hlex⟩ := hB
 have hnl : n < l.length := by simpa using hn
 have htl : (l.take n).length = n := by rw [List.length_take]; omega
 have hdl : (l.drop n).length = l.toArray.size - n := by simp
 have inv0 : HeadInv .any l.toArray n (Array.replicate l.toArray.size false) := by
  refine ⟨by simp, fun j oj _ hl => ?_, fun t _ ht => getD_in (by simpa using ht) (getD_replicate_false _ _)⟩
  rw [getD_replicate_false] at hl; cases hl
 have H := HeadAny.lex (md := .any) (g := l.toArray.size - n) hns hs hc hn (l.take n) 0 _ a (fun j hj => by
  rw [htl] at hj; simp [hj]) (by omega) inv0 (by rw [htl]; exact hlex) h
 have := HeadAny.toAny (Q := Q) (g := l.toArray.size - n) (fun listed a' w' hw' hL => by
  have := wpAny_of_seq (md := .any) (Q' := Q) (l.drop n) n listed a' w' (fun j => by simp [List.getElem?_drop]) (by rw [hdl]; exact hL.1) (hL.2 w' hw')
  rwa [hdl] at this) _ _ _ { w with drawn := w.drawn + 1 } ⟨⟨_, (Ext.refl w).drew⟩, rfl⟩ H
 rw [htl, show n + (l.toArray.size - n) = l.toArray.size by omega] at this
 exact this

/-- **The head once, in every later world; the tail once, from each of these.** -/
theorem wp_region_tail {id : Nat} {Q : Exit → Act → World → Prop} {a : Act} {w : World} {l : List Oper} (n : Nat) (hm : P.follows .mixedOrders = true) (hB : Region.lexTailB .any l.toArray n = true)
  (h : wpQuiet P l.toArray (fun w' => ∃ n : Later w, w' = n.at_) (fun a' => ∀ w', (∃ n : Later w, w' = n.at_) → wpList P l.toArray Q (l.drop n) a' w') (l.take n) a) : (Code.region id l.toArray true).wp P Q a w :=
 wp_region_any hm (wpAny_tail n hB h)
end
end Go
namespace Go
open Go.RowKit
theorem OwnR.made {w : World} {B : Nat} {e : TypeId} {c : Nat} {C : Array Value} {n : Nat} (l : List (List Int)) (hc : ∀ r ∈ l, r.length = c) (hC : C.toList = cellsOf l) (hn : l.length = n) (hB : B ≤ w.heap.size) (hm : n ≤ 1000000) :
  OwnR (w.alloc (.cells C e)) B e c (.slice (some ⟨w.heap.size, 0, none⟩) n n) l := by
 have hlen := cellsOf_length hc
 refine ⟨hc, hlen, .inr ⟨w.heap.size, n, C, by rw [hn], hB, ?_, by omega, by unfold maxLen; omega, ?_, ?_⟩⟩
 ·show (w.heap.push _)[w.heap.size]? = _; simp
 ·rw [← hn, ← hlen, ← hC]; simp
 ·rw [hC, ← hlen, List.take_length]
theorem OwnR.lt {w : World} {B : Nat} {e : TypeId} {c : Nat} {v : Value} {l : List (List Int)} (h : OwnR w B e c v l) {g : Nat} (hg : v.ownBlock = some g) : g < w.heap.size := by
 rcases h.2.2 with ⟨rfl, _⟩ | ⟨g', cap, cur, rfl, hb, hh, _⟩
 ·cases hg
 ·simp only [Value.ownBlock, Option.some.injEq] at hg
  subst hg
  rcases Nat.lt_or_ge g' w.heap.size with h' | h'
  ·exact h'
  ·rw [Array.getElem?_eq_none h'] at hh; cases hh
end Go
namespace Go
section
variable {P : Program} {ops : Array Oper} {md : Region.Mode} {W : World}

/-- What an operation establishes: of its value, of the blocks from lo to hi that it has made, and of the world. -/
abbrev MSpec := Value → Nat → Nat → World → Prop
def specAt (S : List (Nat × MSpec)) (k : Nat) : Option MSpec := (S.find? fun p => p.1 == k).map (·.2)
/-- Operations that enter no function. -/
def plainB (o : Oper) : Bool :=
 match o.op with
 | .move _ | .assign _ | .alloc _ | .box .. | .build .. | .buildSlice .. | .load .. | .binOp .. | .unOp .. | .convert .. | .makeInterface .. | .makeFunc .. | .makeMap .. | .makeSlice .. | .slice .. | .fieldAddr .. | .field .. | .indexAddr .. | .index .. | .lookup .. | .extract .. => true
 | .call c => match c.callee with
  | .builtin b => match b with
   | .len | .cap | .min | .max => true
   | _ => false
  | _ => false
 | _ => false
theorem run_value_ne (s : Sem Value) (w : World) (f : FuncId) (args : Array Value) (w' : World) : ((do pure (Next.value (← s))) : Sem Next).run P w ≠ .ok (.enter f args) w' := by
 rw [Sem.run_bind]
 cases s.run P w <;> simp [Result.andThen]
theorem plain_run {o : Oper} (h : plainB o = true) (ρ : Operand → Value) (w : World) (f : FuncId) (args : Array Value) (w' : World) : (execOp ρ o).run P w ≠ .ok (.enter f args) w' := by
 obtain ⟨dst, op, type, pos, after, guard⟩ := o
 cases op with
 | call c =>
  obtain ⟨callee, args', argTypes⟩ := c
  cases callee with
  | builtin b =>
   cases b <;> simp only [plainB] at h <;> first | (cases h; done) | (simp only [execOp, resolve, pure_bind, invoke, builtin]; exact run_value_ne _ _ _ _ _)
  | _ => simp [plainB] at h
 | move x => simp [execOp]
 | assign x => simp [execOp]
 | _ => first | (simp only [execOp]; exact run_value_ne _ _ _ _ _) | (simp [plainB] at h; done)

/-- What is asked behind one operation that makes memory. -/
def MQ (a : Act) (d : Option Tmp) (s : MSpec) (w : World) : Exit → Act → World → Prop
 | .normal, a', w' => ∃ v lo hi, a' = a.put d v ∧ Ext w w' ∧ w.heap.size ≤ lo ∧ lo ≤ hi ∧ hi ≤ w'.heap.size ∧ s v lo hi w'
 | _, _, _ => False
theorem MQ.no_out {a : Act} {d : Option Tmp} {s : MSpec} {w : World} : ¬ LetsOut (MQ a d s w) := fun ⟨_, _, h⟩ => h

/-- Operation k waits for operation i, at once or through others. -/
def reachB (md : Region.Mode) (ops : Array Oper) : Nat → Nat → Nat → Bool
 | 0, _, _ => false
 | f + 1, k, i => Region.waitsFor md ops k i || (List.range ops.size).any fun j => Region.waitsFor md ops k j && reachB md ops f j i

def wpM (P : Program) (md : Region.Mode) (ops : Array Oper) (W : World) (S : List (Nat × MSpec)) (Q : Act → List (Nat × (World → Prop)) → Prop) : List Oper → Nat → Act → List (Nat × (World → Prop)) → List (Nat × Nat) → Prop
 | [], _, a, F, _ => Q a F
 | o :: rest, k, a, F, D =>
  if Region.wanted o (yielded ops a.tmps) = true then
   (specAt S k = none ∧ o.quiet P a (fun w' => ∃ n : Later W, w' = n.at_) (fun a' => wpM P md ops W S Q rest (k + 1) a' F D)) ∨
   ∃ s, specAt S k = some s ∧ (∀ w, Ext W w → (∀ p, p ∈ F → reachB md ops ops.size k p.1 = true → p.2 w) → wpList P ops (MQ a o.dst s w) [o] a w) ∧
    ∀ v lo hi, W.heap.size ≤ lo → lo ≤ hi → (∀ p, p ∈ D → p.2 ≤ lo ∨ hi ≤ p.1) → (∃ w, s v lo hi w) →
     wpM P md ops W S Q rest (k + 1) (a.put o.dst v) ((k, fun w => hi ≤ w.heap.size ∧ s v lo hi w) :: F) ((lo, hi) :: D)
  else wpM P md ops W S Q rest (k + 1) (a.put o.dst undef) F D

section
variable {S : List (Nat × MSpec)} {Q : Act → List (Nat × (World → Prop)) → Prop} {a : Act} {o : Oper} {rest : List Oper} {k : Nat} {F : List (Nat × (World → Prop))} {D : List (Nat × Nat)}
theorem wpM_nil (h : Q a F) : wpM P md ops W S Q [] k a F D := h
theorem wpM_plain (hs : specAt S k = none) (h : wpQuiet P ops (fun w' => ∃ n : Later W, w' = n.at_) (fun a' => wpM P md ops W S Q rest (k + 1) a' F D) [o] a) : wpM P md ops W S Q (o :: rest) k a F D := by
 unfold wpM
 simp only [wpQuiet] at h
 split
 ·next hw => rw [if_pos hw] at h; exact .inl ⟨hs, h⟩
 ·next hw => rw [if_neg hw] at h; exact h
theorem wpM_skip (hw : Region.wanted o (yielded ops a.tmps) = false) (h : wpM P md ops W S Q rest (k + 1) (a.put o.dst undef) F D) : wpM P md ops W S Q (o :: rest) k a F D := by
 unfold wpM
 rw [if_neg (by rw [hw]; exact Bool.false_ne_true)]
 exact h
theorem wpM_spec (s : MSpec) (hs : specAt S k = some s) (hw : Region.wanted o (yielded ops a.tmps) = true)
  (h1 : ∀ w, Ext W w → (∀ p, p ∈ F → reachB md ops ops.size k p.1 = true → p.2 w) → wpList P ops (MQ a o.dst s w) [o] a w)
  (h2 : ∀ v lo hi, W.heap.size ≤ lo → lo ≤ hi → (∀ p, p ∈ D → p.2 ≤ lo ∨ hi ≤ p.1) → (∃ w, s v lo hi w) → wpM P md ops W S Q rest (k + 1) (a.put o.dst v) ((k, fun w => hi ≤ w.heap.size ∧ s v lo hi w) :: F) ((lo, hi) :: D)) :
  wpM P md ops W S Q (o :: rest) k a F D := by
 unfold wpM
 rw [if_pos hw]
 exact .inr ⟨s, hs, h1, h2⟩
end

/-! What happens in some order. -/
structure Pt where
 v : Value
 lo : Nat
 hi : Nat
 on : Bool
def Pt.off (v : Value) : Pt := ⟨v, 0, 0, false⟩
def dstOf (ops : Array Oper) (i : Nat) : Option Tmp := (ops[i]?).bind (·.dst)
def acts (ops : Array Oper) (a : Act) (r : Nat → Pt) (L : Nat → Bool) : Nat → Act
 | 0 => a
 | k + 1 => if L k = true then (acts ops a r L k).put (dstOf ops k) (r k).v else acts ops a r L k
def updPt (r : Nat → Pt) (k : Nat) (x : Pt) : Nat → Pt := fun i => if i = k then x else r i
theorem updPt_same (r : Nat → Pt) (k : Nat) (x : Pt) : updPt r k x k = x := by simp [updPt]
theorem updPt_ne (r : Nat → Pt) {k i : Nat} (x : Pt) (h : i ≠ k) : updPt r k x i = r i := by simp [updPt, h]
def factOf (S : List (Nat × MSpec)) (r : Nat → Pt) (i : Nat) : List (Nat × (World → Prop)) :=
 match (r i).on, specAt S i with
 | true, some s => [(i, fun w => (r i).hi ≤ w.heap.size ∧ s (r i).v (r i).lo (r i).hi w)]
 | _, _ => []
def Fs (S : List (Nat × MSpec)) (r : Nat → Pt) : Nat → List (Nat × (World → Prop))
 | 0 => []
 | k + 1 => factOf S r k ++ Fs S r k
def Ds (r : Nat → Pt) : Nat → List (Nat × Nat)
 | 0 => []
 | k + 1 => (if (r k).on = true then [((r k).lo, (r k).hi)] else []) ++ Ds r k
theorem acts_congr {a : Act} {r r' : Nat → Pt} {L L' : Nat → Bool} : ∀ m, (∀ i, i < m → L i = L' i ∧ (L i = true → (r i).v = (r' i).v)) → acts ops a r L m = acts ops a r' L' m
 | 0, _ => rfl
 | m + 1, h => by
  unfold acts
  rw [acts_congr m fun i hi => h i (by omega)]
  obtain ⟨h1, h2⟩ := h m (by omega)
  rw [h1]
  by_cases hl : L' m = true
  ·rw [if_pos hl, if_pos hl, h2 (h1.trans hl)]
  ·rw [if_neg hl, if_neg hl]
theorem Fs_congr {S : List (Nat × MSpec)} {r r' : Nat → Pt} : ∀ k, (∀ i, i < k → r i = r' i) → Fs S r k = Fs S r' k
 | 0, _ => rfl
 | k + 1, h => by
  unfold Fs factOf
  rw [Fs_congr k fun i hi => h i (by omega), h k (by omega)]
theorem Ds_congr {r r' : Nat → Pt} : ∀ k, (∀ i, i < k → r i = r' i) → Ds r k = Ds r' k
 | 0, _ => rfl
 | k + 1, h => by
  unfold Ds
  rw [Ds_congr k fun i hi => h i (by omega), h k (by omega)]
theorem mem_Ds {r : Nat → Pt} {p : Nat × Nat} : ∀ k, p ∈ Ds r k → ∃ i, i < k ∧ (r i).on = true ∧ p = ((r i).lo, (r i).hi)
 | 0, h => by simp [Ds] at h
 | k + 1, h => by
  unfold Ds at h
  rcases List.mem_append.1 h with h | h
  ·by_cases ho : (r k).on = true
   ·rw [if_pos ho] at h
    exact ⟨k, by omega, ho, by simpa using h⟩
   ·rw [if_neg ho] at h; simp at h
  ·obtain ⟨i, hi, h'⟩ := mem_Ds k h
   exact ⟨i, by omega, h'⟩
theorem mem_Fs {S : List (Nat × MSpec)} {r : Nat → Pt} {p : Nat × (World → Prop)} : ∀ k, p ∈ Fs S r k → ∃ i s, i < k ∧ (r i).on = true ∧ specAt S i = some s ∧ p = (i, fun w => (r i).hi ≤ w.heap.size ∧ s (r i).v (r i).lo (r i).hi w)
 | 0, h => by simp [Fs] at h
 | k + 1, h => by
  unfold Fs at h
  rcases List.mem_append.1 h with h | h
  ·unfold factOf at h
   split at h
   ·next s ho hs => exact ⟨k, s, by omega, ho, hs, by simpa using h⟩
   ·simp at h
  ·obtain ⟨i, s, hi, h'⟩ := mem_Fs k h
   exact ⟨i, s, by omega, h'⟩

/-- Two frames hold the same at some temporaries. -/
def Agree (T : List Tmp) (a b : Act) : Prop := a.tmps.size = b.tmps.size ∧ ∀ t, t ∈ T → a.tmps[t]? = b.tmps[t]?
theorem Act.put_size (a : Act) (d : Option Tmp) (v : Value) : (a.put d v).tmps.size = a.tmps.size := by cases d <;> simp [Act.put]
theorem Agree.put {T : List Tmp} {a b : Act} (h : Agree T a b) (d : Option Tmp) (v : Value) : Agree T (a.put d v) (b.put d v) := by
 refine ⟨by rw [Act.put_size, Act.put_size, h.1], fun t ht => ?_⟩
 cases d with
 | none => exact h.2 t ht
 | some d =>
  simp only [Act.put, Array.getElem?_setIfInBounds]
  rw [h.1, h.2 t ht]
theorem Agree.left {T : List Tmp} {a b : Act} (h : Agree T a b) {d : Option Tmp} (hd : ∀ t, d = some t → t ∉ T) (v : Value) : Agree T (a.put d v) b := by
 refine ⟨by rw [Act.put_size, h.1], fun t ht => ?_⟩
 cases d with
 | none => exact h.2 t ht
 | some d =>
  have hne : d ≠ t := fun e => hd d rfl (e ▸ ht)
  simp only [Act.put]
  rw [Array.getElem?_setIfInBounds_ne hne]
  exact h.2 t ht
theorem Agree.symm {T : List Tmp} {a b : Act} (h : Agree T a b) : Agree T b a := ⟨h.1.symm, fun t ht => (h.2 t ht).symm⟩
theorem agree_acts {T : List Tmp} {a : Act} {r r' : Nat → Pt} {L L' : Nat → Bool} : ∀ m, (∀ i, i < m → (∀ t, dstOf ops i = some t → t ∉ T) ∨ (L i = L' i ∧ (L i = true → (r i).v = (r' i).v))) → Agree T (acts ops a r L m) (acts ops a r' L' m)
 | 0, _ => ⟨rfl, fun _ _ => rfl⟩
 | m + 1, h => by
  have ih := agree_acts (T := T) (a := a) (r := r) (r' := r') (L := L) (L' := L') m fun i hi => h i (by omega)
  unfold acts
  rcases h m (by omega) with h1 | ⟨h1, h2⟩
  ·split
   ·split
    ·exact ((ih.left h1 _).symm.left h1 _).symm
    ·exact ih.left h1 _
   ·split
    ·exact (ih.symm.left h1 _).symm
    ·exact ih
  ·rw [← h1]
   split
   ·next hl => rw [h2 hl]; exact ih.put _ _
   ·exact ih
theorem Agree.exec {o : Oper} {a b : Act} (h : Agree (o.looksAt ops) a b) (hs : ∀ cs c, o.op ≠ .select cs c) : execOp a.eval o = execOp b.eval o := by
 refine execOp_congr o hs fun x hx => ?_
 cases x with
 | tmp t =>
  have := h.2 t (List.mem_append_left _ (List.mem_filterMap.2 ⟨.tmp t, by simpa using hx, rfl⟩))
  simp only [Act.eval, Array.getD_eq_getD_getElem?, this]
 | _ => rfl
theorem Agree.wanted {o : Oper} {a b : Act} (h : Agree (o.looksAt ops) a b) : Region.wanted o (yielded ops a.tmps) = Region.wanted o (yielded ops b.tmps) := by
 unfold Region.wanted
 cases hg : o.guard with
 | none => rfl
 | some gw =>
  obtain ⟨g, want⟩ := gw
  have hy : yielded ops a.tmps g = yielded ops b.tmps g := by
   unfold yielded
   cases ht : (ops[g]?).bind (·.dst) with
   | none => rfl
   | some t =>
    have := h.2 t (by simp [Oper.looksAt, hg, ht])
    simp [this]
  simp only [hy]

/-- The order of the text, and what each operation looks at. -/
def Region.monoB (md : Region.Mode) (ops : Array Oper) (n : Nat) : Bool :=
 Region.noSelect ops && decide (n ≤ ops.size) && (decide (n = ops.size) || (Region.sinkB md ops n && Region.chainB md ops n)) &&
 Region.seqB md ops (ops.size - n) n ((List.range ops.size).map fun i => decide (i < n)).toArray &&
 ((List.range n).all fun j => match ops[j]? with
  | none => false
  | some oj => oj.after.all (fun e => !Region.binds md e || decide (e.on < j)) &&
   (List.range n).all fun i => match dstOf ops i with
    | none => true
    | some d => (!(oj.looksAt ops).contains d || Region.waitsFor md ops j i) && (decide (i = j) || oj.dst != some d))
structure MonoOk (md : Region.Mode) (ops : Array Oper) (n : Nat) : Prop where
 sel : ∀ (j : Nat) (o : Oper) (cs : Array SelectCase) (b : Bool), ops[j]? = some o → o.op ≠ .select cs b
 le : n ≤ ops.size
 tail : n < ops.size → Region.sinkB md ops n = true ∧ Region.chainB md ops n = true
 seq : Region.seqB md ops (ops.size - n) n ((List.range ops.size).map fun i => decide (i < n)).toArray = true
 back : ∀ j oj, j < n → ops[j]? = some oj → ∀ e, e ∈ oj.after → Region.binds md e = true → e.on < j
 looks : ∀ j oj i d, j < n → i < n → ops[j]? = some oj → dstOf ops i = some d → d ∈ oj.looksAt ops → Region.waitsFor md ops j i = true
 dist : ∀ i j d, i < n → j < n → i ≠ j → dstOf ops i = some d → dstOf ops j ≠ some d
theorem monoB_ok {n : Nat} (h : Region.monoB md ops n = true) : MonoOk md ops n := by
 simp only [Region.monoB, Bool.and_eq_true, decide_eq_true_eq, Bool.or_eq_true, List.all_eq_true, List.mem_range] at h
 obtain ⟨⟨⟨⟨h1, h2⟩, h3⟩, h4⟩, h5⟩ := h
 refine ⟨fun j o cs b => Region.noSelect_spec h1 j o cs b, h2, fun hn => ?_, h4, ?_, ?_, ?_⟩
 ·rcases h3 with h3 | h3
  ·omega
  ·exact h3
 ·intro j oj hj ho e he hb
  have := h5 j hj
  simp only [ho, Bool.and_eq_true] at this
  have h6 := (Array.all_eq_true_iff_forall_mem.1 this.1) e he
  simpa [hb] using h6
 ·intro j oj i d hj hi ho hd hl
  have := h5 j hj
  simp only [ho, Bool.and_eq_true, List.all_eq_true, List.mem_range] at this
  have h6 := this.2 i hi
  simp only [hd, Bool.and_eq_true] at h6
  simpa [hl] using h6.1
 ·intro i j d hi hj hij hd hj'
  have := h5 j hj
  cases ho : ops[j]? with
  | none => simp [ho] at this
  | some oj =>
   simp only [ho, Bool.and_eq_true, List.all_eq_true, List.mem_range] at this
   have h6 := this.2 i hi
   simp only [hd, Bool.and_eq_true] at h6
   simp [dstOf, ho] at hj'
   simp [hij, hj'] at h6
theorem MonoOk.waits {n j i : Nat} (h : MonoOk md ops n) (hj : j < n) (hw : Region.waitsFor md ops j i = true) : i < j := by
 obtain ⟨oj, ho, e, he, hb, rfl⟩ := Region.waitsFor_spec hw
 exact h.back j oj hj ho e he hb
theorem closed_waits {n j i : Nat} {listed : Array Bool} (h : HeadInv md ops n listed) (hl : listed.getD j false = true) (hw : Region.waitsFor md ops j i = true) : listed.getD i false = true := by
 obtain ⟨oj, ho, e, he, hb, rfl⟩ := Region.waitsFor_spec hw
 exact h.closed j oj ho hl e he hb
theorem ready_waits {j i : Nat} {listed : Array Bool} (hj : j ∈ Region.ready md ops listed) (hw : Region.waitsFor md ops j i = true) : listed.getD i false = true := by
 obtain ⟨oj, ho, e, he, hb, rfl⟩ := Region.waitsFor_spec hw
 obtain ⟨_, o', ho', hall⟩ := mem_ready.1 hj
 have : o' = oj := Option.some.inj (ho'.symm.trans ho)
 subst this
 exact hall e he hb
theorem ready_reach {j i n : Nat} {listed : Array Bool} (h : HeadInv md ops n listed) (f : Nat) (hj : ∀ k, Region.waitsFor md ops j k = true → listed.getD k false = true) (hw : reachB md ops f j i = true) : listed.getD i false = true := by
 induction f generalizing j with
 | zero => simp [reachB] at hw
 | succ f ih =>
  simp only [reachB, Bool.or_eq_true, List.any_eq_true, List.mem_range, Bool.and_eq_true] at hw
  rcases hw with hw | ⟨k, _, h1, h2⟩
  ·exact hj i hw
  ·exact ih (fun m hm => closed_waits h (hj k h1) hm) h2

/-- What a result of a plain operation yields. -/
def Yv (v : Value) : Result Next → Prop
 | .ok (.value u) _ => u = v
 | .ok .skip _ => v = undef
 | _ => False
theorem Yv.eq {v u : Value} {r : Result Next} (h : Yv v r) (k : Yv u r) : v = u := by
 cases r with
 | halt x w => exact h.elim
 | ok n w => cases n <;> simp only [Yv] at h k <;> first | exact h.elim | exact h.symm.trans k | exact h.trans k.symm
theorem quiet_yv {o : Oper} {a : Act} {C : World → Prop} {w : World} {v : Value} (hp : plainB o = true) (h : o.quietAt P a C w v) : Yv v ((execOp a.eval o).run P w) ∧ ((execOp a.eval o).run P w = .ok (.value v) w ∨ ((execOp a.eval o).run P w = .ok .skip w ∧ v = undef)) := by
 unfold Oper.quietAt at h
 have hn := plain_run (P := P) hp a.eval w
 generalize (execOp a.eval o).run P w = r at *
 cases r with
 | halt x w' => exact h.elim
 | ok n w' =>
  cases n <;> simp only [Oper.quietUpon] at h
  ·obtain ⟨rfl, rfl⟩ := h; exact ⟨rfl, .inl rfl⟩
  ·obtain ⟨rfl, rfl⟩ := h; exact ⟨rfl, .inr ⟨rfl, rfl⟩⟩
  ·exact absurd rfl (hn _ _ _)
def Ran (P : Program) (ops : Array Oper) (W : World) (S : List (Nat × MSpec)) (A : Act) (x : Pt) (w : World) (i : Nat) : Prop :=
 ∃ o, ops[i]? = some o ∧
  ((Region.wanted o (yielded ops A.tmps) = false ∧ x = Pt.off undef) ∨
   (Region.wanted o (yielded ops A.tmps) = true ∧ specAt S i = none ∧ x = Pt.off x.v ∧ ∃ wi, Ext W wi ∧ Yv x.v ((execOp A.eval o).run P wi)) ∨
   (Region.wanted o (yielded ops A.tmps) = true ∧ ∃ s, specAt S i = some s ∧ x.on = true ∧ W.heap.size ≤ x.lo ∧ x.lo ≤ x.hi ∧ x.hi ≤ w.heap.size ∧ s x.v x.lo x.hi w))
structure RInv (P : Program) (md : Region.Mode) (ops : Array Oper) (W : World) (S : List (Nat × MSpec)) (n : Nat) (a : Act) (listed : Array Bool) (r : Nat → Pt) (w : World) : Prop where
 head : HeadInv md ops n listed
 ext : Ext W w
 ran : ∀ i, i < n → listed.getD i false = true → Ran P ops W S (acts ops a r (fun i => listed.getD i false) n) (r i) w i
 disj : ∀ i j, i < n → j < n → listed.getD i false = true → listed.getD j false = true → (r i).on = true → (r j).on = true → i ≠ j → (r i).hi ≤ (r j).lo ∨ (r j).hi ≤ (r i).lo
theorem acts_lt {a : Act} {r : Nat → Pt} {k : Nat} : ∀ n, k ≤ n → acts ops a r (fun i => decide (i < k)) n = acts ops a r (fun _ => true) k
 | 0, h => by obtain rfl : k = 0 := by omega
              rfl
 | n + 1, h => by
  by_cases hk : k = n + 1
  ·subst hk
   exact acts_congr _ fun i hi => ⟨by simpa using hi, fun _ => rfl⟩
  ·have h1 : ¬ decide (n < k) = true := by simp; omega
   have h2 : k ≤ n := by omega
   have ih := acts_lt (a := a) (r := r) n h2
   unfold acts
   rw [if_neg h1]
   cases k <;> exact ih
/-- An operation of which all that it waits for has come up looks at the same as in the order of the text. -/
theorem agree_walk {n j : Nat} {oj : Oper} {a : Act} {r r' : Nat → Pt} {listed : Array Bool} (ok : MonoOk md ops n) (hj : j < n) (ho : ops[j]? = some oj)
  (hl : ∀ i, Region.waitsFor md ops j i = true → listed.getD i false = true) (hr : ∀ i, i < n → listed.getD i false = true → r' i = r i) :
  Agree (oj.looksAt ops) (acts ops a r' (fun _ => true) j) (acts ops a r (fun i => listed.getD i false) n) := by
 rw [← acts_lt (ops := ops) (a := a) (r := r') (k := j) n (Nat.le_of_lt hj)]
 refine agree_acts n fun i hi => ?_
 by_cases hc : ∃ d, dstOf ops i = some d ∧ d ∈ oj.looksAt ops
 ·obtain ⟨d, hd, hm⟩ := hc
  have hw := ok.looks j oj i d hj hi ho hd hm
  have h1 := ok.waits hj hw
  have h2 := hl i hw
  refine .inr ⟨by rw [h2]; simpa using h1, fun _ => by rw [hr i hi h2]⟩
 ·exact .inl fun t ht hm => hc ⟨t, ht, hm⟩
theorem acts_add {n j : Nat} {a : Act} {r : Nat → Pt} {L L' : Nat → Bool} {x : Pt} (hd : ∀ i d, i < n → i ≠ j → dstOf ops j = some d → dstOf ops i ≠ some d) (hj : j < n) (hL : L j = false) (hL' : L' j = true) (hne : ∀ i, i ≠ j → L' i = L i) :
  ∀ m, m ≤ n → acts ops a (updPt r j x) L' m = if j < m then (acts ops a r L m).put (dstOf ops j) x.v else acts ops a r L m
 | 0, _ => by simp [acts]
 | m + 1, hm => by
  have ih := acts_add (a := a) (r := r) (x := x) hd hj hL hL' hne m (by omega)
  unfold acts
  rw [ih]
  by_cases hmj : m = j
  ·subst hmj
   have h1 : m < m + 1 := Nat.lt_succ_self m
   have h2 : ¬ L m = true := by rw [hL]; exact Bool.false_ne_true
   rw [if_pos hL', updPt_same, if_neg (Nat.lt_irrefl _), if_pos h1, if_neg h2]
  ·rw [hne m hmj, updPt_ne _ _ hmj]
   by_cases hjm : j < m
   ·have h1 : j < m + 1 := by omega
    rw [if_pos hjm, if_pos h1]
    by_cases hLm : L m = true
    ·rw [if_pos hLm, if_pos hLm]
     exact Act.put_comm _ _ _ fun d h => hd m d (by omega) hmj h
    ·rw [if_neg hLm, if_neg hLm]
   ·have h1 : ¬ j < m + 1 := by omega
    rw [if_neg hjm, if_neg h1]
theorem MQ.take {o : Oper} {a : Act} {s : MSpec} {w : World} (hw : Region.wanted o (yielded ops a.tmps) = true) (h : wpList P ops (MQ a o.dst s w) [o] a w) : o.wp P a w (fun a' w' => MQ a o.dst s w .normal a' w') (MQ a o.dst s w) := by
 unfold wpList at h
 rw [if_pos hw] at h
 rcases h with h | ⟨_, h⟩
 ·exact h
 ·exact (MQ.no_out h).elim
theorem MQ.some_ {o : Oper} {a : Act} {s : MSpec} {w : World} (h : o.wp P a w (fun a' w' => MQ a o.dst s w .normal a' w') (MQ a o.dst s w)) : ∃ v lo hi w', Ext w w' ∧ w.heap.size ≤ lo ∧ lo ≤ hi ∧ hi ≤ w'.heap.size ∧ s v lo hi w' := by
 have key : ∀ a' w', MQ a o.dst s w .normal a' w' → ∃ v lo hi w', Ext w w' ∧ w.heap.size ≤ lo ∧ lo ≤ hi ∧ hi ≤ w'.heap.size ∧ s v lo hi w' := fun a' w' ⟨v, lo, hi, _, h⟩ => ⟨v, lo, hi, w', h⟩
 unfold Oper.wp at h
 generalize (execOp a.eval o).run P w = r at h
 cases r with
 | halt x w' => cases x <;> exact h.elim
 | ok n w' =>
  cases n <;> simp only [Oper.upon] at h <;> first
   | exact h.elim
   | exact key _ _ h
   | (obtain ⟨e, w2, fr, hR, _⟩ := h []
      cases e with
      | returned v => exact key _ _ hR
      | panicked c => exact hR.elim
      | outgrown => exact (MQ.no_out hR).elim)
   | (obtain ⟨v, w2, hR, _⟩ := h (Frame.enter P 0 #[] .normal) []
      exact key _ _ hR)
theorem put_same {a b : Act} (hs : a.tmps.size = b.tmps.size) {d : Option Tmp} {u v : Value} (h : a.put d u = a.put d v) : b.put d u = b.put d v := by
 cases d with
 | none => rfl
 | some d =>
  have h1 := congrArg (fun x : Act => x.tmps[d]?) h
  simp only [Act.put, Array.getElem?_setIfInBounds_self] at h1
  by_cases hd : d < a.tmps.size
  ·simp [hd] at h1
   rw [h1]
  ·simp only [Act.put]
   have hd' : b.tmps.size ≤ d := by rw [← hs]; exact Nat.not_lt.1 hd
   rw [Array.setIfInBounds_eq_of_size_le hd', Array.setIfInBounds_eq_of_size_le hd']
theorem MQ.move {o : Oper} {a b : Act} {s : MSpec} {w : World} {K : Act → World → Prop} {Q : Exit → Act → World → Prop} (hs : a.tmps.size = b.tmps.size) (he : execOp a.eval o = execOp b.eval o)
  (h : o.wp P a w (fun a' w' => MQ a o.dst s w .normal a' w') (MQ a o.dst s w)) (hK : ∀ v lo hi w', Ext w w' → w.heap.size ≤ lo → lo ≤ hi → hi ≤ w'.heap.size → s v lo hi w' → K (b.put o.dst v) w') : o.wp P b w K Q := by
 have key : ∀ u w', MQ a o.dst s w .normal (a.put o.dst u) w' → K (b.put o.dst u) w' := fun u w' ⟨v, lo, hi, hv, h1, h2, h3, h4, h5⟩ => by
  rw [put_same hs hv]; exact hK v lo hi w' h1 h2 h3 h4 h5
 unfold Oper.wp at *
 rw [← he]
 generalize (execOp a.eval o).run P w = r at *
 cases r with
 | halt x w' => cases x <;> exact h.elim
 | ok n w' =>
  cases n <;> simp only [Oper.upon] at h ⊢ <;> first
   | exact h.elim
   | exact key _ _ h
   | (refine Calls.mono h fun e w2 hR => ?_
      cases e with
      | returned v => exact key _ _ hR
      | panicked c => exact hR.elim
      | outgrown => exact (MQ.no_out hR).elim)
   | (refine Rows.mono h fun v w2 hR => key _ _ hR)
   | (obtain ⟨v, lo, hi, hv, _⟩ := h
      have := congrArg (fun x : Act => x.defers.length) hv
      cases hd : o.dst <;> simp [hd, Act.put] at this)

section
variable {S : List (Nat × MSpec)} {n : Nat} {a : Act} {l : List Oper}
/-- What every operation establishes lasts. -/
def Lasts (S : List (Nat × MSpec)) : Prop := ∀ i s, specAt S i = some s → ∀ v lo hi w w', Ext w w' → s v lo hi w → s v lo hi w'
theorem factOf_on {r : Nat → Pt} {k : Nat} {x : Pt} {s : MSpec} (ho : x.on = true) (hs : specAt S k = some s) : factOf S (updPt r k x) k = [(k, fun w => x.hi ≤ w.heap.size ∧ s x.v x.lo x.hi w)] := by
 unfold factOf
 rw [updPt_same, ho, hs]
theorem factOf_off {r : Nat → Pt} {k : Nat} {x : Pt} (ho : x.on = false) : factOf S (updPt r k x) k = [] := by
 unfold factOf
 rw [updPt_same, ho]
theorem complete {Q : Act → List (Nat × (World → Prop)) → Prop} {listed : Array Bool} {r : Nat → Pt} {w : World} (ok : MonoOk md ops n) (hl : ∀ i, i < n → l[i]? = ops[i]?) (hln : l.length = n)
  (hp : ∀ i o, i < n → ops[i]? = some o → specAt S i = none → plainB o = true) (hS : Lasts S) (inv : RInv P md ops W S n a listed r w) (H : wpM P md ops W S Q l 0 a [] []) :
  ∀ k, k ≤ n → ∃ r' w', Ext w w' ∧ (∀ i, i < n → listed.getD i false = true → r' i = r i) ∧
   wpM P md ops W S Q (l.drop k) k (acts ops a r' (fun _ => true) k) (Fs S r' k) (Ds r' k) ∧
   (∀ i, i < k → (r' i).on = true → (listed.getD i false = true ∨ w.heap.size ≤ (r' i).lo) ∧ (r' i).hi ≤ w'.heap.size ∧ ∀ s, specAt S i = some s → s (r' i).v (r' i).lo (r' i).hi w')
 | 0, _ => ⟨r, w, Ext.refl _, fun _ _ _ => rfl, H, fun i hi => absurd hi (by omega)⟩
 | k + 1, hk => by
  obtain ⟨r', w', he, hr, hH, hG⟩ := complete ok hl hln hp hS inv H k (by omega)
  have hkn : k < n := by omega
  obtain ⟨o, ho⟩ : ∃ o, ops[k]? = some o := ⟨_, Array.getElem?_eq_getElem (by have := ok.le; omega)⟩
  have hlo : l[k]? = some o := (hl k hkn).trans ho
  have hdrop : l.drop k = o :: l.drop (k + 1) := by
   rw [List.drop_eq_getElem_cons (by omega)]
   congr 1
   rw [List.getElem?_eq_getElem (by omega)] at hlo
   exact Option.some.inj hlo
  have hdst : dstOf ops k = o.dst := by simp [dstOf, ho]
  rw [hdrop] at hH
  have hag : listed.getD k false = true → Agree (o.looksAt ops) (acts ops a r' (fun _ => true) k) (acts ops a r (fun i => listed.getD i false) n) := fun hlk =>
   agree_walk ok hkn ho (fun i hw => closed_waits inv.head hlk hw) hr
  have key : ∃ x w'', (listed.getD k false = true → x = r k) ∧ Ext w' w'' ∧
    wpM P md ops W S Q (l.drop (k + 1)) (k + 1) ((acts ops a r' (fun _ => true) k).put o.dst x.v) (factOf S (updPt r' k x) k ++ Fs S r' k) ((if x.on = true then [(x.lo, x.hi)] else []) ++ Ds r' k) ∧
    (x.on = true → (listed.getD k false = true ∨ w.heap.size ≤ x.lo) ∧ x.hi ≤ w''.heap.size ∧ ∀ s, specAt S k = some s → s x.v x.lo x.hi w'') := by
   unfold wpM at hH
   split at hH
   ·next hw =>
    rcases hH with ⟨hs, v, hv, hK⟩ | ⟨s, hs, h1, h2⟩
    ·by_cases hlk : listed.getD k false = true
     ·obtain ⟨o', ho', hR⟩ := inv.ran k hkn hlk
      obtain rfl : o' = o := Option.some.inj (ho'.symm.trans ho)
      have hA := hag hlk
      have hwA := hA.wanted
      rw [hw] at hwA
      rcases hR with ⟨h1, _⟩ | ⟨_, _, hx, wi, hwi, hy⟩ | ⟨_, s, hs', _⟩
      ·rw [h1] at hwA; cases hwA
      ·have h3 := (quiet_yv (hp k _ hkn ho hs) (hv wi ⟨⟨wi, hwi⟩, rfl⟩)).1
       rw [hA.exec (fun cs b => ok.sel k _ cs b ho)] at h3
       have hvv := hy.eq h3
       refine ⟨r k, w', fun _ => rfl, Ext.refl _, ?_, fun hon => ?_⟩
       ·have hoff : (r k).on = false := by rw [hx]; rfl
        rw [factOf_off hoff, hoff, hvv]
        exact hK
       ·rw [hx] at hon; cases hon
      ·rw [hs] at hs'; cases hs'
     ·refine ⟨Pt.off v, w', fun h => absurd h hlk, Ext.refl _, ?_, fun hon => by cases hon⟩
      rw [factOf_off rfl]
      exact hK
    ·by_cases hlk : listed.getD k false = true
     ·obtain ⟨o', ho', hR⟩ := inv.ran k hkn hlk
      obtain rfl : o' = o := Option.some.inj (ho'.symm.trans ho)
      have hwA := (hag hlk).wanted
      rw [hw] at hwA
      rcases hR with ⟨h3, _⟩ | ⟨_, hs', _⟩ | ⟨_, s', hs', hon, g1, g2, g3, g4⟩
      ·rw [h3] at hwA; cases hwA
      ·rw [hs] at hs'; cases hs'
      ·obtain rfl : s = s' := Option.some.inj (hs.symm.trans hs')
       refine ⟨r k, w', fun _ => rfl, Ext.refl _, ?_, fun _ => ⟨.inl hlk, Nat.le_trans g3 he.size, fun s' hs' => ?_⟩⟩
       ·rw [factOf_on hon hs, if_pos hon]
        refine h2 _ _ _ g1 g2 (fun p hp' => ?_) ⟨w, g4⟩
        obtain ⟨i, hik, hio, rfl⟩ := mem_Ds k hp'
        rcases (hG i hik hio).1 with h5 | h5
        ·have h6 := hr i (by omega) h5
         rw [h6] at hio ⊢
         exact inv.disj i k (by omega) hkn h5 hlk hio hon (by omega)
        ·exact .inr (Nat.le_trans g3 h5)
       ·obtain rfl : s = s' := Option.some.inj (hs.symm.trans hs')
        exact hS k s hs _ _ _ _ _ he g4
     ·obtain ⟨v, lo, hi, w'', e1, e2, e3, e4, e5⟩ := MQ.some_ (MQ.take hw (h1 w' (inv.ext.trans he) fun p hp' _ => by
       obtain ⟨i, s', hik, hio, hs', rfl⟩ := mem_Fs k hp'
       have := hG i hik hio
       exact ⟨this.2.1, this.2.2 s' hs'⟩))
      refine ⟨⟨v, lo, hi, true⟩, w'', fun h => absurd h hlk, e1, ?_, fun _ => ⟨.inr (Nat.le_trans he.size e2), e4, fun s' hs' => ?_⟩⟩
      ·rw [factOf_on rfl hs, if_pos rfl]
       refine h2 v lo hi (Nat.le_trans (inv.ext.trans he).size e2) e3 (fun p hp' => ?_) ⟨w'', e5⟩
       obtain ⟨i, hik, hio, rfl⟩ := mem_Ds k hp'
       exact .inl (Nat.le_trans (hG i hik hio).2.1 e2)
      ·obtain rfl : s = s' := Option.some.inj (hs.symm.trans hs')
       exact e5
   ·next hw =>
    refine ⟨Pt.off undef, w', fun hlk => ?_, Ext.refl _, ?_, fun hon => by cases hon⟩
    ·obtain ⟨o', ho', hR⟩ := inv.ran k hkn hlk
     obtain rfl : o' = o := Option.some.inj (ho'.symm.trans ho)
     have hwA := (hag hlk).wanted
     rcases hR with ⟨_, h3⟩ | ⟨h3, _⟩ | ⟨h3, _⟩
     ·exact h3.symm
     ·rw [h3] at hwA; exact absurd hwA hw
     ·rw [h3] at hwA; exact absurd hwA hw
    ·rw [factOf_off rfl]
     exact hH
  obtain ⟨x, w'', hx, he', hH', hG'⟩ := key
  refine ⟨updPt r' k x, w'', he.trans he', ?_, ?_, ?_⟩
  ·intro i hi hli
   by_cases e : i = k
   ·subst e; rw [updPt_same, hx hli]
   ·rw [updPt_ne _ _ e]; exact hr i hi hli
  ·have e1 : acts ops a (updPt r' k x) (fun _ => true) (k + 1) = (acts ops a r' (fun _ => true) k).put o.dst x.v := by
    rw [acts, if_pos rfl, updPt_same, hdst]
    rw [acts_congr (r' := r') (L' := fun _ => true) k fun i hi => ⟨rfl, fun _ => by rw [updPt_ne _ _ (by omega)]⟩]
   have e2 : Fs S (updPt r' k x) (k + 1) = factOf S (updPt r' k x) k ++ Fs S r' k := by
    rw [Fs, Fs_congr (r' := r') k fun i hi => updPt_ne _ _ (by omega)]
   have e3 : Ds (updPt r' k x) (k + 1) = (if x.on = true then [(x.lo, x.hi)] else []) ++ Ds r' k := by
    rw [Ds, Ds_congr (r' := r') k fun i hi => updPt_ne _ _ (by omega), updPt_same]
   rw [e1, e2, e3]
   exact hH'
  ·intro i hi hon
   by_cases e : i = k
   ·subst e
    rw [updPt_same] at hon ⊢
    exact hG' hon
   ·rw [updPt_ne _ _ e] at hon ⊢
    obtain ⟨g1, g2, g3⟩ := hG i (by omega) hon
    exact ⟨g1, Nat.le_trans g2 he'.size, fun s hs => hS i s hs _ _ _ _ _ he' (g3 s hs)⟩
theorem count_set {listed : Array Bool} {j : Nat} (hj : j < listed.size) (hf : listed.getD j false = false) : ∀ m, ((List.range m).countP fun i => !(listed.setIfInBounds j true).getD i false) + (if j < m then 1 else 0) = (List.range m).countP fun i => !listed.getD i false
 | 0 => by simp
 | m + 1 => by
  have ih := count_set hj hf m
  rw [List.range_succ, List.countP_append, List.countP_append]
  by_cases hm : m = j
  ·subst hm
   have h0 : m < m + 1 := Nat.lt_succ_self m
   rw [if_neg (Nat.lt_irrefl _)] at ih
   rw [if_pos h0]
   have h1 : (listed.setIfInBounds m true).getD m false = true := by simp [hj]
   simp only [List.countP_cons, List.countP_nil, h1, hf, Bool.not_true, Bool.not_false, if_true, Bool.false_eq_true, if_false]
   omega
  ·rw [List.countP_cons, List.countP_cons, getD_set_ne false (Ne.symm hm)]
   by_cases hjm : j < m
   ·have h0 : j < m + 1 := by omega
    rw [if_pos hjm] at ih
    rw [if_pos h0]
    simp only [List.countP_nil, Nat.zero_add]
    omega
   ·have h0 : ¬ j < m + 1 := by omega
    rw [if_neg hjm] at ih
    rw [if_neg h0]
    simp only [List.countP_nil, Nat.zero_add]
    omega
/-- The state behind one operation more. -/
theorem RInv.add {listed : Array Bool} {r : Nat → Pt} {w w'' : World} {j : Nat} {oj : Oper} {x : Pt} (ok : MonoOk md ops n) (hS : Lasts S) (inv : RInv P md ops W S n a listed r w) (hj : j < n) (ho : ops[j]? = some oj)
  (hr : j ∈ Region.ready md ops listed) (he : Ext w w'')
  (hx : Ran P ops W S (acts ops a r (fun i => listed.getD i false) n) x w'' j) (hlo : x.on = true → w.heap.size ≤ x.lo) :
  RInv P md ops W S n a (listed.setIfInBounds j true) (updPt r j x) w'' ∧ acts ops a (updPt r j x) (fun i => (listed.setIfInBounds j true).getD i false) n = (acts ops a r (fun i => listed.getD i false) n).put oj.dst x.v := by
 have hun := (mem_ready.1 hr).1
 have hjs : j < listed.size := by rw [inv.head.size]; have := ok.le; omega
 have hjf : listed.getD j false = false := getD_both hun
 have hdst : dstOf ops j = oj.dst := by simp [dstOf, ho]
 have hact : acts ops a (updPt r j x) (fun i => (listed.setIfInBounds j true).getD i false) n = (acts ops a r (fun i => listed.getD i false) n).put oj.dst x.v := by
  have := acts_add (ops := ops) (a := a) (r := r) (x := x) (L := fun i => listed.getD i false) (L' := fun i => (listed.setIfInBounds j true).getD i false) (n := n) (j := j)
   (fun i d hi hij hd => fun hd' => ok.dist j i d hj hi (Ne.symm hij) hd hd') hj hjf (by simp [hjs]) (fun i hij => getD_set_ne false (Ne.symm hij)) n (Nat.le_refl _)
  rw [this, if_pos hj, hdst]
 have keep : ∀ i oi, i < n → ops[i]? = some oi → (i = j ∨ listed.getD i false = true) → Agree (oi.looksAt ops) ((acts ops a r (fun i => listed.getD i false) n).put oj.dst x.v) (acts ops a r (fun i => listed.getD i false) n) := by
  intro i oi hi hoi hij
  refine Agree.left ⟨rfl, fun _ _ => rfl⟩ (fun t ht hm => ?_) _
  have hw := ok.looks i oi j t hi hj hoi (by rw [hdst]; exact ht) hm
  rcases hij with rfl | hij
  ·exact absurd (ok.waits hi hw) (Nat.lt_irrefl _)
  ·have := closed_waits inv.head hij hw
   rw [hjf] at this; cases this
 refine ⟨⟨inv.head.set hr hj, inv.ext.trans he, ?_, ?_⟩, hact⟩
 ·intro i hi hli
  rw [hact]
  by_cases hij : i = j
  ·subst hij
   rw [updPt_same]
   obtain ⟨o, ho', h⟩ := hx
   obtain rfl : o = oj := Option.some.inj (ho'.symm.trans ho)
   have hA := keep i o hi ho (.inl rfl)
   refine ⟨o, ho, ?_⟩
   rw [hA.wanted, hA.exec (fun cs b => ok.sel i _ cs b ho)]
   exact h
  ·rw [getD_set_ne false (Ne.symm hij)] at hli
   rw [updPt_ne _ _ hij]
   obtain ⟨o, ho', h⟩ := inv.ran i hi hli
   have hA := keep i o hi ho' (.inr hli)
   refine ⟨o, ho', ?_⟩
   rw [hA.wanted, hA.exec (fun cs b => ok.sel i _ cs b ho')]
   rcases h with h | h | ⟨h1, s, h2, h3, h4, h5, h6, h7⟩
   ·exact .inl h
   ·exact .inr (.inl h)
   ·exact .inr (.inr ⟨h1, s, h2, h3, h4, h5, Nat.le_trans h6 he.size, hS i s h2 _ _ _ _ _ he h7⟩)
 ·have hhi : ∀ i, i < n → listed.getD i false = true → (r i).on = true → (r i).hi ≤ w.heap.size := by
   intro i hi hli hon
   obtain ⟨o, _, h⟩ := inv.ran i hi hli
   rcases h with ⟨_, h⟩ | ⟨_, _, h, _⟩ | ⟨_, s, _, _, _, _, h, _⟩
   ·rw [h] at hon; cases hon
   ·rw [h] at hon; cases hon
   ·exact h
  intro i k hi hk hli hlk hoi hok hik
  by_cases hij : i = j
  ·subst hij
   rw [updPt_same] at hoi ⊢
   rw [updPt_ne _ _ (Ne.symm hik)] at hok ⊢
   rw [getD_set_ne false hik] at hlk
   exact .inr (Nat.le_trans (hhi k hk hlk hok) (hlo hoi))
  ·rw [updPt_ne _ _ hij] at hoi ⊢
   rw [getD_set_ne false (Ne.symm hij)] at hli
   by_cases hkj : k = j
   ·subst hkj
    rw [updPt_same] at hok ⊢
    exact .inl (Nat.le_trans (hhi i hi hli hoi) (hlo hok))
   ·rw [updPt_ne _ _ hkj] at hok ⊢
    rw [getD_set_ne false (Ne.symm hkj)] at hlk
    exact inv.disj i k hi hk hli hlk hoi hok hik
theorem listed_done {listed : Array Bool} (inv : HeadInv md ops n listed) (h : ∀ i, i < n → listed.getD i false = true) : listed = ((List.range ops.size).map fun i => decide (i < n)).toArray := by
 refine Array.ext (by simp [inv.size]) fun i h1 h2 => ?_
 simp only [List.getElem_toArray, List.getElem_map, List.getElem_range]
 by_cases hi : i < n
 ·have := h i hi
  simp [h1] at this
  simp [hi, this]
 ·have := inv.tail i (by omega) (by rw [← inv.size]; exact h1)
  simp [h1] at this
  simp [hi, this]
theorem mono_any {Qr : Exit → Act → World → Prop} (ok : MonoOk md ops n) (hl : ∀ i, i < n → l[i]? = ops[i]?) (hln : l.length = n)
  (hp : ∀ i o, i < n → ops[i]? = some o → specAt S i = none → plainB o = true) (hS : Lasts S)
  (H : wpM P md ops W S (fun a' F => ∀ w', Ext W w' → (∀ p, p ∈ F → p.2 w') → wpList P ops Qr (ops.toList.drop n) a' w') l 0 a [] []) (f : Nat) :
  ∀ (listed : Array Bool) (r : Nat → Pt) (w : World), RInv P md ops W S n a listed r w → ((List.range n).countP fun i => !listed.getD i false) = f → wpAny P md ops Qr (f + (ops.size - n)) listed (acts ops a r (fun i => listed.getD i false) n) w := by
 induction f with
 | zero =>
  intro listed r w inv hf
  have hall : ∀ i, i < n → listed.getD i false = true := by
   intro i hi
   have := List.countP_eq_zero.1 hf i (List.mem_range.2 hi)
   simpa using this
  obtain ⟨r', w', he, hr, hH, hG⟩ := complete ok hl hln hp hS inv H n (Nat.le_refl _)
  rw [show l.drop n = [] from List.drop_eq_nil_of_le (by omega)] at hH
  have hact : acts ops a r' (fun _ => true) n = acts ops a r (fun i => listed.getD i false) n := acts_congr n fun i hi => ⟨(hall i hi).symm, fun _ => by rw [hr i hi (hall i hi)]⟩
  rw [hact] at hH
  have hH' := hH w inv.ext fun p hp' => by
   obtain ⟨i, s, hi, hon, hs, rfl⟩ := mem_Fs n hp'
   rw [hr i hi (hall i hi)] at hon ⊢
   obtain ⟨o, _, h⟩ := inv.ran i hi (hall i hi)
   rcases h with ⟨_, h⟩ | ⟨_, _, h, _⟩ | ⟨_, s', h2, _, _, _, h6, h7⟩
   ·rw [h] at hon; cases hon
   ·rw [h] at hon; cases hon
   ·obtain rfl : s = s' := Option.some.inj (hs.symm.trans h2)
    exact ⟨h6, h7⟩
  have hdl : (ops.toList.drop n).length = ops.size - n := by simp
  have := wpAny_of_seq (md := md) (Q' := Qr) (ops.toList.drop n) n listed _ w (fun j => by simp [List.getElem?_drop]) (by rw [hdl, listed_done inv.head hall]; exact ok.seq) hH'
  rw [hdl] at this
  rwa [Nat.zero_add]
 | succ f ih =>
  intro listed r w inv hf
  rw [show f + 1 + (ops.size - n) = (f + (ops.size - n)) + 1 by omega]
  -- one that has not come up
  obtain ⟨i0, hi0, hu0⟩ : ∃ i, i < n ∧ listed.getD i false = false := by
   have : 0 < (List.range n).countP fun i => !listed.getD i false := by omega
   obtain ⟨i, hi, hu⟩ := List.countP_pos_iff.1 this
   exact ⟨i, List.mem_range.1 hi, by simpa using hu⟩
  have hlow : ∀ j, j ∈ Region.ready md ops listed → j < n := by
   intro j hj
   rcases Nat.lt_or_ge j n with h | h
   ·exact h
   ·obtain ⟨_, oj, hoj, _⟩ := mem_ready.1 hj
    have hjs : j < ops.size := (Array.getElem?_eq_some_iff.1 hoj).1
    have ht := ok.tail (by omega)
    exact absurd hj (tail_waits ht.1 ht.2 (by omega) inv.head _ i0 rfl hi0 (getD_in (by rw [inv.head.size]; omega) hu0) j h)
  have hne : Region.ready md ops listed ≠ [] := by
   have hex : ∀ d i, i < n → i < d → listed.getD i false = false → ∃ j, j ∈ Region.ready md ops listed := by
    intro d
    induction d with
    | zero => intro i _ hi; omega
    | succ d ihd =>
     intro i hin hid hu
     obtain ⟨oi, hoi⟩ : ∃ o, ops[i]? = some o := ⟨_, Array.getElem?_eq_getElem (by have := ok.le; omega)⟩
     by_cases hall : ∀ e, e ∈ oi.after → Region.binds md e = true → listed.getD e.on false = true
     ·exact ⟨i, mem_ready.2 ⟨getD_in (by rw [inv.head.size]; have := ok.le; omega) hu, oi, hoi, hall⟩⟩
     ·simp only [Classical.not_forall] at hall
      obtain ⟨e, he, hb, hu'⟩ := hall
      have hlt := ok.back i oi hin hoi e he hb
      exact ihd e.on (by omega) (by omega) (by simpa using hu')
   obtain ⟨j, hj⟩ := hex (i0 + 1) i0 hi0 (by omega) hu0
   exact List.ne_nil_of_mem hj
  refine ⟨fun h0 => absurd h0 hne, fun j hj => ?_⟩
  have hjn := hlow j hj
  have hjs : j < listed.size := by rw [inv.head.size]; have := ok.le; omega
  have hjf : listed.getD j false = false := getD_both (mem_ready.1 hj).1
  obtain ⟨oj, hoj⟩ : ∃ o, ops[j]? = some o := ⟨_, Array.getElem?_eq_getElem (by have := ok.le; omega)⟩
  obtain ⟨r', w', he, hr, hH, hG⟩ := complete ok hl hln hp hS inv H j (by omega)
  have hlo' : l[j]? = some oj := (hl j hjn).trans hoj
  have hdrop : l.drop j = oj :: l.drop (j + 1) := by
   rw [List.drop_eq_getElem_cons (by omega)]
   congr 1
   rw [List.getElem?_eq_getElem (by omega)] at hlo'
   exact Option.some.inj hlo'
  rw [hdrop] at hH
  have hA : Agree (oj.looksAt ops) (acts ops a r' (fun _ => true) j) (acts ops a r (fun i => listed.getD i false) n) := agree_walk ok hjn hoj (fun i hw => ready_waits hj hw) hr
  have hex := hA.exec (fun cs b => ok.sel j _ cs b hoj)
  have hwa := hA.wanted
  have hcount := count_set hjs hjf n
  rw [if_pos hjn, hf] at hcount
  have next : ∀ (x : Pt) (w'' : World), Ext w w'' → Ran P ops W S (acts ops a r (fun i => listed.getD i false) n) x w'' j → (x.on = true → w.heap.size ≤ x.lo) →
    wpAny P md ops Qr (f + (ops.size - n)) (listed.setIfInBounds j true) ((acts ops a r (fun i => listed.getD i false) n).put oj.dst x.v) w'' := by
   intro x w'' hxe hx hxl
   obtain ⟨inv', hact⟩ := inv.add ok hS hjn hoj hj hxe hx hxl
   rw [← hact]
   exact ih _ _ _ inv' (by omega)
  unfold wpOp
  simp only [hoj]
  unfold wpM at hH
  split at hH
  ·next hw =>
   have hw' : Region.wanted oj (yielded ops (acts ops a r (fun i => listed.getD i false) n).tmps) = true := by rw [← hwa]; exact hw
   rw [if_pos hw']
   refine .inl ?_
   rcases hH with ⟨hs, v, hv, hK⟩ | ⟨s, hs, h1, h2⟩
   ·obtain ⟨hy, hrun⟩ := quiet_yv (hp j _ hjn hoj hs) (hv w ⟨⟨w, inv.ext⟩, rfl⟩)
    rw [hex] at hy hrun
    have hn := next (Pt.off v) w (Ext.refl _) ⟨oj, hoj, .inr (.inl ⟨hw', hs, rfl, w, inv.ext, hy⟩)⟩ (fun h => by cases h)
    unfold Oper.wp
    rcases hrun with hrun | ⟨hrun, hv0⟩
    ·rw [hrun]; exact hn
    ·rw [hrun]
     have hn' : wpAny P md ops Qr (f + (ops.size - n)) (listed.setIfInBounds j true) ((acts ops a r (fun i => listed.getD i false) n).put oj.dst v) w := hn
     rw [hv0] at hn'
     exact hn'
   ·have hwp := MQ.take hw (h1 w inv.ext fun p hp' hre => by
     obtain ⟨i, s', hij, hio, hs', rfl⟩ := mem_Fs j hp'
     have hli := ready_reach inv.head ops.size (fun k hk => ready_waits hj hk) hre
     have h6 := hr i (by omega) hli
     rw [h6] at hio ⊢
     obtain ⟨o, _, h⟩ := inv.ran i (by omega) hli
     rcases h with ⟨_, h⟩ | ⟨_, _, h, _⟩ | ⟨_, s2, hs2, _, _, _, h6, h7⟩
     ·rw [h] at hio; cases hio
     ·rw [h] at hio; cases hio
     ·obtain rfl : s' = s2 := Option.some.inj (hs'.symm.trans hs2)
      exact ⟨h6, h7⟩)
    refine MQ.move hA.1 hex hwp fun v lo hi w'' e1 e2 e3 e4 e5 => ?_
    exact next ⟨v, lo, hi, true⟩ w'' e1 ⟨oj, hoj, .inr (.inr ⟨hw', s, hs, rfl, Nat.le_trans inv.ext.size e2, e3, e4, e5⟩)⟩ (fun _ => e2)
  ·next hw =>
   have hw' : Region.wanted oj (yielded ops (acts ops a r (fun i => listed.getD i false) n).tmps) = false := by rw [← hwa]; simpa using hw
   rw [if_neg (by rw [hw']; exact Bool.false_ne_true)]
   exact next (Pt.off undef) w (Ext.refl _) ⟨oj, hoj, .inl ⟨hw', rfl⟩⟩ (fun h => by cases h)
/-- Which operations are plain, where nothing else is said. -/
def plainsB (ops : Array Oper) (S : List (Nat × MSpec)) (n : Nat) : Bool := (List.range n).all fun i => match ops[i]? with
 | none => true
 | some o => (S.any fun p => p.1 == i) || plainB o
theorem specAt_none {k : Nat} (h : specAt S k = none) : (S.any fun p => p.1 == k) = false := by
 unfold specAt at h
 rw [Option.map_eq_none_iff, List.find?_eq_none] at h
 rw [List.any_eq_false]
 exact h
theorem lasts_of (h : ∀ p, p ∈ S → ∀ v lo hi w w', Ext w w' → p.2 v lo hi w → p.2 v lo hi w') : Lasts S := by
 intro i s hs
 unfold specAt at hs
 rw [Option.map_eq_some_iff] at hs
 obtain ⟨p, hp, rfl⟩ := hs
 exact h p (List.mem_of_find?_eq_some hp)
/-- **The head once, in the order of the text; the tail once, behind it.** -/
theorem wp_region_mono {id : Nat} {Qr : Exit → Act → World → Prop} {w : World} {lo : List Oper} (n : Nat) (S : List (Nat × MSpec)) (hm : P.follows .mixedOrders = true) (hB : Region.monoB .any lo.toArray n = true) (hp : plainsB lo.toArray S n = true)
  (hS : ∀ p, p ∈ S → ∀ v lo hi w w', Ext w w' → p.2 v lo hi w → p.2 v lo hi w')
  (H : wpM P .any lo.toArray w S (fun a' F => ∀ w', Ext w w' → (∀ p, p ∈ F → p.2 w') → wpList P lo.toArray Qr (lo.drop n) a' w') (lo.take n) 0 a [] []) : (Code.region id lo.toArray true).wp P Qr a w := by
 have ok := monoB_ok hB
 have hns : n ≤ lo.length := by simpa using ok.le
 refine wp_region_any hm ?_
 have inv : RInv P .any lo.toArray w S n a (Array.replicate lo.toArray.size false) (fun _ => Pt.off undef) { w with drawn := w.drawn + 1 } := by
  refine ⟨⟨by simp, fun j oj _ hl => ?_, fun t _ ht => getD_in (by simpa using ht) (getD_replicate_false _ _)⟩, (Ext.refl w).drew, fun i _ hl => ?_, fun i j _ _ hl => ?_⟩
  ·rw [getD_replicate_false] at hl; cases hl
  ·rw [getD_replicate_false] at hl; cases hl
  ·rw [getD_replicate_false] at hl; cases hl
 have hc : ((List.range n).countP fun i => !(Array.replicate lo.toArray.size false).getD i false) = n := by
  rw [List.countP_eq_length.2 (fun i _ => by rw [getD_replicate_false]; rfl)]; simp
 have := mono_any (P := P) (md := .any) (ops := lo.toArray) (W := w) (S := S) (n := n) (a := a) (l := lo.take n) (Qr := Qr) ok (fun i hi => by simp [List.getElem?_take_of_lt hi]) (by rw [List.length_take]; omega)
  (fun i o hi ho hs => by
   have h1 := List.all_eq_true.1 hp i (List.mem_range.2 hi)
   simp only [ho, specAt_none hs, Bool.false_or] at h1
   exact h1) (lasts_of hS) (by simpa using H) n _ _ _ inv hc
 have hact : acts lo.toArray a (fun _ => Pt.off undef) (fun i => (Array.replicate lo.toArray.size false).getD i false) n = a := by
  have : ∀ m, acts lo.toArray a (fun _ => Pt.off undef) (fun i => (Array.replicate lo.toArray.size false).getD i false) m = a := by
   intro m
   induction m with
   | zero => rfl
   | succ m ih => unfold acts; rw [if_neg (by rw [getD_replicate_false]; exact Bool.false_ne_true)]; exact ih
  exact this n
 rw [hact] at this
 rw [show n + (lo.toArray.size - n) = lo.toArray.size by simp; omega] at this
 exact this
end
end
end Go
