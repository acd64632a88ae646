/- Walk of the statements' Made: a watch with a truth, out of a sack. -/
import Derived.Test.YtkhjmedfhobebaaGreatDraw
import Derived.Test.YtkhjmedfhobebaaGreatDoV
import Derived.Test.YtkhjmedfhobebaaGreatMadeP
import Derived.Test.YtkhjmedfhobebaaGreatRefT
namespace Go
open Go.RowKit
theorem Sx.grown {d : SackD} {k : Nat} {w W W' : World} {row : Option Nat} (x : Sx d k w W) (hg : W.grownBy W' row) (hr : ∀ j, row = some j → w.heap.size ≤ j) : Sx d k w W' := by
  obtain ⟨⟨h1, h2, h3⟩, h4, h5, h6⟩ := x
  refine ⟨⟨hg.os.trans h1, hg.tape.trans h2, hg.output.trans h3⟩, Nat.le_trans h4 hg.size, fun b hb hne => (hg.block b (by omega) (fun e => by have := hr _ e.symm; omega)).trans (h5 b hb hne), fun t ht => ?_⟩
  have hlt : d.blk < w.heap.size := by obtain ⟨m, hk⟩ := ht; exact hk.lt
  obtain ⟨t', a1, a2, m, hk⟩ := h6 t ht
  exact ⟨t', a1, a2, m, hk.grown hg (fun e => by have := hr _ e.symm; omega)⟩
theorem Sx.set_ {d : SackD} {k : Nat} {w W : World} (x : Sx d k w W) (g i : Nat) (u : Value) (hg : w.heap.size ≤ g) : Sx d k w (W.setCell ⟨g, i, none⟩ u) := by
  obtain ⟨⟨h1, h2, h3⟩, h4, h5, h6⟩ := x
  refine ⟨⟨h1, h2, h3⟩, by simpa using h4, fun b hb hne => (Below.heap_setCell W ⟨g, i, none⟩ u b (show b ≠ g by omega)).trans (h5 b hb hne), fun t ht => ?_⟩
  have hlt : d.blk < w.heap.size := by obtain ⟨m, hk⟩ := ht; exact hk.lt
  obtain ⟨t', a1, a2, m, hk⟩ := h6 t ht
  exact ⟨t', a1, a2, m, hk.far (show d.blk ≠ g by omega) _⟩
theorem OwnR.rd {w : World} {B : Nat} {e : TypeId} {c n cap : Nat} {A : Option Addr} {l : List (List Int)} (h : OwnR w B e c (.slice A n cap) l) : Rd w A n c (rowsAt l) := by
  obtain ⟨A', cap', hv, hr⟩ := h.slR
  obtain ⟨rfl, rfl, -⟩ : A = A' ∧ n = l.length ∧ cap = cap' := by simpa using hv
  exact hr
theorem OwnR.same {w w' : World} {B : Nat} {e : TypeId} {c : Nat} {v : Value} {l : List (List Int)} (h : OwnR w B e c v l) (hs : ∀ g, v.ownBlock = some g → w'.heap[g]? = w.heap[g]?) : OwnR w' B e c v l := by
  refine ⟨h.1, h.2.1, ?_⟩
  rcases h.2.2 with h0 | ⟨g, cap, cur, rfl, hb, hh, hr⟩
  · exact .inl h0
  · exact .inr ⟨g, cap, cur, rfl, hb, (hs g rfl).trans hh, hr⟩
theorem OwnR.far' {w : World} {B : Nat} {e : TypeId} {c : Nat} {v : Value} {l : List (List Int)} (h : OwnR w B e c v l) {p : Addr} (hp : p.block < B) (u : Value) : OwnR (w.setCell p u) B e c v l :=
  h.same fun g hg => Below.heap_setCell w p u g (by have := h.block hg; omega)
/-- An own row lies elsewhere than a box of another type. -/
theorem OwnR.ne_blk {w : World} {B g : Nat} {e t : TypeId} {c : Nat} {v : Value} {l : List (List Int)} {C : Array Value} (h : OwnR w B e c v l) (b : Blk w g t C) (ht : e ≠ t) : v.ownBlock ≠ some g := fun hg => by
  rcases h.2.2 with ⟨rfl, _⟩ | ⟨a, cap, cur, rfl, _, hh, _⟩
  · cases hg
  · simp only [Value.ownBlock, Option.some.injEq] at hg
    subst hg
    unfold Blk at b
    rw [b] at hh
    simp at hh
    exact ht hh.2.symm
theorem OwnR.apart' {w : World} {B B' : Nat} {e e' : TypeId} {c c' : Nat} {v v' : Value} {l l' : List (List Int)} (h : OwnR w B e c v l) (h' : OwnR w B' e' c' v' l') (hne : e ≠ e') (g : Nat) (hg : v.ownBlock = some g) : some g ≠ v'.ownBlock := fun hg' => by
  rcases h.2.2 with ⟨rfl, _⟩ | ⟨a, cap, cur, rfl, _, hh, _⟩
  · cases hg
  · rcases h'.2.2 with ⟨rfl, _⟩ | ⟨b, cap', cur', rfl, _, hh', _⟩
    · cases hg'
    · simp only [Value.ownBlock, Option.some.injEq] at hg hg'
      subst hg
      rw [hg', hh'] at hh
      simp at hh
      exact hne hh.2.symm
/-- Blocks that are not named are as they were. -/
structure Ch (S : Nat → Prop) (w w' : World) : Prop where
  size : w.heap.size ≤ w'.heap.size
  block : ∀ b, b < w.heap.size → ¬ S b → w'.heap[b]? = w.heap[b]?
namespace Ch
variable {S T : Nat → Prop} {w w' w'' : World}
theorem refl (S : Nat → Prop) (w : World) : Ch S w w := ⟨Nat.le_refl _, fun _ _ _ => rfl⟩
theorem trans (h : Ch S w w') (k : Ch T w' w'') (hT : ∀ b, b < w.heap.size → T b → S b) : Ch S w w'' :=
  ⟨Nat.le_trans h.size k.size, fun b hb hs => (k.block b (Nat.lt_of_lt_of_le hb h.size) fun ht => hs (hT b hb ht)).trans (h.block b hb hs)⟩
theorem ofExt (e : Ext w w') : Ch (fun _ => False) w w' := ⟨e.size, fun _ hb _ => e.block hb⟩
theorem ofSx {d : SackD} {k : Nat} (x : Sx d k w w') : Ch (· = d.blk) w w' := ⟨x.size, fun _ hb h => x.block hb h⟩
theorem ofGrown {row : Option Nat} (g : w.grownBy w' row) : Ch (fun b => some b = row) w w' := ⟨g.size, fun b hb h => g.block b hb h⟩
theorem ofSet (w : World) (g i : Nat) (u : Value) : Ch (· = g) w (w.setCell ⟨g, i, none⟩ u) := ⟨by simp, fun b _ h => Below.heap_setCell w ⟨g, i, none⟩ u b h⟩
theorem blk {g : Nat} {t : TypeId} {C : Array Value} (h : Ch S w w') (b : Blk w g t C) (hg : ¬ S g) : Blk w' g t C := (h.block g b.lt hg).trans b
theorem own {B : Nat} {e : TypeId} {c : Nat} {v : Value} {l : List (List Int)} (h : Ch S w w') (o : OwnR w B e c v l) (hg : ∀ g, v.ownBlock = some g → ¬ S g) : OwnR w' B e c v l := o.same fun g hv => h.block g (o.lt hv) (hg g hv)
end Ch
/-- A world's first blocks. -/
def cutW (w : World) (B : Nat) : World := { w with heap := w.heap.extract 0 B }
theorem cutW_size {w : World} {B : Nat} (hB : B ≤ w.heap.size) : (cutW w B).heap.size = B := by
  show (w.heap.extract 0 B).size = B
  rw [Array.size_extract]; omega
theorem cutW_block {w : World} {B b : Nat} (hb : b < B) : (cutW w B).heap[b]? = w.heap[b]? := by
  show (w.heap.extract 0 B)[b]? = _
  rw [Array.getElem?_extract]
  split
  · rw [Nat.zero_add]
  · rw [Array.getElem?_eq_none]; omega
theorem cutW_ext {w : World} {B : Nat} (hB : B ≤ w.heap.size) : Ext (cutW w B) w :=
  ⟨rfl, rfl, rfl, by rw [cutW_size hB]; exact hB, fun b hb => by rw [cutW_size hB] at hb; exact (cutW_block hb).symm⟩
theorem cut_block {w w' : World} {B b : Nat} (e : Ext (cutW w B) w') (hB : B ≤ w.heap.size) (hb : b < B) : w'.heap[b]? = w.heap[b]? :=
  (e.block (by rw [cutW_size hB]; exact hb)).trans (cutW_block hb)
theorem Sx.cut {d : SackD} {k B : Nat} {w W W' : World} (x : Sx d k w W) (e : Ext (cutW W B) W') (hB : B ≤ W.heap.size) (hw : w.heap.size ≤ B) (hd : d.blk < w.heap.size) : Sx d k w W' := by
  obtain ⟨⟨h1, h2, h3⟩, h4, h5, h6⟩ := x
  refine ⟨⟨(Below.os e).trans h1, (Below.tape e).trans h2, (Below.output e).trans h3⟩, ?_, fun b hb hne => (cut_block e hB (by omega)).trans (h5 b hb hne), fun t ht => ?_⟩
  · have := e.size
    rw [cutW_size hB] at this; omega
  · obtain ⟨t', a1, a2, m, hk⟩ := h6 t ht
    exact ⟨t', a1, a2, m, (cut_block e hB (by omega)).trans hk⟩
theorem arr_same {w w' : World} {g N : Nat} {h : Nat → Int} (a : Go.Proofs.YtkhjmedfhobebaaGreat.Arr w g N h) (e : w'.heap[g]? = w.heap[g]?) : Go.Proofs.YtkhjmedfhobebaaGreat.Arr w' g N h := by
  refine ⟨?_, fun i hi => ?_⟩
  · rcases Nat.lt_or_ge g w'.heap.size with q | q
    · exact q
    · have := a.1
      rw [Array.getElem?_eq_none q, Array.getElem?_eq_getElem this] at e
      cases e
  · have := a.2 i hi
    simp only [World.cell?, World.frozen?, e] at this ⊢
    exact this
/-- What stays while a watch is made: its spells, the box of what is returned, and the sack. -/
structure Fix (d : SackD) (w : World) (v5 : Value) (L : List (List Int)) (k : Nat) (wr : World) : Prop where
  sp : OwnR wr (w.heap.size + 1) 114 3 v5 L
  z : Blk wr w.heap.size 26 #[.int .i64 0, .int .i64 0, .int .i64 0, .slice none 0 0, .slice none 0 0, .slice none 0 0]
  x : Sx d k w wr
namespace Fix
variable {d : SackD} {w wr w' : World} {v5 : Value} {L : List (List Int)} {k l : Nat}
theorem mono (f : Fix d w v5 L k wr) (h : k ≤ l) : Fix d w v5 L l wr := ⟨f.sp, f.z, f.x.mono h⟩
theorem sx (f : Fix d w v5 L k wr) (hb : d.blk < w.heap.size) (e : Sx d l wr w') : Fix d w v5 L (k + l) w' :=
  ⟨f.sp.sx e (fun q => by have := f.sp.block q; omega), f.z.sx e (by omega), f.x.trans e⟩
theorem ext (f : Fix d w v5 L k wr) (e : Ext wr w') : Fix d w v5 L k w' := ⟨f.sp.ext e, f.z.ext e, f.x.trans (Sx.ofExt e)⟩
theorem set_ (f : Fix d w v5 L k wr) {g : Nat} {t : TypeId} {C : Array Value} (b : Blk wr g t C) (hg : w.heap.size < g) (ht : 114 ≠ t) (i : Nat) (u : Value) : Fix d w v5 L k (wr.setCell ⟨g, i, none⟩ u) :=
  ⟨(Ch.ofSet wr g i u).own f.sp fun q hq e => by subst e; exact f.sp.ne_blk b ht hq, f.z.far (by show w.heap.size ≠ g; omega) u, f.x.set_ g i u (by omega)⟩
theorem grown (f : Fix d w v5 L k wr) {B : Nat} {e : TypeId} {c : Nat} {v : Value} {l' : List (List Int)} (o : OwnR wr B e c v l') (hB : w.heap.size < B) (ht : 114 ≠ e) (g : wr.grownBy w' v.ownBlock) : Fix d w v5 L k w' :=
  ⟨f.sp.grownBy_other g (f.sp.apart' o ht), f.z.grown g (fun q => by have := o.block q.symm; omega), f.x.grown g fun _ hj => by have := o.block hj; omega⟩
theorem cut {B : Nat} (f : Fix d w v5 L k wr) (e : Ext (cutW wr B) w') (hB : B ≤ wr.heap.size) (hw : w.heap.size < B) (hd : d.blk < w.heap.size) (h5 : ∀ g, v5.ownBlock = some g → g < B) : Fix d w v5 L k w' :=
  ⟨f.sp.same fun g hg => cut_block e hB (h5 g hg), (cut_block e hB hw).trans f.z, f.x.cut e hB (by omega) hd⟩
end Fix
theorem OwnR.of_blk1 {w : World} {B g : Nat} {e : TypeId} {z : Int} (b : Blk w g e #[.int .i64 z]) (hB : B ≤ g) : OwnR w B e 1 (.slice (some ⟨g, 0, none⟩) 1 1) [[z]] :=
  ⟨by simp, by simp [cellsOf], .inr ⟨g, 1, _, rfl, hB, b, by simp, by unfold maxLen; omega, rfl, by simp [cellsOf]⟩⟩
/-- As wpList_append_rows; and where the new slice lies. -/
theorem wpList_append_rows_at {P : Program} {w : World} {ops : Array Oper} {rest : List Oper} {o : Oper} {a : Act} {Q : Exit → Act → World → Prop} (hgd : o.guard = none) (s x : Operand) (T : TypeId)
    (ho : o.op = .call { callee := .builtin .append, args := #[s, x], argTypes := #[T, T] }) {e : TypeId} {c bytes : Nat} (hE : ElemOk P T e c bytes)
    {B : Nat} {v : Value} {l : List (List Int)} (hs : a.eval s = v) (hown : OwnR w B e c v l) (g m cap : Nat) (r : List (List Int)) (hx : a.eval x = .slice (some ⟨g, 0, none⟩) m cap)
    (hm : r.length = m) (hrc : ∀ q ∈ r, q.length = c) (hb : ∀ i, w.cell? ⟨g, i, none⟩ = (cellsOf r)[i]?) (hlen : l.length + m ≤ 1000000) (hB : B ≤ w.heap.size)
    (h : ∀ v' w', OwnR w' B e c v' (l ++ r) → w.grownBy w' v.ownBlock → (v'.ownBlock = v.ownBlock ∨ v'.ownBlock = some w.heap.size) → wpList P ops Q rest (a.put o.dst v') w') :
    wpList P ops Q (o :: rest) a w := by
  obtain ⟨i, z, hi, hz, h1, h2, h3⟩ := hE.i
  have hb0 := hE.b
  refine wpList_append_own_at w hgd s x T ho B e i z c bytes hE.u hi hz h1 h2 h3 hE.c0 v l.length (cellsOf l) hs hown.2 ⟨g, 0, none⟩ m cap (cellsOf r) hx (by rw [cellsOf_length hrc, hm]) ?_ cellsOf_one ?_ ?_ hB ?_
  · intro j u hu
    rw [show (⟨g, 0, none⟩ : Addr).add j = ⟨g, j, none⟩ from by unfold Addr.add; by_cases h0 : j = 0 <;> simp [h0], hb, hu]
  · unfold maxLen; omega
  · have := Nat.mul_le_mul hlen hb0; omega
  · intro v' w' hown' hg _ hat
    exact h v' w' ⟨fun q hq => (List.mem_append.1 hq).elim (hown.1 q) (hrc q), by rw [List.length_append, hm, cellsOf_append]; exact hown'⟩ hg hat
/-- Where the parts of what is made lie. -/
structure Nm (d : SackD) (w : World) (g9 g11 gh NB N1 lc N0 : Nat) (v4 v5 : Value) : Prop where
  hd : d.blk < w.heap.size
  h9 : w.heap.size < g9
  h11 : g9 < g11
  hgh : g11 < gh
  hNB : gh < NB
  hN1 : NB ≤ N1
  hlc : N1 ≤ lc
  hN0 : lc < N0
  p4 : ∀ g, v4.ownBlock = some g → NB ≤ g ∧ g < N1
  p5 : ∀ g, v5.ownBlock = some g → w.heap.size < g ∧ g < g11 ∧ g ≠ g9
/-- What stays while counts are made. -/
structure St (d : SackD) (w : World) (g11 gh n c1 NB : Nat) (v4 v5 : Value) (H : List Int) (M L : List (List Int)) (q : Nat) (wr : World) : Prop where
  b11 : Blk wr g11 56 #[.slice (some ⟨gh, 0, none⟩) n c1]
  o4 : OwnR wr NB 119 2 v4 M
  a : Go.Proofs.YtkhjmedfhobebaaGreat.Arr wr gh n (Go.Proofs.YtkhjmedfhobebaaGreat.ni H)
  f : Fix d w v5 L q wr
namespace St
variable {d : SackD} {w wr w' : World} {g9 g11 gh n c1 NB N1 lc N0 q l : Nat} {v4 v5 : Value} {H : List Int} {M L : List (List Int)}
theorem mono (h : St d w g11 gh n c1 NB v4 v5 H M L q wr) (hl : q ≤ l) : St d w g11 gh n c1 NB v4 v5 H M L l wr := ⟨h.b11, h.o4, h.a, h.f.mono hl⟩
theorem keep {S : Nat → Prop} (h : St d w g11 gh n c1 NB v4 v5 H M L q wr) (m : Nm d w g9 g11 gh NB N1 lc N0 v4 v5) (c : Ch S wr w') (x : Sx d l w w') (hS : ∀ b, S b → b = d.blk ∨ b = g9 ∨ N1 ≤ b) : St d w g11 gh n c1 NB v4 v5 H M L l w' := by
  have hd := m.hd; have h9 := m.h9; have h11 := m.h11; have hgh := m.hgh; have hNB := m.hNB; have hN1 := m.hN1
  refine ⟨c.blk h.b11 fun hs => ?_, c.own h.o4 fun g hg hs => ?_, arr_same h.a (c.block gh h.a.1 fun hs => ?_), ⟨c.own h.f.sp fun g hg hs => ?_, c.blk h.f.z fun hs => ?_, x⟩⟩
  all_goals have := hS _ hs
  · omega
  · have := m.p4 g hg; omega
  · omega
  · have := m.p5 g hg; omega
  · omega
theorem sx (h : St d w g11 gh n c1 NB v4 v5 H M L q wr) (m : Nm d w g9 g11 gh NB N1 lc N0 v4 v5) (x : Sx d l wr w') : St d w g11 gh n c1 NB v4 v5 H M L (q + l) w' := h.keep m (Ch.ofSx x) (h.f.x.trans x) fun _ e => .inl e
theorem ext (h : St d w g11 gh n c1 NB v4 v5 H M L q wr) (e : Ext wr w') : St d w g11 gh n c1 NB v4 v5 H M L q w' := ⟨h.b11.ext e, h.o4.ext e, ⟨Nat.lt_of_lt_of_le h.a.1 e.size, fun i hi => (arr_same h.a (e.block h.a.1)).2 i hi⟩, h.f.ext e⟩
theorem set9 (h : St d w g11 gh n c1 NB v4 v5 H M L q wr) (m : Nm d w g9 g11 gh NB N1 lc N0 v4 v5) (i : Nat) (u : Value) : St d w g11 gh n c1 NB v4 v5 H M L q (wr.setCell ⟨g9, i, none⟩ u) :=
  h.keep m (Ch.ofSet wr g9 i u) (h.f.x.set_ g9 i u (by have := m.h9; omega)) fun _ e => .inr (.inl e)
theorem setT (h : St d w g11 gh n c1 NB v4 v5 H M L q wr) (m : Nm d w g9 g11 gh NB N1 lc N0 v4 v5) (i : Nat) (u : Value) : St d w g11 gh n c1 NB v4 v5 H M L q (wr.setCell ⟨lc, i, none⟩ u) :=
  h.keep m (Ch.ofSet wr lc i u) (h.f.x.set_ lc i u (by have := m.h9; have := m.h11; have := m.hgh; have := m.hNB; have := m.hN1; have := m.hlc; omega)) fun _ e => .inr (.inr (by have := m.hlc; omega))
theorem grown {B : Nat} {e : TypeId} {c : Nat} {v : Value} {r : List (List Int)} (h : St d w g11 gh n c1 NB v4 v5 H M L q wr) (m : Nm d w g9 g11 gh NB N1 lc N0 v4 v5) (o : OwnR wr B e c v r) (hB : N1 ≤ B) (g : wr.grownBy w' v.ownBlock) : St d w g11 gh n c1 NB v4 v5 H M L q w' :=
  h.keep m (Ch.ofGrown g) (h.f.x.grown g fun j hj => by have := o.block hj; have := m.h9; have := m.h11; have := m.hgh; have := m.hNB; have := m.hN1; omega) fun b hb => .inr (.inr (by have := o.block hb.symm; omega))
end St
end Go
namespace Go.Proofs.YtkhjmedfhobebaaGreat
open Go.RowKit HandSpec
set_option maxHeartbeats 3200000
set_option maxRecDepth 100000
/-- A number that was drawn below n. -/
def DrawB (n : Int) : MSpec := fun v _ _ _ => ∃ q : Nat, v = .int .i64 (q : Int) ∧ (q = 0 ∨ (q : Int) < n)
def DrawA (lo hi : Int) : MSpec := fun v _ _ _ => ∃ q : Int, v = .int .i64 q ∧ lo ≤ q ∧ (q = lo ∨ q ≤ hi)
/-- A new row of these cells. -/
def RowS (d : SackD) (t : TypeId) (C : Array Value) : MSpec := fun v lo hi w => v = .slice (some ⟨lo, 0, none⟩) 1 1 ∧ hi = lo + 1 ∧ lo ≠ d.blk ∧ Blk w lo t C
theorem RowS.sx {d : SackD} {t : TypeId} {C : Array Value} {v : Value} {lo hi k : Nat} {w w' : World} (e : Sx d k w w') (h : RowS d t C v lo hi w) : RowS d t C v lo hi w' := ⟨h.1, h.2.1, h.2.2.1, h.2.2.2.sx e h.2.2.1⟩
theorem row3 {w : World} {g : Nat} {t : TypeId} {a b c : Int} (h : Blk w g t #[.int .i64 a, .int .i64 b, .int .i64 c]) : ∀ i, w.cell? ⟨g, i, none⟩ = (cellsOf [[a, b, c]])[i]? := fun i => by rw [h.cell]; simp [cellsOf]
/-- A new spell. -/
def SpellS (d : SackD) (hours hands fr : Int) : MSpec := fun v lo hi w => ∃ a t : Int, 0 ≤ a ∧ a < hands ∧ fr < t ∧ t ≤ hours ∧ RowS d 114 #[.int .i64 a, .int .i64 fr, .int .i64 t] v lo hi w
theorem SpellS.sx {d : SackD} {hours hands fr : Int} {v : Value} {lo hi k : Nat} {w w' : World} (e : Sx d k w w') (h : SpellS d hours hands fr v lo hi w) : SpellS d hours hands fr v lo hi w' := by
  obtain ⟨a, z, h1, h2, h3, h4, h5⟩ := h
  exact ⟨a, z, h1, h2, h3, h4, h5.sx e⟩
theorem row1 {w : World} {g : Nat} {t : TypeId} {a : Int} (h : Blk w g t #[.int .i64 a]) : ∀ i, w.cell? ⟨g, i, none⟩ = (cellsOf [[a]])[i]? := fun i => by rw [h.cell]; simp [cellsOf]
theorem row2 {w : World} {g : Nat} {t : TypeId} {a b : Int} (h : Blk w g t #[.int .i64 a, .int .i64 b]) : ∀ i, w.cell? ⟨g, i, none⟩ = (cellsOf [[a, b]])[i]? := fun i => by rw [h.cell]; simp [cellsOf]
/-- A new booking. -/
def BookS (d : SackD) (hours z : Int) : MSpec := fun v lo hi w => ∃ a : Int, 0 ≤ a ∧ a ≤ hours ∧ RowS d 119 #[.int .i64 a, .int .i64 z] v lo hi w
theorem BookS.sx {d : SackD} {hours z : Int} {v : Value} {lo hi k : Nat} {w w' : World} (e : Sx d k w w') (h : BookS d hours z v lo hi w) : BookS d hours z v lo hi w' := by
  obtain ⟨a, h1, h2, h3⟩ := h
  exact ⟨a, h1, h2, h3.sx e⟩
/-- What lies there at first. -/
def SackS (d : SackD) : MSpec := fun v lo hi w => ∃ z : Int, 250 ≤ z ∧ z ≤ 400 ∧ RowS d 3 #[.int .i64 z] v lo hi w
theorem SackS.sx {d : SackD} {v : Value} {lo hi k : Nat} {w w' : World} (e : Sx d k w w') (h : SackS d v lo hi w) : SackS d v lo hi w' := by
  obtain ⟨a, h1, h2, h3⟩ := h
  exact ⟨a, h1, h2, h3.sx e⟩
/-- A new slice of zeros. -/
def ZeroS (d : SackD) (n : Nat) : MSpec := fun v lo hi w => v = .slice (some ⟨lo, 0, none⟩) n n ∧ lo < hi ∧ lo ≠ d.blk ∧ Arr w lo n (fun _ => 0)
theorem ZeroS.sx {d : SackD} {n : Nat} {v : Value} {lo hi k : Nat} {w w' : World} (e : Sx d k w w') (h : ZeroS d n v lo hi w) : ZeroS d n v lo hi w' := ⟨h.1, h.2.1, h.2.2.1, arr_same h.2.2.2 (e.block h.2.2.2.1 h.2.2.1)⟩
theorem bk_yes {H : List Int} {M : List (List Int)} {i q : Nat} (h1 : decide (ni H i < rowsAt M q 0) = true) (h2 : decide (rowsAt M q 0 ≤ ni H (i+1)) = true) (a : Int) : a + sumTo (bkF H M i) (q+1) = a + sumTo (bkF H M i) q + rowsAt M q 1 := by
  simp only [sumTo]
  rw [show bkF H M i q = rowsAt M q 1 from if_pos ⟨of_decide_eq_true h1, of_decide_eq_true h2⟩]
  omega
theorem bk_no {H : List Int} {M : List (List Int)} {i q : Nat} (h : decide (ni H i < rowsAt M q 0) = false ∨ decide (rowsAt M q 0 ≤ ni H (i+1)) = false) (a : Int) : a + sumTo (bkF H M i) (q+1) = a + sumTo (bkF H M i) q := by
  simp only [sumTo]
  rw [show bkF H M i q = 0 from if_neg fun ⟨a, b⟩ => by
    rcases h with h | h
    · exact of_decide_eq_false h a
    · exact of_decide_eq_false h b]
  omega
theorem sumTo_upd {u : Nat → Int} {q : Nat} {m : Int} (h0 : u q = 0) : ∀ {n : Nat}, q < n → sumTo (upd u q m) n = sumTo u n + m
  | 0, h => absurd h (by omega)
  | n+1, h => by
    simp only [sumTo]
    rcases Nat.lt_or_eq_of_le (Nat.le_of_lt_succ h) with h1 | h1
    · rw [sumTo_upd h0 h1, upd_other _ _ (by omega)]; omega
    · subst h1
      rw [upd_same, HandSpec.L.sumTo_eq (f := upd u q m) (g := u) fun k hk => upd_other _ _ (by omega), h0]; omega
theorem OwnR.len {w : World} {B : Nat} {e : TypeId} {c n cap : Nat} {A : Option Addr} {l : List (List Int)} (h : OwnR w B e c (.slice A n cap) l) : l.length = n := by
  obtain ⟨A', cap', hv, -⟩ := h.slR
  simp only [Value.slice.injEq] at hv
  exact hv.2.1.symm
theorem Arr.rd1 {w : World} {g n : Nat} {h : Nat → Int} (a : Arr w g n h) : Rd w (some ⟨g, 0, none⟩) n 1 (fun k _ => h k) :=
  (a.rd (o := 0) (n := n) (c := 1) (by omega)).congr fun k _ j hj => by
    obtain rfl : j = 0 := by omega
    simp
/-- Is a hand there between two hours: by its spells in memory. -/
theorem held182 {w : World} {B b20 b11 b16 n cap i gh n5 c5 : Nat} {A5 : Option Addr} {h : Nat} {H : List Int} {L : List (List Int)} (hi : i + 1 < n) (hs : OwnR w B 114 3 (.slice A5 n5 c5) L) (h20 : Blk w b20 3 #[.int .i64 (h : Int)]) (h11 : Blk w b11 56 #[.slice (some ⟨gh, 0, none⟩) n cap]) (h16 : Blk w b16 3 #[.int .i64 ((i : Int) + 1)]) (ha : Arr w gh n (ni H)) (hn : n ≤ 1000) (h5 : n5 ≤ 1000) :
    Calls Tryz.prog 182 #[.slice A5 n5 c5, .func (.func 183) #[] #[.pointer (some ⟨b20, 0, none⟩), .pointer (some ⟨b11, 0, none⟩), .pointer (some ⟨b16, 0, none⟩)]] w fun e w' => e = .returned (.bool (hereL H L h i)) ∧ Ext w w' := by
  have hl := OwnR.len hs
  refine (containsFunc182 hs.rd h5 (asks183 (g := rowsAt L) hi h20 h11 h16 ha.rd1 hn)).mono ?_
  rintro e w' ⟨rfl, he⟩
  unfold hereL
  rw [hl]
  exact ⟨rfl, he⟩
theorem t_bd {f : Nat → Int} (h : ∀ i, 0 ≤ f i ∧ f i ≤ 20) : ∀ n : Nat, 0 ≤ sumTo f n ∧ sumTo f n ≤ 20 * (n : Int)
  | 0 => by simp [sumTo]
  | n+1 => by
    have h1 := t_bd h n
    have h2 := h n
    simp only [sumTo]
    omega
/-- What is taken of what lies there. -/
theorem take_bd {z n1 m : Int} (hz : (z = n1 ∨ 100 ≤ z) ∧ z ≤ n1) (hm : 1 ≤ m ∧ m ≤ 20) {y : Int} (hy : y = min (max 0 (z - 100)) m) : (0 ≤ y ∧ y ≤ 20) ∧ (z - y = n1 ∨ 100 ≤ z - y) ∧ z - y ≤ n1 := by omega
/-- A new count. -/
def CountS (d : SackD) (h lo z : Int) : MSpec := fun v l hb w => ∃ hi : Int, z ≤ hi ∧ hi ≤ 500 ∧ RowS d 79 #[.int .i64 h, .int .i64 lo, .int .i64 hi] v l hb w
theorem CountS.sx {d : SackD} {h lo z : Int} {v : Value} {l hb k : Nat} {w w' : World} (e : Sx d k w w') (c : CountS d h lo z v l hb w) : CountS d h lo z v l hb w' := by
  obtain ⟨a, h1, h2, h3⟩ := c
  exact ⟨a, h1, h2, h3.sx e⟩
/-- Six cells of one block. -/
theorem Ch.set6 (W : World) (H : Nat) (a b c d f g : Value) : Ch (· = H) W ((((((W.setCell ⟨H, 0, none⟩ a).setCell ⟨H, 1, none⟩ b).setCell ⟨H, 2, none⟩ c).setCell ⟨H, 3, none⟩ d).setCell ⟨H, 4, none⟩ f).setCell ⟨H, 5, none⟩ g) :=
  ((((((Ch.ofSet W H 0 a).trans (Ch.ofSet _ H 1 b) fun _ _ h => h).trans (Ch.ofSet _ H 2 c) fun _ _ h => h).trans (Ch.ofSet _ H 3 d) fun _ _ h => h).trans (Ch.ofSet _ H 4 f) fun _ _ h => h).trans (Ch.ofSet _ H 5 g) fun _ _ h => h)
theorem _root_.Go.Sx.set6 {d : SackD} {k : Nat} {w W : World} (x : Sx d k w W) {H : Nat} (hH : w.heap.size ≤ H) (a b c e f g : Value) : Sx d k w ((((((W.setCell ⟨H, 0, none⟩ a).setCell ⟨H, 1, none⟩ b).setCell ⟨H, 2, none⟩ c).setCell ⟨H, 3, none⟩ e).setCell ⟨H, 4, none⟩ f).setCell ⟨H, 5, none⟩ g) :=
  (((((x.set_ H 0 a hH).set_ H 1 b hH).set_ H 2 c hH).set_ H 3 e hH).set_ H 4 f hH).set_ H 5 g hH
/-- What Made returns, and where it lies. -/
structure MadeR (d : SackD) (w : World) (mc mh : Int) (hours al : Int) (nh : Nat) (M L C : List (List Int)) (s : List Int) (t : Nat → Nat → Int) (v3 v4 v5 v6 : Value) (lc : Nat) (W : World) : Prop where
  o3 : OwnR W w.heap.size 79 3 v3 C
  o4 : OwnR W w.heap.size 119 2 v4 M
  o5 : OwnR W w.heap.size 114 3 v5 L
  o6 : OwnR W w.heap.size 3 1 v6 (rowsI s)
  a : Arr W lc nh (fun h => sumTo (t h) (C.length - 1))
  lc : w.heap.size ≤ lc
  ok : Ok (MadeS.wd hours al nh M L C)
  tr : HandSpec.L.Truth (MadeS.wd hours al nh M L C) (ni s) (fun h i => if h < nh then t h i else 0)
  sl : s.length = C.length
  cn : (C.length : Int) ≤ mc
  hn : (nh : Int) ≤ mh
  x : Sx d 1000000 w W
theorem made72 {d : SackD} {w : World} (h0 : Start d w) {mc mh : Int} (hc : 1 ≤ mc ∧ mc ≤ 8) (hh : 1 ≤ mh ∧ mh ≤ 6) :
    Calls Tryz.prog 72 #[.pointer (some ⟨d.blk, 0, none⟩), .int .i64 mc, .int .i64 mh] w fun e w' => ∃ (hours al : Int) (nh : Nat) (M L C : List (List Int)) (s : List Int) (t : Nat → Nat → Int) (v3 v4 v5 v6 : Value) (lc : Nat), e = .returned (.tuple #[.agg #[.int .i64 hours, .int .i64 al, .int .i64 (nh : Int), v3, v4, v5], v6, .slice (some ⟨lc, 0, none⟩) nh nh]) ∧ MadeR d w mc mh hours al nh M L C s t v3 v4 v5 v6 lc w' := by
  have H0 := hid h0
  have hbl := h0.lt
  clear h0
  obtain ⟨s, hs⟩ : ∃ s, s = d.blk := ⟨_, rfl⟩
  go_enter Tryz.func72, Tryz.ntmps72
  go_upto_region 1 with fail
  refine wp_later fun w0 hw0 => ?_
  obtain ⟨E0, b6⟩ := hw0.newB
  have X := hid (Sx.ofExt (d := d) E0)
  clear hw0
  go_upto_region 2 with (first
    | (go_at_call 172; with_reducible refine (among_b H0.out X.out (by omega) 12 60 (by omega) (by omega) (by omega)).mono ?_; rintro e wa ⟨hours, rfl, ho1, ho2, xa⟩; replace X := hid (X.out.trans xa))
    | (go_at_call 81; refine (below_b H0.out X.out (by omega) 4 (by omega)).mono ?_; rintro e wb ⟨allow, rfl, al, xb⟩; replace X := hid (X.out.trans xb))
    | (go_at_call 172; with_reducible refine (among_b H0.out X.out (by omega) 1 mh (by omega) (by omega) (by omega)).mono ?_; rintro e wc ⟨hands, rfl, hn1, hn2, xc⟩; replace X := hid (X.out.trans xc)))
  refine wp_later fun w1 hw1 => ?_
  obtain ⟨E1, b9⟩ := hw1.newB
  have hg9 : w.heap.size < wc.heap.size := by have := xa.size; have := xb.size; have := xc.size; have := b6.lt; omega
  have xw := hid ((X.out.trans (Sx.ofExt E1)).mono (show 0 + 1 + 1 + 1 + 0 ≤ 10 by omega))
  have B6 := hid (((b6.sx ((xa.trans xb).trans xc) (by omega)).ext E1))
  have hal : (allow : Int) ≤ 3 := by omega
  have hho : hours ≤ 60 := by omega
  have hha : hands ≤ mh := by omega
  obtain ⟨nh, rfl⟩ := Int.eq_ofNat_of_zero_le (show 0 ≤ hands by omega)
  have hnh : 1 ≤ nh ∧ nh ≤ 6 := by omega
  obtain ⟨g9, hg⟩ : ∃ g9, g9 = wc.heap.size := ⟨_, rfl⟩
  rw [← hg] at b9 hg9 ⊢
  clear hw1 X E1 b6 xa xb xc hg E0 al ho2 hn2
  have X := xw
  clear xw
  have h9 : ¬ g9 = d.blk := by omega
  have k9 := b9.cell
  have k9l := b9.lt
  go_upto_region 3 with (go_at_call 81; refine (below_b H0.out X.out (by omega) 13 (by omega)).mono ?_; rintro e wd ⟨ns, rfl, hns, xd⟩; replace X := hid ((X.out.trans xd).mono (show 10 + 1 ≤ 20 by omega)); replace b9 := b9.sx xd h9; replace k9 := b9.cell; replace k9l := b9.lt; replace B6 := hid (B6.out.sx xd (by omega)))
  have hns' : ns ≤ 12 := by omega
  clear xd hns k9
  go_loopw [34] (fun i wr => ∃ (k : Nat) (v : Value) (L : List (List Int)), k ≤ ns ∧ i = .int .i64 (k : Int) ∧ Blk wr g9 26 #[.int .i64 hours, .int .i64 (allow : Int), .int .i64 (nh : Int), .slice none 0 0, .slice none 0 0, v] ∧ Hid (OwnR wr (w.heap.size + 1) 114 3 v L ∧ L.length = k ∧ SpellsOk hours (nh : Int) L ∧ Blk wr w.heap.size 26 #[.int .i64 0, .int .i64 0, .int .i64 0, .slice none 0 0, .slice none 0 0, .slice none 0 0] ∧ Sx d (20 + 2000 * k) w wr)) (fun i _ => ns - (intOf i).toNat)
  case atStart => exact ⟨0, _, [], Nat.zero_le _, rfl, b9, hid ⟨OwnR.nil, rfl, fun r h => by simp at h, B6.out, X.out⟩⟩
  case round =>
    clear X B6 b9 k9l
    obtain ⟨k, v, L, hk, rfl, b9, HI⟩ := hrel
    obtain ⟨A5, c5, hv5, -⟩ := HI.out.1.slR
    subst hv5
    obtain rfl := HI.out.2.1
    have k9 := b9.cell
    have k9l := b9.lt
    have X := hid HI.out.2.2.2.2
    by_cases hlt : L.length < ns
    · go_upto_region 5 with (go_at_call 81; refine (below_b H0.out X.out (by omega) hours (by omega)).mono ?_; rintro e we ⟨fr, rfl, hfr, xe⟩; replace X := hid (X.out.trans xe); replace b9 := b9.sx xe h9; replace k9 := b9.cell; replace k9l := b9.lt; have OW := hid (HI.out.1.sx xe (by intro e; have := HI.out.1.block e; omega)))
      have hal5 := HI.out.1
      have hfr' : (fr : Int) < hours := by omega
      refine wp_region_monoG (d := d) 16 [(5, DrawB (nh : Int)), (11, DrawA 1 12), (15, SpellS d hours (nh : Int) fr)] (by kernel_rfl) (by kernel_rfl) (by kernel_rfl) (by kernel_rfl) ?hS ?_
      case hS =>
        simp only [List.forall_mem_cons]
        exact ⟨fun _ _ _ _ _ _ _ h => h, fun _ _ _ _ _ _ _ h => h, fun _ _ _ _ _ _ e h => SpellS.sx e h, fun _ h => by simp at h⟩
      simp only [List.take_succ_cons, List.take_zero, List.drop_succ_cons, List.drop_zero]
      iterate 5
        refine wpM_plainG rfl ?_
        go_big_quiet_step (fail)
        refine wpQuiet_nil ?_
      refine wpM_specG _ rfl rfl (fun w2 hw2 _ => ?_) (fun va la ha ga1 ga2 _ hva => ?_)
      · go_wp2_with (go_at_call 81; refine (below_b H0.out (X.out.trans hw2) (by omega) (nh : Int) (by omega)).mono ?_; rintro e w' ⟨q, rfl, hq, he⟩)
        exact ⟨_, _, _, rfl, he, Nat.le_refl _, he.size, Nat.le_refl _, q, rfl, hq⟩
      obtain ⟨_, q, rfl, hq⟩ := hva
      simp only [Act.put, List.setIfInBounds_toArray, List.set_cons_succ, List.set_cons_zero]
      iterate 5
        refine wpM_plainG rfl ?_
        go_big_quiet_step (fail)
        refine wpQuiet_nil ?_
      refine wpM_specG _ rfl rfl (fun w2 hw2 _ => ?_) (fun vb lb hb gb1 gb2 _ hvb => ?_)
      · go_wp2_with (go_at_call 172; refine (among_b H0.out (X.out.trans hw2) (by omega) 1 12 (by omega) (by omega) (by omega)).mono ?_; rintro e w' ⟨z, rfl, z1, z2, he⟩)
        exact ⟨_, _, _, rfl, he, Nat.le_refl _, he.size, Nat.le_refl _, z, rfl, z1, z2⟩
      obtain ⟨_, z, rfl, z1, z2⟩ := hvb
      have hz : z ≤ 12 := by omega
      simp only [Act.put, List.setIfInBounds_toArray, List.set_cons_succ, List.set_cons_zero]
      rcases (show hours ≤ (fr : Int) + z ∨ (fr : Int) + z < hours by omega) with hle | hle
      all_goals
        iterate 3
          refine wpM_plainG rfl ?_
          go_big_quiet_step (fail)
          refine wpQuiet_nil ?_
        refine wpM_specG _ rfl rfl (fun w2 hw2 _ => ?_) (fun vc lc hc' gc1 gc2 _ hvc => ?_)
        · go_wp2
          first
            | exact ⟨_, w2.heap.size, w2.heap.size + 1, rfl, (Sx.ofExt ((Ext.refl _).alloc _)).mono (by omega), Nat.le_refl _, Nat.le_succ _, by simp, (q : Int), hours, by omega, by omega, by omega, by omega, rfl, rfl, by have := hw2.size; have := X.out.size; omega, Blk.new _ _ _⟩
            | exact ⟨_, w2.heap.size, w2.heap.size + 1, rfl, (Sx.ofExt ((Ext.refl _).alloc _)).mono (by omega), Nat.le_refl _, Nat.le_succ _, by simp, (q : Int), (fr : Int) + z, by omega, by omega, by omega, by omega, rfl, rfl, by have := hw2.size; have := X.out.size; omega, Blk.new _ _ _⟩
        obtain ⟨_, a', t', ha1, ha2, ht1, ht2, rfl, rfl, -⟩ := hvc
        simp only [Act.put, List.setIfInBounds_toArray, List.set_cons_succ, List.set_cons_zero]
        refine wpM_nilG fun w4 hw4 hF => ?_
        simp only [List.forall_mem_cons] at hF
        obtain ⟨⟨-, a2, t2, f1, f2, f3, f4, -, -, f5, bR⟩, -⟩ := hF
        have OX := hid (OW.out.sx hw4 (by intro e; have := OW.out.block e; omega))
        have hsz4 := hw4.size
        have hL12 : L.length ≤ 12 := by omega
        have hsx := X.out.size
        go_wp2_with (at_builtin; go_loud (refine wpList_append_rows rfl _ _ 24 rfl el24 rfl OX.out _ 1 1 [[_, _, _]] rfl rfl (by simp) (row3 bR) (by omega) (by omega) ?_; intro v' w5 hown2 hg2; have T2 := hid ((b9.sx hw4 h9).grown hg2 (fun e => OX.out.ne_blk (b9.sx hw4 h9) (by decide) e.symm)); have B6' := hid (((HI.out.2.2.2.1.sx xe (by omega)).sx hw4 (by omega)).grown hg2 (fun e => by have := OX.out.block e.symm; omega)); have X5 := hid (Sx.grown (X.out.trans hw4) hg2 (fun j hj => by have := OX.out.block hj; omega)); have HO2 := hid hown2; obtain ⟨D2, q2, rfl, -⟩ := hown2.slR; clear hown2 hg2; have k3 := T2.out.cell; have f9 := T2.out.frozen; have k3l := T2.out.lt))
        have hLn : SpellsOk hours (nh : Int) (L ++ [[a2, (fr : Int), t2]]) := fun r hr => by
          rcases List.mem_append.1 hr with h | h
          · exact HI.out.2.2.1 r h
          · obtain rfl := List.mem_singleton.1 h
            exact ⟨a2, fr, t2, rfl, f1, f2, by omega, f3, f4⟩
        go_roundw
        case rel =>
          have hO2 := HO2.out
          rw [List.length_append] at hO2
          exact ⟨L.length + 1, _, L ++ [[a2, (fr : Int), t2]], by omega, by go_num, T2.out.set_ 5 _, hid ⟨(Ch.ofSet _ g9 5 _).own hO2 (fun q hq e => by subst e; exact hO2.ne_blk T2.out (by decide) hq), by simp, hLn, B6'.out.far (show w.heap.size ≠ g9 by omega) _, (Sx.set_ X5.out g9 5 _ (by omega)).mono (by omega)⟩⟩
        case measure => simp [intOf]; omega
    · have F0 := hid (show Fix d w (.slice A5 L.length c5) L 30000 wr from ⟨HI.out.1, HI.out.2.2.2.1, HI.out.2.2.2.2.mono (by omega)⟩)
      have HS := hid HI.out.2.2.1
      obtain ⟨n5, hn5⟩ : ∃ n5, n5 = L.length := ⟨_, rfl⟩
      rw [← hn5] at b9 F0
      have hn5' : n5 ≤ 12 := by omega
      clear HI X k9 k9l hk
      go_upto_region 8 with fail
      refine wp_later fun w1 hw1 => ?_
      obtain ⟨E1, b11⟩ := hw1.newB
      have hg11 : g9 < wr.heap.size := b9.lt
      replace b9 := b9.ext E1
      obtain ⟨g11, hg⟩ : ∃ g11, g11 = wr.heap.size := ⟨_, rfl⟩
      have F1 := hid (F0.out.ext E1)
      have HB5 := hid (show ∀ g, (Value.slice A5 n5 c5).ownBlock = some g → g < g11 from fun g hq => by rw [hg]; exact F0.out.sp.lt hq)
      rw [← hg] at b11 hg11 ⊢
      have k9 := b9.cell
      have k9l := b9.lt
      have k11l := b11.lt
      clear F0 hw1 E1 hg hlt hn5
      go_upto_region 9 with (go_at_call 172; with_reducible refine (among_b H0.out F1.out.x (by omega) 1 mc (by omega) (by omega) (by omega)).mono ?_; rintro e wa ⟨n2, rfl, hm1, hm2, xa⟩; replace F1 := hid (F1.out.sx hbl xa); replace b9 := b9.sx xa h9; replace b11 := b11.sx xa (by omega); replace k9 := b9.cell; replace k9l := b9.lt)
      clear xa
      have hk5 : mc ≤ 8 := hc.2
      go_loopw [62] (fun i wr => ∃ (k : Nat) (v : Value) (H : List Int), (k : Int) ≤ n2 ∧ i = .int .i64 (k : Int) ∧ Blk wr g9 26 #[.int .i64 hours, .int .i64 (allow : Int), .int .i64 (nh : Int), .slice none 0 0, .slice none 0 0, .slice A5 n5 c5] ∧ Blk wr g11 56 #[v] ∧ Hid (OwnR wr (g11 + 1) 3 1 v (rowsI H) ∧ H.length ≤ k ∧ (0 < k → 0 < H.length) ∧ H.Nodup ∧ (∀ h, h ∈ H → 0 ≤ h ∧ h ≤ hours) ∧ Fix d w (.slice A5 n5 c5) L (30001 + 2000 * k) wr)) (fun i _ => n2.toNat - (intOf i).toNat)
      case atStart => exact ⟨0, _, [], by omega, rfl, b9, b11, hid ⟨OwnR.nil, by simp, by omega, List.nodup_nil, fun h hh => by simp at hh, F1.out⟩⟩
      case round =>
        clear b9 b11 F1 k9 k9l k11l
        obtain ⟨k, v, H, hk, rfl, b9, b11, HI⟩ := hrel
        obtain ⟨A1, c1, hv1, -⟩ := HI.out.1.slR
        subst hv1
        rw [rowsI_length] at b11 HI
        have hk8 : k ≤ 8 := by omega
        have hHk := HI.out.2.1
        have k9 := b9.cell
        have k9l := b9.lt
        have F1 := hid HI.out.2.2.2.2.2
        by_cases hlt : (k : Int) < n2
        · go_upto_region 11 with (go_at_call 81; refine (below_b H0.out F1.out.x (by omega) (hours + 1) (by omega)).mono ?_; rintro e we ⟨q, rfl, hq, xe⟩; have OW := hid (HI.out.1.sx xe (by intro e; have := HI.out.1.block e; omega)); replace F1 := hid (F1.out.sx hbl xe); replace b9 := b9.sx xe h9; replace b11 := b11.sx xe (by omega))
          have hq' : (q : Int) ≤ hours := by omega
          clear k9 k9l hq xe
          have k9 := b9.cell
          have k9l := b9.lt
          have k11 := b11.cell
          have k11l := b11.lt
          have f11 := b11.frozen
          have hRd := hid OW.out.rd
          cases hin : anyTo (fun j => (q : Int) == rowsAt (rowsI H) j 0) H.length
          · go_wp2_with (first
              | (go_at_call 87; refine (contains87 hRd.out (by omega) _).mono ?_; rintro e wf ⟨rfl, hef⟩; rw [hin]; have T11 := b11.ext hef; have T9 := b9.ext hef; have OF := hid (OW.out.ext hef); have FF := hid (F1.out.ext hef); have k12 := T11.cell; have k12l := T11.lt)
              | (at_builtin; refine wpList_append_rows rfl _ _ 56 rfl el56 rfl (OF.out.ext ((Ext.refl _).alloc _)) _ 1 1 [[_]] rfl rfl (by simp) (row1 (Blk.new _ _ _)) (by rw [rowsI_length]; omega) (by simp; omega) ?_; intro v' w5 hown2 hg2; have T2 := hid ((T11.ext ((Ext.refl _).alloc _)).grown hg2 (fun e => by have := OF.out.block e.symm; omega)); have T3 := hid ((T9.ext ((Ext.refl _).alloc _)).grown hg2 (fun e => by have := OF.out.block e.symm; omega)); have FG := hid ((FF.out.ext ((Ext.refl _).alloc _)).grown (OF.out.ext ((Ext.refl _).alloc _)) (by omega) (by decide) hg2); have HO2 := hid hown2; obtain ⟨D2, q2, rfl, -⟩ := hown2.slR; clear hown2 hg2; have k3 := T2.out.cell; have f3 := T2.out.frozen; have k3l := T2.out.lt))
            go_roundw
            case rel =>
              refine ⟨k + 1, _, H ++ [(q : Int)], by omega, by go_num, T3.out.far (show g9 ≠ g11 by omega) _, T2.out.set_ 0 _, hid ⟨OwnR.far' (p := ⟨g11, 0, none⟩) (by have h := HO2.out; rw [List.length_append] at h; rw [rowsI_append]; exact h) (show g11 < g11 + 1 by omega) _, by simp; omega, by simp, ?_, ?_, (FG.out.set_ T2.out (by omega) (by decide) 0 _).mono (by omega)⟩⟩
              · rw [List.nodup_append]
                refine ⟨HI.out.2.2.2.1, by simp, fun a ha b hb => ?_⟩
                obtain rfl := List.mem_singleton.1 hb
                rintro rfl
                obtain ⟨j, hj, hje⟩ := List.getElem_of_mem ha
                have := anyTo_false.1 hin j hj
                rw [rowsI_at, ni_get H hj, hje] at this
                simp at this
              · intro h hh
                rcases List.mem_append.1 hh with h1 | h1
                · exact HI.out.2.2.2.2.1 h h1
                · obtain rfl := List.mem_singleton.1 h1
                  exact ⟨by omega, hq'⟩
            case measure => simp [intOf]; omega
          · go_wp2_with (go_at_call 87; refine (contains87 hRd.out (by omega) _).mono ?_; rintro e wf ⟨rfl, hef⟩; rw [hin])
            go_roundw
            case rel =>
              refine ⟨k + 1, _, H, by omega, by go_num, b9.ext hef, b11.ext hef, hid ⟨OW.out.ext hef, by omega, fun _ => ?_, HI.out.2.2.2.1, HI.out.2.2.2.2.1, (F1.out.ext hef).mono (by omega)⟩⟩
              obtain ⟨j, hj, -⟩ := anyTo_true.1 hin
              omega
            case measure => simp [intOf]; omega
        · have hk11 := b11.cell
          have hk11l := b11.lt
          have hB11 : g11 + 1 ≤ wr.heap.size := by omega
          go_upto_region 15 with (go_at_call 181; refine (sort_ints (MyI.of_own HI.out.1) (cutW_ext hB11) (by rw [cutW_size hB11]; omega) (by omega)).mono ?_; rintro e ws ⟨rfl, hes, H', hperm, hsort, hmy⟩)
          have hn1' : 0 < H.length := HI.out.2.2.1 (by omega)
          have hln := hperm.length_eq
          obtain ⟨gh, hA1, hgh, hnc, ha0⟩ : ∃ gh, A1 = some ⟨gh, 0, none⟩ ∧ g11 + 1 ≤ gh ∧ H.length ≤ c1 ∧ Arr ws gh H.length (ni H') := by
            rcases hmy with ⟨-, h2⟩ | ⟨g, cap, h1, h2, h3, h4⟩
            · rw [h2] at hln; simp at hln; omega
            · rw [hln] at h1 h3 h4
              simp only [Value.slice.injEq] at h1
              obtain ⟨e1, -, e3⟩ := h1
              rw [e3]
              exact ⟨g, e1, h2, h3, h4⟩
          subst hA1
          have F2 := hid (F1.out.cut hes hB11 (by omega) hbl (fun g hq => by have := HB5.out g hq; omega))
          have c9 := (cut_block hes hB11 (show g9 < g11 + 1 by omega)).trans b9
          have c11 := (cut_block hes hB11 (show g11 < g11 + 1 by omega)).trans b11
          have HH := hid (show H'.Nodup ∧ (∀ h, h ∈ H' → 0 ≤ h ∧ h ≤ hours) ∧ SortedI H' H'.length from ⟨hperm.nodup_iff.2 HI.out.2.2.2.1, fun h hh => HI.out.2.2.2.2.1 h (hperm.mem_iff.1 hh), hsort⟩)
          obtain ⟨n, hn⟩ : ∃ n, n = H.length := ⟨_, rfl⟩
          rw [← hn] at c11 ha0 hn1' hln hnc hHk
          have hn8 : n ≤ 8 := by omega
          have hnm : (n : Int) ≤ mc := by omega
          have b9 : Blk ws g9 26 #[.int .i64 hours, .int .i64 (allow : Int), .int .i64 (nh : Int), .slice none 0 0, .slice none 0 0, .slice A5 n5 c5] := c9
          have b11 : Blk ws g11 56 #[.slice (some ⟨gh, 0, none⟩) n c1] := c11
          have HA := hid ha0
          clear hes hmy hperm hsort HI F1 hk11 hk11l hB11 k9 k9l c9 c11 hn hlt ha0
          replace F2 := hid (F2.out.mono (show 30001 + 2000 * k ≤ 50000 by omega))
          have k9 := b9.cell
          have k9l := b9.lt
          go_upto_region 16 with (go_at_call 81; refine (below_b H0.out F2.out.x (by omega) 6 (by omega)).mono ?_; rintro e wt ⟨nb, rfl, hnb, xt⟩; replace F2 := hid (F2.out.sx hbl xt); replace b9 := b9.sx xt h9; replace b11 := b11.sx xt (by omega); replace HA := hid (arr_same HA.out (xt.block HA.out.1 (by omega))))
          have hnb5 : nb ≤ 5 := by omega
          obtain ⟨NB, hNB⟩ : ∃ NB, NB = wt.heap.size := ⟨_, rfl⟩
          have hghN : gh < NB := by rw [hNB]; exact HA.out.1
          have hNB0 := hid hNB
          clear xt hnb k9 k9l hNB hk hk8 hHk
          go_loopw [82] (fun i wr => ∃ (k : Nat) (v : Value) (M : List (List Int)), k ≤ nb ∧ i = .int .i64 (k : Int) ∧ Blk wr g9 26 #[.int .i64 hours, .int .i64 (allow : Int), .int .i64 (nh : Int), .slice none 0 0, v, .slice A5 n5 c5] ∧ Blk wr g11 56 #[.slice (some ⟨gh, 0, none⟩) n c1] ∧ Hid (OwnR wr NB 119 2 v M ∧ M.length ≤ k ∧ BooksOk hours M ∧ Arr wr gh n (ni H') ∧ NB ≤ wr.heap.size ∧ Fix d w (.slice A5 n5 c5) L (50001 + 2000 * k) wr)) (fun i _ => nb - (intOf i).toNat)
          case atStart => exact ⟨0, _, [], by omega, rfl, b9, b11, hid ⟨OwnR.nil, by simp, fun r h => by simp at h, HA.out, Nat.le_of_eq hNB0.out, F2.out⟩⟩
          case round =>
            clear b9 b11 F2 HA hNB0
            obtain ⟨k, v, M, hk, rfl, b9, b11, HI⟩ := hrel
            obtain ⟨A4, c4, hv4, -⟩ := HI.out.1.slR
            subst hv4
            have hMk := HI.out.2.1
            have k9 := b9.cell
            have k9l := b9.lt
            have F2 := hid HI.out.2.2.2.2.2
            by_cases hlt : k < nb
            · go_upto_region 18 with (go_at_call 172; refine (among_b H0.out F2.out.x (by omega) (-20) 20 (by omega) (by omega) (by omega)).mono ?_; rintro e we ⟨z, rfl, hz1, hz2, xe⟩; have OW := hid (HI.out.1.sx xe (by intro e; have := HI.out.1.block e; omega)); replace F2 := hid (F2.out.sx hbl xe); replace b9 := b9.sx xe h9; replace b11 := b11.sx xe (by omega); have HA := hid (arr_same HI.out.2.2.2.1 (xe.block HI.out.2.2.2.1.1 (by omega))))
              have hz3 : z ≤ 20 := by omega
              clear k9 k9l hz2
              have k9 := b9.cell
              have k9l := b9.lt
              have hxs := xe.size
              have hNw : NB ≤ we.heap.size := Nat.le_trans HI.out.2.2.2.2.1 hxs
              by_cases hz0 : z = 0
              · subst hz0
                go_wp2_with fail
                exact ⟨⟨k + 1, _, M, by omega, by go_num, b9, b11, hid ⟨OW.out, by omega, HI.out.2.2.1, HA.out, by omega, F2.out.mono (by omega)⟩⟩, by simp [intOf]; omega⟩
              · go_upto_region 19 with fail
                have hzb : (z != 0) = true := by simpa using hz0
                rw [hzb]
                refine wp_region_monoG (d := d) 10 [(6, DrawB (hours + 1)), (9, BookS d hours z)] (by kernel_rfl) (by kernel_rfl) (by kernel_rfl) (by kernel_rfl) ?hS ?_
                case hS =>
                  simp only [List.forall_mem_cons]
                  exact ⟨fun _ _ _ _ _ _ _ h => h, fun _ _ _ _ _ _ e h => BookS.sx e h, fun _ h => by simp at h⟩
                simp only [List.take_succ_cons, List.take_zero, List.drop_succ_cons, List.drop_zero]
                iterate 6
                  refine wpM_plainG rfl ?_
                  go_big_quiet_step (fail)
                  refine wpQuiet_nil ?_
                refine wpM_specG _ rfl rfl (fun w2 hw2 _ => ?_) (fun va la ha ga1 ga2 _ hva => ?_)
                · go_wp2_with (go_at_call 81; refine (below_b H0.out (F2.out.x.trans hw2) (by omega) (hours + 1) (by omega)).mono ?_; rintro e w' ⟨q, rfl, hq, he⟩)
                  exact ⟨_, _, _, rfl, he, Nat.le_refl _, he.size, Nat.le_refl _, q, rfl, hq⟩
                obtain ⟨_, q, rfl, hq⟩ := hva
                have hqh : (q : Int) ≤ hours := by omega
                simp only [Act.put, List.setIfInBounds_toArray, List.set_cons_succ, List.set_cons_zero]
                iterate 2
                  refine wpM_plainG rfl ?_
                  go_big_quiet_step (fail)
                  refine wpQuiet_nil ?_
                refine wpM_specG _ rfl rfl (fun w2 hw2 _ => ?_) (fun vc lc hc' gc1 gc2 _ hvc => ?_)
                · go_wp2
                  exact ⟨_, w2.heap.size, w2.heap.size + 1, rfl, (Sx.ofExt ((Ext.refl _).alloc _)).mono (by omega), Nat.le_refl _, Nat.le_succ _, by simp, (q : Int), by omega, by omega, rfl, rfl, by have := hw2.size; have := F2.out.x.size; omega, Blk.new _ _ _⟩
                obtain ⟨_, a', ha1, ha2, rfl, rfl, -⟩ := hvc
                simp only [Act.put, List.setIfInBounds_toArray, List.set_cons_succ, List.set_cons_zero]
                refine wpM_nilG fun w4 hw4 hF => ?_
                simp only [List.forall_mem_cons] at hF
                obtain ⟨⟨-, a2, f1, f2, -, -, f5, bR⟩, -⟩ := hF
                have OX := hid (OW.out.sx hw4 (by intro e; have := OW.out.block e; omega))
                have hsz4 := hw4.size
                go_wp2_with (at_builtin; refine wpList_append_rows rfl _ _ 23 rfl el23 rfl OX.out _ 1 1 [[_, _]] rfl rfl (by simp) (row2 bR) (by omega) (by omega) ?_; intro v' w5 hown2 hg2; have T2 := hid ((b9.sx hw4 h9).grown hg2 (fun e => by have := OX.out.block e.symm; omega)); have T11 := hid ((b11.sx hw4 (by omega)).grown hg2 (fun e => by have := OX.out.block e.symm; omega)); have TA := hid (arr_same (arr_same HA.out (hw4.block HA.out.1 (by omega))) (hg2.block gh (by have := HA.out.1; omega) (fun e => by have := OX.out.block e.symm; omega))); have FG := hid ((F2.out.sx hbl hw4).grown OX.out (by omega) (by decide) hg2); have HO2 := hid hown2; have hsz5 := hg2.size; obtain ⟨D2, q2, rfl, -⟩ := hown2.slR; clear hown2 hg2; have k3 := T2.out.cell; have f9 := T2.out.frozen; have k3l := T2.out.lt)
                have hLn : BooksOk hours (M ++ [[a2, z]]) := fun r hr => by
                  rcases List.mem_append.1 hr with h | h
                  · exact HI.out.2.2.1 r h
                  · obtain rfl := List.mem_singleton.1 h
                    exact ⟨a2, z, rfl, f1, f2, hz0, hz1, hz3⟩
                exact ⟨⟨k + 1, _, M ++ [[a2, z]], by omega, by go_num, T2.out.set_ 4 _, T11.out.far (show g11 ≠ g9 by omega) _, hid ⟨OwnR.far' (p := ⟨g9, 4, none⟩) (by have h := HO2.out; rw [List.length_append] at h; exact h) (show g9 < NB by omega) _, by simp; omega, hLn, arr_same TA.out (Below.heap_setCell _ _ _ _ (show gh ≠ g9 by omega)), by simpa using Nat.le_trans hNw (Nat.le_trans hsz4 hsz5), (FG.out.set_ T2.out (by omega) (by decide) 4 _).mono (by omega)⟩⟩, by simp [intOf]; omega⟩
            · have HBk := hid HI.out.2.2.1
              have hn45 : M.length ≤ 5 := by omega
              have O4 := hid HI.out.1
              have A0 := hid HI.out.2.2.2.1
              have hNw := HI.out.2.2.2.2.1
              clear HI
              replace F2 := hid (F2.out.mono (show 50001 + 2000 * k ≤ 70000 by omega))
              have k9 := b9.cell
              have k9l := b9.lt
              go_upto_region 21 with fail
              refine wp_region_monoG (d := d) 8 [(1, DrawA 250 400), (2, SackS d), (5, ZeroS d nh)] (by kernel_rfl) (by kernel_rfl) (by kernel_rfl) (by kernel_rfl) ?hS ?_
              case hS =>
                simp only [List.forall_mem_cons]
                exact ⟨fun _ _ _ _ _ _ _ h => h, fun _ _ _ _ _ _ e h => SackS.sx e h, fun _ _ _ _ _ _ e h => ZeroS.sx e h, fun _ h => by simp at h⟩
              simp only [List.take_succ_cons, List.take_zero, List.drop_succ_cons, List.drop_zero]
              refine wpM_plainG rfl ?_
              go_big_quiet_step (fail)
              refine wpQuiet_nil ?_
              refine wpM_specG _ rfl rfl (fun w2 hw2 _ => ?_) (fun va la ha ga1 ga2 _ hva => ?_)
              · go_wp2_with (go_at_call 172; refine (among_b H0.out (F2.out.x.trans hw2) (by omega) 250 400 (by omega) (by omega) (by omega)).mono ?_; rintro e w' ⟨q, rfl, hq1, hq2, he⟩)
                exact ⟨_, _, _, rfl, he, Nat.le_refl _, he.size, Nat.le_refl _, q, rfl, hq1, hq2⟩
              obtain ⟨_, q, rfl, hq1, hq2⟩ := hva
              simp only [Act.put, List.setIfInBounds_toArray, List.set_cons_succ, List.set_cons_zero]
              refine wpM_specG _ rfl rfl (fun w2 hw2 _ => ?_) (fun vb lb hb gb1 gb2 _ hvb => ?_)
              · go_wp2
                exact ⟨_, w2.heap.size, w2.heap.size + 1, rfl, (Sx.ofExt ((Ext.refl _).alloc _)).mono (by omega), Nat.le_refl _, Nat.le_succ _, by simp, q, by omega, by omega, rfl, rfl, by have := hw2.size; have := F2.out.x.size; omega, Blk.new _ _ _⟩
              obtain ⟨_, z', hz1', hz2', rfl, rfl, -⟩ := hvb
              simp only [Act.put, List.setIfInBounds_toArray, List.set_cons_succ, List.set_cons_zero]
              iterate 2
                refine wpM_plainG rfl ?_
                go_big_quiet_step (fail)
                refine wpQuiet_nil ?_
              refine wpM_specG _ rfl rfl (fun w2 hw2 _ => ?_) (fun vc lc hc' gc1 gc2 hD hvc => ?_)
              · have hwx : w.heap.size ≤ w2.heap.size := by have := hw2.size; have := F2.out.x.size; omega
                go_wp2_with (at_make; refine wpList_make56 rfl _ _ rfl nh _ _ rfl rfl (by omega) (by omega) (by omega) ?_; intro w7 he7 ha7)
                exact ⟨_, w2.heap.size, w7.heap.size, rfl, (Sx.ofExt he7).mono (by omega), Nat.le_refl _, he7.size, Nat.le_refl _, rfl, ha7.1, by omega, ha7⟩
              obtain ⟨_, rfl, hlt15, hne15, -⟩ := hvc
              simp only [Act.put, List.setIfInBounds_toArray, List.set_cons_succ, List.set_cons_zero]
              iterate 2
                refine wpM_plainG rfl ?_
                go_big_quiet_step (fail)
                refine wpQuiet_nil ?_
              refine wpM_nilG fun w4 hw4 hF => ?_
              simp only [List.forall_mem_cons] at hF
              obtain ⟨⟨h15, -, -, -, hA15⟩, ⟨h14, z, hz1, hz2, -, -, -, bS⟩, -⟩ := hF
              obtain ⟨N1, hN1⟩ : ∃ N1, N1 = wr.heap.size := ⟨_, rfl⟩
              obtain ⟨N0, hN0⟩ : ∃ N0, N0 = w4.heap.size := ⟨_, rfl⟩
              have NM := hid (show Nm d w g9 g11 gh NB N1 lc N0 (.slice A4 M.length c4) (.slice A5 n5 c5) from ⟨hbl, hg9, hg11, by omega, hghN, by omega, by omega, by omega, fun g hg => ⟨O4.out.block hg, by rw [hN1]; exact O4.out.lt hg⟩, fun g hg => ⟨by have := F2.out.sp.block hg; omega, HB5.out g hg, fun e => by subst e; exact F2.out.sp.ne_blk b9 (by decide) hg⟩⟩)
              have ST := hid (show St d w g11 gh n c1 NB (.slice A4 M.length c4) (.slice A5 n5 c5) H' M L 80000 w4 from ⟨b11.sx hw4 (by omega), O4.out.sx hw4 (fun e => by have := O4.out.block e; omega), arr_same A0.out (hw4.block A0.out.1 (by omega)), (F2.out.sx hbl hw4).mono (by omega)⟩)
              have OS := hid (show OwnR w4 N1 3 1 (.slice (some ⟨lb, 0, none⟩) 1 1) (rowsI [z]) ∧ (Value.slice (some ⟨lb, 0, none⟩) 1 1).ownBlock ≠ some lc from ⟨OwnR.of_blk1 bS (by omega), fun e => by simp only [Value.ownBlock, Option.some.injEq] at e; have := hD (lb, lb + 1) (by simp); omega⟩)
              have OT := hid hA15
              have MS := hid (MadeS.start (allow : Int) nh H' M L hz1 hz2)
              replace b9 := b9.sx hw4 h9
              have hN0w := hid hN0
              clear hD hA15 bS h14 h15 hlt15 hne15 hw4 O4 A0 F2 HB5 b11 hz1 hz2 hN0 hN1 k9 k9l gb1 gb2 gc1 gc2 ga1 ga2 hq1 hq2 hz1' hz2' hNw hk hlt
              go_upto_region 22 with fail
              have k11 := ST.out.b11.cell
              have k11l := ST.out.b11.lt
              go_upto_region 23 with fail
              have hX : ∀ i, i < n → 0 ≤ ni H' i ∧ ni H' i ≤ hours := fun i hi => HH.out.2.1 _ (by rw [ni_get H' (by omega)]; exact List.getElem_mem _)
              have hY : ∀ i, i + 1 < n → ni H' i < ni H' (i+1) := fun i hi => MadeS.inc HH.out.2.2 HH.out.1 (by omega) HH.out.2.1
              have HX := hid (And.intro hX hY)
              clear hX hY
              go_loopw [14, 109] (fun v14 i wr => ∃ (k : Nat) (s : List Int) (v3 : Value) (C : List (List Int)) (t : Nat → Nat → Int), k ≤ n ∧ i = .int .i64 (k : Int) ∧ Blk wr g9 26 #[.int .i64 hours, .int .i64 (allow : Int), .int .i64 (nh : Int), v3, .slice A4 M.length c4, .slice A5 n5 c5] ∧ Hid (OwnR wr N1 3 1 v14 (rowsI s) ∧ v14.ownBlock ≠ some lc) ∧ Hid (OwnR wr N0 79 3 v3 C) ∧ Hid (Arr wr lc nh (fun h => sumTo (t h) (k - 1))) ∧ Hid (St d w g11 gh n c1 NB (.slice A4 M.length c4) (.slice A5 n5 c5) H' M L (80000 + 100000 * k) wr) ∧ Hid (MadeS (allow : Int) nh H' M L C s t k) ∧ N0 ≤ wr.heap.size) (fun _ i _ => n - (intOf i).toNat)
              case atStart => exact ⟨0, [z], _, [], _, by omega, rfl, b9, OS, hid OwnR.nil, OT, ST, MS, Nat.le_of_eq hN0w.out⟩
              case round =>
                clear b9 OS OT ST MS hN0w k9 k9l k11 k11l
                obtain ⟨k, s, v3, C, t, hk, rfl, b9, OS, OC, OT, ST, MS, hsz⟩ := hrel
                obtain ⟨A3, c3, hv3, -⟩ := OC.out.slR
                subst hv3
                obtain ⟨A6, c6, hv6, -⟩ := OS.out.1.slR
                subst hv6
                rw [MS.out.cl] at b9
                rw [MS.out.cl] at OC
                rw [rowsI_length, MS.out.sl] at OS ⊢
                by_cases hlt : k < n
                · go_upto_region 25 with fail
                  refine wp_later fun w5 hw5 => ?_
                  obtain ⟨e5, b16⟩ := hw5.newB
                  obtain ⟨g16, hg16⟩ : ∃ g16, g16 = wr.heap.size := ⟨_, rfl⟩
                  have HS6 := hid (show ∀ g, (Value.slice A6 (max 1 k) c6).ownBlock = some g → g < g16 from fun g hg => by rw [hg16]; exact OS.out.1.lt hg)
                  rw [← hg16] at b16 hsz ⊢
                  replace b9 := b9.ext e5
                  replace OS := hid (And.intro (OS.out.1.ext e5) OS.out.2)
                  replace OC := hid (OC.out.ext e5)
                  replace OT := hid (arr_same OT.out (e5.block OT.out.1))
                  replace ST := hid (ST.out.ext e5)
                  clear hw5 e5 hg16
                  have k9 := b9.cell
                  have k9l := b9.lt
                  have k16 := b16.cell
                  have k16l := b16.lt
                  have k11 := ST.out.b11.cell
                  have k11l := ST.out.b11.lt
                  have hA0 := bkA_bd HBk.out (H := H') 0 M.length (Nat.le_refl _)
                  go_upto_if 113 with fail
                  go_cut [14] (fun s14 wx => ∃ (S2 : List Int) (D6 : Option Addr) (d6 : Nat) (T2 : Nat → Nat → Int) (z : Int), s14 = .slice D6 (k+1) d6 ∧ Blk wx g9 26 #[.int .i64 hours, .int .i64 (allow : Int), .int .i64 (nh : Int), .slice A3 k c3, .slice A4 M.length c4, .slice A5 n5 c5] ∧ Blk wx g16 3 #[.int .i64 (k : Int)] ∧ (ni S2 k = z ∧ 0 ≤ z ∧ z ≤ 500) ∧ Hid (OwnR wx N1 3 1 (.slice D6 (k+1) d6) (rowsI S2) ∧ (Value.slice D6 (k+1) d6).ownBlock ≠ some lc) ∧ Hid (OwnR wx N0 79 3 (.slice A3 k c3) C) ∧ Hid (Arr wx lc nh (fun h => sumTo (T2 h) k)) ∧ Hid (St d w g11 gh n c1 NB (.slice A4 M.length c4) (.slice A5 n5 c5) H' M L (95000 + 100000 * k) wx) ∧ N0 ≤ wx.heap.size ∧ Hid (∀ lo hi : Int, 0 ≤ lo → lo ≤ z → z ≤ hi → hi ≤ 500 → MadeS (allow : Int) nh H' M L (C ++ [[ni H' k, lo, hi]]) S2 T2 (k+1)))
                  case rest =>
                    have hg16 : N0 ≤ g16 := hsz
                    clear b9 OS OC OT ST hsz k9 k9l k16 k16l k11 k11l b16
                    obtain ⟨S2, D6, d6, T2, z, rfl, b9, b16, ⟨hz, hz0, hz5⟩, OS, OC, OT, ST, hsz, NX⟩ := hcut
                    obtain ⟨b6, o6, rfl, hb6, c6i⟩ := OS.out.1.rd.at1 (show k < k + 1 by omega)
                    rw [rowsI_at, hz] at c6i
                    have k9 := b9.cell
                    have k9l := b9.lt
                    have k16 := b16.cell
                    have k16l := b16.lt
                    have k11 := ST.out.b11.cell
                    have k11l := ST.out.b11.lt
                    have kHi := (ST.out.a.2 k hlt).1
                    have kHl := ST.out.a.1
                    have hN6 : N1 ≤ b6 := OS.out.1.block rfl
                    have hdN : d.blk < N1 ∧ g9 < N1 ∧ g11 < N1 ∧ gh < N1 := by have := NM.out.hd; have := NM.out.h9; have := NM.out.h11; have := NM.out.hgh; have := NM.out.hNB; have := NM.out.hN1; omega
                    have hN10 : N1 ≤ lc ∧ lc < N0 := ⟨NM.out.hlc, NM.out.hN0⟩
                    have n6 : ¬ b6 = d.blk := by omega
                    have n11 : ¬ g11 = d.blk := by omega
                    have ngh : ¬ gh = d.blk := by omega
                    have n16 : ¬ g16 = d.blk := by omega
                    have nlc : ¬ lc = d.blk := by omega
                    go_upto_region 43 with fail
                    refine wp_region_monoG (d := d) 8 [(5, DrawB 5)] (by kernel_rfl) (by kernel_rfl) (by kernel_rfl) (by kernel_rfl) ?hS ?_
                    case hS =>
                      simp only [List.forall_mem_cons]
                      exact ⟨fun _ _ _ _ _ _ _ h => h, fun _ h => by simp at h⟩
                    simp only [List.take_succ_cons, List.take_zero, List.drop_succ_cons, List.drop_zero]
                    iterate 5
                      refine wpM_plainG rfl ?_
                      go_big_quiet_step (fail)
                      refine wpQuiet_nil ?_
                    refine wpM_specG _ rfl rfl (fun w2 hw2 _ => ?_) (fun va la ha ga1 ga2 _ hva => ?_)
                    · go_wp2_with (go_at_call 81; refine (below_b H0.out (ST.out.f.x.trans hw2) (by omega) 5 (by omega)).mono ?_; rintro e w' ⟨q, rfl, hq, he⟩)
                      exact ⟨_, _, _, rfl, he, Nat.le_refl _, he.size, Nat.le_refl _, q, rfl, hq⟩
                    obtain ⟨_, q, rfl, hq⟩ := hva
                    have hq4 : q ≤ 4 := by omega
                    simp only [Act.put, List.setIfInBounds_toArray, List.set_cons_succ, List.set_cons_zero]
                    iterate 2
                      refine wpM_plainG rfl ?_
                      go_big_quiet_step (fail)
                      refine wpQuiet_nil ?_
                    refine wpM_nilG fun w4 hw4 hF => ?_
                    clear hF
                    obtain ⟨lo, hlo⟩ : ∃ lo : Int, lo = if (q : Int) < z then z - (q : Int) else 0 := ⟨_, rfl⟩
                    rw [← hlo]
                    have hlo2 : 0 ≤ lo ∧ lo ≤ z := by rw [hlo]; split <;> omega
                    replace b9 := b9.sx hw4 (by omega)
                    replace b16 := b16.sx hw4 n16
                    replace OS := hid (And.intro (OS.out.1.sx hw4 (fun e => by have := OS.out.1.block e; omega)) OS.out.2)
                    replace OC := hid (OC.out.sx hw4 (fun e => by have := OC.out.block e; omega))
                    replace OT := hid (arr_same OT.out (hw4.block OT.out.1 nlc))
                    replace ST := hid ((ST.out.sx NM.out hw4).mono (show 95000 + 100000 * k + 1000 ≤ 97000 + 100000 * k by omega))
                    replace hsz := Nat.le_trans hsz hw4.size
                    replace c6i := (hw4.cell_some (by rw [c6i]; rfl) n6).trans c6i
                    clear hlo hw4 k9 k9l k16 k16l k11 k11l kHi kHl ga1 ga2 hq hb6
                    have hb6 := World.block_lt_of_cell? w4 _ c6i
                    have k9 := b9.cell
                    have k9l := b9.lt
                    have k16 := b16.cell
                    have k16l := b16.lt
                    have k11 := ST.out.b11.cell
                    have k11l := ST.out.b11.lt
                    have kHi := (ST.out.a.2 k hlt).1
                    have kHl := ST.out.a.1
                    have ng9 : ¬ g9 = d.blk := by omega
                    go_upto_region 44 with fail
                    refine wp_region_monoG (d := d) 18 [(12, DrawB 5), (17, CountS d (ni H' k) lo z)] (by kernel_rfl) (by kernel_rfl) (by kernel_rfl) (by kernel_rfl) ?hS ?_
                    case hS =>
                      simp only [List.forall_mem_cons]
                      exact ⟨fun _ _ _ _ _ _ _ h => h, fun _ _ _ _ _ _ e h => CountS.sx e h, fun _ h => by simp at h⟩
                    simp only [List.take_succ_cons, List.take_zero, List.drop_succ_cons, List.drop_zero]
                    iterate 12
                      refine wpM_plainG rfl ?_
                      go_big_quiet_step (fail)
                      refine wpQuiet_nil ?_
                    refine wpM_specG _ rfl rfl (fun w2 hw2 _ => ?_) (fun va la ha ga1 ga2 _ hva => ?_)
                    · go_wp2_with (go_at_call 81; refine (below_b H0.out (ST.out.f.x.trans hw2) (by omega) 5 (by omega)).mono ?_; rintro e w' ⟨q, rfl, hq, he⟩)
                      exact ⟨_, _, _, rfl, he, Nat.le_refl _, he.size, Nat.le_refl _, q, rfl, hq⟩
                    obtain ⟨_, p, rfl, hp⟩ := hva
                    have hp4 : p ≤ 4 := by omega
                    simp only [Act.put, List.setIfInBounds_toArray, List.set_cons_succ, List.set_cons_zero]
                    iterate 2
                      refine wpM_plainG rfl ?_
                      go_big_quiet_step (fail)
                      refine wpQuiet_nil ?_
                    obtain ⟨hi, hhi⟩ : ∃ hi : Int, hi = if z + (p : Int) < 500 then z + (p : Int) else 500 := ⟨_, rfl⟩
                    rw [← hhi]
                    have hhi2 : z ≤ hi ∧ hi ≤ 500 := by rw [hhi]; split <;> omega
                    clear hhi
                    iterate 2
                      refine wpM_plainG rfl ?_
                      go_big_quiet_step (fail)
                      refine wpQuiet_nil ?_
                    refine wpM_specG _ rfl rfl (fun w2 hw2 _ => ?_) (fun vc lc' hc'' gc1 gc2 _ hvc => ?_)
                    · go_wp2
                      exact ⟨_, w2.heap.size, w2.heap.size + 1, rfl, (Sx.ofExt ((Ext.refl _).alloc _)).mono (by omega), Nat.le_refl _, Nat.le_succ _, by simp, hi, hhi2.1, hhi2.2, rfl, rfl, by have := hw2.size; omega, Blk.new _ _ _⟩
                    obtain ⟨_, hi', f1', f2', rfl, rfl, -⟩ := hvc
                    simp only [Act.put, List.setIfInBounds_toArray, List.set_cons_succ, List.set_cons_zero]
                    refine wpM_nilG fun w4' hw4' hF => ?_
                    simp only [List.forall_mem_cons] at hF
                    obtain ⟨⟨-, hi2, f1, f2, -, -, f5, bR⟩, -⟩ := hF
                    have hCl : C.length = k := MS.out.cl
                    have OX := hid (OC.out.sx hw4' (fun e => by have := OC.out.block e; omega))
                    have OSX := hid (OS.out.1.sx hw4' (fun e => by have := OS.out.1.block e; omega))
                    have STX := hid (ST.out.sx NM.out hw4')
                    have OTX := hid (arr_same OT.out (hw4'.block OT.out.1 nlc))
                    have hsz4 := Nat.le_trans hsz hw4'.size
                    have T9 := hid (b9.sx hw4' ng9)
                    go_wp2_with (at_builtin; go_loud (refine wpList_append_rows rfl _ _ 22 rfl el22 rfl OX.out _ 1 1 [[_, _, _]] rfl rfl (by simp) (row3 bR) (by omega) (by omega) ?_; intro v' w5' hown2 hg2; have TB := hid (T9.out.grown hg2 (fun e => by have := OX.out.block e.symm; omega)); have XS := hid (OSX.out.grownBy_other hg2 (OSX.out.apart' OX.out (by decide))); have XT := hid (arr_same OTX.out (hg2.block lc OTX.out.1 (fun e => by have := OX.out.block e.symm; omega))); have XX := hid (STX.out.grown NM.out OX.out (by omega) hg2); have hs5 := hid (Nat.le_trans hsz4 hg2.size); have HO2 := hid hown2; obtain ⟨D2, q2, rfl, -⟩ := hown2.slR; clear hown2 hg2; have k3 := TB.out.cell; have f3 := TB.out.frozen; have k3l := TB.out.lt))
                    go_roundw
                    case rel =>
                      have hO2 := HO2.out
                      rw [show (C ++ [[ni H' k, lo, hi2]]).length = k + 1 by simp [hCl]] at hO2
                      refine ⟨k + 1, S2, _, C ++ [[ni H' k, lo, hi2]], T2, by omega, by go_num, TB.out.set_ 3 _, hid ⟨OwnR.far' (p := ⟨g9, 3, none⟩) XS.out (show g9 < N1 by omega) _, OS.out.2⟩, hid (OwnR.far' (p := ⟨g9, 3, none⟩) hO2 (show g9 < N0 by omega) _), hid (arr_same XT.out (Below.heap_setCell _ _ _ _ (show lc ≠ g9 by omega))), hid ((XX.out.set9 NM.out 3 _).mono (by omega)), hid (NX.out lo hi2 hlo2.1 hlo2.2 f1 f2), ?_⟩
                      simpa using hs5.out
                    case measure => simp [intOf]; omega
                  case first =>
                    by_cases hk0 : k = 0
                    · subst hk0
                      have hz := MS.out.bd 0 (by omega)
                      go_wp2_with fail
                      go_meet
                      exact ⟨s, A6, c6, t, ni s 0, rfl, b9, b16, ⟨rfl, by omega, by omega⟩, OS, OC, hid (OT.out.congr fun _ _ => rfl), hid (ST.out.mono (by omega)), by omega, hid fun lo hi a b c e => MS.out.first a b c e⟩
                    · obtain ⟨i, rfl⟩ : ∃ i, k = i + 1 := ⟨k - 1, by omega⟩
                      clear hk0
                      rw [show max 1 (i + 1) = i + 1 by omega] at OS ⊢
                      rw [show ((i + 1 : Nat) : Int) = (i : Int) + 1 from Int.natCast_succ i] at b16 ⊢
                      obtain ⟨b6, o6, rfl, hb6, c6i⟩ := OS.out.1.rd.at1 (show i < i + 1 by omega)
                      rw [rowsI_at] at c6i
                      replace k16 := b16.cell
                      have kHi := (ST.out.a.2 i (by omega)).1
                      have kHj := (ST.out.a.2 (i+1) hlt).1
                      have kHl := ST.out.a.1
                      have hsb := MS.out.bd i (by omega)
                      have hAb := bkA_bd HBk.out (H := H') i M.length (Nat.le_refl _)
                      have hAb' := bkA_bd HBk.out (H := H') (i+1) M.length (Nat.le_refl _)
                      have hH0 : ni H' 0 ≤ ni H' i := by
                        have : ∀ j, j < n → ni H' 0 ≤ ni H' j := by
                          intro j
                          induction j with
                          | zero => intro _; exact Int.le_refl _
                          | succ j ih => intro hj; have := ih (by omega); have := HX.out.2 j hj; omega
                        exact this i (by omega)
                      have hH1 : ni H' i ≤ ni H' (i+1) := by have := HX.out.2 i hlt; omega
                      have hBB := hid (bk_bound (M := M) hH0 hH1)
                      go_upto_region 28 with fail
                      go_loopw [17, 122] (fun v j wr => ∃ q : Nat, q ≤ M.length ∧ v = .int .i64 (ni s i + sumTo (bkF H' M i) q) ∧ j = .int .i64 (q : Int) ∧ Ext w5 wr) (fun _ j _ => M.length - (intOf j).toNat)
                      case atStart => exact ⟨0, by omega, by simp [sumTo], rfl, Ext.refl _⟩
                      case round =>
                        obtain ⟨q, hq, rfl, rfl, he⟩ := hrel
                        by_cases hlq : q < M.length
                        · obtain ⟨bm, om, hA4, hbm, m0, m1⟩ := (ST.out.o4.rd.ext he).at2 hlq
                          obtain ⟨-, -, hz1, hz2⟩ := books_at HBk.out hlq
                          have hsm := hBB.out q (M.length - q)
                          rw [show q + (M.length - q) = M.length by omega] at hsm
                          cases q1 : decide (ni H' i < rowsAt M q 0) <;> cases q2 : decide (rowsAt M q 0 ≤ ni H' (i+1))
                          all_goals
                            have k16 := (b16.ext he).cell
                            have k11 := (ST.out.b11.ext he).cell
                            go_upto_region 30 with fail
                            refine wp_later fun w6 hw6 => ?_
                            obtain ⟨e6, b19⟩ := hw6.newB
                            have e56 := he.trans e6
                            have k19 := b19.cell
                            have k19l := b19.lt
                            replace k16 := (b16.ext e56).cell
                            replace k16l := (b16.ext e56).lt
                            replace k11 := (ST.out.b11.ext e56).cell
                            replace k11l := (ST.out.b11.ext e56).lt
                            replace kHi := e56.some_ kHi
                            replace kHj := e56.some_ kHj
                            replace kHl := Nat.lt_of_lt_of_le kHl e56.size
                            clear hw6 m0 m1 hbm k9 k9l c6i hb6
                            refine wp_region_later (by kernel_rfl) (by kernel_rfl) ?_
                            repeat (go_big_quiet_step (fail))
                            refine wpQuiet_nil ?_
                            rintro _ ⟨⟨w7, he7⟩, rfl⟩
                            replace k19 := (b19.ext he7).cell
                            replace k19l := (b19.ext he7).lt
                            go_wp2
                            first
                              | exact ⟨⟨q + 1, by omega, by rw [bk_yes q1 q2], by go_num, e56.trans he7⟩, by simp [intOf]; omega⟩
                              | exact ⟨⟨q + 1, by omega, by rw [bk_no (.inl q1)], by go_num, e56.trans he7⟩, by simp [intOf]; omega⟩
                              | exact ⟨⟨q + 1, by omega, by rw [bk_no (.inr q2)], by go_num, e56.trans he7⟩, by simp [intOf]; omega⟩
                        · obtain rfl : q = M.length := by omega
                          replace OS := hid (And.intro (OS.out.1.ext he) OS.out.2)
                          replace OC := hid (OC.out.ext he)
                          replace OT := hid (arr_same OT.out (he.block OT.out.1))
                          replace ST := hid (ST.out.ext he)
                          replace b9 := b9.ext he
                          replace b16 := b16.ext he
                          have hsz0 := hsz
                          replace hsz := Nat.le_trans hsz (Nat.le_trans (Nat.le_of_lt k16l) he.size)
                          obtain ⟨B, hB⟩ : ∃ B, B = sumTo (bkA H' M (i+1)) M.length := ⟨_, rfl⟩
                          have hbs := hBB.out M.length 0
                          simp only [Nat.add_zero] at hbs
                          rw [← hB] at hbs hAb'
                          obtain ⟨n0, hn0⟩ : ∃ n0, n0 = ni s i + sumTo (bkF H' M i) M.length := ⟨_, rfl⟩
                          rw [← hn0]
                          have hn0b : 100 - B ≤ n0 ∧ n0 ≤ 400 + B := by omega
                          have HN0 := hid (And.intro hn0 hB)
                          obtain ⟨ml, hml⟩ : ∃ ml, ml = (allow : Int) * (ni H' (i+1) - ni H' i) := ⟨_, rfl⟩
                          have hdi : 0 ≤ ni H' (i+1) - ni H' i ∧ ni H' (i+1) - ni H' i ≤ 60 := by have := HX.out.1 i (by omega); have := HX.out.1 (i+1) hlt; omega
                          have hml2 : 0 ≤ ml ∧ ml ≤ 180 := by
                            rw [hml]
                            refine ⟨Int.mul_nonneg (by omega) hdi.1, ?_⟩
                            have := Int.mul_le_mul hal hdi.2 hdi.1 (by omega)
                            omega
                          have HM := hid hml
                          have hml3 : 0 ≤ (allow : Int) * (ni H' (i+1) - ni H' i) ∧ (allow : Int) * (ni H' (i+1) - ni H' i) ≤ 180 := by rw [← hml]; exact hml2
                          have hB100 : 0 ≤ B ∧ B ≤ 100 := by omega
                          have hg16 : N0 ≤ g16 := hsz0
                          clear k9 k9l k11 k16 hBB hbs hn0 hB hml hAb hAb' hsb c6i hb6 kHi kHj kHl k11l k16l
                          have k9 := b9.cell
                          have k9l := b9.lt
                          have k16 := b16.cell
                          have k16l := b16.lt
                          have k11 := ST.out.b11.cell
                          have k11l := ST.out.b11.lt
                          have kHi := (ST.out.a.2 i (by omega)).1
                          have kHj := (ST.out.a.2 (i+1) hlt).1
                          have kHl := ST.out.a.1
                          have n11 : ¬ g11 = d.blk := by omega
                          have ngh : ¬ gh = d.blk := by omega
                          have n16 : ¬ g16 = d.blk := by have := NM.out.hgh; have := NM.out.hNB; have := NM.out.hN1; have := NM.out.hlc; have := NM.out.hN0; omega
                          go_upto_region 33 with fail
                          refine wp_region_monoG (d := d) 22 [(19, DrawB ((allow : Int) * (ni H' (i+1) - ni H' i) + 1))] (by kernel_rfl) (by kernel_rfl) (by kernel_rfl) (by kernel_rfl) ?hS ?_
                          case hS =>
                            simp only [List.forall_mem_cons]
                            exact ⟨fun _ _ _ _ _ _ _ h => h, fun _ h => by simp at h⟩
                          simp only [List.take_succ_cons, List.take_zero, List.drop_succ_cons, List.drop_zero]
                          iterate 4
                            refine wpM_plainG rfl ?_
                            go_big_quiet_step (fail)
                            refine wpQuiet_nil ?_
                          obtain ⟨r, hr⟩ : ∃ r : Int, r = if 100 < n0 then n0 - 100 else 0 := ⟨_, rfl⟩
                          rw [← hr]
                          have hr2 : (r = 0 ∨ r ≤ n0 - 100) ∧ 0 ≤ r ∧ r ≤ 500 := by rw [hr]; split <;> omega
                          clear hr
                          iterate 15
                            refine wpM_plainG rfl ?_
                            go_big_quiet_step (fail)
                            refine wpQuiet_nil ?_
                          refine wpM_specG _ rfl rfl (fun w2 hw2 _ => ?_) (fun va la ha ga1 ga2 _ hva => ?_)
                          · go_wp2_with (go_at_call 81; refine (below_b H0.out (ST.out.f.x.trans hw2) (by omega) ((allow : Int) * (ni H' (i+1) - ni H' i) + 1) (by omega)).mono ?_; rintro e w' ⟨q, rfl, hq, he⟩)
                            exact ⟨_, _, _, rfl, he, Nat.le_refl _, he.size, Nat.le_refl _, q, rfl, hq⟩
                          obtain ⟨_, q, rfl, hq⟩ := hva
                          rw [← HM.out] at hq
                          simp only [Act.put, List.setIfInBounds_toArray, List.set_cons_succ, List.set_cons_zero]
                          refine wpM_plainG rfl ?_
                          go_big_quiet_step (fail)
                          refine wpQuiet_nil ?_
                          obtain ⟨l, hl⟩ : ∃ l : Int, l = if (q : Int) < r then (q : Int) else r := ⟨_, rfl⟩
                          rw [← hl]
                          have hl2 : (0 ≤ l ∧ l ≤ ml) ∧ (l = 0 ∨ l ≤ n0 - 100) ∧ l ≤ 500 := by rw [hl]; split <;> omega
                          clear hl
                          refine wpM_plainG rfl ?_
                          go_big_quiet_step (fail)
                          refine wpQuiet_nil ?_
                          refine wpM_nilG fun w4 hw4 hF => ?_
                          obtain ⟨n1, hn1'⟩ : ∃ n1, n1 = n0 - l := ⟨_, rfl⟩
                          rw [← hn1']
                          have hn1b : (n1 = n0 ∨ 100 ≤ n1) ∧ n1 ≤ n0 ∧ -100 ≤ n1 := by omega
                          have HN1 := hid hn1'
                          replace b9 := b9.sx hw4 h9
                          replace b16 := b16.sx hw4 n16
                          have hlcd : ¬ lc = d.blk := by have := NM.out.hgh; have := NM.out.hNB; have := NM.out.hN1; have := NM.out.hlc; omega
                          have hdN1 : d.blk < N1 := by have := NM.out.hNB; have := NM.out.hN1; omega
                          have hlcN : N1 ≤ lc ∧ lc < N0 := ⟨NM.out.hlc, NM.out.hN0⟩
                          replace OS := hid (And.intro (OS.out.1.sx hw4 (fun e => by have := OS.out.1.block e; omega)) OS.out.2)
                          replace OC := hid (OC.out.sx hw4 (fun e => by have := OC.out.block e; omega))
                          replace OT := hid (arr_same OT.out (hw4.block OT.out.1 hlcd))
                          replace ST := hid ((ST.out.sx NM.out hw4).mono (show 80000 + 100000 * (i + 1) + 1000 ≤ 82000 + 100000 * (i + 1) by omega))
                          replace hsz := Nat.le_trans hsz hw4.size
                          clear hF hw4 hn1' k9 k9l k11 k11l k16 k16l kHi kHj kHl ga1 ga2 hq hr2
                          have k9 := b9.cell
                          have k9l := b9.lt
                          go_upto_region 35 with fail
                          have HNE := hid OS.out.2
                          rw [show decide (0 < i + 1) = true from decide_eq_true (by omega)]
                          go_loopw [17, 172] (fun v j wr => ∃ (q : Nat) (u : Nat → Int) (z : Int), q ≤ nh ∧ v = .int .i64 z ∧ j = .int .i64 (q : Int) ∧ ((z = n1 ∨ 100 ≤ z) ∧ z ≤ n1) ∧ Blk wr g9 26 #[.int .i64 hours, .int .i64 (allow : Int), .int .i64 (nh : Int), .slice A3 (i+1) c3, .slice A4 M.length c4, .slice A5 n5 c5] ∧ Blk wr g16 3 #[.int .i64 ((i : Int) + 1)] ∧ Hid (OwnR wr N1 3 1 (.slice (some ⟨b6, o6, none⟩) (i+1) c6) (rowsI s)) ∧ Hid (OwnR wr N0 79 3 (.slice A3 (i+1) c3) C) ∧ Hid (Arr wr lc nh (fun h => sumTo (t h) i + u h)) ∧ Hid (St d w g11 gh n c1 NB (.slice A4 M.length c4) (.slice A5 n5 c5) H' M L (82000 + 100000 * (i + 1) + 10 * q) wr) ∧ N0 ≤ wr.heap.size ∧ Hid (z = n1 - sumTo u nh ∧ (∀ h, 0 ≤ u h ∧ u h ≤ 20) ∧ (∀ h : Nat, h < nh → hereL H' L h i = false → u h = 0) ∧ ∀ h, q ≤ h → u h = 0)) (fun _ j _ => nh - (intOf j).toNat)
                          case atStart => exact ⟨0, fun _ => 0, n1, by omega, rfl, rfl, ⟨.inl rfl, Int.le_refl _⟩, b9, b16, hid OS.out.1, OC, hid (OT.out.congr fun h _ => (Int.add_zero _).symm), hid (ST.out.mono (by omega)), hsz, hid ⟨by rw [HandSpec.L.sumTo_zero fun _ _ => rfl]; omega, fun _ => ⟨Int.le_refl 0, show (0 : Int) ≤ 20 by decide⟩, fun _ _ _ => rfl, fun _ _ => rfl⟩⟩
                          case round =>
                            clear b9 b16 OS OC OT ST hsz k9 k9l
                            obtain ⟨q, u, z, hq, rfl, rfl, hz, b9, b16, OS, OC, OT, ST, hsz, HU⟩ := hrel
                            have hzb : -100 ≤ z ∧ z ≤ 500 := by omega
                            have k9 := b9.cell
                            have k9l := b9.lt
                            by_cases hlq : q < nh
                            · go_upto_region 37 with fail
                              refine wp_later fun wk hwk => ?_
                              obtain ⟨ek, b20⟩ := hwk.newB
                              obtain ⟨g20, hg20⟩ : ∃ g20, g20 = wr.heap.size := ⟨_, rfl⟩
                              rw [← hg20] at b20 ⊢
                              have hNg : N0 ≤ g20 := by omega
                              replace hsz := Nat.le_trans hsz ek.size
                              replace b9 := b9.ext ek
                              replace b16 := b16.ext ek
                              replace OS := hid (OS.out.ext ek)
                              replace OC := hid (OC.out.ext ek)
                              replace OT := hid (arr_same OT.out (ek.block OT.out.1))
                              replace ST := hid (ST.out.ext ek)
                              clear hwk ek hg20 k9 k9l
                              have k9 := b9.cell
                              have k9l := b9.lt
                              cases hin : hereL H' L q i
                              · go_wp2_with (go_at_call 182; refine (held182 hlt ST.out.f.sp b20 ST.out.b11 b16 ST.out.a (by omega) (by omega)).mono ?_; rintro e wf ⟨rfl, hef⟩; rw [hin])
                                go_roundw
                                case rel => exact ⟨q + 1, u, z, by omega, rfl, by go_num, hz, b9.ext hef, b16.ext hef, hid (OS.out.ext hef), hid (OC.out.ext hef), hid (arr_same OT.out (hef.block OT.out.1)), hid ((ST.out.ext hef).mono (by omega)), Nat.le_trans hsz hef.size, hid ⟨HU.out.1, HU.out.2.1, HU.out.2.2.1, fun h hh => HU.out.2.2.2 h (by omega)⟩⟩
                                case measure => simp [intOf]; omega
                              · have n20 : ¬ g20 = d.blk := by have := NM.out.hgh; have := NM.out.hNB; have := NM.out.hN1; have := NM.out.hlc; have := NM.out.hN0; omega
                                go_upto_region 38 with (go_at_call 182; refine (held182 hlt ST.out.f.sp b20 ST.out.b11 b16 ST.out.a (by omega) (by omega)).mono ?_; rintro e wf ⟨rfl, hef⟩; rw [hin]; replace hsz := Nat.le_trans hsz hef.size; replace b9 := b9.ext hef; replace b16 := b16.ext hef; replace b20 := b20.ext hef; replace OS := hid (OS.out.ext hef); replace OC := hid (OC.out.ext hef); replace OT := hid (arr_same OT.out (hef.block OT.out.1)); replace ST := hid (ST.out.ext hef))
                                clear hef k9 k9l
                                have k9 := b9.cell
                                have k9l := b9.lt
                                go_upto_if 183 with (go_at_call 107; refine (rare_b H0.out ST.out.f.x (by omega) 3 (by omega)).mono ?_; rintro e wg ⟨b, rfl, xg⟩; replace hsz := Nat.le_trans hsz xg.size; replace b9 := b9.sx xg h9; replace b16 := b16.sx xg n16; replace b20 := b20.sx xg n20; replace OS := hid (OS.out.sx xg (fun e => by have := OS.out.block e; omega)); replace OC := hid (OC.out.sx xg (fun e => by have := OC.out.block e; omega)); replace OT := hid (arr_same OT.out (xg.block OT.out.1 hlcd)); replace ST := hid (ST.out.sx NM.out xg))
                                clear xg k9 k9l
                                cases b
                                · go_wp2_with fail
                                  exact ⟨⟨q + 1, u, z, by omega, rfl, by go_num, hz, b9, b16, OS, OC, OT, hid (ST.out.mono (by omega)), hsz, hid ⟨HU.out.1, HU.out.2.1, HU.out.2.2.1, fun h hh => HU.out.2.2.2 h (by omega)⟩⟩, by simp [intOf]; omega⟩
                                · go_upto_region 40 with (go_at_call 172; refine (among_b H0.out ST.out.f.x (by omega) 1 20 (by omega) (by omega) (by omega)).mono ?_; rintro e wh ⟨m, rfl, m1, m2, xh⟩; replace hsz := Nat.le_trans hsz xh.size; replace b9 := b9.sx xh h9; replace b16 := b16.sx xh n16; replace b20 := b20.sx xh n20; replace OS := hid (OS.out.sx xh (fun e => by have := OS.out.block e; omega)); replace OC := hid (OC.out.sx xh (fun e => by have := OC.out.block e; omega)); replace OT := hid (arr_same OT.out (xh.block OT.out.1 hlcd)); replace ST := hid (ST.out.sx NM.out xh))
                                  clear xh
                                  have hqn : (q : Int) < (nh : Int) := by omega
                                  have hq0 : (0 : Int) ≤ (q : Int) := by omega
                                  obtain ⟨hq5, hf5⟩ := OT.out.2 q hlq
                                  have HB := hid (b20.cell 0)
                                  have k20 := b20.cell
                                  have k20l := b20.lt
                                  have h20c : ¬ g20 = lc := by omega
                                  obtain ⟨y, hy⟩ : ∃ y, y = if m < if 100 < z then z - 100 else 0 then m else if 100 < z then z - 100 else 0 := ⟨_, rfl⟩
                                  rw [← hy]
                                  have hyb : (0 ≤ y ∧ y ≤ 20) ∧ (z - y = n1 ∨ 100 ≤ z - y) ∧ z - y ≤ n1 := by
                                    refine take_bd hz ⟨m1, by omega⟩ (m := m) ?_
                                    rw [hy]; split <;> split at * <;> omega
                                  clear hy
                                  have hut := HU.out.2.1 q
                                  have hu0 := hid (HU.out.2.2.2 q (Nat.le_refl _))
                                  have hst : 0 ≤ sumTo (t q) i ∧ sumTo (t q) i ≤ 20 * (i : Int) := t_bd (MS.out.t0 q) i
                                  have hzw : -200 ≤ z - y ∧ z - y ≤ 600 := by omega
                                  have hw1 : IntKind.i64.wrap (z - y) = z - y := IntWalk.i64_in _ (by omega)
                                  have hw2 : IntKind.i64.wrap (sumTo (t q) i + u q + y) = sumTo (t q) i + u q + y := IntWalk.i64_in _ (by omega)
                                  go_region_law (fail)
                                  all_goals
                                    go_wp2_with fail
                                    go_roundw
                                    case rel =>
                                      refine ⟨q + 1, upd u q y, z - y, by omega, rfl, by go_num, hyb.2, (b9.far (show g9 ≠ lc by have := NM.out.hgh; have := NM.out.hNB; have := NM.out.hN1; omega) _).ext (Ext.refl _).drew, (b16.far (show g16 ≠ lc by omega) _).ext (Ext.refl _).drew, hid ((OS.out.same fun g hg => Below.heap_setCell _ _ _ _ (fun e => HNE.out (by rw [hg, e]))).ext (Ext.refl _).drew), hid ((OC.out.same fun g hg => Below.heap_setCell _ _ _ _ (fun e => by have := OC.out.block hg; have : g = lc := e; omega)).ext (Ext.refl _).drew), hid (((OT.out.set_ q _ hlq).congr fun h hh => ?_).ext (Ext.refl _).drew), hid (((ST.out.setT NM.out q _).ext (Ext.refl _).drew).mono (by omega)), by simpa using hsz, hid ⟨?_, fun h => ?_, fun h hh hf => ?_, fun h hh => ?_⟩⟩
                                      · by_cases e : h = q
                                        · subst e; rw [upd_same, upd_same, hu0.out]; omega
                                        · rw [upd_other _ _ e, upd_other _ _ e]
                                      · rw [sumTo_upd hu0.out hlq, HU.out.1]; omega
                                      · by_cases e : h = q
                                        · subst e; rw [upd_same]; exact hyb.1
                                        · rw [upd_other _ _ e]; exact HU.out.2.1 h
                                      · by_cases e : h = q
                                        · subst e; rw [hin] at hf; cases hf
                                        · rw [upd_other _ _ e]; exact HU.out.2.2.1 h hh hf
                                      · rw [upd_other _ _ (by omega)]; exact HU.out.2.2.2 h (by omega)
                                    case measure => simp [intOf]; omega
                            · obtain rfl : nh = q := by omega
                              clear k9 k9l hq hlq
                              have hg9N : g9 < N1 := by have := NM.out.hgh; have := NM.out.hNB; have := NM.out.hN1; omega
                              have hsl : s.length = i + 1 := by have := MS.out.sl; omega
                              have O8 := hid (OS.out.ext ((Ext.refl _).alloc (.cells #[.int .i64 z] 3)))
                              go_wp2_with (at_builtin; go_loud (refine wpList_append_rows_at rfl _ _ 56 rfl el56 rfl O8.out _ 1 1 [[_]] rfl rfl (by simp) (row1 (Blk.new _ _ _)) (by rw [rowsI_length]; omega) (by simp; omega) ?_; intro v' w8 hown2 hg2 hat2; have T9 := hid ((b9.ext ((Ext.refl _).alloc _)).grown hg2 (fun e => by have := O8.out.block e.symm; omega)); have T16 := hid ((b16.ext ((Ext.refl _).alloc _)).grown hg2 (fun e => by have := HS6.out _ e.symm; omega)); have TC := hid ((OC.out.ext ((Ext.refl _).alloc _)).grownBy_other hg2 ((OC.out.ext ((Ext.refl _).alloc _)).apart' O8.out (by decide))); have TT := hid (arr_same (OT.out.ext ((Ext.refl _).alloc _)) (hg2.block lc (by have := (OT.out.ext ((Ext.refl _).alloc (.cells #[.int .i64 z] 3))).1; exact this) (fun e => HNE.out e.symm))); have TS := hid ((ST.out.ext ((Ext.refl _).alloc _)).grown NM.out O8.out (Nat.le_refl _) hg2); have hs8 := hid hg2.size; have HO2 := hid hown2; have HA2 := hid hat2; obtain ⟨D2, q2, rfl, -⟩ := hown2.slR; clear hown2 hg2 hat2))
                              go_meet
                              have hni := MadeS.ni_last s z
                              rw [hsl] at hni
                              refine ⟨s ++ [z], D2, q2, fun h j => if j = i then u h else t h j, z, ?_, T9.out, T16.out, ⟨hni, by omega, by omega⟩, hid ⟨?_, ?_⟩, TC, hid (TT.out.congr fun h _ => (MadeS.took u h).symm), hid (TS.out.mono (by omega)), ?_, hid fun lo hi a b c e => ?_⟩
                              · simp [hsl, rowsI_length]
                              · have h := HO2.out
                                rw [show (rowsI s ++ [[z]]).length = i + 1 + 1 by simp [hsl, rowsI_length]] at h
                                rw [rowsI_append]
                                exact h
                              · intro h
                                have hl8 : (rowsI s ++ [[z]]).length = i + 1 + 1 := by simp [hsl, rowsI_length]
                                have h2 := HA2.out
                                rw [hl8] at h2
                                rcases h2 with e | e
                                · exact HNE.out (e.symm.trans h)
                                · have := Option.some.inj (e.symm.trans h)
                                  rw [World.size_alloc] at this
                                  omega
                              · have h := hs8.out
                                rw [World.size_alloc] at h
                                omega
                              · have h1 := HN0.out
                                have h2 := HN1.out
                                have h3 := HU.out.1
                                have h4 := HM.out
                                refine MS.out.next (u := u) (l := l) HU.out.2.1 HU.out.2.2.1 ⟨hl2.1.1, by rw [← h4]; exact hl2.1.2⟩ (by omega) ?_ a b c e
                                rw [← h1.2]
                                omega
                · obtain rfl : n = k := by omega
                  have hL5 := OwnR.len ST.out.f.sp
                  have HOT := hid (MS.out.ok hln ⟨by omega, hn8⟩ HH.out.2.2 HH.out.1 HH.out.2.1 ⟨ho1, hho⟩ ⟨by omega, hal⟩ hnh hn45 HBk.out (by omega) HS.out)
                  have hCl := MS.out.cl
                  have hsl := MS.out.sl
                  have hmx : max 1 n = n := by omega
                  rw [hmx] at OS hsl ⊢
                  have HD := hid (show d.blk < w.heap.size ∧ w.heap.size < N1 ∧ w.heap.size < N0 ∧ w.heap.size < NB ∧ w.heap.size < lc from by have := NM.out.hd; have := NM.out.h9; have := NM.out.h11; have := NM.out.hgh; have := NM.out.hNB; have := NM.out.hN1; have := NM.out.hlc; have := NM.out.hN0; omega)
                  have k9 := b9.cell
                  have k9l := b9.lt
                  have k0 := ST.out.f.z.cell
                  have k0l := ST.out.f.z.lt
                  have f0 := ST.out.f.z.frozen
                  go_wp2_with fail
                  have hd := HD.out
                  have hc6 := Ch.set6 wr w.heap.size (.int .i64 hours) (.int .i64 (allow : Int)) (.int .i64 (nh : Int)) (.slice A3 n c3) (.slice A4 M.length c4) (.slice A5 n5 c5)
                  refine bodyPost_ret (v := .tuple #[.agg #[.int .i64 hours, .int .i64 (allow : Int), .int .i64 (nh : Int), .slice A3 n c3, .slice A4 M.length c4, .slice A5 n5 c5], .slice A6 n c6, .slice (some ⟨lc, 0, none⟩) nh nh]) (by simp [results, Tryz.results72, go_sem, k0]) rfl ⟨hours, allow, nh, M, L, C, s, t, _, _, _, _, lc, rfl, ⟨?_, ?_, ?_, ?_, ?_, ?_, HOT.out.1, HOT.out.2, ?_, ?_, ?_, ?_⟩⟩
                  · exact (hc6.own OC.out fun g hg e => by have := OC.out.block hg; omega).base (by omega)
                  · exact (hc6.own ST.out.o4 fun g hg e => by have := ST.out.o4.block hg; omega).base (by omega)
                  · exact (hc6.own ST.out.f.sp fun g hg e => by have := ST.out.f.sp.block hg; omega).base (by omega)
                  · exact (hc6.own OS.out.1 fun g hg e => by have := OS.out.1.block hg; omega).base (by omega)
                  · rw [hCl]; exact arr_same OT.out (hc6.block lc OT.out.1 (fun e => by omega))
                  · omega
                  · omega
                  · omega
                  · omega
                  · exact (ST.out.f.x.set6 (Nat.le_refl _) _ _ _ _ _ _).mono (by omega)
end Go.Proofs.YtkhjmedfhobebaaGreat
