/- Arrays of integers that may be written; the builtin clear. No condition. -/
import Derived.Test.YtbceepjjdfpfmaaGreatGenC
import Derived.Lib.LazyBuf
namespace Go.Proofs.YtbceepjjdfpfmaaGreat
open Go.RowKit HandSpec

/-- The first N cells of block g are the numbers h, and may be written. -/
def Arr (w : World) (g N : Nat) (h : Nat → Int) : Prop :=
 g < w.heap.size ∧ ∀ i, i < N → w.cell? ⟨g, i, none⟩ = some (.int .i64 (h i)) ∧ w.frozen? ⟨g, i, none⟩ = false
namespace Arr
variable {w w' : World} {g N : Nat} {h : Nat → Int}
theorem ext (a : Arr w g N h) (e : Ext w w') : Arr w' g N h :=
 ⟨Nat.lt_of_lt_of_le a.1 e.size, fun i hi => by rw [e.cell a.1, e.frozen a.1]; exact a.2 i hi⟩
theorem cell (a : Arr w g N h) {i : Nat} (hi : i < N) : w.cell? ⟨g, i, none⟩ = some (.int .i64 (h i)) := (a.2 i hi).1
theorem frozen (a : Arr w g N h) {i : Nat} (hi : i < N) : w.frozen? ⟨g, i, none⟩ = false := (a.2 i hi).2
theorem rd (a : Arr w g N h) {o n c : Nat} (hn : o + n * c ≤ N) : Rd w (some ⟨g, o, none⟩) n c (fun k j => h (o + k * c + j)) := fun _ => by
 refine ⟨g, o, rfl, fun k hk j hj => a.cell ?_⟩
 have := Nat.mul_le_mul_right c (Nat.succ_le_of_lt hk)
 simp only [Nat.succ_eq_add_one, Nat.add_mul] at this
 omega
theorem congr {h' : Nat → Int} (a : Arr w g N h) (e : ∀ i, i < N → h i = h' i) : Arr w g N h' := ⟨a.1, fun i hi => by rw [← e i hi]; exact a.2 i hi⟩
theorem set_ (a : Arr w g N h) (k : Nat) (z : Int) (hk : k < N) : Arr (w.setCell ⟨g, k, none⟩ (.int .i64 z)) g N (upd h k z) := by
 refine ⟨by simpa using a.1, fun i hi => ⟨?_, by simpa using a.frozen hi⟩⟩
 by_cases e : i = k
 ·subst e
  rw [upd_same]
  exact World.cell?_setCell_same _ _ _ (a.cell hk)
 ·rw [upd_other _ _ e, World.cell?_setCell_other _ _ _ _ (by simp only [ne_eq, Addr.mk.injEq, true_and, and_true]; exact fun e' => e e'.symm)]
  exact a.cell hi
theorem far (a : Arr w g N h) {p : Addr} (u : Value) (hp : p.block ≠ g) : Arr (w.setCell p u) g N h :=
 ⟨by simpa using a.1, fun i hi => ⟨by rw [World.cell?_setCell_other _ _ _ _ (by intro e; rw [e] at hp; exact hp rfl)]; exact a.cell hi, by simpa using a.frozen hi⟩⟩
theorem mono {M : Nat} (a : Arr w g N h) (hm : M ≤ N) : Arr w g M h := ⟨a.1, fun i hi => a.2 i (by omega)⟩
end Arr
/-- An own slice is such a block. -/
theorem OwnR.arr {w : World} {B : Nat} {e : TypeId} {c : Nat} {v : Value} {l : List (List Int)} (h : OwnR w B e c v l) :
  (v = .slice none 0 0 ∧ l = []) ∨ ∃ g cap, v = .slice (some ⟨g, 0, none⟩) l.length cap ∧ B ≤ g ∧ l.length ≤ cap ∧ Arr w g (l.length * c) (fun i => rowsAt l (i / c) (i % c)) := by
 obtain ⟨hc, hl, h | ⟨g, cap, cur, rfl, hb, hh, hn, hm, hs, ht⟩⟩ := h
 ·left
  refine ⟨h.1, List.length_eq_zero_iff.1 ?_⟩
  have := h.2
  simp_all
 ·right
  refine ⟨g, cap, rfl, hb, hn, ?_, fun i hi => ?_⟩
  ·rcases Nat.lt_or_ge g w.heap.size with h' | h'
   ·exact h'
   ·rw [Array.getElem?_eq_none h'] at hh; cases hh
  ·have h0 : 0 < c := by
    rcases Nat.eq_zero_or_pos c with e | e
    ·subst e; simp at hi
    ·exact e
   have hk : i / c < l.length := (Nat.div_lt_iff_lt_mul h0).2 hi
   have h1 := cellsOf_get hc hk (Nat.mod_lt i h0)
   rw [← ht, Nat.div_add_mod' i c, List.getElem?_take_of_lt hi] at h1
   constructor
   ·simpa [World.cell?, hh, rowsAt] using h1
   ·simp [World.frozen?, hh]
theorem size_cells (b : Nat) : ∀ (vs : List Value) (o : Nat) (w : World), (w.setCells b o vs).heap.size = w.heap.size
 | [], _, _ => rfl
 | v :: r, o, w => by rw [World.setCells, size_cells b r, World.size_setCell]
/-- Says which operation is meant. -/
theorem wpList_here {P : Program} {ops : Array Oper} {Q : Exit → Act → World → Prop} {rest : List Oper} {a : Act} {w : World} (o : Oper) (h : wpList P ops Q (o :: rest) a w) : wpList P ops Q (o :: rest) a w := h
/-- 'clear' of a piece of such a block. -/
theorem wpList_clear_arr {P : Program} {w : World} {ops : Array Oper} {rest : List Oper} {o : Oper} {a : Act} {Q : Exit → Act → World → Prop} (hgd : o.guard = none) (x : Operand) (T : TypeId)
  (ho : o.op = .call { callee := .builtin .clear, args := #[x], argTypes := #[T] }) {e : TypeId} {c bytes : Nat} (hE : ElemOk P T e c bytes) {z : Value} (hz : ∀ w, (zeroValue e).run P w = .ok z w) (hzc : z.cells = Array.replicate c (.int .i64 0))
  {g N s n cap : Nat} {h : Nat → Int} (hx : a.eval x = .slice (some ⟨g, s, none⟩) n cap) (ha : Arr w g N h) (hn : s + n * c ≤ N)
  (hk : ∀ w', Arr w' g N (fun i => if s ≤ i ∧ i < s + n * c then 0 else h i) → (∀ w0, Ext w0 w → w0.heap.size ≤ g → Ext w0 w') → wpList P ops Q rest (a.put o.dst (.tuple #[])) w') :
  wpList P ops Q (o :: rest) a w := by
 refine wpList_plain hgd fun K hK => ?_
 have fin : ∀ w', (Builtin.clear_ #[T] o.type #[.slice (some ⟨g, s, none⟩) n cap]).run P w = .ok (.tuple #[]) w' → K (a.put o.dst (.tuple #[])) w' → Oper.wp P o a w K Q := by
  intro w' hrun hw
  unfold Oper.wp
  simp [execOp, ho, resolve, invoke, builtin, hx, hrun, Result.andThen]
  exact hw
 rcases Nat.eq_zero_or_pos n with h0 | h0
 ·subst h0
  refine fin w (by simp [Builtin.clear_, run_underlying hE.u]) (hK _ _ (hk w (ha.congr fun i _ => by rw [if_neg (by omega)]) fun _ h _ => h))
 ·obtain ⟨m, rfl⟩ : ∃ m, n = m + 1 := ⟨n - 1, by omega⟩
  have hlen : (Builtin.zeroCells z.cells (m + 1)).toList.length = (m + 1) * c := by simp [Builtin.zeroCells, hzc]
  have hall : ∀ v ∈ (Builtin.zeroCells z.cells (m + 1)).toList, v = .int .i64 0 := by
   intro v hv
   simp [Builtin.zeroCells, hzc] at hv
   obtain ⟨i, hi, rfl⟩ := hv
   have h0c : i % c < c := Nat.mod_lt _ hE.c0
   simp [h0c]
  have hst := run_storeCells_cells (P := P) g s (Builtin.zeroCells z.cells (m + 1)).toList 0 w (by intro j hj; rw [ha.cell (by omega)]; rfl) (by intro j hj; exact ha.frozen (by omega)) (by intro v hv; rw [hall v hv]; rfl)
  simp only [Nat.add_zero] at hst
  refine fin (w.setCells g s (Builtin.zeroCells z.cells (m + 1)).toList) (by simp [Builtin.clear_, run_underlying hE.u, hz, hst]) (hK _ _ (hk _ ⟨?_, fun i hi => ⟨?_, ?_⟩⟩ fun w0 h0 hg => ?_))
  ·rw [size_cells]; exact ha.1
  ·by_cases hin : s ≤ i ∧ i < s + (m + 1) * c
   ·show _ = some (Value.int .i64 (if _ then _ else _))
    rw [if_pos hin]
    have := World.cell?_setCells_in g (Builtin.zeroCells z.cells (m + 1)).toList s w (fun j hj => by rw [ha.cell (by omega)]; rfl) (i - s) (by omega)
    rw [show s + (i - s) = i by omega] at this
    rw [this, hall _ (List.getElem_mem _)]
   ·show _ = some (Value.int .i64 (if _ then _ else _))
    rw [if_neg hin, World.cell?_setCells_out _ _ _ _ _ (fun _ _ => by simp only; omega)]
    exact ha.cell hi
  ·rw [World.frozen?_setCells]; exact ha.frozen hi
  ·exact below_setCells hg _ _ _ h0
end Go.Proofs.YtbceepjjdfpfmaaGreat
