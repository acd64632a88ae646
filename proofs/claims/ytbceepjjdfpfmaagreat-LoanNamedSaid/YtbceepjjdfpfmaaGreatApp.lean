/- append in a drawn region that is walked order by order: to own rows, and to own slices of slices. No condition. -/
import Derived.Test.YtbceepjjdfpfmaaGreatChg
import Derived.Maps.AppendAt
namespace Go
open Go.RowKit
theorem step_append_rows_at {P : Program} {w : World} {ops : Array Oper} {o : Oper} {a : Act} {K : Act → World → Prop} {Q : Exit → Act → World → Prop} {E : Prop} (hgd : o.guard = none) (s x : Operand) (T : TypeId)
  (ho : o.op = .call { callee := .builtin .append, args := #[s, x], argTypes := #[T, T] }) {e : TypeId} {c bytes : Nat} (hE : ElemOk P T e c bytes)
  {B : Nat} {v : Value} {l : List (List Int)} (hs : a.eval s = v) (hown : OwnR w B e c v l) (g m cap : Nat) (r : List (List Int)) (hx : a.eval x = .slice (some ⟨g, 0, none⟩) m cap)
  (hm : r.length = m) (hrc : ∀ q ∈ r, q.length = c) (hb : ∀ i, w.cell? ⟨g, i, none⟩ = (cellsOf r)[i]?) (hlen : l.length + m ≤ 1000000) (hB : B ≤ w.heap.size)
  (h : ∀ v' w', OwnR w' B e c v' (l ++ r) → w.grownBy w' v.ownBlock → (v'.ownBlock = v.ownBlock ∨ v'.ownBlock = some w.heap.size) → K (a.put o.dst v') w') :
  if Region.wanted o (yielded ops a.tmps) = true then Oper.wp P o a w K Q else E := by
 have hw : Region.wanted o (yielded ops a.tmps) = true := by simp [Region.wanted, hgd]
 rw [if_pos hw]
 obtain ⟨i, z, hi, hz, h1, h2, h3⟩ := hE.i
 have hb0 := hE.b
 obtain ⟨v', w', hr, h4, h5, -, h6⟩ := run_append_own_at (P := P) w B T o.type e i z c bytes hE.u hi hz h1 h2 h3 hE.c0 v l.length (cellsOf l) hown.2 ⟨g, 0, none⟩ m cap (cellsOf r) (by rw [cellsOf_length hrc, hm]) (by
  intro j u hu
  rw [show (⟨g, 0, none⟩ : Addr).add j = ⟨g, j, none⟩ from by unfold Addr.add; by_cases h0 : j = 0 <;> simp [h0], hb, hu]) cellsOf_one (by unfold maxLen; omega) (by have := Nat.mul_le_mul hlen hb0; omega) hB
 unfold Oper.wp execOp
 simp only [ho, resolve, invoke, builtin, Sem.run_bind, Sem.run_pure, Result.andThen_ok, List.map_toArray, List.map_cons, List.map_nil, hs, hx, hr]
 exact h v' w' ⟨fun q hq => (List.mem_append.1 hq).elim (hown.1 q) (hrc q), by rw [List.length_append, hm, cellsOf_append]; exact h4⟩ h5 h6
theorem step_append_val_at {P : Program} {w : World} {ops : Array Oper} {o : Oper} {a : Act} {K : Act → World → Prop} {Q : Exit → Act → World → Prop} {E : Prop} (hgd : o.guard = none) (s x : Operand) (T : TypeId)
  (ho : o.op = .call { callee := .builtin .append, args := #[s, x], argTypes := #[T, T] }) {e : TypeId} {bytes : Nat} (hE : ElemOk P T e 1 bytes)
  {B : Nat} {v : Value} {l : List Value} (hs : a.eval s = v) (hown : OwnV w B e v l) (g m cap : Nat) (r : List Value) (hx : a.eval x = .slice (some ⟨g, 0, none⟩) m cap)
  (hm : r.length = m) (hrc : ∀ q ∈ r, q.oneCell' = true) (hb : ∀ i, w.cell? ⟨g, i, none⟩ = r[i]?) (hlen : l.length + m ≤ 1000000) (hB : B ≤ w.heap.size)
  (h : ∀ v' w', OwnV w' B e v' (l ++ r) → w.grownBy w' v.ownBlock → (v'.ownBlock = v.ownBlock ∨ v'.ownBlock = some w.heap.size) → K (a.put o.dst v') w') :
  if Region.wanted o (yielded ops a.tmps) = true then Oper.wp P o a w K Q else E := by
 have hw : Region.wanted o (yielded ops a.tmps) = true := by simp [Region.wanted, hgd]
 rw [if_pos hw]
 obtain ⟨i, z, hi, hz, h1, h2, h3⟩ := hE.i
 have hb0 := hE.b
 obtain ⟨v', w', hr, h4, h5, -, h6⟩ := run_append_own_at (P := P) w B T o.type e i z 1 bytes hE.u hi hz h1 h2 h3 hE.c0 v l.length l hown.2 ⟨g, 0, none⟩ m cap r (by omega) (by
  intro j u hu
  rw [show (⟨g, 0, none⟩ : Addr).add j = ⟨g, j, none⟩ from by unfold Addr.add; by_cases h0 : j = 0 <;> simp [h0], hb, hu]) hrc (by unfold maxLen; omega) (by have := Nat.mul_le_mul hlen hb0; omega) hB
 unfold Oper.wp execOp
 simp only [ho, resolve, invoke, builtin, Sem.run_bind, Sem.run_pure, Result.andThen_ok, List.map_toArray, List.map_cons, List.map_nil, hs, hx, hr]
 exact h v' w' ⟨fun q hq => (List.mem_append.1 hq).elim (hown.1 q) (hrc q), by rw [List.length_append, hm]; exact h4⟩ h5 h6
theorem OwnV.same {w w' : World} {B : Nat} {e : TypeId} {v : Value} {l : List Value} (h : OwnV w B e v l) (hs : ∀ g, v.ownBlock = some g → w'.heap[g]? = w.heap[g]?) : OwnV w' B e v l := by
  refine ⟨h.1, h.2.1, ?_⟩
  rcases h.2.2 with h0 | ⟨g, cap, cur, rfl, hb, hh, hr⟩
  · exact .inl h0
  · exact .inr ⟨g, cap, cur, rfl, hb, (hs g rfl).trans hh, hr⟩
/-- An own slice of slices lies elsewhere than own rows of numbers. -/
theorem OwnV.apart' {w : World} {B B' : Nat} {e e' : TypeId} {c' : Nat} {v v' : Value} {l : List Value} {l' : List (List Int)} (h : OwnV w B e v l) (h' : OwnR w B' e' c' v' l') (hne : e ≠ e') (g : Nat) (hg : v.ownBlock = some g) : some g ≠ v'.ownBlock := fun hg' => by
  rcases h.2.2 with ⟨rfl, _⟩ | ⟨a, cap, cur, rfl, _, hh, _⟩
  · cases hg
  · rcases h'.2.2 with ⟨rfl, _⟩ | ⟨b, cap', cur', rfl, _, hh', _⟩
    · cases hg'
    · simp only [Value.ownBlock, Option.some.injEq] at hg hg'
      subst hg
      rw [hg', hh'] at hh
      simp at hh
      exact hne hh.2.symm
/-- The first N cells of block g, which is of cells alone, are the numbers h. -/
def ArrB (W : World) (g : Nat) (t : TypeId) (N : Nat) (h : Nat → Int) : Prop := ∃ C, Blk W g t C ∧ ∀ i, i < N → C[i]? = some (.int .i64 (h i))
namespace ArrB
variable {W W' : World} {g N : Nat} {t : TypeId} {h : Nat → Int}
theorem ext (a : ArrB W g t N h) (e : Ext W W') : ArrB W' g t N h := by obtain ⟨C, h1, h2⟩ := a; exact ⟨C, h1.ext e, h2⟩
theorem lt (a : ArrB W g t N h) : g < W.heap.size := by obtain ⟨C, h1, h2⟩ := a; exact h1.lt
theorem cell (a : ArrB W g t N h) {i : Nat} (hi : i < N) : W.cell? ⟨g, i, none⟩ = some (.int .i64 (h i)) := by obtain ⟨C, h1, h2⟩ := a; rw [h1.cell]; exact h2 i hi
theorem frozen (a : ArrB W g t N h) (i : Nat) : W.frozen? ⟨g, i, none⟩ = false := by obtain ⟨C, h1, h2⟩ := a; exact h1.frozen i
theorem congr {h' : Nat → Int} (a : ArrB W g t N h) (e : ∀ i, i < N → h i = h' i) : ArrB W g t N h' := by obtain ⟨C, h1, h2⟩ := a; exact ⟨C, h1, fun i hi => by rw [← e i hi]; exact h2 i hi⟩
theorem far (a : ArrB W g t N h) {p : Addr} (hp : g ≠ p.block) (u : Value) : ArrB (W.setCell p u) g t N h := by obtain ⟨C, h1, h2⟩ := a; exact ⟨C, h1.far hp u, h2⟩
theorem same (a : ArrB W g t N h) (e : W'.heap[g]? = W.heap[g]?) : ArrB W' g t N h := by obtain ⟨C, h1, h2⟩ := a; exact ⟨C, e.trans h1, h2⟩
theorem set_ (a : ArrB W g t N h) (k : Nat) (z : Int) : ArrB (W.setCell ⟨g, k, none⟩ (.int .i64 z)) g t N (HandSpec.upd h k z) := by
 obtain ⟨C, h1, h2⟩ := a
 refine ⟨_, h1.set_ k _, fun i hi => ?_⟩
 have := h2 i hi
 obtain ⟨hlt, hv⟩ := Array.getElem?_eq_some_iff.1 this
 by_cases e : i = k
 ·subst e
  rw [HandSpec.upd_same]
  simp [hlt]
 ·rw [HandSpec.upd_other _ _ e, Array.getElem?_setIfInBounds_ne (fun e' => e e'.symm)]
  exact this
theorem rd (a : ArrB W g t N h) {A : Option Addr} (hA : 0 < N → A = some ⟨g, 0, none⟩) : Rd W A N 1 (fun k _ => h k) := fun hn => by
  refine ⟨g, 0, hA hn, fun k hk j hj => ?_⟩
  obtain rfl : j = 0 := by omega
  simpa using a.cell hk
/-- A block of numbers lies elsewhere than an own slice of slices. -/
theorem ne (a : ArrB W g t N h) {B : Nat} {e : TypeId} {v : Value} {l : List Value} (o : OwnV W B e v l) (ht : e ≠ t) : v.ownBlock ≠ some g := fun hg => by
  obtain ⟨C, b, _⟩ := a
  rcases o.2.2 with ⟨rfl, _⟩ | ⟨a, cap, cur, rfl, _, hh, _⟩
  · cases hg
  · simp only [Value.ownBlock, Option.some.injEq] at hg
    subst hg
    unfold Blk at b
    rw [b] at hh
    simp at hh
    exact ht hh.2.symm
end ArrB
/-- An own slice of numbers is such a block. -/
theorem OwnR.arrB {w : World} {B : Nat} {e : TypeId} {v : Value} {l : List (List Int)} (h : OwnR w B e 1 v l) :
  (v = .slice none 0 0 ∧ l = []) ∨ ∃ g cap, v = .slice (some ⟨g, 0, none⟩) l.length cap ∧ B ≤ g ∧ l.length ≤ cap ∧ ArrB w g e l.length (fun i => rowsAt l i 0) := by
  obtain ⟨hc, hl, h | ⟨g, cap, cur, rfl, hb, hh, hn, hm, hs, ht⟩⟩ := h
  · left
    refine ⟨h.1, List.length_eq_zero_iff.1 ?_⟩
    have := h.2
    simp_all
  · right
    refine ⟨g, cap, rfl, hb, hn, cur, hh, fun i hi => ?_⟩
    have h1 := cellsOf_get hc hi (show 0 < 1 by omega)
    rw [← ht, List.getElem?_take_of_lt (by omega)] at h1
    simpa [rowsAt] using h1
end Go
