/- Words for walks: a slice that can be read is appended to an own one. No condition. -/
import Derived.Test.YtkhjmedfhobebaaGreatBaseC
namespace Go
open Go.RowKit
/-- The rows of a slice that can be read. -/
def rowsG (c m : Nat) (g : Nat → Nat → Int) : List (List Int) := (List.range m).map fun k => (List.range c).map fun j => g k j
theorem rowsG_length (c m : Nat) (g : Nat → Nat → Int) : (rowsG c m g).length = m := by simp [rowsG]
theorem rowsG_row {c m : Nat} {g : Nat → Nat → Int} : ∀ q ∈ rowsG c m g, q.length = c := by
  intro q hq
  simp only [rowsG, List.mem_map] at hq
  obtain ⟨k, _, rfl⟩ := hq
  simp
theorem rowsG_at {c m : Nat} {g : Nat → Nat → Int} {k j : Nat} (hk : k < m) (hj : j < c) : rowsAt (rowsG c m g) k j = g k j := by
  simp [rowsAt, rowsG, hk, hj]
theorem cellsOf_rowsG {c m : Nat} {g : Nat → Nat → Int} {i : Nat} {u : Value} (h : (cellsOf (rowsG c m g))[i]? = some u) : ∃ k j, k < m ∧ j < c ∧ i = k * c + j ∧ u = .int .i64 (g k j) := by
  have hlen := cellsOf_length (rowsG_row (c := c) (m := m) (g := g))
  rw [rowsG_length] at hlen
  have hi : i < m * c := by
    rcases Nat.lt_or_ge i (m * c) with h' | h'
    · exact h'
    · rw [List.getElem?_eq_none (by omega)] at h; cases h
  have hc : 0 < c := by
    rcases Nat.eq_zero_or_pos c with h' | h'
    · subst h'; omega
    · exact h'
  refine ⟨i / c, i % c, Nat.div_lt_of_lt_mul (by rw [Nat.mul_comm]; exact hi), Nat.mod_lt _ hc, by rw [Nat.mul_comm]; exact (Nat.div_add_mod i c).symm, ?_⟩
  have hk : i / c < m := Nat.div_lt_of_lt_mul (by rw [Nat.mul_comm]; exact hi)
  have := cellsOf_get (rowsG_row (c := c) (m := m) (g := g)) (k := i / c) (j := i % c) (by rw [rowsG_length]; exact hk) (Nat.mod_lt _ hc)
  rw [show i / c * c + i % c = i from by rw [Nat.mul_comm]; exact Nat.div_add_mod i c, h] at this
  injection this with this
  rw [this]
  exact congrArg (Value.int .i64) (rowsG_at hk (Nat.mod_lt _ hc))
theorem addr_add (b o i : Nat) : (⟨b, o, none⟩ : Addr).add i = ⟨b, o + i, none⟩ := by
  unfold Addr.add
  by_cases h : i = 0 <;> simp [h]
section
variable {P : Program} {w : World}
theorem run_append_nothing (base : Nat) (t ty e : TypeId) (i : TypeInfo) (size : Nat) (ht : P.underlying t = some (.slice e)) (hi : P.info? e = some i)
    (v : Value) (n : Nat) (xs : List Value) (hown : w.ownsRow base e size v n xs) (c : Nat) : (Builtin.append_ #[t, t] ty #[v, .slice none 0 c]).run P w = .ok v w := by
  rcases hown.2 with ⟨rfl, rfl⟩ | ⟨g, cap, cur, rfl, _, _, hnc, _⟩
  · simp [Builtin.append_, run_underlying ht, sizeOf, typeInfo, hi, Builtin.lenOf, Builtin.firstCells]
  · simp [Builtin.append_, run_underlying ht, sizeOf, typeInfo, hi, Builtin.lenOf, Builtin.firstCells, hnc, storeCells]
/-- append of a slice that can be read to an own one. -/
theorem wpList_append_rd {ops : Array Oper} {rest : List Oper} {o : Oper} {a : Act} {Q : Exit → Act → World → Prop} (hgd : o.guard = none) (s x : Operand) (T : TypeId)
    (ho : o.op = .call { callee := .builtin .append, args := #[s, x], argTypes := #[T, T] }) {e : TypeId} {c bytes : Nat} (hE : ElemOk P T e c bytes)
    {B : Nat} {v : Value} {l : List (List Int)} (hs : a.eval s = v) (hown : OwnR w B e c v l) {A : Option Addr} {m cap : Nat} {g : Nat → Nat → Int} (hx : a.eval x = .slice A m cap) (hr : Rd w A m c g)
    (hlen : l.length + m ≤ 1000000) (hB : B ≤ w.heap.size)
    (h : ∀ v' w', OwnR w' B e c v' (l ++ rowsG c m g) → w.grownBy w' v.ownBlock → wpList P ops Q rest (a.put o.dst v') w') :
    wpList P ops Q (o :: rest) a w := by
  obtain ⟨i, z, hi, hz, h1, h2, h3⟩ := hE.i
  have hb0 := hE.b
  have fin : ∀ ad : Addr, A = some ad → (∀ j u, (cellsOf (rowsG c m g))[j]? = some u → w.cell? (ad.add j) = some u) → wpList P ops Q (o :: rest) a w := by
    rintro ad rfl hc
    refine wpList_append_own w hgd s x T ho B e i z c bytes hE.u hi hz h1 h2 h3 hE.c0 v l.length (cellsOf l) hs hown.2 ad m cap (cellsOf (rowsG c m g)) hx (by rw [cellsOf_length rowsG_row, rowsG_length]) hc cellsOf_one ?_ ?_ hB ?_
    · unfold maxLen; omega
    · have := Nat.mul_le_mul hlen hb0; omega
    · intro v' w' hown' hg _
      exact h v' w' ⟨fun q hq => (List.mem_append.1 hq).elim (hown.1 q) (rowsG_row q), by rw [List.length_append, rowsG_length, cellsOf_append]; exact hown'⟩ hg
  rcases Nat.eq_zero_or_pos m with h0 | h0
  · subst h0
    cases A with
    | some ad => exact fin ad rfl (fun j u hu => by simp [rowsG, cellsOf] at hu)
    | none =>
      refine wpList_plain hgd fun K hK => ?_
      have hrun := run_append_nothing (P := P) (w := w) B T o.type e i c hE.u hi v l.length (cellsOf l) hown.2 cap
      have := h v w (by simpa [rowsG] using hown) (World.grownBy.refl w _)
      unfold Oper.wp
      simp [execOp, ho, resolve, invoke, builtin, hs, hx, hrun, Result.andThen]
      exact hK _ _ this
  · obtain ⟨b, off, hA, hc⟩ := hr h0
    refine fin _ hA fun j u hu => ?_
    obtain ⟨k, q, hk, hq, rfl, rfl⟩ := cellsOf_rowsG hu
    rw [addr_add, ← Nat.add_assoc]
    exact hc k hk q hq
end
end Go
