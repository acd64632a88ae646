/- Lists of lists of integers: reading them; lists of one's own whose elements are slices, and append to them. No condition. -/
import Derived.Test.YtbceepjjdfpfmaaGreatWords
import Derived.Test.YtbceepjjdfpfmaaGreatArr
namespace Go
open Go.RowKit
/-- A slice of n values of one cell each. -/
def RdV (w : World) (A : Option Addr) (n : Nat) (f : Nat → Value) : Prop := 0 < n → ∃ b o, A = some ⟨b, o, none⟩ ∧ ∀ k, k < n → w.cell? ⟨b, o + k, none⟩ = some (f k)
namespace RdV
variable {w w' : World} {A : Option Addr} {n : Nat} {f : Nat → Value}
theorem ext (h : RdV w A n f) (e : Ext w w') : RdV w' A n f := fun hn => by
  obtain ⟨b, o, hA, hc⟩ := h hn
  exact ⟨b, o, hA, fun k hk => e.some_ (hc k hk)⟩
theorem nil : RdV w A 0 f := fun h => absurd h (by omega)
theorem at_ (h : RdV w A n f) {k : Nat} (hk : k < n) : ∃ b o, A = some ⟨b, o, none⟩ ∧ b < w.heap.size ∧ w.cell? ⟨b, o + k, none⟩ = some (f k) := by
  obtain ⟨b, o, hA, hc⟩ := h (by omega)
  exact ⟨b, o, hA, World.block_lt_of_cell? w _ (hc k hk), hc k hk⟩
theorem congr {f' : Nat → Value} (h : RdV w A n f) (e : ∀ k, k < n → f k = f' k) : RdV w A n f' := fun hn => by
  obtain ⟨b, o, hA, hc⟩ := h hn
  exact ⟨b, o, hA, fun k hk => by rw [← e k hk]; exact hc k hk⟩
end RdV
/-- n lists of integers: list k has m k of them, namely g k. -/
def RdN (w : World) (A : Option Addr) (n : Nat) (m : Nat → Nat) (g : Nat → Nat → Int) : Prop :=
  ∃ (B : Nat → Option Addr) (C : Nat → Nat), RdV w A n (fun k => .slice (B k) (m k) (C k)) ∧ ∀ k, k < n → Rd w (B k) (m k) 1 (fun j _ => g k j)
namespace RdN
variable {w w' : World} {A : Option Addr} {n : Nat} {m : Nat → Nat} {g : Nat → Nat → Int}
theorem ext (h : RdN w A n m g) (e : Ext w w') : RdN w' A n m g := by
  obtain ⟨B, C, h1, h2⟩ := h
  exact ⟨B, C, h1.ext e, fun k hk => (h2 k hk).ext e⟩
theorem nil : RdN w A 0 m g := ⟨fun _ => none, fun _ => 0, RdV.nil, fun _ h => absurd h (by omega)⟩
/-- Where list k lies. -/
theorem at_ (h : RdN w A n m g) {k : Nat} (hk : k < n) : ∃ b o B C, A = some ⟨b, o, none⟩ ∧ b < w.heap.size ∧ w.cell? ⟨b, o + k, none⟩ = some (.slice B (m k) C) ∧ Rd w B (m k) 1 (fun j _ => g k j) := by
  obtain ⟨B, C, h1, h2⟩ := h
  obtain ⟨b, o, hA, hb, hc⟩ := h1.at_ hk
  exact ⟨b, o, B k, C k, hA, hb, hc, h2 k hk⟩
theorem congr {m' : Nat → Nat} {g' : Nat → Nat → Int} (h : RdN w A n m g) (e : ∀ k, k < n → m k = m' k ∧ ∀ j, j < m k → g k j = g' k j) : RdN w A n m' g' := by
  obtain ⟨B, C, h1, h2⟩ := h
  refine ⟨B, C, h1.congr fun k hk => by rw [(e k hk).1], fun k hk => ?_⟩
  rw [← (e k hk).1]
  exact (h2 k hk).congr fun j hj _ _ => (e k hk).2 j hj
end RdN
/-- The slice v is the call's own: it holds these values of one cell each, in a block from B on. -/
def OwnV (w : World) (B : Nat) (e : TypeId) (v : Value) (l : List Value) : Prop := (∀ u ∈ l, u.oneCell' = true) ∧ w.ownsRow B e 1 v l.length l
theorem OwnV.nil {w : World} {B : Nat} {e : TypeId} : OwnV w B e (.slice none 0 0) [] := ⟨by simp, by simp [World.ownsRow]⟩
theorem OwnV.ext {w w' : World} {B : Nat} {e : TypeId} {v : Value} {l : List Value} (h : OwnV w B e v l) (he : Ext w w') : OwnV w' B e v l :=
  ⟨h.1, h.2.1, by
    rcases h.2.2 with h0 | ⟨g, cap, cur, rfl, hb, hh, hr⟩
    · exact .inl h0
    · refine .inr ⟨g, cap, cur, rfl, hb, ?_, hr⟩
      rw [he.block ?_]
      · exact hh
      · rcases Nat.lt_or_ge g w.heap.size with h' | h'
        · exact h'
        · rw [Array.getElem?_eq_none h'] at hh; cases hh⟩
theorem OwnV.block {w : World} {B : Nat} {e : TypeId} {v : Value} {l : List Value} (h : OwnV w B e v l) {g : Nat} (hg : v.ownBlock = some g) : B ≤ g := by
  rcases h.2.2 with ⟨rfl, _⟩ | ⟨g', cap, cur, rfl, hb, _⟩
  · cases hg
  · simp only [Value.ownBlock, Option.some.injEq] at hg; omega
theorem OwnV.lt {w : World} {B : Nat} {e : TypeId} {v : Value} {l : List Value} (h : OwnV w B e v l) {g : Nat} (hg : v.ownBlock = some g) : g < w.heap.size := by
  rcases h.2.2 with ⟨rfl, _⟩ | ⟨g', cap, cur, rfl, hb, hh, _⟩
  · cases hg
  · simp only [Value.ownBlock, Option.some.injEq] at hg
    subst hg
    rcases Nat.lt_or_ge g' w.heap.size with h' | h'
    · exact h'
    · rw [Array.getElem?_eq_none h'] at hh; cases hh
/-- Such a slice reads as its values. -/
theorem OwnV.rd {w : World} {B : Nat} {e : TypeId} {v : Value} {l : List Value} (h : OwnV w B e v l) : ∃ A cap, v = .slice A l.length cap ∧ l.length ≤ cap ∧ RdV w A l.length (fun k => l.getD k undef) := by
  rcases h.2.2 with ⟨rfl, h0⟩ | ⟨g, cap, cur, rfl, _, hh, hn, _, _, ht⟩
  · obtain rfl := List.eq_nil_of_length_eq_zero h0
    exact ⟨none, 0, rfl, Nat.le_refl _, RdV.nil⟩
  · refine ⟨_, cap, rfl, hn, fun _ => ⟨g, 0, rfl, fun k hk => ?_⟩⟩
    have h1 : l[k]? = some (l.getD k undef) := by simp [hk]
    have h2 : (cur.toList.take (l.length * 1))[k]? = some (l.getD k undef) := by rw [ht]; exact h1
    rw [List.getElem?_take_of_lt (by omega)] at h2
    rw [Nat.zero_add]
    simpa [World.cell?, hh] using h2
/-- append of values of one cell to an own slice. -/
theorem wpList_append_val {P : Program} {w : World} {ops : Array Oper} {rest : List Oper} {o : Oper} {a : Act} {Q : Exit → Act → World → Prop} (hgd : o.guard = none) (s x : Operand) (T : TypeId)
    (ho : o.op = .call { callee := .builtin .append, args := #[s, x], argTypes := #[T, T] }) {e : TypeId} {bytes : Nat} (hE : ElemOk P T e 1 bytes)
    {B : Nat} {v : Value} {l : List Value} (hs : a.eval s = v) (hown : OwnV w B e v l) (g m cap : Nat) (r : List Value) (hx : a.eval x = .slice (some ⟨g, 0, none⟩) m cap)
    (hm : r.length = m) (hrc : ∀ u ∈ r, u.oneCell' = true) (hb : ∀ i, w.cell? ⟨g, i, none⟩ = r[i]?) (hlen : l.length + m ≤ 1000000) (hB : B ≤ w.heap.size)
    (h : ∀ v' w', OwnV w' B e v' (l ++ r) → w.grownBy w' v.ownBlock → wpList P ops Q rest (a.put o.dst v') w') :
    wpList P ops Q (o :: rest) a w := by
  obtain ⟨i, z, hi, hz, h1, h2, h3⟩ := hE.i
  have hb0 := hE.b
  refine wpList_append_own w hgd s x T ho B e i z 1 bytes hE.u hi hz h1 h2 h3 hE.c0 v l.length l hs hown.2 ⟨g, 0, none⟩ m cap r hx (by omega) ?_ hrc ?_ ?_ hB ?_
  · intro j u hu
    rw [show (⟨g, 0, none⟩ : Addr).add j = ⟨g, j, none⟩ from by unfold Addr.add; by_cases h0 : j = 0 <;> simp [h0], hb, hu]
  · unfold maxLen; omega
  · have := Nat.mul_le_mul hlen hb0; omega
  · intro v' w' hown' hg _
    exact h v' w' ⟨fun q hq => (List.mem_append.1 hq).elim (hown.1 q) (hrc q), by rw [List.length_append, hm]; exact hown'⟩ hg
theorem OwnV.grownBy_other {w w' : World} {B : Nat} {e : TypeId} {v : Value} {l : List Value} {row : Option Nat} (h : OwnV w B e v l) (hg : w.grownBy w' row) (hne : ∀ g, v.ownBlock = some g → some g ≠ row) : OwnV w' B e v l :=
  ⟨h.1, h.2.1, by
    rcases h.2.2 with h0 | ⟨g, cap, cur, rfl, hb, hh, hr⟩
    · exact .inl h0
    · refine .inr ⟨g, cap, cur, rfl, hb, ?_, hr⟩
      rw [hg.block g ?_ (hne g rfl)]
      · exact hh
      · rcases Nat.lt_or_ge g w.heap.size with h' | h'
        · exact h'
        · rw [Array.getElem?_eq_none h'] at hh; cases hh⟩
end Go
