/- Blocks that change, and blocks that do not; a world's first blocks. No condition. -/
import Derived.Test.YtbceepjjdfpfmaaGreatNest
namespace Go
open Go.RowKit
theorem OwnR.rd {w : World} {B : Nat} {e : TypeId} {c n cap : Nat} {A : Option Addr} {l : List (List Int)} (h : OwnR w B e c (.slice A n cap) l) : Rd w A n c (rowsAt l) := by
  obtain ⟨A', cap', hv, hr⟩ := h.slR
  obtain ⟨rfl, rfl, -⟩ : A = A' ∧ n = l.length ∧ cap = cap' := by simpa using hv
  exact hr
theorem OwnR.same {w w' : World} {B : Nat} {e : TypeId} {c : Nat} {v : Value} {l : List (List Int)} (h : OwnR w B e c v l) (hs : ∀ g, v.ownBlock = some g → w'.heap[g]? = w.heap[g]?) : OwnR w' B e c v l := by
  refine ⟨h.1, h.2.1, ?_⟩
  rcases h.2.2 with h0 | ⟨g, cap, cur, rfl, hb, hh, hr⟩
  · exact .inl h0
  · exact .inr ⟨g, cap, cur, rfl, hb, (hs g rfl).trans hh, hr⟩
theorem OwnR.far' {w : World} {B : Nat} {e : TypeId} {c : Nat} {v : Value} {l : List (List Int)} (h : OwnR w B e c v l) {p : Addr} (hp : p.block < B) (u : Value) : OwnR (w.setCell p u) B e c v l :=
  h.same fun g hg => Below.heap_setCell w p u g (by have := h.block hg; omega)
/-- An own row lies elsewhere than a box of another type. -/
theorem OwnR.ne_blk {w : World} {B g : Nat} {e t : TypeId} {c : Nat} {v : Value} {l : List (List Int)} {C : Array Value} (h : OwnR w B e c v l) (b : Blk w g t C) (ht : e ≠ t) : v.ownBlock ≠ some g := fun hg => by
  rcases h.2.2 with ⟨rfl, _⟩ | ⟨a, cap, cur, rfl, _, hh, _⟩
  · cases hg
  · simp only [Value.ownBlock, Option.some.injEq] at hg
    subst hg
    unfold Blk at b
    rw [b] at hh
    simp at hh
    exact ht hh.2.symm
theorem OwnR.apart' {w : World} {B B' : Nat} {e e' : TypeId} {c c' : Nat} {v v' : Value} {l l' : List (List Int)} (h : OwnR w B e c v l) (h' : OwnR w B' e' c' v' l') (hne : e ≠ e') (g : Nat) (hg : v.ownBlock = some g) : some g ≠ v'.ownBlock := fun hg' => by
  rcases h.2.2 with ⟨rfl, _⟩ | ⟨a, cap, cur, rfl, _, hh, _⟩
  · cases hg
  · rcases h'.2.2 with ⟨rfl, _⟩ | ⟨b, cap', cur', rfl, _, hh', _⟩
    · cases hg'
    · simp only [Value.ownBlock, Option.some.injEq] at hg hg'
      subst hg
      rw [hg', hh'] at hh
      simp at hh
      exact hne hh.2.symm
/-- Blocks that are not named are as they were. -/
structure Ch (S : Nat → Prop) (w w' : World) : Prop where
  size : w.heap.size ≤ w'.heap.size
  block : ∀ b, b < w.heap.size → ¬ S b → w'.heap[b]? = w.heap[b]?
namespace Ch
variable {S T : Nat → Prop} {w w' w'' : World}
theorem refl (S : Nat → Prop) (w : World) : Ch S w w := ⟨Nat.le_refl _, fun _ _ _ => rfl⟩
theorem trans (h : Ch S w w') (k : Ch T w' w'') (hT : ∀ b, b < w.heap.size → T b → S b) : Ch S w w'' :=
  ⟨Nat.le_trans h.size k.size, fun b hb hs => (k.block b (Nat.lt_of_lt_of_le hb h.size) fun ht => hs (hT b hb ht)).trans (h.block b hb hs)⟩
theorem step (h : Ch S w w') {U : Nat → Prop} (k : Ch U w' w'') (hT : ∀ b, b < w.heap.size → U b → T b) (hS : ∀ b, S b → T b := by intro b h; first | exact h | exact h.elim) : Ch T w w'' :=
  ⟨Nat.le_trans h.size k.size, fun b hb ht => (k.block b (Nat.lt_of_lt_of_le hb h.size) fun q => ht (hT b hb q)).trans (h.block b hb fun q => ht (hS b q))⟩
theorem mono (h : Ch S w w') (hS : ∀ b, S b → T b) : Ch T w w' := ⟨h.size, fun b hb hn => h.block b hb fun q => hn (hS b q)⟩
theorem ofExt (e : Ext w w') : Ch (fun _ => False) w w' := ⟨e.size, fun _ hb _ => e.block hb⟩
theorem ofGrown {row : Option Nat} (g : w.grownBy w' row) : Ch (fun b => some b = row) w w' := ⟨g.size, fun b hb h => g.block b hb h⟩
theorem ofSet (w : World) (g i : Nat) (u : Value) : Ch (· = g) w (w.setCell ⟨g, i, none⟩ u) := ⟨by simp, fun b _ h => Below.heap_setCell w ⟨g, i, none⟩ u b h⟩
theorem blk {g : Nat} {t : TypeId} {C : Array Value} (h : Ch S w w') (b : Blk w g t C) (hg : ¬ S g) : Blk w' g t C := (h.block g b.lt hg).trans b
theorem own {B : Nat} {e : TypeId} {c : Nat} {v : Value} {l : List (List Int)} (h : Ch S w w') (o : OwnR w B e c v l) (hg : ∀ g, v.ownBlock = some g → ¬ S g) : OwnR w' B e c v l := o.same fun g hv => h.block g (o.lt hv) (hg g hv)
end Ch
/-- A world's first blocks. -/
def cutW (w : World) (B : Nat) : World := { w with heap := w.heap.extract 0 B }
theorem cutW_size {w : World} {B : Nat} (hB : B ≤ w.heap.size) : (cutW w B).heap.size = B := by
  show (w.heap.extract 0 B).size = B
  rw [Array.size_extract]; omega
theorem cutW_block {w : World} {B b : Nat} (hb : b < B) : (cutW w B).heap[b]? = w.heap[b]? := by
  show (w.heap.extract 0 B)[b]? = _
  rw [Array.getElem?_extract]
  split
  · rw [Nat.zero_add]
  · rw [Array.getElem?_eq_none]; omega
theorem cutW_ext {w : World} {B : Nat} (hB : B ≤ w.heap.size) : Ext (cutW w B) w :=
  ⟨rfl, rfl, rfl, by rw [cutW_size hB]; exact hB, fun b hb => by rw [cutW_size hB] at hb; exact (cutW_block hb).symm⟩
theorem cut_block {w w' : World} {B b : Nat} (e : Ext (cutW w B) w') (hB : B ≤ w.heap.size) (hb : b < B) : w'.heap[b]? = w.heap[b]? :=
  (e.block (by rw [cutW_size hB]; exact hb)).trans (cutW_block hb)
theorem arr_same {w w' : World} {g N : Nat} {h : Nat → Int} (a : Go.Proofs.YtbceepjjdfpfmaaGreat.Arr w g N h) (e : w'.heap[g]? = w.heap[g]?) : Go.Proofs.YtbceepjjdfpfmaaGreat.Arr w' g N h := by
  refine ⟨?_, fun i hi => ?_⟩
  · rcases Nat.lt_or_ge g w'.heap.size with q | q
    · exact q
    · have := a.1
      rw [Array.getElem?_eq_none q, Array.getElem?_eq_getElem this] at e
      cases e
  · have := a.2 i hi
    simp only [World.cell?, World.frozen?, e] at this ⊢
    exact this
theorem Ext.cut_ {w W : World} {B : Nat} (e : Ext w W) (h1 : w.heap.size ≤ B) (h2 : B ≤ W.heap.size) : Ext w (cutW W B) :=
  ⟨show W.os = w.os from Below.os e, show W.tape = w.tape from Below.tape e, show W.output = w.output from Below.output e, by rw [cutW_size h2]; exact h1, fun b hb => (cutW_block (by omega)).trans (e.block hb)⟩
theorem cut_cell {w w' : World} {B b o : Nat} (e : Ext (cutW w B) w') (hB : B ≤ w.heap.size) (hb : b < B) : w'.cell? ⟨b, o, none⟩ = w.cell? ⟨b, o, none⟩ := World.cell?_of_block (a := ⟨b, o, none⟩) (cut_block e hB hb)
theorem Ext.cutExt {w w' : World} {B : Nat} (e : Ext w w') (hB : B ≤ w.heap.size) : Ext (cutW w B) w' := (cutW_ext hB).trans e
end Go
