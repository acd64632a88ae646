/- Words for a range over a function; a drawn region one of whose operations moves the world within a class. No condition. -/
import Derived.Test.YtbceepjjdfpfmaaGreatCore
import Derived.RangeFuncNested
import Derived.RangeFuncBound
import Derived.RangeFuncCalls
import Derived.RangeFuncLeaves
import Derived.OwnWalkIn
import Derived.TacticsInMore
import Derived.LoopNIn
import Derived.LoopIn
namespace Go
open Go.RowKit
section
variable {P : Program} {l n : Nat} {ops : Array Oper} {a : Act} {w : World} {Q : Exit → Act → World → Prop}

theorem Oper.wpIn_of_wp {o : Oper} {K : Act → World → Prop} (hd : ∀ c, o.op ≠ .defer c) (h : o.wp P a w K Q) : o.wpIn (Fence.wide.inRound l) n P a w K Q := by
 refine ⟨fun _ _ => trivial, ?_⟩
 have e : Oper.semAt (Fence.wide.inRound l).round a.eval o = execOp a.eval o := Oper.semAt_some l _ _ hd
 rw [e]
 unfold Oper.wp at h
 generalize (execOp a.eval o).run P w = r at *
 cases r with
 | halt x w' => cases x <;> exact h
 | ok x w' =>
  cases x with
  | enter f args => exact ⟨(fun h => by cases h), CallsIn.inRound l (callsIn_wide.2 h)⟩
  | row row args => exact ⟨(fun h => by cases h), fun c cs _ => let ⟨v, w'', r, s⟩ := h c cs; ⟨v, w'', r, stepsIn_wide.2 s⟩⟩
  | round _ _ _ _ _ => exact h.elim
  | _ => exact h

def noDefer (ops : Array Oper) : Bool := ops.all fun o => match o.op with | .defer _ => false | _ => true
theorem noDefer_spec (h : noDefer ops = true) {i : Nat} {o : Oper} (ho : ops[i]? = some o) (c : Call) : o.op ≠ .defer c := by
 intro e
 obtain ⟨hi, he⟩ := Array.getElem?_eq_some_iff.1 ho
 have := Array.all_eq_true.1 h i hi
 rw [he, e] at this
 cases this

theorem wpOpIn_of_wpOp (hd : noDefer ops = true) (hq : ¬ LetsOut Q) {i : Nat} {K K' : Act → World → Prop} {a : Act} {w : World} (hK : ∀ a w, K a w → K' a w) (h : wpOp P ops Q i K a w) : wpOpIn (Fence.wide.inRound l) n P ops Q i K' a w := by
 unfold wpOp at h
 unfold wpOpIn
 cases ho : ops[i]? with
 | none => simp only [ho] at h; exact hK _ _ h
 | some o =>
  simp only [ho] at h ⊢
  split
  ·rename_i hw
   simp only [hw, if_true] at h
   exact Oper.wpIn_of_wp (noDefer_spec hd ho) (Oper.wp_mono hK (h.resolve_right fun h => hq h.2))
  ·rename_i hw
   simp only [hw] at h
   exact ⟨fun _ _ => trivial, hK _ _ h⟩
theorem wpAnyIn_of_wpAny {md : Region.Mode} (hd : noDefer ops = true) (hq : ¬ LetsOut Q) (f : Nat) : ∀ (listed : Array Bool) (a : Act) (w : World), wpAny P md ops Q f listed a w → wpAnyIn (Fence.wide.inRound l) n P md ops Q f listed a w := by
 induction f with
 | zero => exact fun _ _ _ h => h
 | succ f ih => exact fun listed a w h => ⟨h.1, fun i hi => wpOpIn_of_wpOp hd hq (fun a w => ih _ a w) (h.2 i hi)⟩

theorem wpListIn_of_wpList (hd : noDefer ops = true) (hq : ¬ LetsOut Q) (os : List Oper) : (∀ o, o ∈ os → ∃ i : Nat, ops[i]? = some o) → ∀ (a : Act) (w : World), wpList P ops Q os a w → wpListIn (Fence.wide.inRound l) n P ops Q os a w := by
 induction os with
 | nil => exact fun _ _ _ h => h
 | cons o os ih =>
  intro hm a w h
  obtain ⟨i, ho⟩ := hm o (by simp)
  unfold wpList at h
  unfold wpListIn
  have ih' := ih fun o' ho' => hm o' (List.mem_cons_of_mem _ ho')
  split
  ·rename_i hw
   simp only [hw, if_true] at h
   exact Oper.wpIn_of_wp (noDefer_spec hd ho) (Oper.wp_mono (fun a w => ih' a w) (h.resolve_right fun h => hq h.2))
  ·rename_i hw
   simp only [hw] at h
   exact ⟨fun _ _ => trivial, ih' _ _ h⟩
/-- A round's plain region, by the plain rules. -/
theorem wpIn_round_list {id : Nat} {os : List Oper} (hd : noDefer os.toArray = true) (hq : ¬ LetsOut Q) (h : wpList P os.toArray Q os a w) : (Code.region id os.toArray false).wpIn (Fence.wide.inRound l) n P Q a w :=
 wpIn_region_lit (wpListIn_of_wpList hd hq os (fun o ho => by
  obtain ⟨i, hi, rfl⟩ := List.getElem_of_mem ho
  exact ⟨i, by simp [hi]⟩) a w h)
/-- A round's drawn region, once, in every later world. -/
theorem wpIn_round_later {id : Nat} {os : List Oper} (hm : P.follows .mixedOrders = true) (hB : Region.lexB .any os.toArray = true) (hd : noDefer os.toArray = true) (hq : ¬ LetsOut Q)
  (h : wpQuiet P os.toArray (fun w' => ∃ n : Later w, w' = n.at_) (fun a' => ∀ w', (∃ n : Later w, w' = n.at_) → Q .normal a' w') os a) : (Code.region id os.toArray true).wpIn (Fence.wide.inRound l) n P Q a w := by
 simp only [Region.lexB, Bool.and_eq_true] at hB
 refine wpIn_region_any hm (wpAnyIn_of_wpAny hd hq _ _ _ _ (wpAny_of_quiet (C := fun w' => ∃ n : Later w, w' = n.at_) (Q := fun a' => ∀ w', (∃ n : Later w, w' = n.at_) → Q .normal a' w') (fun _ w' hw' h => h w' hw') _ _ _ _ ⟨⟨_, (Ext.refl w).drew⟩, rfl⟩ ?_))
 have := wpAnyQ_lex (C := fun w' => ∃ n : Later w, w' = n.at_) (md := .any) hB.1 os 0 (Array.replicate os.toArray.size false) a (by simp) (by simpa using hB.2) h
 simpa using this
/-- A round's drawn region, the head once in every later world, the tail behind it. -/
theorem wpIn_round_tail {id : Nat} {os : List Oper} (k : Nat) (hm : P.follows .mixedOrders = true) (hB : Region.lexTailB .any os.toArray k = true) (hd : noDefer os.toArray = true) (hq : ¬ LetsOut Q)
  (h : wpQuiet P os.toArray (fun w' => ∃ n : Later w, w' = n.at_) (fun a' => ∀ w', (∃ n : Later w, w' = n.at_) → wpList P os.toArray Q (os.drop k) a' w') (os.take k) a) : (Code.region id os.toArray true).wpIn (Fence.wide.inRound l) n P Q a w :=
 wpIn_region_any hm (wpAnyIn_of_wpAny hd hq _ _ _ _ (wpAny_tail k hB h))
end

/-! What a loop's rounds keep: the blocks that were there, but for those in M. -/
def KpM (n : Nat) (M : Nat → Prop) (W W' : World) : Prop := W.heap.size ≤ W'.heap.size ∧ ∀ k, k < n → ¬ M k → W'.heap[k]? = W.heap[k]?
namespace KpM
variable {n : Nat} {M : Nat → Prop} {A B C : World}
theorem refl (W : World) : KpM n M W W := ⟨Nat.le_refl _, fun _ _ _ => rfl⟩
theorem trans (h : KpM n M A B) (k : KpM n M B C) : KpM n M A C := ⟨Nat.le_trans h.1 k.1, fun i hi hm => (k.2 i hi hm).trans (h.2 i hi hm)⟩
theorem put {w : World} (W : World) (l : Nat) (o o' : Obj) (hl : w.heap.size ≤ l) (_ : W.heap[l]? = some o) (_ : o.isCells = false) (_ : o.isWalk = false) : KpM w.heap.size M W (W.putObj l o') :=
 ⟨by simp, fun k hk _ => World.putObj_heap_other (by omega)⟩
theorem ext (h : Ext A B) (hn : n ≤ A.heap.size) : KpM n M A B := ⟨h.size, fun k hk _ => h.block (by omega)⟩
theorem setCell (W : World) {p : Addr} (u : Value) (hp : n ≤ p.block ∨ M p.block) : KpM n M W (W.setCell p u) := by
 refine ⟨by simp, fun k hk hm => Below.heap_setCell _ _ _ _ fun e => ?_⟩
 subst e
 rcases hp with h | h
 ·omega
 ·exact hm h
theorem grown {row : Option Nat} (hg : A.grownBy B row) (hn : n ≤ A.heap.size) (hr : ∀ k, row = some k → n ≤ k ∨ M k) : KpM n M A B := by
 refine ⟨hg.size, fun k hk hm => hg.block k (by omega) fun e => ?_⟩
 rcases hr k e.symm with h | h
 ·omega
 ·exact hm h
end KpM
theorem Fence.wide_fn (f : FuncId) : Fence.wide.fn f = True := rfl
theorem Fence.wide_depth : Fence.wide.depth = none := rfl
attribute [go_sem] Fence.wide_fn Fence.wide_depth
/-- append of rows to an own slice, in a fence. -/
theorem wpListIn_append_rows {F : Fence} {m0 : Nat} {P : Program} {w : World} {ops : Array Oper} {rest : List Oper} {o : Oper} {a : Act} {Q : Exit → Act → World → Prop} (hgd : o.guard = none) (s x : Operand) (T : TypeId)
  (ho : o.op = .call { callee := .builtin .append, args := #[s, x], argTypes := #[T, T] }) {e : TypeId} {c bytes : Nat} (hE : ElemOk P T e c bytes)
  {B : Nat} {v : Value} {l : List (List Int)} (hs : a.eval s = v) (hown : OwnR w B e c v l) (g m cap : Nat) (r : List (List Int)) (hx : a.eval x = .slice (some ⟨g, 0, none⟩) m cap)
  (hm : r.length = m) (hrc : ∀ q ∈ r, q.length = c) (hb : ∀ i, w.cell? ⟨g, i, none⟩ = (cellsOf r)[i]?) (hlen : l.length + m ≤ 1000000) (hB : B ≤ w.heap.size)
  (h : ∀ v' w', OwnR w' B e c v' (l ++ r) → w.grownBy w' v.ownBlock → wpListIn F m0 P ops Q rest (a.put o.dst v') w') :
  wpListIn F m0 P ops Q (o :: rest) a w := by
 obtain ⟨i, z, hi, hz, h1, h2, h3⟩ := hE.i
 have hb0 := hE.b
 refine wpListIn_append_own w hgd s x T ho B e i z c bytes hE.u hi hz h1 h2 h3 hE.c0 v l.length (cellsOf l) hs hown.2 ⟨g, 0, none⟩ m cap (cellsOf r) hx (by rw [cellsOf_length hrc, hm]) ?_ cellsOf_one ?_ ?_ hB ?_
 ·intro j u hu
  rw [show (⟨g, 0, none⟩ : Addr).add j = ⟨g, j, none⟩ from by unfold Addr.add; by_cases h0 : j = 0 <;> simp [h0], hb, hu]
 ·unfold maxLen; omega
 ·have := Nat.mul_le_mul hlen hb0; omega
 ·intro v' w' hown' hg _
  exact h v' w' ⟨fun q hq => (List.mem_append.1 hq).elim (hown.1 q) (hrc q), by rw [List.length_append, hm, cellsOf_append]; exact hown'⟩ hg
/-- Cells, and what lies below B, are kept. -/
def Kc (B : Nat) (W W' : World) : Prop := W.heap.size ≤ W'.heap.size ∧ W'.os = W.os ∧ W'.tape = W.tape ∧ W'.output = W.output ∧ ∀ (k : Nat) (o : Obj), W.heap[k]? = some o → (o.isCells = true ∨ k < B) → W'.heap[k]? = some o
theorem Blk.kc {B : Nat} {W W' : World} {g : Nat} {t : TypeId} {C : Array Value} (h : Blk W g t C) (k : Kc B W W') : Blk W' g t C := k.2.2.2.2 g _ h (.inl rfl)
theorem OwnR.kc {B : Nat} {W W' : World} {b : Nat} {e : TypeId} {c : Nat} {v : Value} {l : List (List Int)} (h : OwnR W b e c v l) (k : Kc B W W') : OwnR W' b e c v l :=
 ⟨h.1, h.2.1, by
  rcases h.2.2 with h0 | ⟨g, cap, cur, rfl, hb, hh, hr⟩
  ·exact .inl h0
  ·exact .inr ⟨g, cap, cur, rfl, hb, k.2.2.2.2 g _ hh (.inl rfl), hr⟩⟩
theorem Ext.kc {B : Nat} {w W W' : World} (h : Ext w W) (k : Kc B W W') (hB : w.heap.size ≤ B) : Ext w W' := by
 refine ⟨k.2.1.trans (Below.os h), k.2.2.1.trans (Below.tape h), k.2.2.2.1.trans (Below.output h), Nat.le_trans h.size k.1, fun i hi => ?_⟩
 have h1 := h.block hi
 rw [← h1]
 have h2 : W.heap[i]? = some (w.heap[i]'hi) := by rw [h1]; exact Array.getElem?_eq_getElem hi
 rw [h2]
 exact k.2.2.2.2 i _ h2 (.inr (Nat.lt_of_lt_of_le hi hB))
/-- What a loop's invariant may speak of: cells, and what lay there before the loop. -/
theorem ownFrom_of {β : Type} {B : Nat} {I : β → World → Prop} (h : ∀ s W W', Kc B W W' → I s W → I s W') : OwnFrom B I := by
 intro s W W' row hs hg hr
 refine h s W W' ⟨hg.size, hg.os, hg.tape, hg.output, fun k o hk ho => ?_⟩ hs
 have hlt : k < W.heap.size := by
  rcases Nat.lt_or_ge k W.heap.size with h | h
  ·exact h
  ·rw [Array.getElem?_eq_none h] at hk; cases hk
 rw [hg.block k hlt ?_]
 ·exact hk
 ·intro e
  obtain ⟨hB, o', ho', hc⟩ := hr k e.symm
  rw [hk] at ho'
  cases ho'
  rcases ho with h | h
  ·rw [hc] at h; cases h
  ·omega
theorem KeepsFrom.ext {B : Nat} {W W' : World} (e : Ext W W') : KeepsFrom B W W' := ⟨e.size, fun k o _ hk _ => (e.block (by
  rcases Nat.lt_or_ge k W.heap.size with h | h
  ·exact h
  ·rw [Array.getElem?_eq_none h] at hk; cases hk)).trans hk⟩
/-- A range over a function whose rounds all go on; the loop's variable lies in a box of its own (slot q), yield's argument in slot p. -/
theorem wp_range {α : Type} {P : Program} {g : Operand} {p : Tmp} {assign body : Code} {Q : Exit → Act → World → Prop} {a : Act} {w : World}
  {gf : Nat} {lb : Array Value} (hg : a.eval g = .func (.func gf) #[] lb) (eg : ∀ args w, (callFunc gf args).run P w = .ok (.enter gf args) w)
  (enc : α → Value) (M : Nat → Prop) {S Sp : List α → Prop} {N : Nat} {w0 : World} (hseq : SeqStopsK Fence.wide 2 P gf lb (fun x => #[enc x]) (KpM w.heap.size M) S Sp N w0)
  (hb0 : Ext w0 w) (I : List α → World → Prop) (hI : OwnFrom w.heap.size I) (h0 : I [] w) (Ax : α → Array Value → Act → World → Prop) (hAx : ∀ x a', OwnFrom w.heap.size (fun (_ : Unit) W => Ax x a.tmps a' W))
  (hassign : ∀ (l : Nat) (pre : List α) (x : α) (W : World) (K : Act → World → Prop), I pre W → (∀ a' W', KeepsFrom w.heap.size W W' → KpM w.heap.size M W W' → I pre W' → Ax x a.tmps a' W' → K a' W') →
   assign.wpIn (Fence.wide.inRound l) 1 P (Exit.then K (fun _ _ _ => False)) { tmps := a.tmps.setIfInBounds p (enc x), defers := [] } W)
  (hbody : ∀ (l : Nat) (pre : List α) (x : α) (a' : Act) (W : World), w.heap.size ≤ l → (∃ r, W.heap[l]? = some (.loop r)) → I pre W → Ax x a.tmps a' W → pre.length < N →
   body.wpIn (Fence.wide.inRound l) 1 P (ownPostG w.heap.size (KpM w.heap.size M) I (fun _ _ _ => False) (pre ++ [x]) W) a' W)
  (hdone : ∀ (D : Nat) (xs : List α) (W : World), w.heap.size ≤ D → S xs → I xs W → W.heap[D]? = some (.deferred (some [])) → Q .normal { a with defers := { target := .collected D, args := #[] } :: a.defers } W) :
  (Code.rangeFunc g #[p] assign body).wp P Q a w :=
 wpIn_wide.1 (wpIn_rangeFunc_ownH (F := Fence.wide) (n := 3) rfl (by omega) hg trivial eg hseq KpM.trans KpM.put hb0 (fun _ => rfl) I (fun _ _ _ => False) hI (fun _ _ _ _ _ h _ _ => h) h0 (fun x a' W => Ax x a.tmps a' W) hAx
  (fun l pre x W K hi hk => by simpa using hassign l pre x W K hi hk) hbody hdone (fun _ _ _ _ _ _ h _ => h.elim))
theorem OwnR.cells {w : World} {B : Nat} {e : TypeId} {c : Nat} {v : Value} {l : List (List Int)} (h : OwnR w B e c v l) (j : Nat) (o : Obj) (hj : v.ownBlock = some j) (ho : w.heap[j]? = some o) : o.isCells = true := by
 rcases h.2.2 with ⟨rfl, _⟩ | ⟨g', cap, cur, rfl, hb, hh, _⟩
 ·cases hj
 ·simp only [Value.ownBlock, Option.some.injEq] at hj
  subst hj
  rw [hh] at ho; cases ho; rfl
theorem KeepsFrom.grown {B : Nat} {W W' : World} {row : Option Nat} (hg : W.grownBy W' row) (h : ∀ j o, row = some j → W.heap[j]? = some o → o.isCells = true) : KeepsFrom B W W' := (KeepsOthers.of_grownBy hg h).from B
theorem KeepsFrom.set {B : Nat} (W : World) (a : Addr) (v : Value) : KeepsFrom B W (W.setCell a v) := (KeepsOthers.setCell W a v).from B
theorem OwnR.set_far {w : World} {B : Nat} {e : TypeId} {c : Nat} {v : Value} {l : List (List Int)} (h : OwnR w B e c v l) {b : Nat} (hb : b < B) (u : Value) : OwnR (w.setCell ⟨b, 0, none⟩ u) B e c v l :=
 h.grownBy_other (grownBy_setCell' w b u) fun g hg e => by have := h.block hg; cases e; omega
theorem Kc.put {B D : Nat} {W : World} {o : Obj} (o' : Obj) (hD : B ≤ D) (h : W.heap[D]? = some o) (ho : o.isCells = false) : Kc B W (W.putObj D o') := by
 refine ⟨by simp, rfl, rfl, rfl, fun k x hk hx => ?_⟩
 rw [World.putObj_heap_other]
 ·exact hk
 ·rintro rfl
  rw [h] at hk
  cases hk
  rcases hx with hx | hx
  ·rw [ho] at hx; cases hx
  ·omega
end Go
namespace Go
section
variable {P : Program} {ops : Array Oper} {md : Region.Mode} {C : World → Prop} {T : World → World → Prop}

/-- What an operation leaves: the value v, a world of the class, in which E holds. -/
def movesUpon (P : Program) (C : World → Prop) (T : World → World → Prop) (w : World) (v : Value) (E : World → Prop) : Result Next → Prop
 | .ok (.value u) w' => u = v ∧ C w' ∧ T w w' ∧ E w'
 | .ok .skip w' => v = undef ∧ C w' ∧ T w w' ∧ E w'
 | .ok (.enter f args) w' => Calls P f args w' (fun e w'' => e = .returned v ∧ C w'' ∧ T w w'' ∧ E w'')
 | _ => False
def Oper.moves (P : Program) (C : World → Prop) (T : World → World → Prop) (o : Oper) (a : Act) (v : Value) (E : World → Prop) : Prop :=
 (∀ w w', T w w' → E w → E w') ∧ ∀ w, C w → movesUpon P C T w v E ((execOp a.eval o).run P w)
def YieldsE (P : Program) (ops : Array Oper) (C : World → Prop) (T : World → World → Prop) (o : Oper) (v : Value) (E : World → Prop) (a : Act) : Prop :=
 (Region.wanted o (yielded ops a.tmps) = true ∧ o.moves P C T a v E) ∨ (Region.wanted o (yielded ops a.tmps) = false ∧ v = undef ∧ ∀ w, E w)
def qE (P : Program) (ops : Array Oper) (C : World → Prop) (T : World → World → Prop) (i : Nat) (K : Act → (World → Prop) → Prop) (a : Act) (E : World → Prop) : Prop :=
 ∃ o v E', ops[i]? = some o ∧ YieldsE P ops C T o v E' a ∧ K (a.put o.dst v) (fun w => E w ∧ E' w)

theorem YieldsE.same {o : Oper} {v : Value} {E : World → Prop} {a a' : Act} (hy : YieldsE P ops C T o v E a) (he : execOp a'.eval o = execOp a.eval o)
  (hw : Region.wanted o (yielded ops a'.tmps) = Region.wanted o (yielded ops a.tmps)) : YieldsE P ops C T o v E a' := by
 unfold YieldsE Oper.moves at *
 rw [he, hw]; exact hy

theorem YieldsE.wpOp {i : Nat} {o : Oper} {v : Value} {E E0 : World → Prop} {a : Act} {K : Act → World → Prop} {Q : Exit → Act → World → Prop} {w : World} (ho : ops[i]? = some o) (hy : YieldsE P ops C T o v E a) (hw : C w) (h0 : E0 w)
  (hs : ∀ w w', T w w' → E0 w → E0 w') (hT : T w w) (h : ∀ w', C w' → E0 w' ∧ E w' → K (a.put o.dst v) w') : Go.wpOp P ops Q i K a w := by
 unfold Go.wpOp
 simp only [ho]
 rcases hy with ⟨hwt, _, hm⟩ | ⟨hwt, rfl, hE⟩
 ·simp only [hwt, if_true]
  refine .inl ?_
  have h1 := hm w hw
  unfold Oper.wp
  generalize (execOp a.eval o).run P w = r at *
  cases r with
  | halt x w' => exact h1.elim
  | ok x w' =>
   cases x with
   | value u => obtain ⟨rfl, hc, ht, hE⟩ := h1; exact h _ hc ⟨hs _ _ ht h0, hE⟩
   | skip => obtain ⟨rfl, hc, ht, hE⟩ := h1; exact h _ hc ⟨hs _ _ ht h0, hE⟩
   | enter f args => exact Calls.mono h1 fun e w'' ⟨he, hc, ht, hE⟩ => by subst he; exact h _ hc ⟨hs _ _ ht h0, hE⟩
   | _ => exact h1.elim
 ·simp only [hwt, Bool.false_eq_true, if_false]
  exact h _ hw ⟨hs _ _ hT h0, hE w⟩

/-- f operations of the head are still to come; what has been established is E. -/
def HeadE (P : Program) (md : Region.Mode) (ops : Array Oper) (C : World → Prop) (T : World → World → Prop) (n : Nat) (L : Array Bool → Act → (World → Prop) → Prop) : Nat → Array Bool → Act → (World → Prop) → Prop
 | 0, listed, a, E => L listed a E
 | f + 1, listed, a, E => Region.ready md ops listed ≠ [] ∧ ∀ i, i ∈ Region.ready md ops listed → i < n ∧ qE P ops C T i (fun a' E' => HeadE P md ops C T n L f (listed.setIfInBounds i true) a' E') a E

theorem HeadE.toAny {n g : Nat} {L : Array Bool → Act → (World → Prop) → Prop} {Q : Exit → Act → World → Prop} (hT : ∀ w, T w w) (hL : ∀ listed a E w, C w → E w → L listed a E → wpAny P md ops Q g listed a w) (f : Nat) :
  ∀ (listed : Array Bool) (a : Act) (E : World → Prop) (w : World), (∀ w w', T w w' → E w → E w') → C w → E w → HeadE P md ops C T n L f listed a E → wpAny P md ops Q (f + g) listed a w := by
 induction f with
 | zero => intro listed a E w _ hw hE h; rw [Nat.zero_add]; exact hL _ _ _ _ hw hE h
 | succ f ih =>
  intro listed a E w hs hw hE h
  rw [Nat.succ_add]
  refine ⟨fun h0 => (h.1 h0).elim, fun i hi => ?_⟩
  obtain ⟨_, o, v, E', ho, hy, hK⟩ := h.2 i hi
  refine hy.wpOp ho hw hE hs (hT w) fun w' hw' hE' => ih _ _ _ w' ?_ hw' hE' hK
  intro w1 w2 ht h12
  refine ⟨hs _ _ ht h12.1, ?_⟩
  rcases hy with ⟨_, hst, _⟩ | ⟨_, _, hE⟩
  ·exact hst _ _ ht h12.2
  ·exact hE w2

theorem HeadE.first {n i : Nat} {oi : Oper} {v : Value} {Ei : World → Prop} {L : Array Bool → Act → (World → Prop) → Prop} (hi : ops[i]? = some oi) (hns : Region.noSelect ops = true)
  (hs : Region.sinkB md ops n = true) (hc : Region.chainB md ops n = true) (hn : n < ops.size) (hin : i < n)
  (hL : ∀ listed a E, L listed a E → ∀ j, j ∈ Region.ready md ops listed → n ≤ j) (f : Nat) :
  ∀ (listed : Array Bool) (a : Act) (E : World → Prop), HeadInv md ops n listed →
   (∀ j oj, ops[j]? = some oj → j ≠ i → listed.getD j true = false → (∀ e ∈ oj.after, Region.binds md e = true → e.on ≠ i) → oi.apart ops oj = true) →
   i ∈ Region.ready md ops listed → YieldsE P ops C T oi v Ei a →
   HeadE P md ops C T n L f (listed.setIfInBounds i true) (a.put oi.dst v) (fun w => E w ∧ Ei w) → HeadE P md ops C T n L (f + 1) listed a E := by
 have sel := Region.noSelect_spec hns
 induction f with
 | zero =>
  intro listed a E inv _ hr hy H
  refine ⟨fun h0 => by rw [h0] at hr; exact absurd hr (by simp), fun j hj => ?_⟩
  by_cases hji : j = i
  ·subst hji
   exact ⟨hin, oi, v, Ei, hi, hy, H⟩
  ·have hjn := hL _ _ _ H j (ready_mono hj hji)
   exact absurd hj (tail_waits hs hc hn inv _ i rfl hin (mem_ready.1 hr).1 j hjn)
 | succ f ih =>
  intro listed a E inv hfree hr hy H
  have hun := (mem_ready.1 hr).1
  refine ⟨fun h0 => by rw [h0] at hr; exact absurd hr (by simp), fun j hj => ?_⟩
  by_cases hji : j = i
  ·subst hji
   exact ⟨hin, oi, v, Ei, hi, hy, H⟩
  ·have hjn : j < n := by
    rcases Nat.lt_or_ge j n with h | h
    ·exact h
    ·exact absurd hj (tail_waits hs hc hn inv _ i rfl hin hun j h)
   refine ⟨hjn, ?_⟩
   obtain ⟨hjun, oj, hoj, hall⟩ := mem_ready.1 hj
   have hnot : ∀ e ∈ oj.after, Region.binds md e = true → e.on ≠ i := by
    intro e he hb heq
    have h1 := hall e he hb
    rw [heq, getD_both hun] at h1
    cases h1
   obtain ⟨_, oj', vj, Ej, hoj', hyj, hK⟩ := H.2 j (ready_mono hj hji)
   obtain rfl : oj' = oj := Option.some.inj (hoj'.symm.trans hoj)
   obtain ⟨h1, h2, h3⟩ := Oper.apart_spec (hfree j oj' hoj hji hjun hnot)
   have hyj' : YieldsE P ops C T oj' vj Ej a := by
    refine hyj.same ?_ ?_
    ·exact (execOp_put oj' (fun cs b => sel j oj' cs b hoj) a oi.dst v h1).symm
    ·exact (wanted_put oj' a oi.dst v h1).symm
   have hyi' : YieldsE P ops C T oi v Ei (a.put oj'.dst vj) := hy.same (execOp_put oi (fun cs b => sel i oi cs b hi) a oj'.dst vj h3) (wanted_put oi a oj'.dst vj h3)
   refine ⟨oj', vj, Ej, hoj, hyj', ih _ _ _ (inv.set hj hjn) ?_ (ready_mono hr (Ne.symm hji)) hyi' ?_⟩
   ·intro k ok hk hki hunk hno
    refine hfree k ok hk hki ?_ hno
    by_cases hjk : j = k
    ·exact hjk ▸ hjun
    ·rwa [getD_set_ne true hjk] at hunk
   ·rw [Array.setIfInBounds_comm _ _ hji]
    have e1 : (fun w => (E w ∧ Ej w) ∧ Ei w) = fun w => (E w ∧ Ei w) ∧ Ej w := by
     funext w; exact propext ⟨fun ⟨⟨a, b⟩, c⟩ => ⟨⟨a, c⟩, b⟩, fun ⟨⟨a, c⟩, b⟩ => ⟨⟨a, b⟩, c⟩⟩
    rw [e1, ← Act.put_comm a v vj h2]
    exact hK

/-- The lexical walk. -/
def wpE (P : Program) (ops : Array Oper) (C : World → Prop) (T : World → World → Prop) (R : Act → (World → Prop) → Prop) : List Oper → Act → (World → Prop) → Prop
 | [], a, E => R a E
 | o :: rest, a, E => ∃ v E', YieldsE P ops C T o v E' a ∧ wpE P ops C T R rest (a.put o.dst v) (fun w => E w ∧ E' w)

theorem HeadE.lex {n g : Nat} {R : Act → (World → Prop) → Prop} (hns : Region.noSelect ops = true) (hs : Region.sinkB md ops n = true) (hc : Region.chainB md ops n = true) (hn : n < ops.size) (l : List Oper) :
  ∀ (k : Nat) (listed : Array Bool) (a : Act) (E : World → Prop), (∀ j, j < l.length → l[j]? = ops[k + j]?) → k + l.length = n → HeadInv md ops n listed → Region.lexHead md ops g l.length k listed = true →
  wpE P ops C T R l a E → HeadE P md ops C T n (fun listed' a' E' => Region.seqB md ops g n listed' = true ∧ R a' E') l.length listed a E := by
 induction l with
 | nil =>
  intro k listed a E _ hk _ hB h
  obtain rfl : k = n := by simpa using hk
  exact ⟨by simpa [Region.lexHead] using hB, h⟩
 | cons o l ih =>
  intro k listed a E hl hk inv hB h
  have h0 : ops[k]? = some o := by simpa using (hl 0 (by simp)).symm
  simp only [List.length_cons] at hk
  simp only [List.length_cons, Region.lexHead, Bool.and_eq_true] at hB
  have hkn : k < n := by omega
  have hr : k ∈ Region.ready md ops listed := by simpa using hB.1.1
  obtain ⟨v, E', hy, hK⟩ := h
  refine HeadE.first h0 hns hs hc hn hkn (fun _ _ _ hL => seqB_ready hL.1) l.length listed a E inv (Region.free_spec h0 hB.1.2) hr hy ?_
  refine ih (k + 1) _ _ _ (fun j hj => ?_) (by omega) (inv.set hr hkn) hB.2 hK
  have := hl (j + 1) (by simp; omega)
  rw [show k + 1 + j = k + (j + 1) by omega]
  simpa using this

theorem wpAny_tailE {Q : Exit → Act → World → Prop} {a : Act} {w : World} {l : List Oper} (n : Nat) (hB : Region.lexTailB .any l.toArray n = true) (hT : ∀ w, T w w) (hC : C { w with drawn := w.drawn + 1 })
  (h : wpE P l.toArray C T (fun a' E => ∀ w', C w' → E w' → wpList P l.toArray Q (l.drop n) a' w') (l.take n) a (fun _ => True)) :
  wpAny P .any l.toArray Q l.toArray.size (Array.replicate l.toArray.size false) a { w with drawn := w.drawn + 1 } := by
 simp only [Region.lexTailB, Bool.and_eq_true, decide_eq_true_eq] at hB
 obtain ⟨⟨⟨⟨hns, hn⟩, hs⟩, hc⟩, hlex⟩ := hB
 have hnl : n < l.length := by simpa using hn
 have htl : (l.take n).length = n := by rw [List.length_take]; omega
 have hdl : (l.drop n).length = l.toArray.size - n := by simp
 have inv0 : HeadInv .any l.toArray n (Array.replicate l.toArray.size false) := by
  refine ⟨by simp, fun j oj _ hl => ?_, fun t _ ht => getD_in (by simpa using ht) (getD_replicate_false _ _)⟩
  rw [getD_replicate_false] at hl; cases hl
 have H := HeadE.lex (md := .any) (g := l.toArray.size - n) hns hs hc hn (l.take n) 0 _ a _ (fun j hj => by
  rw [htl] at hj; simp [hj]) (by omega) inv0 (by rw [htl]; exact hlex) h
 have := HeadE.toAny (Q := Q) (g := l.toArray.size - n) hT (fun listed a' E w' hw' hE hL => by
  have := wpAny_of_seq (md := .any) (Q' := Q) (l.drop n) n listed a' w' (fun j => by simp [List.getElem?_drop]) (by rw [hdl]; exact hL.1) (hL.2 w' hw' hE)
  rwa [hdl] at this) _ _ _ _ { w with drawn := w.drawn + 1 } (fun _ _ _ _ => trivial) hC trivial H
 rw [htl, show n + (l.toArray.size - n) = l.toArray.size by omega] at this
 exact this
end
end Go
