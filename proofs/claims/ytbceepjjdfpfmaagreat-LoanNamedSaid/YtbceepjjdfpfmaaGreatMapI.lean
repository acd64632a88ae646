/- A map from numbers to numbers, as the program makes it: what a look-up, and an entry that is written, do. No condition. -/
import Derived.Test.YtbceepjjdfpfmaaGreatChg
import Derived.MapKept
namespace Go.Proofs.YtbceepjjdfpfmaaGreat
open Go.RowKit HandSpec Go.MapKept
set_option maxRecDepth 100000
/-- Where a key stands, and what its entry is. -/
def lookI (k : Nat) : Nat → List (Nat × Int) → Option (Nat × Int)
  | _, [] => none
  | i, (q, v) :: l => if k = q then some (i, v) else lookI k (i + 1) l
/-- A key's entry. -/
def lkI (l : List (Nat × Int)) (k : Nat) : Option Int := (lookI k 0 l).map (·.2)
theorem lookI_shift (k : Nat) : ∀ (l : List (Nat × Int)) (i d : Nat), lookI k (i + d) l = (lookI k i l).map fun x => (x.1 + d, x.2)
  | [], _, _ => rfl
  | (q, v) :: l, i, d => by
    simp only [lookI]
    split
    · rfl
    · rw [show i + d + 1 = (i + 1) + d by omega]
      exact lookI_shift k l (i + 1) d
theorem lkI_nil (k : Nat) : lkI [] k = none := rfl
theorem lkI_cons (q : Nat) (v : Int) (l : List (Nat × Int)) (k : Nat) : lkI ((q, v) :: l) k = if k = q then some v else lkI l k := by
  unfold lkI
  simp only [lookI]
  split
  · rfl
  · rw [lookI_shift k l 0 1]
    cases lookI k 0 l <;> rfl
theorem lkI_snoc (k : Nat) (v : Int) : ∀ (l : List (Nat × Int)), lkI l k = none → ∀ j, lkI (l ++ [(k, v)]) j = if j = k then some v else lkI l j
  | [], _, j => by rw [List.nil_append, lkI_cons]
  | (q, u) :: l, h, j => by
    rw [lkI_cons] at h
    have hkq : k ≠ q := fun e => by rw [if_pos e] at h; cases h
    rw [if_neg hkq] at h
    rw [List.cons_append, lkI_cons, lkI_cons, lkI_snoc k v l h]
    by_cases e : j = q
    · rw [if_pos e, if_pos e, if_neg (by rw [e]; exact fun e' => hkq e'.symm)]
    · rw [if_neg e, if_neg e]
theorem lkI_set (k : Nat) (v : Int) : ∀ (l : List (Nat × Int)) (i : Nat) (u : Int), lookI k 0 l = some (i, u) → ∀ j, lkI (l.set i (k, v)) j = if j = k then some v else lkI l j
  | [], _, _, h, _ => by cases h
  | (q, z) :: l, i, u, h, j => by
    simp only [lookI] at h
    by_cases e : k = q
    · subst e
      rw [if_pos rfl] at h
      cases h
      rw [List.set_cons_zero, lkI_cons, lkI_cons]
      by_cases e : j = k
      · rw [if_pos e, if_pos e]
      · rw [if_neg e, if_neg e, if_neg e]
    · rw [if_neg e, lookI_shift k l 0 1] at h
      cases hl : lookI k 0 l with
      | none => rw [hl] at h; cases h
      | some x =>
        rw [hl] at h
        obtain ⟨i', u'⟩ := x
        cases h
        rw [List.set_cons_succ, lkI_cons, lkI_cons, lkI_set k v l i' u' hl]
        by_cases e' : j = q
        · rw [if_pos e', if_pos e', if_neg (by rw [e']; exact fun e'' => e e''.symm)]
        · rw [if_neg e', if_neg e']
/-- Block r is a map with these entries. -/
def MpI (w : World) (r : Nat) (f : Nat → Option Int) : Prop := ∃ es clock l, w.heap[r]? = some (.map es clock) ∧ es.toList.map (fun e => (e.key, e.val)) = l.map (fun p : Nat × Int => (Value.int .i64 (p.1 : Int), Value.int .i64 p.2)) ∧ ∀ k, lkI l k = f k
theorem MpI.lt {w : World} {r : Nat} {f : Nat → Option Int} (h : MpI w r f) : r < w.heap.size := by
  obtain ⟨es, clock, l, hb, -, -⟩ := h
  exact (Array.getElem?_eq_some_iff.1 hb).1
theorem MpI.same {w w' : World} {r : Nat} {f : Nat → Option Int} (h : MpI w r f) (e : w'.heap[r]? = w.heap[r]?) : MpI w' r f := by
  obtain ⟨es, clock, l, hb, h1, h2⟩ := h
  exact ⟨es, clock, l, e.trans hb, h1, h2⟩
theorem MpI.ext {w w' : World} {r : Nat} {f : Nat → Option Int} (h : MpI w r f) (e : Ext w w') : MpI w' r f := h.same (e.block h.lt)
theorem MpI.congr {w : World} {r : Nat} {f f' : Nat → Option Int} (h : MpI w r f) (e : ∀ k, f k = f' k) : MpI w r f' := by
  obtain ⟨es, clock, l, hb, h1, h2⟩ := h
  exact ⟨es, clock, l, hb, h1, fun k => (h2 k).trans (e k)⟩
theorem MpI.new (w : World) : MpI (w.alloc (.map #[] 0)) w.heap.size fun _ => none := ⟨#[], 0, [], (heap_alloc w _).1, rfl, fun _ => rfl⟩
theorem findNow_I (k : Nat) : ∀ (l : List (Nat × Int)) (es : List MapEntry) (i : Nat), es.map (fun e => (e.key, e.val)) = l.map (fun p : Nat × Int => (Value.int .i64 (p.1 : Int), Value.int .i64 p.2)) →
    Instr.findNow (.int .i64) (.int .i64 (k : Int)) es i = some ((lookI k i l).map fun x => (x.1, .int .i64 x.2))
  | [], [], _, _ => rfl
  | [], _ :: _, _, h => by cases h
  | _ :: _, [], _, h => by cases h
  | (q, v) :: l, e :: es, i, h => by
    simp only [List.map_cons, List.cons.injEq, Prod.mk.injEq] at h
    obtain ⟨⟨h1, h2⟩, h3⟩ := h
    simp only [Instr.findNow, h1, Instr.sameNow, if_true, lookI]
    by_cases e : k = q
    · have : (((k : Nat) : Int) == (q : Int)) = true := by simp [e]
      rw [this, if_pos e]
      simp [h2]
    · have : (((k : Nat) : Int) == (q : Int)) = false := by simp; omega
      rw [this, if_neg e]
      exact findNow_I k l es (i + 1) h3
theorem lookI_at (k : Nat) : ∀ (l : List (Nat × Int)) (i : Nat) (u : Int), lookI k 0 l = some (i, u) → l[i]? = some (k, u)
  | [], _, _, h => by cases h
  | (q, z) :: l, i, u, h => by
    simp only [lookI] at h
    by_cases e : k = q
    · subst e
      rw [if_pos rfl] at h
      cases h
      rfl
    · rw [if_neg e, lookI_shift k l 0 1] at h
      cases hl : lookI k 0 l with
      | none => rw [hl] at h; cases h
      | some x =>
        rw [hl] at h
        obtain ⟨i', u'⟩ := x
        cases h
        simpa using lookI_at k l i' u' hl
theorem under207 : Tryz.prog.underlying 207 = some (.map 3 3) := by kernel_rfl
theorem look207 {w : World} {r : Nat} {f : Nat → Option Int} (h : MpI w r f) (k : Nat) : (Instr.lookup 207 (.map (some r)) (.int .i64 (k : Int)) false).run Tryz.prog w = .ok (.int .i64 ((f k).getD 0)) w := by
  obtain ⟨es, clock, l, hb, h1, h2⟩ := h
  have hu := Tryz.underlying3
  have hf := run_findKey (P := Tryz.prog) (w := w) hu (findNow_I k l es.toList 0 h1)
  have hz : (zeroValue 3).run Tryz.prog w = .ok (.int .i64 0) w := by kernel_rfl
  have hc : (Instr.checkKey es.isEmpty 10000 3 (.int .i64 (k : Int))).run Tryz.prog w = .ok () w := run_checkKey hu (by simp [IsKey]) _ _
  rw [← h2 k]
  simp only [Instr.lookup, Sem.run_bind, run_underlying under207, Result.andThen_ok, Go.MapKept.run_getObj_map hb, Sem.run_pure, hc, hf, lkI]
  cases lookI k 0 l with
  | none => simp [hz]
  | some x => simp
theorem lookOk207 {w : World} {r : Nat} {f : Nat → Option Int} (h : MpI w r f) (k : Nat) : (Instr.lookup 207 (.map (some r)) (.int .i64 (k : Int)) true).run Tryz.prog w = .ok (.tuple #[.int .i64 ((f k).getD 0), .bool (f k).isSome]) w := by
  obtain ⟨es, clock, l, hb, h1, h2⟩ := h
  have hu := Tryz.underlying3
  have hf := run_findKey (P := Tryz.prog) (w := w) hu (findNow_I k l es.toList 0 h1)
  have hz : (zeroValue 3).run Tryz.prog w = .ok (.int .i64 0) w := by kernel_rfl
  have hc : (Instr.checkKey es.isEmpty 10000 3 (.int .i64 (k : Int))).run Tryz.prog w = .ok () w := run_checkKey hu (by simp [IsKey]) _ _
  rw [← h2 k]
  simp only [Instr.lookup, Sem.run_bind, run_underlying under207, Result.andThen_ok, Go.MapKept.run_getObj_map hb, Sem.run_pure, hc, hf, lkI]
  cases lookI k 0 l with
  | none => simp [hz]
  | some x => simp
/-- An entry is written. -/
def putM (f : Nat → Option Int) (k : Nat) (v : Int) : Nat → Option Int := fun j => if j = k then some v else f j
theorem put207 {w : World} {r : Nat} {f : Nat → Option Int} (h : MpI w r f) (k : Nat) (v : Int) :
    ∃ w', (Instr.mapUpdate 207 (.map (some r)) (.int .i64 (k : Int)) (.int .i64 v)).run Tryz.prog w = .ok () w' ∧ MpI w' r (putM f k v) ∧ (∀ n, n ≤ r → Below n w w') ∧ w'.heap.size = w.heap.size ∧ ∀ b, b ≠ r → w'.heap[b]? = w.heap[b]? := by
  obtain ⟨es, clock, l, hb, h1, h2⟩ := h
  have hu := Tryz.underlying3
  have hf := run_findKey (P := Tryz.prog) (w := w) hu (findNow_I k l es.toList 0 h1)
  have hc : (Instr.checkKey false 10000 3 (.int .i64 (k : Int))).run Tryz.prog w = .ok () w := run_checkKey hu (by simp [IsKey]) _ _
  have hlt : r < w.heap.size := (Array.getElem?_eq_some_iff.1 hb).1
  have hfar : ∀ (o : Obj) (b : Nat), b ≠ r → ({ w with heap := w.heap.setIfInBounds r o } : World).heap[b]? = w.heap[b]? := fun o b hne => (heap_set hb).2 b hne
  have hbel : ∀ (o : Obj) (n : Nat), n ≤ r → Below n w { w with heap := w.heap.setIfInBounds r o } := fun o n hn => ⟨rfl, rfl, rfl, by simp, fun b hb' => hfar o b (by omega)⟩
  cases hl : lookI k 0 l with
  | none =>
    rw [hl] at hf
    refine ⟨_, by simp only [Instr.mapUpdate, Sem.run_bind, run_underlying under207, Result.andThen_ok, Go.MapKept.run_getObj_map hb, hc, hf, Option.map_none]; exact run_setObj_map _ hb, ⟨_, _, l ++ [(k, v)], (heap_set hb).1, by simp [h1], fun j => ?_⟩, hbel _, by simp, hfar _⟩
    rw [lkI_snoc k v l (by unfold lkI; rw [hl]; rfl), h2 j]
    rfl
  | some x =>
    obtain ⟨i, u⟩ := x
    rw [hl] at hf
    have hli := lookI_at k l i u hl
    have he : (es.toList.map (fun e => (e.key, e.val)))[i]? = some (.int .i64 (k : Int), .int .i64 u) := by rw [h1]; simp [hli]
    rw [List.getElem?_map] at he
    cases hei : es.toList[i]? with
    | none => rw [hei] at he; cases he
    | some e =>
      rw [hei] at he
      simp only [Option.map_some, Option.some.injEq, Prod.mk.injEq] at he
      have hei' : es[i]? = some e := by simpa using hei
      have hk : (Instr.keyThatStays (((es[i]?).map (·.key)).getD (.int .i64 (k : Int))) (.int .i64 (k : Int))).run Tryz.prog w = .ok (.int .i64 (k : Int)) w := by
        rw [hei', Option.map_some, Option.getD_some, he.1]
        exact run_keyThatStays (d := .int .i64) (by simp [IsKey])
      refine ⟨_, by simp only [Instr.mapUpdate, Sem.run_bind, run_underlying under207, Result.andThen_ok, Go.MapKept.run_getObj_map hb, hc, hf, Option.map_some, hk]; exact run_setObj_map _ hb, ⟨_, _, l.set i (k, v), (heap_set hb).1, ?_, fun j => ?_⟩, hbel _, by simp, hfar _⟩
      · apply List.ext_getElem?
        intro j
        have hj := congrArg (fun L => L[j]?) h1
        simp only [List.getElem?_map, List.getElem?_set, Array.toList_modify, List.getElem?_modify] at hj ⊢
        by_cases e' : i = j
        · subst e'
          have hil : i < l.length := (List.getElem?_eq_some_iff.1 hli).1
          simp [hei, hil]
        · simp only [if_neg e'] at hj ⊢
          simpa using hj
      · rw [lkI_set k v l i u hl, h2 j]
        rfl
end Go.Proofs.YtbceepjjdfpfmaaGreat
