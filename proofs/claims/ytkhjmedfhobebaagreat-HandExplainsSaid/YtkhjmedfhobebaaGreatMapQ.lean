/- A map from pairs of numbers to numbers: what an entry that is written does. No condition. -/
import Derived.Test.YtkhjmedfhobebaaGreatBin
import Derived.MapKept
namespace Go.Proofs.YtkhjmedfhobebaaGreat
open Go.RowKit
theorem ents_length : ∀ (b : Nat) (l : List ((Nat × Nat) × Nat)), (ents b l).length = l.length
  | _, [] => rfl
  | b, (p, v) :: l => by simp [ents, ents_length (b + 1) l]
theorem ents_get : ∀ (b : Nat) (l : List ((Nat × Nat) × Nat)) (i : Nat), (ents b l)[i]? = (l[i]?).map fun x => { key := keyV x.1, val := .int .i64 (x.2 : Int), born := b + i }
  | _, [], _ => by simp [ents]
  | b, (p, v) :: l, 0 => by simp [ents]
  | b, (p, v) :: l, i + 1 => by
    have := ents_get (b + 1) l i
    simp only [ents, List.getElem?_cons_succ, this]
    rw [show b + 1 + i = b + (i + 1) by omega]
theorem ents_append : ∀ (b : Nat) (l r : List ((Nat × Nat) × Nat)), ents b (l ++ r) = ents b l ++ ents (b + l.length) r
  | _, [], _ => by simp [ents]
  | b, (p, v) :: l, r => by
    simp only [List.cons_append, ents, ents_append (b + 1) l r, List.length_cons]
    rw [show b + 1 + l.length = b + (l.length + 1) by omega]
theorem lookAt_some {p : Nat × Nat} : ∀ {l : List ((Nat × Nat) × Nat)} {i j v : Nat}, lookAt p i l = some (j, v) → i ≤ j ∧ l[j - i]? = some (p, v)
  | (q, u) :: l, i, j, v, h => by
    unfold lookAt at h
    split at h
    · next e => simp at h; obtain ⟨rfl, rfl⟩ := h; subst e; simp
    · obtain ⟨h1, h2⟩ := lookAt_some h
      refine ⟨by omega, ?_⟩
      rw [show j - i = (j - (i + 1)) + 1 by omega]
      simpa using h2
def posOf (p : Nat × Nat) (l : List ((Nat × Nat) × Nat)) : Nat := ((lookAt p 0 l).map (·.1)).getD l.length
/-- The list with an entry for p. -/
def touch (p : Nat × Nat) (l : List ((Nat × Nat) × Nat)) : List ((Nat × Nat) × Nat) := if (lookAt p 0 l).isSome then l else l ++ [(p, 0)]
/-- The list in which p has the number v. -/
def putV (p : Nat × Nat) (v : Nat) (l : List ((Nat × Nat) × Nat)) : List ((Nat × Nat) × Nat) := (touch p l).modify (posOf p l) fun x => (x.1, v)
def putM (w : World) (m : Nat) (l : List ((Nat × Nat) × Nat)) : World := { w with heap := w.heap.setIfInBounds m (.map (ents 0 l).toArray l.length) }
theorem keyStays (p : Nat × Nat) (w : World) : (Instr.keyThatStays (keyV p) (keyV p)).run Tryz.prog w = .ok (keyV p) w := by
  have h : Instr.sameBits 10000 (keyV p) (keyV p) = true := by
    unfold keyV
    rw [show (10000 : Nat) = 9998 + 1 + 1 from rfl]
    simp [Instr.sameBits]
  simp [Instr.keyThatStays, h, Sem.run_pure]
theorem ents_modify (b : Nat) : ∀ (l : List ((Nat × Nat) × Nat)) (i : Nat) (v : Nat), (ents b l).modify i (fun e => { e with val := .int .i64 (v : Int) }) = ents b (l.modify i fun x => (x.1, v)) := by
  intro l i v
  apply List.ext_getElem?
  intro j
  rw [List.getElem?_modify, ents_get, ents_get, List.getElem?_modify]
  cases l[j]? with
  | none => simp
  | some x => by_cases h : i = j <;> simp [h]
theorem mapEntry_run {w : World} {m : Nat} {l : List ((Nat × Nat) × Nat)} (h : Mp w m l) (p : Nat × Nat) :
    (Instr.mapEntry 187 (.map (some m)) (keyV p)).run Tryz.prog w = .ok (.tuple #[.int .i64 (lookV p l : Int), .int .i64 (posOf p l : Int)]) (putM w m (touch p l)) := by
  have hu : (underlying 187).run Tryz.prog w = .ok (.map 51 3) w := run_underlying (by kernel_rfl) w
  have hg : (getObj m).run Tryz.prog w = .ok (.map (ents 0 l).toArray l.length) w := by unfold Mp at h; simp [getObj, Sem.run, h]
  have hz : (zeroValue 3).run Tryz.prog w = .ok (.int .i64 0) w := by kernel_rfl
  have hs := fun o => MapKept.run_setObj_map (P := Tryz.prog) (w := w) o h
  have hf := findKey_run p w l
  have hck := checkK false (p.1 : Int) (p.2 : Int) w
  change (Instr.checkKey false 10000 51 (keyV p)).run Tryz.prog w = .ok () w at hck
  simp only [Instr.mapEntry, Sem.run_bind, hu, Result.andThen_ok, hg, hck, hf]
  unfold lookV posOf touch putM
  cases hl : lookAt p 0 l with
  | none =>
    simp [hz, hs, goInt, ents_append, ents]
  | some x =>
    obtain ⟨i, v⟩ := x
    obtain ⟨-, hi⟩ := lookAt_some hl
    have he := ents_get 0 l i
    rw [show i - 0 = i from rfl] at hi
    rw [hi] at he
    have hmod : (ents 0 l).modify i (fun e => { e with key := keyV p }) = ents 0 l := by
      apply List.ext_getElem?
      intro j
      rw [List.getElem?_modify]
      by_cases h : i = j
      · subst h
        simp [he]
      · simp [h]
    simp [he, keyStays, hs, goInt, hmod]
theorem Mp.put {w : World} {m : Nat} {l l' : List ((Nat × Nat) × Nat)} (h : Mp w m l) : Mp (putM w m l') m l' := by
  have := h.lt
  unfold Mp putM
  simp [this]
theorem entryStore_run {w : World} {m : Nat} {l : List ((Nat × Nat) × Nat)} (h : Mp w m l) {i : Nat} (hi : i < l.length) (v : Nat) :
    (Instr.entryStore 187 (.map (some m)) (.int .i64 (i : Int)) (.int .i64 (v : Int))).run Tryz.prog w = .ok () (putM w m (l.modify i fun x => (x.1, v))) := by
  have hg : (getObj m).run Tryz.prog w = .ok (.map (ents 0 l).toArray l.length) w := by unfold Mp at h; simp [getObj, Sem.run, h]
  have hs := fun o => MapKept.run_setObj_map (P := Tryz.prog) (w := w) o h
  have hfi : (ents 0 l).findIdx? (fun e => (e.born : Int) == (i : Int)) = some i := by
    rw [List.findIdx?_eq_some_iff_getElem]
    refine ⟨by simpa [ents_length] using hi, ?_, fun j hj => ?_⟩
    · have := ents_get 0 l i
      rw [List.getElem?_eq_getElem (by simpa [ents_length] using hi), List.getElem?_eq_getElem hi] at this
      simp at this
      simp [this]
    · have := ents_get 0 l j
      rw [List.getElem?_eq_getElem (by rw [ents_length]; omega), List.getElem?_eq_getElem (by omega)] at this
      simp at this
      simp [this]
      omega
  unfold putM
  simp [Instr.entryStore, Sem.run_bind, hg, asInt, asIntOf, hfi, hs, ents_modify]
theorem lookAt_append {p : Nat × Nat} : ∀ (l r : List ((Nat × Nat) × Nat)) (i : Nat), lookAt p i (l ++ r) = (lookAt p i l).or (lookAt p (i + l.length) r)
  | [], r, i => by simp [lookAt]
  | (q, v) :: l, r, i => by
    simp only [List.cons_append, lookAt, lookAt_append l r (i + 1), List.length_cons]
    rw [show i + 1 + l.length = i + (l.length + 1) by omega]
    split <;> simp
theorem posOf_lt (p : Nat × Nat) (l : List ((Nat × Nat) × Nat)) : posOf p l < (touch p l).length := by
  unfold posOf touch
  cases h : lookAt p 0 l with
  | none => simp
  | some x =>
    obtain ⟨i, v⟩ := x
    obtain ⟨-, hi⟩ := lookAt_some h
    simp only [Nat.sub_zero] at hi
    have := (List.getElem?_eq_some_iff.1 hi).1
    simpa using this
theorem lookV_touch (q p : Nat × Nat) (l : List ((Nat × Nat) × Nat)) : lookV q (touch p l) = lookV q l := by
  unfold lookV touch
  cases h : lookAt p 0 l with
  | some x => simp
  | none =>
    simp only [Option.isSome_none, Bool.false_eq_true, if_false, lookAt_append, lookAt]
    cases h1 : lookAt q 0 l with
    | some x => simp
    | none => by_cases e : q = p <;> simp [e]
theorem posOf_touch (p : Nat × Nat) (l : List ((Nat × Nat) × Nat)) : lookAt p 0 (touch p l) = some (posOf p l, lookV p l) := by
  unfold lookV touch posOf
  cases h : lookAt p 0 l with
  | some x => simp [h]
  | none => simp [h, lookAt_append, lookAt]
theorem lookAt_modify (p q : Nat × Nat) (v : Nat) : ∀ (l : List ((Nat × Nat) × Nat)) (b i u : Nat), lookAt p b l = some (b + i, u) →
    lookAt q b (l.modify i fun x => (x.1, v)) = if q = p then some (b + i, v) else lookAt q b l
  | (r, y) :: l, b, 0, u, h => by
    have hr : p = r := by
      unfold lookAt at h
      split at h
      · assumption
      · have := (lookAt_some h).1; omega
    subst hr
    by_cases e : q = p <;> simp [lookAt, e]
  | (r, y) :: l, b, i + 1, u, h => by
    have hr : ¬ p = r := by
      intro e
      simp [lookAt, e] at h
    simp only [lookAt, hr, if_false] at h
    rw [show b + (i + 1) = b + 1 + i by omega] at h
    have ih := lookAt_modify p q v l (b + 1) i u h
    simp only [List.modify_succ_cons, lookAt, ih]
    by_cases e : q = r
    · have : ¬ q = p := fun h' => hr (h'.symm.trans e)
      simp [e]
      intro h'; exact absurd h'.symm hr
    · simp only [e, if_false]
      rw [show b + 1 + i = b + (i + 1) by omega]
theorem lookV_putV (p q : Nat × Nat) (v : Nat) (l : List ((Nat × Nat) × Nat)) : lookV q (putV p v l) = if q = p then v else lookV q l := by
  have h := lookAt_modify p q v (touch p l) 0 (posOf p l) (lookV p l) (by rw [posOf_touch]; simp)
  unfold putV
  unfold lookV at *
  rw [h]
  by_cases e : q = p
  · simp [e]
  · simp only [e, if_false]
    exact lookV_touch q p l
theorem Ext.putM {w0 w : World} (h : Ext w0 w) {m : Nat} (hm : w0.heap.size ≤ m) (l : List ((Nat × Nat) × Nat)) : Ext w0 (putM w m l) :=
  Below.trans h ⟨rfl, rfl, rfl, by unfold Go.Proofs.YtkhjmedfhobebaaGreat.putM; simp, fun k hk => by
    unfold Go.Proofs.YtkhjmedfhobebaaGreat.putM
    exact Array.getElem?_setIfInBounds_ne (by omega)⟩
theorem Blk.putM {w : World} {g : Nat} {t : TypeId} {C : Array Value} (h : Blk w g t C) {m : Nat} (hm : m ≠ g) (l : List ((Nat × Nat) × Nat)) : Blk (putM w m l) g t C := by
  unfold Blk Go.Proofs.YtkhjmedfhobebaaGreat.putM at *
  simp [hm, h]
end Go.Proofs.YtkhjmedfhobebaaGreat
