/- A map from pairs of numbers to numbers, as the program makes it: what a look-up, and an entry that is written, do. No condition. -/
import Derived.Test.YtkhjmedfhobebaaGreatProg
import Derived.Test.YtkhjmedfhobebaaGreatBaseC
namespace Go.Proofs.YtkhjmedfhobebaaGreat
open Go.RowKit

def keyV (p : Nat × Nat) : Value := .agg #[.int .i64 (p.1 : Int), .int .i64 (p.2 : Int)]
/-- The entries of a list of keys with their numbers; each was born when it was added. -/
def ents : Nat → List ((Nat × Nat) × Nat) → List MapEntry
 | _, [] => []
 | b, (p, v) :: l => { key := keyV p, val := .int .i64 (v : Int), born := b } :: ents (b + 1) l
/-- Where a key stands. -/
def lookAt (p : Nat × Nat) : Nat → List ((Nat × Nat) × Nat) → Option (Nat × Nat)
 | _, [] => none
 | i, (q, v) :: l => if p = q then some (i, v) else lookAt p (i + 1) l
def lookV (p : Nat × Nat) (l : List ((Nat × Nat) × Nat)) : Nat := ((lookAt p 0 l).map (·.2)).getD 0
/-- Block m is a map with these entries. -/
def Mp (w : World) (m : Nat) (l : List ((Nat × Nat) × Nat)) : Prop := w.heap[m]? = some (.map (ents 0 l).toArray l.length)
theorem Mp.lt {w : World} {m : Nat} {l : List ((Nat × Nat) × Nat)} (h : Mp w m l) : m < w.heap.size := by
 rcases Nat.lt_or_ge m w.heap.size with hlt | hge
 ·exact hlt
 ·unfold Mp at h; rw [Array.getElem?_eq_none hge] at h; cases h
theorem Mp.ext {w w' : World} {m : Nat} {l : List ((Nat × Nat) × Nat)} (h : Mp w m l) (e : Ext w w') : Mp w' m l := (e.block h.lt).trans h

theorem checkK (em : Bool) (a b : Int) (w : World) : (Instr.checkKey em 10000 51 (.agg #[.int .i64 a, .int .i64 b])).run Tryz.prog w = .ok () w := by kernel_rfl
theorem eqK (a b c d : Int) (w : World) : (Op.equal 51 (.agg #[.int .i64 a, .int .i64 b]) (.agg #[.int .i64 c, .int .i64 d])).run Tryz.prog w = .ok (a == c && b == d) w := by
 unfold Op.equal
 have := Tryz.underlying3
 have h : Tryz.prog.underlying 51 = some (.struct (Tryz.prog.fieldsOf 51)) := by kernel_rfl
 have h2 : Tryz.prog.stoodInHeld 51 = false := by kernel_rfl
 simp [go_sem, Op.maxDepth]
 by_cases h1 : a = c <;> by_cases h2 : b = d <;> simp [h1, h2]
theorem findAsking_run (p : Nat × Nat) (w : World) : ∀ (l : List ((Nat × Nat) × Nat)) (b i : Nat),
  (Instr.findAsking 51 (keyV p) (ents b l) i).run Tryz.prog w = .ok ((lookAt p i l).map fun x => (x.1, .int .i64 (x.2 : Int))) w
 | [], _, _ => by simp [ents, Instr.findAsking, lookAt, Sem.run_pure]
 | (q, v) :: l, b, i => by
  have ih := findAsking_run p w l (b + 1) (i + 1)
  have he : (Op.equal 51 (keyV p) (keyV q)).run Tryz.prog w = .ok (decide (p = q)) w := by
   unfold keyV
   rw [eqK]
   congr 1
   rw [Bool.eq_iff_iff]
   simp only [Bool.and_eq_true, beq_iff_eq, decide_eq_true_eq]
   constructor
   ·rintro ⟨h1, h2⟩; exact Prod.ext (by omega) (by omega)
   ·rintro rfl; exact ⟨rfl, rfl⟩
  simp only [ents, Instr.findAsking, Sem.run_bind, he, Result.andThen_ok, lookAt]
  by_cases h : p = q
  ·simp [h, Sem.run_pure]
  ·simp only [h, decide_false, Bool.false_eq_true, if_false]
   exact ih
theorem findKey_run (p : Nat × Nat) (w : World) (l : List ((Nat × Nat) × Nat)) :
  (Instr.findKey 51 (keyV p) (ents 0 l)).run Tryz.prog w = .ok ((lookAt p 0 l).map fun x => (x.1, .int .i64 (x.2 : Int))) w := by
 have hu : (underlying 51).run Tryz.prog w = .ok (.struct (Tryz.prog.fieldsOf 51)) w := run_underlying (by kernel_rfl) w
 cases l with
 | nil => simp [Instr.findKey, hu, Instr.findNow, ents, lookAt]
 | cons x l =>
  obtain ⟨q, v⟩ := x
  have := findAsking_run p w ((q, v) :: l) 0 0
  simp only [Instr.findKey, Sem.run_bind, hu, Result.andThen_ok, ents, Instr.findNow]
  simpa [ents, Instr.sameNow, keyV] using this
theorem lookup_run {w : World} {m : Nat} {l : List ((Nat × Nat) × Nat)} (h : Mp w m l) (a b : Nat) :
  (Instr.lookup 187 (.map (some m)) (.agg #[.int .i64 (a : Int), .int .i64 (b : Int)]) false).run Tryz.prog w = .ok (.int .i64 (lookV (a, b) l : Int)) w := by
 have hu : (underlying 187).run Tryz.prog w = .ok (.map 51 3) w := run_underlying (by kernel_rfl) w
 have hg : (getObj m).run Tryz.prog w = .ok (.map (ents 0 l).toArray l.length) w := by unfold Mp at h; simp [getObj, Sem.run, h]
 have hz : (zeroValue 3).run Tryz.prog w = .ok (.int .i64 0) w := by kernel_rfl
 have hf := findKey_run (a, b) w l
 unfold keyV at hf
 simp only [Instr.lookup, Sem.run_bind, hu, Result.andThen_ok, hg, Sem.run_pure, checkK, hf]
 unfold lookV
 cases lookAt (a, b) 0 l with
 | none => simp [hz]
 | some x => simp
end Go.Proofs.YtkhjmedfhobebaaGreat
