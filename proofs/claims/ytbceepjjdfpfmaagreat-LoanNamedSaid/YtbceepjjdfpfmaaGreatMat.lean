/- Tables of numbers that are the call's own: rows in blocks of their own. No condition. -/
import Derived.Test.YtbceepjjdfpfmaaGreatChg
namespace Go.Proofs.YtbceepjjdfpfmaaGreat
open Go.RowKit HandSpec
set_option maxRecDepth 100000
/-- The first N cells of block g are these values, and may be written. -/
def ArrV (w : World) (g N : Nat) (v : Nat → Value) : Prop := g < w.heap.size ∧ ∀ i, i < N → w.cell? ⟨g, i, none⟩ = some (v i) ∧ w.frozen? ⟨g, i, none⟩ = false
namespace ArrV
variable {w w' : World} {g N : Nat} {v : Nat → Value}
theorem ext (a : ArrV w g N v) (e : Ext w w') : ArrV w' g N v := ⟨Nat.lt_of_lt_of_le a.1 e.size, fun i hi => by rw [e.cell a.1, e.frozen a.1]; exact a.2 i hi⟩
theorem cell (a : ArrV w g N v) {i : Nat} (hi : i < N) : w.cell? ⟨g, i, none⟩ = some (v i) := (a.2 i hi).1
theorem frozen (a : ArrV w g N v) {i : Nat} (hi : i < N) : w.frozen? ⟨g, i, none⟩ = false := (a.2 i hi).2
theorem congr {v' : Nat → Value} (a : ArrV w g N v) (e : ∀ i, i < N → v i = v' i) : ArrV w g N v' := ⟨a.1, fun i hi => by rw [← e i hi]; exact a.2 i hi⟩
theorem set_ (a : ArrV w g N v) (k : Nat) (z : Value) (hk : k < N) : ArrV (w.setCell ⟨g, k, none⟩ z) g N (fun i => if i = k then z else v i) := by
  refine ⟨by simpa using a.1, fun i hi => ⟨?_, by simpa using a.frozen hi⟩⟩
  by_cases e : i = k
  · subst e
    simp only [if_true]
    exact World.cell?_setCell_same _ _ _ (a.cell hk)
  · simp only [if_neg e]
    rw [World.cell?_setCell_other _ _ _ _ (by simp only [ne_eq, Addr.mk.injEq, true_and, and_true]; exact fun e' => e e'.symm)]
    exact a.cell hi
theorem far (a : ArrV w g N v) {p : Addr} (u : Value) (hp : p.block ≠ g) : ArrV (w.setCell p u) g N v :=
  ⟨by simpa using a.1, fun i hi => ⟨by rw [World.cell?_setCell_other _ _ _ _ (by intro e; rw [e] at hp; exact hp rfl)]; exact a.cell hi, by simpa using a.frozen hi⟩⟩
theorem same (a : ArrV w g N v) (e : w'.heap[g]? = w.heap[g]?) : ArrV w' g N v := by
  refine ⟨?_, fun i hi => ?_⟩
  · rcases Nat.lt_or_ge g w'.heap.size with q | q
    · exact q
    · have := a.1
      rw [Array.getElem?_eq_none q, Array.getElem?_eq_getElem this] at e
      cases e
  · have := a.2 i hi
    simp only [World.cell?, World.frozen?, e] at this ⊢
    exact this
end ArrV
/-- A row that is put at place k. -/
def updR {α : Type} (m : Nat → α) (k : Nat) (f : α) : Nat → α := fun i => if i = k then f else m i
theorem updR_same {α : Type} (m : Nat → α) (k : Nat) (f : α) : updR m k f k = f := by simp [updR]
theorem updR_other {α : Type} (m : Nat → α) {k i : Nat} (f : α) (e : i ≠ k) : updR m k f i = m i := by simp [updR, e]
/-- One number of a table is another one. -/
def upd2 (m : Nat → Nat → Int) (i j : Nat) (z : Int) : Nat → Nat → Int := updR m i (upd (m i) j z)
/-- What stands at a row's place. -/
def rowV (r c : Nat → Nat) (n k i : Nat) : Value := if i < k then .slice (some ⟨r i, 0, none⟩) n (c i) else .slice none 0 0
/-- Block g, from B on, holds n rows, the first k of which are made: each in a block of its own, of n numbers. -/
structure Mt (w : World) (B g n k : Nat) (r c : Nat → Nat) (m : Nat → Nat → Int) : Prop where
  hB : B ≤ g
  hk : k ≤ n
  a : ArrV w g n (rowV r c n k)
  lo : ∀ i, i < k → B ≤ r i ∧ r i ≠ g
  ne : ∀ i j, i < k → j < k → i ≠ j → r i ≠ r j
  row : ∀ i, i < k → Arr w (r i) n (m i)
  cap : ∀ i, i < k → n ≤ c i
namespace Mt
variable {w w' : World} {B g n k : Nat} {r c : Nat → Nat} {m : Nat → Nat → Int}
theorem ext (h : Mt w B g n k r c m) (e : Ext w w') : Mt w' B g n k r c m := ⟨h.hB, h.hk, h.a.ext e, h.lo, h.ne, fun i hi => (h.row i hi).ext e, h.cap⟩
theorem lt (h : Mt w B g n k r c m) : g < w.heap.size := h.a.1
theorem congr {m' : Nat → Nat → Int} (h : Mt w B g n k r c m) (e : ∀ i, i < k → ∀ j, j < n → m i j = m' i j) : Mt w B g n k r c m' := ⟨h.hB, h.hk, h.a, h.lo, h.ne, fun i hi => (h.row i hi).congr fun j hj => e i hi j hj, h.cap⟩
theorem base {B' : Nat} (h : Mt w B g n k r c m) (hB : B' ≤ B) : Mt w B' g n k r c m := ⟨Nat.le_trans hB h.hB, h.hk, h.a, fun i hi => ⟨Nat.le_trans hB (h.lo i hi).1, (h.lo i hi).2⟩, h.ne, h.row, h.cap⟩
theorem atRow (h : Mt w B g n k r c m) {i : Nat} (hi : i < k) : w.cell? ⟨g, i, none⟩ = some (.slice (some ⟨r i, 0, none⟩) n (c i)) := by
  rw [h.a.cell (Nat.lt_of_lt_of_le hi h.hk), rowV, if_pos hi]
/-- A block elsewhere changes. -/
theorem far (h : Mt w B g n k r c m) {p : Addr} (u : Value) (hp : p.block < B) : Mt (w.setCell p u) B g n k r c m :=
  ⟨h.hB, h.hk, h.a.far u (by have := h.hB; omega), h.lo, h.ne, fun i hi => (h.row i hi).far u (by have := h.lo i hi; omega), h.cap⟩
/-- A row more. -/
theorem addRow (h : Mt w B g n k r c m) (hk : k < n) {rr cc : Nat} {f : Nat → Int} (hr : Arr w rr n f) (h1 : B ≤ rr) (h2 : rr ≠ g) (h3 : ∀ i, i < k → r i ≠ rr) (hc : n ≤ cc) :
    Mt (w.setCell ⟨g, k, none⟩ (.slice (some ⟨rr, 0, none⟩) n cc)) B g n (k + 1) (updR r k rr) (updR c k cc) (updR m k f) := by
  refine ⟨h.hB, hk, ?_, fun i hi => ?_, fun i j hi hj hij => ?_, fun i hi => ?_, fun i hi => ?_⟩
  · refine (h.a.set_ k _ hk).congr fun i hi => ?_
    unfold rowV
    by_cases e : i = k
    · subst e
      rw [if_pos rfl, if_pos (Nat.lt_succ_self i), updR_same, updR_same]
    · rw [if_neg e]
      by_cases q : i < k
      · rw [if_pos q, if_pos (by omega), updR_other _ _ e, updR_other _ _ e]
      · rw [if_neg q, if_neg (by omega)]
  · by_cases e : i = k
    · subst e; rw [updR_same]; exact ⟨h1, h2⟩
    · rw [updR_other _ _ e]; exact h.lo i (by omega)
  · by_cases ei : i = k
    · subst ei
      rw [updR_same, updR_other _ _ (fun e => hij e.symm)]
      exact (h3 j (by omega)).symm
    · rw [updR_other _ _ ei]
      by_cases ej : j = k
      · subst ej; rw [updR_same]; exact h3 i (by omega)
      · rw [updR_other _ _ ej]; exact h.ne i j (by omega) (by omega) hij
  · by_cases e : i = k
    · subst e; rw [updR_same, updR_same]; exact hr.far _ h2.symm
    · rw [updR_other _ _ e, updR_other _ _ e]; exact (h.row i (by omega)).far _ (h.lo i (by omega)).2.symm
  · by_cases e : i = k
    · subst e; rw [updR_same]; exact hc
    · rw [updR_other _ _ e]; exact h.cap i (by omega)
/-- A number is written. -/
theorem put (h : Mt w B g n k r c m) {i j : Nat} (hi : i < k) (hj : j < n) (z : Int) : Mt (w.setCell ⟨r i, j, none⟩ (.int .i64 z)) B g n k r c (upd2 m i j z) := by
  refine ⟨h.hB, h.hk, h.a.far _ (h.lo i hi).2, h.lo, h.ne, fun q hq => ?_, h.cap⟩
  by_cases e : q = i
  · subst e
    unfold upd2
    rw [updR_same]
    exact (h.row q hq).set_ j z hj
  · unfold upd2
    rw [updR_other _ _ e]
    exact (h.row q hq).far _ (h.ne i q hi hq fun e' => e e'.symm)
/-- The last row is another one. -/
theorem last {q : Nat} {f : Nat → Int} (h : Mt w B g n (k + 1) r c m) (hs : ∀ b, b < q → w'.heap[b]? = w.heap[b]?) (hg : g < q) (hr : ∀ i, i < k → r i < q) (hq : Arr w' (r k) n f) : Mt w' B g n (k + 1) r c (updR m k f) := by
  refine ⟨h.hB, h.hk, h.a.same (hs g hg), h.lo, h.ne, fun i hi => ?_, h.cap⟩
  by_cases e : i = k
  · subst e; rw [updR_same]; exact hq
  · rw [updR_other _ _ e]
    exact arr_same (h.row i hi) (hs _ (hr i (by omega)))
theorem rdN (h : Mt w B g n n r c m) : RdN w (some ⟨g, 0, none⟩) n (fun _ => n) m := by
  refine ⟨fun k => some ⟨r k, 0, none⟩, c, fun _ => ⟨g, 0, rfl, fun k hk => ?_⟩, fun k hk => ?_⟩
  · rw [Nat.zero_add]; exact h.atRow hk
  · have := (h.row k hk).rd (o := 0) (n := n) (c := 1) (by omega)
    exact this.congr fun q hq j hj => by
      obtain rfl : j = 0 := by omega
      simp
end Mt
/-- The value is a table of the call's own. -/
def MtV (w : World) (B : Nat) (v : Value) (n : Nat) (m : Nat → Nat → Int) : Prop := ∃ g r c cap, v = .slice (some ⟨g, 0, none⟩) n cap ∧ Mt w B g n n r c m
theorem MtV.ext {w w' : World} {B n : Nat} {v : Value} {m : Nat → Nat → Int} (h : MtV w B v n m) (e : Ext w w') : MtV w' B v n m := by
  obtain ⟨g, r, c, cap, hv, hm⟩ := h
  exact ⟨g, r, c, cap, hv, hm.ext e⟩
theorem make48_run (w : World) : ∀ n : Nat, n ≤ 10 → (Instr.makeSlice 48 (.int .i64 (n : Int)) (.int .i64 (n : Int))).run Tryz.prog w = .ok (.slice (some ⟨w.heap.size, 0, none⟩) n n) (w.alloc (.cells (Array.replicate n (.slice none 0 0)) 22))
  | 0, _ => by kernel_rfl
  | 1, _ => by kernel_rfl
  | 2, _ => by kernel_rfl
  | 3, _ => by kernel_rfl
  | 4, _ => by kernel_rfl
  | 5, _ => by kernel_rfl
  | 6, _ => by kernel_rfl
  | 7, _ => by kernel_rfl
  | 8, _ => by kernel_rfl
  | 9, _ => by kernel_rfl
  | 10, _ => by kernel_rfl
  | n + 11, h => absurd h (by omega)
theorem make22_run (w : World) : ∀ n : Nat, n ≤ 10 → (Instr.makeSlice 22 (.int .i64 (n : Int)) (.int .i64 (n : Int))).run Tryz.prog w = .ok (.slice (some ⟨w.heap.size, 0, none⟩) n n) (w.alloc (.cells (Array.replicate n (.int .i64 0)) 3))
  | 0, _ => by kernel_rfl
  | 1, _ => by kernel_rfl
  | 2, _ => by kernel_rfl
  | 3, _ => by kernel_rfl
  | 4, _ => by kernel_rfl
  | 5, _ => by kernel_rfl
  | 6, _ => by kernel_rfl
  | 7, _ => by kernel_rfl
  | 8, _ => by kernel_rfl
  | 9, _ => by kernel_rfl
  | 10, _ => by kernel_rfl
  | n + 11, h => absurd h (by omega)
/-- A block of n values that are alike. -/
theorem arrV_new (w : World) (n : Nat) (v : Value) (t : TypeId) : ArrV (w.alloc (.cells (Array.replicate n v) t)) w.heap.size n (fun _ => v) := by
  have b := Blk.new w t (Array.replicate n v)
  exact ⟨b.lt, fun i hi => ⟨by rw [b.cell]; simp [hi], b.frozen i⟩⟩
theorem arr_new (w : World) (n : Nat) (z : Int) (t : TypeId) : Arr (w.alloc (.cells (Array.replicate n (.int .i64 z)) t)) w.heap.size n (fun _ => z) := by
  have b := Blk.new w t (Array.replicate n (.int .i64 z))
  exact ⟨b.lt, fun i hi => ⟨by rw [b.cell]; simp [hi], b.frozen i⟩⟩
theorem Mt.new (w : World) (n : Nat) (t : TypeId) (r c : Nat → Nat) (m : Nat → Nat → Int) : Mt (w.alloc (.cells (Array.replicate n (.slice none 0 0)) t)) w.heap.size w.heap.size n 0 r c m :=
  ⟨Nat.le_refl _, Nat.zero_le _, (arrV_new w n _ t).congr fun i _ => by simp [rowV], fun i hi => absurd hi (by omega), fun i j hi => absurd hi (by omega), fun i hi => absurd hi (by omega), fun i hi => absurd hi (by omega)⟩
end Go.Proofs.YtbceepjjdfpfmaaGreat
