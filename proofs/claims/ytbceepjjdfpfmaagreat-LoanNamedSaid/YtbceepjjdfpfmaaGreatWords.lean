/- Words for lists, sums and bits; what walks lean on. No condition. -/
import Derived.Test.YtbceepjjdfpfmaaGreatProg
import Derived.Test.YtbceepjjdfpfmaaGreatCore
import Derived.Test.YtbceepjjdfpfmaaGreatBaseC
namespace HandSpec
def sumTo (f : Nat → Int) : Nat → Int
 | 0 => 0
 | k+1 => sumTo f k + f k
def anyTo (p : Nat → Bool) : Nat → Bool
 | 0 => false
 | k+1 => anyTo p k || p k
theorem sumTo_bound (f : Nat → Int) (B : Int) (h : ∀ i, -B ≤ f i ∧ f i ≤ B) : ∀ k, -(B * k) ≤ sumTo f k ∧ sumTo f k ≤ B * k
 | 0 => by simp [sumTo]
 | k+1 => by
  have ih := sumTo_bound f B h k
  have := h k
  simp only [sumTo, Int.natCast_add, Int.mul_add]
  constructor <;> omega
theorem anyTo_true {p : Nat → Bool} : ∀ {n : Nat}, anyTo p n = true ↔ ∃ k, k < n ∧ p k = true
 | 0 => by simp [anyTo]
 | n+1 => by
  simp only [anyTo, Bool.or_eq_true, anyTo_true (n := n)]
  constructor
  ·rintro (⟨k, h, hk⟩ | h)
   ·exact ⟨k, by omega, hk⟩
   ·exact ⟨n, by omega, h⟩
  ·rintro ⟨k, h, hk⟩
   rcases Nat.lt_or_eq_of_le (Nat.le_of_lt_succ h) with h' | h'
   ·exact .inl ⟨k, h', hk⟩
   ·exact .inr (h' ▸ hk)
theorem anyTo_false {p : Nat → Bool} {n : Nat} : anyTo p n = false ↔ ∀ k, k < n → p k = false := by
 rw [← Bool.not_eq_true, anyTo_true]
 constructor
 ·intro h k hk
  cases hp : p k
  ·rfl
  ·exact absurd ⟨k, hk, hp⟩ h
 ·rintro h ⟨k, hk, hp⟩
  rw [h k hk] at hp; cases hp
theorem anyTo_step {p : Nat → Bool} {k : Nat} (h : ∀ j, j < k → p j = false) (hk : p k = false) : ∀ j, j < k + 1 → p j = false := fun j hj => by
 rcases Nat.lt_or_eq_of_le (Nat.le_of_lt_succ hj) with h' | h'
 ·exact h j h'
 ·rw [h']; exact hk
/-- The numbers below n that a set names by bits. -/
def ones (n m : Nat) : List Nat := (List.range n).filter fun i => m.testBit i
theorem ones_succ (n m : Nat) : ones (n + 1) m = ones n m ++ if m.testBit n then [n] else [] := by
 unfold ones
 rw [List.range_succ, List.filter_append]
 by_cases h : m.testBit n <;> simp [h]
theorem testBit_div (m k : Nat) : m.testBit k = decide (m / 2 ^ k % 2 = 1) := Nat.testBit_eq_decide_div_mod_eq
theorem ones_more {m k : Nat} (h : m < 2 ^ k) : ∀ d, ones (k + d) m = ones k m
 | 0 => rfl
 | d+1 => by
  rw [← Nat.add_assoc, ones_succ, ones_more h d, Nat.testBit_lt_two_pow (Nat.lt_of_lt_of_le h (Nat.pow_le_pow_right (by omega) (by omega)))]
  simp
theorem ones_of {m k N : Nat} (h : m < 2 ^ k) (h' : m < 2 ^ N) : ones k m = ones N m := by
 rcases Nat.le_total k N with hk | hk
 ·obtain ⟨d, rfl⟩ := Nat.le.dest hk
  exact (ones_more h d).symm
 ·obtain ⟨d, rfl⟩ := Nat.le.dest hk
  exact ones_more h' d
theorem ones_length (n m : Nat) : (ones n m).length ≤ n := by
 unfold ones
 exact Nat.le_trans (List.length_filter_le _ _) (by simp)
/-- Rows of one number. -/
def rows1 (l : List Nat) : List (List Int) := l.map fun i : Nat => [(i : Int)]
theorem rows1_append (a b : List Nat) : rows1 (a ++ b) = rows1 a ++ rows1 b := by simp [rows1]
theorem rows1_length (a : List Nat) : (rows1 a).length = a.length := by simp [rows1]
/-- Rows of two numbers. -/
def rows2 (l : List (Nat × Nat)) : List (List Int) := l.map fun p => [(p.1 : Int), (p.2 : Int)]
theorem rows2_append (a b : List (Nat × Nat)) : rows2 (a ++ b) = rows2 a ++ rows2 b := by simp [rows2]
theorem rows2_length (a : List (Nat × Nat)) : (rows2 a).length = a.length := by simp [rows2]
theorem rowsAt2 (a : List (Nat × Nat)) (k : Nat) (h : k < a.length) : ((rows2 a).getD k []) = [((a[k]).1 : Int), ((a[k]).2 : Int)] := by
 simp [rows2, h]
/-- The element at i. -/
def nth (l : List (Nat × Nat)) (i : Nat) : Nat × Nat := l.getD i (0, 0)
theorem rowsAt_nth (l : List (Nat × Nat)) {i : Nat} (h : i < l.length) : (rows2 l).getD i [] = [((nth l i).1 : Int), ((nth l i).2 : Int)] := by
 rw [rowsAt2 l i h]; simp [nth, h]
theorem nth_get (l : List (Nat × Nat)) {k : Nat} (h : k < l.length) : nth l k = l[k] := by simp [nth, h]
def inB (n lo hi : Int) : Bool := decide (lo ≤ n ∧ n ≤ hi)
def orTo (f : Nat → Nat) : Nat → Nat
 | 0 => 0
 | k+1 => orTo f k ||| f k
theorem sumTo_congr {f g : Nat → Int} : ∀ {k : Nat}, (∀ i, i < k → f i = g i) → sumTo f k = sumTo g k
 | 0, _ => rfl
 | k+1, h => by simp only [sumTo]; rw [sumTo_congr fun i hi => h i (by omega), h k (by omega)]
theorem sumTo_add (f g : Nat → Int) : ∀ k, sumTo (fun i => f i + g i) k = sumTo f k + sumTo g k
 | 0 => rfl
 | k+1 => by simp only [sumTo]; rw [sumTo_add f g k]; omega
theorem sumTo_zero : ∀ k, sumTo (fun _ => 0) k = 0
 | 0 => rfl
 | k+1 => by simp only [sumTo]; rw [sumTo_zero k]; rfl
def upd (h : Nat → Int) (k : Nat) (z : Int) : Nat → Int := fun i => if i = k then z else h i
theorem upd_same (h : Nat → Int) (k : Nat) (z : Int) : upd h k z k = z := by simp [upd]
theorem upd_other (h : Nat → Int) {k i : Nat} (z : Int) (e : i ≠ k) : upd h k z i = h i := by simp [upd, e]
theorem sumTo_succ (f : Nat → Int) (k : Nat) : sumTo f (k+1) = sumTo f k + f k := rfl
namespace P
theorem sumTo_bd {f : Nat → Int} {B : Int} : ∀ k, (∀ i, i < k → -B ≤ f i ∧ f i ≤ B) → -(B * k) ≤ sumTo f k ∧ sumTo f k ≤ B * k
 | 0, _ => by simp [sumTo]
 | k+1, h => by
  have ih := sumTo_bd k fun i hi => h i (by omega)
  have := h k (by omega)
  simp only [sumTo, Int.natCast_add, Int.mul_add]
  constructor <;> omega
theorem orTo_lt {f : Nat → Nat} {n : Nat} : ∀ k, (∀ i, i < k → f i < 2 ^ n) → orTo f k < 2 ^ n
 | 0, _ => Nat.two_pow_pos n
 | k+1, h => Nat.or_lt_two_pow (orTo_lt k fun i hi => h i (by omega)) (h k (by omega))
theorem orTo_bit {f : Nat → Nat} {h : Nat} : ∀ k, (orTo f k).testBit h = anyTo (fun i => (f i).testBit h) k
 | 0 => by simp [orTo, anyTo]
 | k+1 => by simp only [orTo, anyTo, Nat.testBit_or, orTo_bit k]
end P
end HandSpec
namespace Go.Proofs.YtbceepjjdfpfmaaGreat
open Go.RowKit HandSpec
set_option maxHeartbeats 1600000
set_option maxRecDepth 100000
theorem ret_int {k : IntKind} {a b : Int} (h : a = b) : Ending.returned (.int k a) = .returned (.int k b) := by rw [h]
theorem ret_bool {a b : Bool} (h : a = b) : Ending.returned (.bool a) = .returned (.bool b) := by rw [h]
theorem same_addr {A : Option Addr} {b o b' o' : Nat} (h : A = some ⟨b, o, none⟩) (h' : A = some ⟨b', o', none⟩) : b' = b ∧ o' = o := by
 rw [h] at h'; simp at h'; exact ⟨h'.1.symm, h'.2.symm⟩
theorem elem22 : ElemOk Tryz.prog 22 3 1 8 := ⟨Tryz.underlying22, by
 obtain ⟨i, hi, h1, h2, h3⟩ := info_parts (show (Tryz.prog.info? 3).map (fun i => (i.zero, i.size, i.bytes)) = some (some (.int .i64 0), 1, 8) by kernel_rfl)
 exact ⟨i, _, hi, h1, h2, h3, rfl⟩, by omega, by omega⟩
theorem _root_.Go.Rd.atP {w : World} {A : Option Addr} {l : List (Nat × Nat)} (h : Rd w A l.length 2 (rowsAt (rows2 l))) {k : Nat} (hk : k < l.length) :
  ∃ b o, A = some ⟨b, o, none⟩ ∧ b < w.heap.size ∧ w.cell? ⟨b, o + k * 2, none⟩ = some (.int .i64 ((nth l k).1 : Int)) ∧ w.cell? ⟨b, o + k * 2 + 1, none⟩ = some (.int .i64 ((nth l k).2 : Int)) := by
 obtain ⟨b, o, hA, hb, h0, h1⟩ := h.at2 hk
 unfold rowsAt at h0 h1
 rw [rowsAt_nth l hk] at h0 h1
 exact ⟨b, o, hA, hb, h0, h1⟩
theorem _root_.Go.Rd.atN {w : World} {A : Option Addr} {l : List Nat} (h : Rd w A l.length 1 (rowsAt (rows1 l))) {k : Nat} (hk : k < l.length) :
  ∃ b o, A = some ⟨b, o, none⟩ ∧ b < w.heap.size ∧ w.cell? ⟨b, o + k, none⟩ = some (.int .i64 ((l.getD k 0 : Nat) : Int)) := by
 obtain ⟨b, o, hA, hb, h0⟩ := h.at1 hk
 refine ⟨b, o, hA, hb, ?_⟩
 rw [h0]
 simp [rowsAt, rows1, hk]
theorem in_any (n lo hi : Int) (w : World) : Calls Tryz.prog 101 #[.int .i64 n, .int .i64 lo, .int .i64 hi] w fun e w' => e = .returned (.bool (inB n lo hi)) ∧ w = w' := by
 by_cases h1 : lo ≤ n
 ·by_cases h2 : n ≤ hi
  all_goals
   go_enter Tryz.func101, Tryz.ntmps101
   go_wp2
   go_ret
   exact ⟨ret_bool (by simp [inB, h1, h2]), rfl⟩
 ·go_enter Tryz.func101, Tryz.ntmps101
  go_wp2
  go_ret
  exact ⟨ret_bool (by simp [inB]; omega), rfl⟩
theorem blk2 {C D : Array Value} {t u : TypeId} (w : World) : Blk ((w.alloc (.cells C t)).alloc (.cells D u)).drew w.heap.size t C ∧ Blk ((w.alloc (.cells C t)).alloc (.cells D u)).drew (w.heap.size + 1) u D :=
 ⟨(Blk.new w t C).ext ((Ext.refl _).alloc _).drew, by have := (Blk.new (w.alloc (.cells C t)) u D).ext (Ext.refl _).drew; simpa using this⟩
theorem enters_ {f : FuncId} {fn : Func} {c : Code} (hf : Tryz.prog.funcs[f]? = some fn) (hn : (fn.name == "runtime.NumGoroutine") = false) (hb : fn.body = some c) (args : Array Value) (w : World) : (callFunc f args).run Tryz.prog w = .ok (.enter f args) w := by
 simp [callFunc, hf, hb, program, Sem.run]
 simpa using hn
end Go.Proofs.YtbceepjjdfpfmaaGreat
