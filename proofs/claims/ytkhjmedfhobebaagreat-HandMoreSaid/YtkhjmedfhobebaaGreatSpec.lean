/- What the functions of the layer hand and of its reference compute, as plain functions; when a watch has a truth. No condition. -/

namespace HandSpec

/-- A watch: how many counts, bookings and spells; what stands at each place. -/
structure WD where
 hours : Int
 allow : Int
 hands : Int
 cn : Nat
 bn : Nat
 sn : Nat
 c : Nat → Nat → Int
 b : Nat → Nat → Int
 s : Nat → Nat → Int

def sumTo (f : Nat → Int) : Nat → Int
 | 0 => 0
 | k+1 => sumTo f k + f k
def anyTo (p : Nat → Bool) : Nat → Bool
 | 0 => false
 | k+1 => anyTo p k || p k

def offB (n lo hi : Int) : Bool := decide (n < lo ∨ hi < n)

theorem sumTo_bound (f : Nat → Int) (B : Int) (h : ∀ i, -B ≤ f i ∧ f i ≤ B) : ∀ k, -(B * k) ≤ sumTo f k ∧ sumTo f k ≤ B * k
 | 0 => by simp [sumTo]
 | k+1 => by
  have ih := sumTo_bound f B h k
  have := h k
  simp only [sumTo, Int.natCast_add, Int.mul_add]
  constructor <;> omega
theorem anyTo_true {p : Nat → Bool} : ∀ {n : Nat}, anyTo p n = true ↔ ∃ k, k < n ∧ p k = true
 | 0 => by simp [anyTo]
 | n+1 => by
  simp only [anyTo, Bool.or_eq_true, anyTo_true (n := n)]
  constructor
  ·rintro (⟨k, h, hk⟩ | h)
   ·exact ⟨k, by omega, hk⟩
   ·exact ⟨n, by omega, h⟩
  ·rintro ⟨k, h, hk⟩
   rcases Nat.lt_or_eq_of_le (Nat.le_of_lt_succ h) with h' | h'
   ·exact .inl ⟨k, h', hk⟩
   ·exact .inr (h' ▸ hk)
theorem anyTo_false {p : Nat → Bool} {n : Nat} : anyTo p n = false ↔ ∀ k, k < n → p k = false := by
 rw [← Bool.not_eq_true, anyTo_true]
 constructor
 ·intro h k hk
  cases hp : p k
  ·rfl
  ·exact absurd ⟨k, hk, hp⟩ h
 ·rintro h ⟨k, hk, hp⟩
  rw [h k hk] at hp; cases hp
theorem anyTo_step {p : Nat → Bool} {k : Nat} (h : ∀ j, j < k → p j = false) (hk : p k = false) : ∀ j, j < k + 1 → p j = false := fun j hj => by
 rcases Nat.lt_or_eq_of_le (Nat.le_of_lt_succ hj) with h' | h'
 ·exact h j h'
 ·rw [h']; exact hk

/-- What a right watch gives. -/
structure Ok (x : WD) : Prop where
 hands : 1 ≤ x.hands ∧ x.hands ≤ 6
 cn : 1 ≤ x.cn ∧ x.cn ≤ 8
 bn : x.bn ≤ 10
 sn : x.sn ≤ 12
 hours : 1 ≤ x.hours ∧ x.hours ≤ 60
 allow : 0 ≤ x.allow ∧ x.allow ≤ 20
 hour : ∀ k, k < x.cn → 0 ≤ x.c k 0 ∧ x.c k 0 ≤ x.hours
 lo : ∀ k, k < x.cn → 0 ≤ x.c k 1 ∧ x.c k 1 ≤ 500
 hi : ∀ k, k < x.cn → 0 ≤ x.c k 2 ∧ x.c k 2 ≤ 500
 bhour : ∀ k, k < x.bn → 0 ≤ x.b k 0 ∧ x.b k 0 ≤ x.hours
 bsack : ∀ k, k < x.bn → -200 ≤ x.b k 1 ∧ x.b k 1 ≤ 200
 shand : ∀ k, k < x.sn → 0 ≤ x.s k 0 ∧ x.s k 0 ≤ x.hands - 1
 le : ∀ k, k < x.cn → x.c k 1 ≤ x.c k 2
 inc : ∀ k, k + 1 < x.cn → x.c k 0 < x.c (k+1) 0
 bnz : ∀ k, k < x.bn → x.b k 1 ≠ 0
 shour : ∀ k, k < x.sn → (0 ≤ x.s k 1 ∧ x.s k 1 ≤ x.hours) ∧ (0 ≤ x.s k 2 ∧ x.s k 2 ≤ x.hours)
 sord : ∀ k, k < x.sn → x.s k 1 < x.s k 2

namespace R
/-- What is booked after count a and until count b: by hours. -/
def bookf (x : WD) (a b : Nat) (i : Nat) : Int := if x.c a 0 < x.b i 0 ∧ x.b i 0 ≤ x.c b 0 then x.b i 1 else 0
def booked (x : WD) (a b : Nat) : Int := sumTo (bookf x a b) x.bn
def hours (x : WD) (a b : Nat) : Int := x.c b 0 - x.c a 0
def gap (x : WD) (a b : Nat) : Int := x.c a 1 + booked x a b - x.allow * hours x a b - x.c b 2
/-- Spell k is a hand's, and lies in interval i. -/
def isf (x : WD) (h : Int) (i k : Nat) : Bool := decide (x.s k 0 = h) && (decide (x.s k 1 < x.c (i+1) 0) && decide (x.c i 0 < x.s k 2))
def isat (x : WD) (h : Int) (i : Nat) : Bool := anyTo (isf x h i) x.sn
def is (x : WD) (a b : Nat) (h : Int) : Bool := anyTo (fun d => isat x h (a + d)) (b - a)
/-- Somebody of some hands, by bits, is there in an interval. -/
def can (x : WD) (set : Nat) (i : Nat) : Bool := anyTo (fun h => set.testBit h && is x i (i+1) h) x.hands.toNat

theorem booked_bound {x : WD} (h : Ok x) (a b : Nat) : -2000 ≤ booked x a b ∧ booked x a b ≤ 2000 := by
 have key : ∀ k, k ≤ x.bn → -(200 * (k : Int)) ≤ sumTo (bookf x a b) k ∧ sumTo (bookf x a b) k ≤ 200 * k := by
  intro k
  induction k with
  | zero => simp [sumTo]
  | succ k ih =>
   intro hk
   have := ih (by omega)
   have hb := h.bsack k (by omega)
   simp only [sumTo, bookf]
   split <;> omega
 have := key x.bn (Nat.le_refl _)
 have := h.bn
 unfold booked
 omega
theorem booked_bound' {x : WD} (h : Ok x) (a b : Nat) (k : Nat) (hk : k ≤ x.bn) : -2000 ≤ sumTo (bookf x a b) k ∧ sumTo (bookf x a b) k ≤ 2000 := by
 have h' : Ok { x with bn := k } := { h with bn := Nat.le_trans hk h.bn, bhour := fun j hj => h.bhour j (by simp at hj; omega), bsack := fun j hj => h.bsack j (by simp at hj; omega), bnz := fun j hj => h.bnz j (by simp at hj; omega) }
 exact booked_bound h' a b
end R

/-- The numbers below n that a set names by bits. -/
def ones (n m : Nat) : List Nat := (List.range n).filter fun i => m.testBit i
theorem ones_succ (n m : Nat) : ones (n + 1) m = ones n m ++ if m.testBit n then [n] else [] := by
 unfold ones
 rw [List.range_succ, List.filter_append]
 by_cases h : m.testBit n <;> simp [h]
theorem testBit_div (m k : Nat) : m.testBit k = decide (m / 2 ^ k % 2 = 1) := Nat.testBit_eq_decide_div_mod_eq
theorem ones_more {m k : Nat} (h : m < 2 ^ k) : ∀ d, ones (k + d) m = ones k m
 | 0 => rfl
 | d+1 => by
  rw [← Nat.add_assoc, ones_succ, ones_more h d, Nat.testBit_lt_two_pow (Nat.lt_of_lt_of_le h (Nat.pow_le_pow_right (by omega) (by omega)))]
  simp
theorem ones_of {m k N : Nat} (h : m < 2 ^ k) (h' : m < 2 ^ N) : ones k m = ones N m := by
 rcases Nat.le_total k N with hk | hk
 ·obtain ⟨d, rfl⟩ := Nat.le.dest hk
  exact (ones_more h d).symm
 ·obtain ⟨d, rfl⟩ := Nat.le.dest hk
  exact ones_more h' d
theorem ones_length (n m : Nat) : (ones n m).length ≤ n := by
 unfold ones
 exact Nat.le_trans (List.length_filter_le _ _) (by simp)
/-- Rows of one number. -/
def rows1 (l : List Nat) : List (List Int) := l.map fun i : Nat => [(i : Int)]
theorem rows1_append (a b : List Nat) : rows1 (a ++ b) = rows1 a ++ rows1 b := by simp [rows1]
theorem rows1_length (a : List Nat) : (rows1 a).length = a.length := by simp [rows1]

/-- Rows of two numbers. -/
def rows2 (l : List (Nat × Nat)) : List (List Int) := l.map fun p => [(p.1 : Int), (p.2 : Int)]
theorem rows2_append (a b : List (Nat × Nat)) : rows2 (a ++ b) = rows2 a ++ rows2 b := by simp [rows2]
theorem rows2_length (a : List (Nat × Nat)) : (rows2 a).length = a.length := by simp [rows2]
theorem rowsAt2 (a : List (Nat × Nat)) (k : Nat) (h : k < a.length) : ((rows2 a).getD k []) = [((a[k]).1 : Int), ((a[k]).2 : Int)] := by
 simp [rows2, h]

/-- All stretches from i on, below n, by From, then by To. -/
def pairsTo (n : Nat) (i : Nat) : List (Nat × Nat) := (List.range n).filterMap fun k => if i < k then some (i, k) else none
def stretches (n : Nat) : List (Nat × Nat) := (List.range n).flatMap (pairsTo n)
namespace R
def right (x : WD) (a b : Int) : Int := if offB a 0 (x.cn - 1) || offB b 0 (x.cn - 1) then 1 else if b ≤ a then 4 else 0
def there (x : WD) (a b : Nat) : List Nat := (List.range x.hands.toNat).filter fun h : Nat => is x a b h
def short (x : WD) : List (Nat × Nat) := (stretches x.cn).filter fun p => decide (0 < gap x p.1 p.2)
/-- What a count can have, after what the one before can have. -/
def nxt (x : WD) (m i : Nat) (p : Int × Int) : Int × Int :=
 (if can x m i then x.c (i+1) 1 else max (x.c (i+1) 1) (p.1 + booked x i (i+1) - x.allow * hours x i (i+1)), min (x.c (i+1) 2) (p.2 + booked x i (i+1)))
def fw (x : WD) (m : Nat) : Nat → Int × Int
 | 0 => (x.c 0 1, x.c 0 2)
 | i+1 => nxt x m i (fw x m i)
def fwOk (x : WD) (m : Nat) : Bool := !anyTo (fun i => decide ((fw x m (i+1)).2 < (fw x m (i+1)).1)) (x.cn - 1)
end R
end HandSpec
namespace HandSpec

theorem pairsTo_succ (k i : Nat) : pairsTo (k+1) i = pairsTo k i ++ if i < k then [(i, k)] else [] := by
 unfold pairsTo
 rw [List.range_succ, List.filterMap_append]
 by_cases h : i < k <;> simp [h]
theorem pairsTo_empty (i : Nat) : ∀ d, d ≤ i + 1 → pairsTo d i = []
 | 0, _ => rfl
 | d+1, h => by rw [pairsTo_succ, pairsTo_empty i d (by omega), if_neg (by omega)]; rfl
theorem pairsTo_length (i : Nat) : ∀ k, (pairsTo k i).length ≤ k
 | 0 => by simp [pairsTo]
 | k+1 => by
  rw [pairsTo_succ, List.length_append]
  have := pairsTo_length i k
  split <;> simp <;> omega
def stretchesTo (n i : Nat) : List (Nat × Nat) := (List.range i).flatMap (pairsTo n)
theorem stretchesTo_succ (n i : Nat) : stretchesTo n (i+1) = stretchesTo n i ++ pairsTo n i := by
 unfold stretchesTo
 rw [List.range_succ, List.flatMap_append]; simp
theorem stretchesTo_length (n : Nat) : ∀ i, (stretchesTo n i).length ≤ i * n
 | 0 => by simp [stretchesTo]
 | i+1 => by
  rw [stretchesTo_succ, List.length_append, Nat.add_mul, Nat.one_mul]
  exact Nat.add_le_add (stretchesTo_length n i) (pairsTo_length i n)
theorem mem_pairsTo {n i : Nat} {p : Nat × Nat} : p ∈ pairsTo n i ↔ p.1 = i ∧ i < p.2 ∧ p.2 < n := by
 unfold pairsTo
 simp only [List.mem_filterMap, List.mem_range]
 constructor
 ·rintro ⟨k, hk, h⟩
  by_cases hik : i < k
  ·simp [hik] at h; subst h; exact ⟨rfl, hik, hk⟩
  ·simp [hik] at h
 ·rintro ⟨h1, h2, h3⟩
  exact ⟨p.2, h3, by rw [if_pos h2, ← h1]⟩
theorem mem_stretches {n : Nat} {p : Nat × Nat} : p ∈ stretches n ↔ p.1 < p.2 ∧ p.2 < n := by
 unfold stretches
 simp only [List.mem_flatMap, List.mem_range, mem_pairsTo]
 constructor
 ·rintro ⟨i, hi, h1, h2, h3⟩; exact ⟨h1 ▸ h2, h3⟩
 ·rintro ⟨h1, h2⟩; exact ⟨p.1, by omega, rfl, h1, h2⟩
theorem stretches_length (n : Nat) : (stretches n).length ≤ n * n := stretchesTo_length n n

/-- The element at i. -/
def nth (l : List (Nat × Nat)) (i : Nat) : Nat × Nat := l.getD i (0, 0)
theorem rowsAt_nth (l : List (Nat × Nat)) {i : Nat} (h : i < l.length) : (rows2 l).getD i [] = [((nth l i).1 : Int), ((nth l i).2 : Int)] := by
 rw [rowsAt2 l i h]; simp [nth, h]
theorem nth_get (l : List (Nat × Nat)) {k : Nat} (h : k < l.length) : nth l k = l[k] := by simp [nth, h]
theorem find_none {l : List (Nat × Nat)} {f : Nat × Nat → Bool} (h : ∀ j, j < l.length → f (nth l j) = false) : l.find? f = none := by
 rw [List.find?_eq_none]
 intro p hp
 obtain ⟨j, hj, rfl⟩ := List.getElem_of_mem hp
 have := h j hj
 rw [nth_get l hj] at this
 simp [this]
theorem find_first {l : List (Nat × Nat)} {f : Nat × Nat → Bool} {k : Nat} (hk : k < l.length) (h : ∀ j, j < k → f (nth l j) = false) (hf : f (nth l k) = true) : l.find? f = some (nth l k) := by
 rw [nth_get l hk] at hf ⊢
 rw [List.find?_eq_some_iff_getElem]
 refine ⟨hf, k, hk, rfl, fun j hj => ?_⟩
 have := h j hj
 rw [nth_get l (by omega)] at this
 simp [this]
namespace R
/-- Stretch k of a list lies within stretch i. -/
def inner (l : List (Nat × Nat)) (i k : Nat) : Bool := decide (k ≠ i) && (!decide ((nth l k).1 < (nth l i).1) && !decide ((nth l i).2 < (nth l k).2))
def isSm (l : List (Nat × Nat)) (i : Nat) : Bool := !anyTo (inner l i) l.length
def smallTo (l : List (Nat × Nat)) (n : Nat) : List (Nat × Nat) := ((List.range n).filter (isSm l)).map (nth l)
def smallest (x : WD) : List (Nat × Nat) := smallTo (short x) (short x).length
theorem smallTo_succ (l : List (Nat × Nat)) (n : Nat) : smallTo l (n+1) = smallTo l n ++ if isSm l n then [nth l n] else [] := by
 unfold smallTo
 rw [List.range_succ, List.filter_append, List.map_append]
 by_cases h : isSm l n <;> simp [h]
theorem smallTo_length (l : List (Nat × Nat)) (n : Nat) : (smallTo l n).length ≤ n := by
 unfold smallTo
 rw [List.length_map]
 exact Nat.le_trans (List.length_filter_le _ _) (by simp)
theorem mem_short {x : WD} {p : Nat × Nat} : p ∈ short x ↔ (p.1 < p.2 ∧ p.2 < x.cn) ∧ 0 < gap x p.1 p.2 := by
 unfold short; simp [mem_stretches]
theorem short_length (x : WD) : (short x).length ≤ x.cn * x.cn := Nat.le_trans (List.length_filter_le _ _) (stretches_length _)
/-- The first stretch that shows a clash. -/
def clashB (x : WD) (p : Nat × Nat) : Bool := decide (x.c p.1 2 + booked x p.1 p.2 < x.c p.2 1) || (decide (0 < gap x p.1 p.2) && (there x p.1 p.2).isEmpty)
def clashes (x : WD) : Option (Nat × Nat) := (stretches x.cn).find? (clashB x)
/-- What forward walks: bounds while no span is empty. -/
theorem fw_bound {x : WD} (h : Ok x) (m : Nat) : ∀ k, k < x.cn → (∀ j, j < k → decide ((fw x m (j+1)).2 < (fw x m (j+1)).1) = false) → (0 ≤ (fw x m k).1 ∧ (fw x m k).1 ≤ (fw x m k).2) ∧ (fw x m k).2 ≤ 500
 | 0, hk, _ => ⟨⟨(h.lo 0 hk).1, h.le 0 hk⟩, (h.hi 0 hk).2⟩
 | k+1, hk, hj => by
  have h1 := h.lo (k+1) hk
  have h2 := h.hi (k+1) hk
  have h3 := hj k (by omega)
  simp only [decide_eq_false_iff_not, Int.not_lt] at h3
  refine ⟨⟨?_, h3⟩, ?_⟩
  ·simp only [fw, nxt]
   split <;> omega
  ·simp only [fw, nxt]
   omega
def rowsF (x : WD) (m k : Nat) : List (List Int) := (List.range (k+1)).map fun i => [(fw x m i).1, (fw x m i).2]
theorem rowsF_succ (x : WD) (m k : Nat) : rowsF x m (k+1) = rowsF x m k ++ [[(fw x m (k+1)).1, (fw x m (k+1)).2]] := by
 unfold rowsF
 rw [List.range_succ (n := k+1), List.map_append]; rfl
theorem rowsF_length (x : WD) (m k : Nat) : (rowsF x m k).length = k + 1 := by simp [rowsF]
theorem rowsF_at (x : WD) (m k i : Nat) (h : i ≤ k) : (rowsF x m k).getD i [] = [(fw x m i).1, (fw x m i).2] := by
 have : i < k + 1 := by omega
 simp [rowsF, this]
end R
end HandSpec
namespace HandSpec
def inB (n lo hi : Int) : Bool := decide (lo ≤ n ∧ n ≤ hi)
def orTo (f : Nat → Nat) : Nat → Nat
 | 0 => 0
 | k+1 => orTo f k ||| f k
namespace P
/-- Which hands are there in a stretch, by bits. -/
def thf (x : WD) (a b : Nat) (k : Nat) : Nat := if x.s k 1 < x.c b 0 ∧ x.c a 0 < x.s k 2 then 2 ^ (x.s k 0).toNat else 0
def th (x : WD) (a b : Nat) : Nat := orTo (thf x a b) x.sn
/-- What is booked in interval i. -/
def sm (x : WD) (i : Nat) : Int := if i + 1 < x.cn then R.booked x i (i+1) else 0
def books (x : WD) (a b : Nat) : Int := sumTo (fun d => sm x (a + d)) (b - a)
def gap (x : WD) (a b : Nat) : Int := x.c a 1 + books x a b - x.allow * (x.c b 0 - x.c a 0) - x.c b 2
theorem sm_bound {x : WD} (h : Ok x) (i : Nat) : -2000 ≤ sm x i ∧ sm x i ≤ 2000 := by
 unfold sm
 split
 ·exact R.booked_bound h i (i+1)
 ·omega
theorem sumTo_bd {f : Nat → Int} {B : Int} : ∀ k, (∀ i, i < k → -B ≤ f i ∧ f i ≤ B) → -(B * k) ≤ sumTo f k ∧ sumTo f k ≤ B * k
 | 0, _ => by simp [sumTo]
 | k+1, h => by
  have ih := sumTo_bd k fun i hi => h i (by omega)
  have := h k (by omega)
  simp only [sumTo, Int.natCast_add, Int.mul_add]
  constructor <;> omega
theorem books_bound {x : WD} (h : Ok x) (a : Nat) (k : Nat) (hk : k ≤ 8) : -16000 ≤ sumTo (fun d => sm x (a + d)) k ∧ sumTo (fun d => sm x (a + d)) k ≤ 16000 := by
 have := sumTo_bd (f := fun d => sm x (a + d)) (B := 2000) k fun i _ => sm_bound h (a + i)
 omega
theorem orTo_lt {f : Nat → Nat} {n : Nat} : ∀ k, (∀ i, i < k → f i < 2 ^ n) → orTo f k < 2 ^ n
 | 0, _ => Nat.two_pow_pos n
 | k+1, h => Nat.or_lt_two_pow (orTo_lt k fun i hi => h i (by omega)) (h k (by omega))
theorem thf_lt {x : WD} (h : Ok x) (a b : Nat) {k : Nat} (hk : k < x.sn) : thf x a b k < 2 ^ x.hands.toNat := by
 unfold thf
 split
 ·have := h.shand k hk
  exact Nat.pow_lt_pow_right (by omega) (by omega)
 ·exact Nat.two_pow_pos _
theorem th_lt {x : WD} (h : Ok x) (a b : Nat) : th x a b < 64 := by
 have h1 := orTo_lt (f := thf x a b) (n := x.hands.toNat) x.sn fun i hi => thf_lt h a b hi
 have h2 := h.hands
 have h3 : 2 ^ x.hands.toNat ≤ 2 ^ 6 := Nat.pow_le_pow_right (by omega) (by omega)
 exact Nat.lt_of_lt_of_le h1 h3
end P
end HandSpec
namespace HandSpec
theorem Ok.lt {x : WD} (h : Ok x) : ∀ {i j : Nat}, i < j → j < x.cn → x.c i 0 < x.c j 0
 | i, j + 1, h1, h2 => by
  rcases Nat.lt_or_eq_of_le (Nat.le_of_lt_succ h1) with h3 | h3
  ·exact Int.lt_trans (Ok.lt h h3 (by omega)) (h.inc j h2)
  ·subst h3; exact h.inc i h2
theorem Ok.leq {x : WD} (h : Ok x) {i j : Nat} (hij : i ≤ j) (hj : j < x.cn) : x.c i 0 ≤ x.c j 0 := by
 rcases Nat.lt_or_eq_of_le hij with h1 | h1
 ·exact Int.le_of_lt (h.lt h1 hj)
 ·subst h1; exact Int.le_refl _
theorem sumTo_congr {f g : Nat → Int} : ∀ {k : Nat}, (∀ i, i < k → f i = g i) → sumTo f k = sumTo g k
 | 0, _ => rfl
 | k+1, h => by simp only [sumTo]; rw [sumTo_congr fun i hi => h i (by omega), h k (by omega)]
theorem sumTo_add (f g : Nat → Int) : ∀ k, sumTo (fun i => f i + g i) k = sumTo f k + sumTo g k
 | 0 => rfl
 | k+1 => by simp only [sumTo]; rw [sumTo_add f g k]; omega
theorem sumTo_zero : ∀ k, sumTo (fun _ => 0) k = 0
 | 0 => rfl
 | k+1 => by simp only [sumTo]; rw [sumTo_zero k]; rfl
namespace R
theorem booked_add {x : WD} (h : Ok x) {a b c : Nat} (hab : a ≤ b) (hbc : b ≤ c) (hc : c < x.cn) : booked x a c = booked x a b + booked x b c := by
 unfold booked
 rw [← sumTo_add]
 refine sumTo_congr fun i _ => ?_
 have h1 := h.leq hab (by omega)
 have h2 := h.leq hbc hc
 unfold bookf
 by_cases p : x.c a 0 < x.b i 0 <;> by_cases q : x.b i 0 ≤ x.c b 0 <;> by_cases r : x.b i 0 ≤ x.c c 0 <;> by_cases s : x.c b 0 < x.b i 0 <;> simp [p, q, r, s] <;> omega
theorem booked_self (x : WD) (a : Nat) : booked x a a = 0 := by
 unfold booked
 rw [← sumTo_zero x.bn]
 refine sumTo_congr fun i _ => ?_
 unfold bookf
 rw [if_neg (by omega)]
end R
namespace P
theorem books_eq {x : WD} (h : Ok x) {a b : Nat} (hab : a ≤ b) (hb : b < x.cn) : books x a b = R.booked x a b := by
 have key : ∀ d, a + d < x.cn → sumTo (fun d => sm x (a + d)) d = R.booked x a (a + d) := by
  intro d
  induction d with
  | zero => intro _; exact (R.booked_self x a).symm
  | succ d ih =>
   intro hd
   simp only [sumTo]
   rw [ih (by omega), R.booked_add h (show a ≤ a + d by omega) (show a + d ≤ a + (d + 1) by omega) hd]
   simp only [sm, show a + d + 1 = a + (d + 1) from rfl, hd, if_true]
 have := key (b - a) (by omega)
 rw [show a + (b - a) = b by omega] at this
 exact this
theorem gap_eq {x : WD} (h : Ok x) {a b : Nat} (hab : a ≤ b) (hb : b < x.cn) : gap x a b = R.gap x a b := by
 unfold gap R.gap R.hours
 rw [books_eq h hab hb]
theorem orTo_bit {f : Nat → Nat} {h : Nat} : ∀ k, (orTo f k).testBit h = anyTo (fun i => (f i).testBit h) k
 | 0 => by simp [orTo, anyTo]
 | k+1 => by simp only [orTo, anyTo, Nat.testBit_or, orTo_bit k]
theorem th_lt' {x : WD} (h : Ok x) (a b : Nat) : th x a b < 2 ^ x.hands.toNat := orTo_lt (f := thf x a b) (n := x.hands.toNat) x.sn fun _ hi => thf_lt h a b hi
/-- The bits of a stretch are the hands that are there in one of its intervals. -/
theorem th_bit {x : WD} (hx : Ok x) {a b : Nat} (hab : a < b) (hb : b < x.cn) (h : Nat) : (th x a b).testBit h = R.is x a b h := by
 unfold th
 rw [orTo_bit, Bool.eq_iff_iff, anyTo_true]
 unfold R.is
 rw [anyTo_true]
 constructor
 ·rintro ⟨k, hk, hb1⟩
  unfold thf at hb1
  split at hb1
  ·next hc =>
   rw [Nat.testBit_two_pow] at hb1
   simp only [decide_eq_true_eq] at hb1
   have hs := hx.shand k hk
   have ho := hx.sord k hk
   -- the first interval whose end is after the spell's beginning
   have key : ∀ d, a + d < x.cn → x.s k 1 < x.c (a + d) 0 → 0 < d → ∃ e, e < d ∧ x.s k 1 < x.c (a + e + 1) 0 ∧ x.c (a + e) 0 < x.s k 2 := by
    intro d
    induction d with
    | zero => intro _ _ h0; omega
    | succ d ih =>
     intro h1 h2 _
     by_cases q : x.s k 1 < x.c (a + d) 0 ∧ 0 < d
     ·obtain ⟨e, he, h3⟩ := ih (by omega) q.1 q.2
      exact ⟨e, by omega, h3⟩
     ·refine ⟨d, by omega, h2, ?_⟩
      by_cases hd : 0 < d
      ·have : ¬ x.s k 1 < x.c (a + d) 0 := fun h => q ⟨h, hd⟩
       omega
      ·obtain rfl : d = 0 := by omega
       exact hc.2
   obtain ⟨e, he, h1, h2⟩ := key (b - a) (by omega) (by rw [show a + (b - a) = b by omega]; exact hc.1) (by omega)
   refine ⟨e, he, ?_⟩
   unfold R.isat
   rw [anyTo_true]
   refine ⟨k, hk, ?_⟩
   simp only [R.isf, Bool.and_eq_true, decide_eq_true_eq]
   exact ⟨by omega, h1, h2⟩
  ·simp at hb1
 ·rintro ⟨e, he, h1⟩
  unfold R.isat at h1
  rw [anyTo_true] at h1
  obtain ⟨k, hk, h2⟩ := h1
  simp only [R.isf, Bool.and_eq_true, decide_eq_true_eq] at h2
  refine ⟨k, hk, ?_⟩
  have hs := hx.shand k hk
  unfold thf
  have g1 := hx.leq (show a + e + 1 ≤ b by omega) hb
  have g2 := hx.leq (show a ≤ a + e by omega) (by omega)
  rw [if_pos ⟨by omega, by omega⟩, Nat.testBit_two_pow]
  simp; omega
end P
namespace R
/-- Somebody of some hands is there in a stretch. -/
def met (x : WD) (m a b : Nat) : Bool := anyTo (fun d => can x m (a + d)) (b - a)
theorem met_true {x : WD} {m a b : Nat} : met x m a b = true ↔ ∃ i, a ≤ i ∧ i < b ∧ can x m i = true := by
 unfold met
 rw [anyTo_true]
 constructor
 ·rintro ⟨d, hd, h⟩; exact ⟨a + d, by omega, by omega, h⟩
 ·rintro ⟨i, h1, h2, h⟩; exact ⟨i - a, by omega, by rw [show a + (i - a) = i by omega]; exact h⟩
theorem met_false {x : WD} {m a b : Nat} : met x m a b = false ↔ ∀ i, a ≤ i → i < b → can x m i = false := by
 rw [← Bool.not_eq_true, met_true]
 constructor
 ·intro h i h1 h2
  cases hc : can x m i
  ·rfl
  ·exact absurd ⟨i, h1, h2, hc⟩ h
 ·rintro h ⟨i, h1, h2, hc⟩
  rw [h i h1 h2] at hc; cases hc
theorem is_one (x : WD) (i : Nat) (h : Int) : is x i (i+1) h = isat x h i := by
 unfold is
 rw [show i + 1 - i = 1 by omega]
 simp [anyTo]
theorem is_true {x : WD} {a b : Nat} {h : Int} : is x a b h = true ↔ ∃ i, a ≤ i ∧ i < b ∧ isat x h i = true := by
 unfold is
 rw [anyTo_true]
 constructor
 ·rintro ⟨d, hd, h⟩; exact ⟨a + d, by omega, by omega, h⟩
 ·rintro ⟨i, h1, h2, h⟩; exact ⟨i - a, by omega, by rw [show a + (i - a) = i by omega]; exact h⟩
theorem met_th {x : WD} (hx : Ok x) {a b : Nat} (hab : a < b) (hb : b < x.cn) (m : Nat) : met x m a b = decide (P.th x a b &&& m ≠ 0) := by
 rw [Bool.eq_iff_iff, met_true, decide_eq_true_eq]
 constructor
 ·rintro ⟨i, h1, h2, hc⟩ h0
  unfold can at hc
  rw [anyTo_true] at hc
  obtain ⟨h, hh, hb1⟩ := hc
  simp only [Bool.and_eq_true, is_one] at hb1
  have := congrArg (fun n => Nat.testBit n h) h0
  simp only [Nat.testBit_and, Nat.zero_testBit, P.th_bit hx hab hb, hb1.1, Bool.and_true] at this
  rw [is_true.2 ⟨i, h1, h2, hb1.2⟩] at this
  cases this
 ·intro h0
  obtain ⟨h, hh⟩ : ∃ h, (P.th x a b &&& m).testBit h = true := by
   refine Classical.byContradiction fun hn => h0 (Nat.eq_of_testBit_eq fun i => ?_)
   rw [Nat.zero_testBit]
   cases hc : (P.th x a b &&& m).testBit i
   ·rfl
   ·exact absurd ⟨i, hc⟩ hn
  rw [Nat.testBit_and, Bool.and_eq_true] at hh
  have hlt : h < x.hands.toNat := by
   rcases Nat.lt_or_ge h x.hands.toNat with h1 | h1
   ·exact h1
   ·have := Nat.testBit_lt_two_pow (Nat.lt_of_lt_of_le (P.th_lt' hx a b) (Nat.pow_le_pow_right (by omega) h1))
    rw [this] at hh; simp at hh
  rw [P.th_bit hx hab hb, is_true] at hh
  obtain ⟨⟨i, h1, h2, h3⟩, h4⟩ := hh
  refine ⟨i, h1, h2, ?_⟩
  unfold can
  rw [anyTo_true]
  exact ⟨h, hlt, by simp only [Bool.and_eq_true, is_one]; exact ⟨h4, h3⟩⟩
theorem hours_add (x : WD) (a b c : Nat) : hours x a c = hours x a b + hours x b c := by unfold hours; omega
theorem hours_nonneg {x : WD} (h : Ok x) {a b : Nat} (hab : a ≤ b) (hb : b < x.cn) : 0 ≤ hours x a b := by have := h.leq hab hb; unfold hours; omega
/-- What can be lost in a stretch without anybody. -/
def al (x : WD) (a b : Nat) : Int := x.allow * hours x a b
theorem al_add (x : WD) (a b c : Nat) : al x a c = al x a b + al x b c := by unfold al; rw [hours_add x a b c, Int.mul_add]
theorem al_nonneg {x : WD} (h : Ok x) {a b : Nat} (hab : a ≤ b) (hb : b < x.cn) : 0 ≤ al x a b := Int.mul_nonneg h.allow.1 (hours_nonneg h hab hb)
theorem al_self (x : WD) (a : Nat) : al x a a = 0 := by unfold al hours; simp
theorem fw_hi {x : WD} (h : Ok x) (m : Nat) : ∀ k, k < x.cn → (∀ i, i ≤ k → (fw x m k).2 ≤ x.c i 2 + booked x i k) ∧ ∃ i, i ≤ k ∧ (fw x m k).2 = x.c i 2 + booked x i k
 | 0, _ => by
  refine ⟨fun i hi => ?_, 0, Nat.le_refl _, ?_⟩
  ·obtain rfl : i = 0 := by omega
   simp [fw, booked_self]
  ·simp [fw, booked_self]
 | k+1, hk => by
  obtain ⟨h1, j, hj, h2⟩ := fw_hi h m k (by omega)
  have e : (fw x m (k+1)).2 = min (x.c (k+1) 2) ((fw x m k).2 + booked x k (k+1)) := rfl
  refine ⟨fun i hi => ?_, ?_⟩
  ·rcases Nat.lt_or_eq_of_le hi with hlt | rfl
   ·have := h1 i (by omega)
    rw [booked_add h (show i ≤ k by omega) (show k ≤ k+1 by omega) hk]
    omega
   ·rw [booked_self]; omega
  ·by_cases q : x.c (k+1) 2 ≤ (fw x m k).2 + booked x k (k+1)
   ·exact ⟨k+1, Nat.le_refl _, by rw [booked_self]; omega⟩
   ·refine ⟨j, by omega, ?_⟩
    rw [booked_add h hj (show k ≤ k+1 by omega) hk]
    omega
theorem fw_lo {x : WD} (h : Ok x) (m : Nat) : ∀ k, k < x.cn → (∀ i, i ≤ k → met x m i k = false → x.c i 1 + booked x i k - al x i k ≤ (fw x m k).1) ∧ ∃ i, i ≤ k ∧ met x m i k = false ∧ (fw x m k).1 = x.c i 1 + booked x i k - al x i k
 | 0, _ => by
  refine ⟨fun i hi _ => ?_, 0, Nat.le_refl _, met_false.2 fun i _ hi => absurd hi (by omega), ?_⟩
  ·obtain rfl : i = 0 := by omega
   simp [fw, booked_self, al_self]
  ·simp [fw, booked_self, al_self]
 | k+1, hk => by
  obtain ⟨h1, j, hj, hm, h2⟩ := fw_lo h m k (by omega)
  have hself : met x m (k+1) (k+1) = false := met_false.2 fun i h1 h2 => absurd h1 (by omega)
  cases hc : can x m k
  ·have e : (fw x m (k+1)).1 = max (x.c (k+1) 1) ((fw x m k).1 + booked x k (k+1) - al x k (k+1)) := by
    show (if can x m k then _ else _) = _
    rw [hc]; rfl
   refine ⟨fun i hi hmi => ?_, ?_⟩
   ·rcases Nat.lt_or_eq_of_le hi with hlt | rfl
    ·have := h1 i (by omega) (met_false.2 fun q h3 h4 => met_false.1 hmi q h3 (by omega))
     rw [booked_add h (show i ≤ k by omega) (show k ≤ k+1 by omega) hk, al_add x i k (k+1)]
     omega
    ·rw [booked_self, al_self]; omega
   ·by_cases q : (fw x m k).1 + booked x k (k+1) - al x k (k+1) ≤ x.c (k+1) 1
    ·exact ⟨k+1, Nat.le_refl _, hself, by rw [booked_self, al_self]; omega⟩
    ·refine ⟨j, by omega, met_false.2 fun q h3 h4 => ?_, ?_⟩
     ·rcases Nat.lt_or_eq_of_le (Nat.le_of_lt_succ h4) with h5 | rfl
      ·exact met_false.1 hm q h3 h5
      ·exact hc
     ·rw [booked_add h hj (show k ≤ k+1 by omega) hk, al_add x j k (k+1)]
      omega
  ·have e : (fw x m (k+1)).1 = x.c (k+1) 1 := by
    show (if can x m k then _ else _) = _
    rw [hc]; rfl
   refine ⟨fun i hi hmi => ?_, k+1, Nat.le_refl _, hself, by rw [booked_self, al_self]; omega⟩
   rcases Nat.lt_or_eq_of_le hi with hlt | rfl
   ·have := met_false.1 hmi k (by omega) (by omega)
    rw [hc] at this; cases this
   ·rw [booked_self, al_self]; omega
theorem gap_al (x : WD) (a b : Nat) : gap x a b = x.c a 1 + booked x a b - al x a b - x.c b 2 := rfl
/-- There is a truth in which these hands alone have taken something, just if no two counts contradict. -/
theorem fwOk_iff {x : WD} (h : Ok x) (m : Nat) : fwOk x m = true ↔ ∀ i j, i < j → j < x.cn → x.c j 1 ≤ x.c i 2 + booked x i j ∧ (met x m i j = false → gap x i j ≤ 0) := by
 have e : fwOk x m = true ↔ ∀ k, k < x.cn → (fw x m k).1 ≤ (fw x m k).2 := by
  unfold fwOk
  rw [Bool.not_eq_true', anyTo_false]
  constructor
  ·intro h1 k hk
   cases k with
   | zero => exact h.le 0 hk
   | succ k => have := h1 k (by omega); simpa using this
  ·intro h1 k hk
   have := h1 (k+1) (by omega)
   simpa using this
 rw [e]
 constructor
 ·intro hk i j hij hj
  have h1 := hk j hj
  obtain ⟨p1, -⟩ := fw_hi h m j hj
  obtain ⟨q1, -⟩ := fw_lo h m j hj
  refine ⟨?_, fun hm => ?_⟩
  ·have a1 := p1 i (by omega)
   have a2 := q1 j (Nat.le_refl _) (met_false.2 fun i h1 h2 => absurd h1 (by omega))
   rw [booked_self, al_self] at a2
   omega
  ·have a1 := p1 j (Nat.le_refl _)
   have a2 := q1 i (by omega) hm
   rw [booked_self] at a1
   rw [gap_al]
   omega
 ·intro hc k hk
  obtain ⟨-, i, hi, p1⟩ := fw_hi h m k hk
  obtain ⟨-, j, hj, hm, q1⟩ := fw_lo h m k hk
  rcases Nat.lt_trichotomy j i with hlt | heq | hgt
  ·have a1 := (hc j i hlt (by omega)).2 (met_false.2 fun q h1 h2 => met_false.1 hm q h1 (by omega))
   rw [gap_al] at a1
   rw [booked_add h (show j ≤ i by omega) hi hk, al_add x j i k] at q1
   have := al_nonneg h hi hk
   omega
  ·subst heq
   have := h.le j (by omega)
   have := al_nonneg h hj hk
   omega
  ·have a1 := (hc i j hgt (by omega)).1
   rw [booked_add h (show i ≤ j by omega) hj hk] at p1
   have := al_nonneg h hj hk
   omega
end R
end HandSpec
