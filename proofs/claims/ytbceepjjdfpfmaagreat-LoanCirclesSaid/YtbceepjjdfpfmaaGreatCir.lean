/- Plain law of circles: people each of whom owes to one of them (a trap), who are struck out, what a search finds, and what cancelling leaves. Walk: the closure of circle (180), which follows debts and finds a circle, or none from there. The debts are right ones. Walks: circle (152), Circle (76), Straight (78): what they give back. Walk: Straight (78): debts without a circle, with the same nets, none of them greater; the debts themselves if there is no circle. -/
import Derived.Test.YtbceepjjdfpfmaaGreatCanA
import Derived.Test.YtbceepjjdfpfmaaGreatWay
import Derived.Test.YtbceepjjdfpfmaaGreatNts
import Derived.Test.YtbceepjjdfpfmaaGreatCanB
import Derived.Test.YtbceepjjdfpfmaaGreatBook
import Derived.Deep.RegionHeldLaw
import Derived.WalkMore
namespace Go.Proofs.YtbceepjjdfpfmaaGreat
open Go.RowKit HandSpec LoanSpec
set_option maxHeartbeats 2000000
set_option maxRecDepth 100000
theorem sum_less (f g : Nat → Int) : ∀ k, sumTo (fun i => f i - g i) k = sumTo f k - sumTo g k
  | 0 => rfl
  | k + 1 => by simp only [sumTo]; rw [sum_less f g k]; omega
theorem net_less (g : Nat → Nat → Int) {n a : Nat} (ha : a < n) : netTo g n n a = sumTo (fun j => g j a - g a j) n := by
  rw [netTo_eq g n n a ha, if_pos ha, sum_less]
theorem netRow_far (g : Nat → Nat → Int) (k : Nat) (f : Nat → Int) {i : Nat} (hk : i ≠ k) : ∀ j, j ≤ i → netRow g k j f i = f i
  | 0, _ => rfl
  | j + 1, hj => by
    simp only [netRow]
    rw [upd_other _ _ hk, upd_other _ _ (by omega), netRow_far g k f hk j (by omega)]
theorem netTo_far (g : Nat → Nat → Int) (n : Nat) {i : Nat} : ∀ k, k ≤ n → n ≤ i → netTo g n k i = 0
  | 0, _, _ => rfl
  | k + 1, hk, hi => by
    simp only [netTo]
    rw [netRow_far g k _ (by omega) n hi, netTo_far g n k (by omega) hi]
theorem nodup_len : ∀ (n : Nat) (l : List Nat), l.Nodup → (∀ x, x ∈ l → x < n) → l.length ≤ n
  | 0, l, _, h => by
    cases l with
    | nil => simp
    | cons a l => exact absurd (h a (by simp)) (by omega)
  | n + 1, l, hd, h => by
    by_cases e : n ∈ l
    · have := nodup_len n (l.erase n) (hd.erase n) fun x hx => by
        rw [hd.mem_erase_iff] at hx
        have := h x hx.2
        have := hx.1
        omega
      rw [List.length_erase_of_mem e] at this
      omega
    · have := nodup_len n l hd fun x hx => by
        have := h x hx
        have : x ≠ n := fun q => e (q ▸ hx)
        omega
      omega
theorem all_len : ∀ (n : Nat) (l : List Nat), (∀ x, x < n → x ∈ l) → n ≤ l.length
  | 0, _, _ => Nat.zero_le _
  | n + 1, l, h => by
    have hn := h n (Nat.lt_succ_self n)
    have := all_len n (l.erase n) fun x hx => (List.mem_erase_of_ne (by omega)).2 (h x (by omega))
    rw [List.length_erase_of_mem hn] at this
    have := List.length_pos_of_mem hn
    omega
/-- People each of whom owes to one of them. -/
structure Trap (n : Nat) (g : Nat → Nat → Int) (T : Nat → Prop) : Prop where
  some_ : ∃ a, a < n ∧ T a
  on : ∀ a, a < n → T a → ∃ b, b < n ∧ T b ∧ 0 < g a b
/-- Whether a owes to somebody who is left. -/
def owesB (g : Nat → Nat → Int) (n : Nat) (l : List Nat) (a : Nat) : Bool := anyTo (fun b => decide (0 < g a b) && !decide (b ∈ l)) n
/-- Who is gone behind a people of a round. -/
def strikeA (g : Nat → Nat → Int) (n : Nat) (l : List Nat) : Nat → List Nat
  | 0 => l
  | a + 1 => if owesB g n (strikeA g n l a) a || decide (a ∈ strikeA g n l a) then strikeA g n l a else strikeA g n l a ++ [a]
/-- Who is gone behind r rounds. -/
def strike (g : Nat → Nat → Int) (n : Nat) : Nat → List Nat
  | 0 => []
  | r + 1 => strikeA g n (strike g n r) n
theorem owesB_true {g : Nat → Nat → Int} {n a : Nat} {l : List Nat} : owesB g n l a = true ↔ ∃ b, b < n ∧ 0 < g a b ∧ b ∉ l := by
  unfold owesB
  rw [anyTo_true]
  simp
/-- Those who are gone: each once, of the first ones, and none of a trap. -/
structure Gone (n : Nat) (g : Nat → Nat → Int) (l : List Nat) : Prop where
  nd : l.Nodup
  lt : ∀ x, x ∈ l → x < n
  out : ∀ T, Trap n g T → ∀ x, x ∈ l → ¬ T x
theorem Gone.strikeA {n : Nat} {g : Nat → Nat → Int} {l : List Nat} (h : Gone n g l) : ∀ a, a ≤ n → Gone n g (strikeA g n l a)
  | 0, _ => h
  | a + 1, ha => by
    have ih := h.strikeA a (by omega)
    simp only [YtbceepjjdfpfmaaGreat.strikeA]
    generalize YtbceepjjdfpfmaaGreat.strikeA g n l a = l' at ih ⊢
    split
    · exact ih
    · rename_i q
      rw [Bool.or_eq_true, not_or] at q
      obtain ⟨q1, q2⟩ := q
      have q2 : a ∉ l' := by simpa using q2
      refine ⟨?_, fun x hx => ?_, fun T hT x hx => ?_⟩
      · rw [List.nodup_append]
        refine ⟨ih.nd, by simp, fun x hx y hy => ?_⟩
        rw [List.mem_singleton] at hy
        subst hy
        exact fun e => q2 (e ▸ hx)
      · rw [List.mem_append, List.mem_singleton] at hx
        rcases hx with hx | hx
        · exact ih.lt x hx
        · omega
      · rw [List.mem_append, List.mem_singleton] at hx
        rcases hx with hx | rfl
        · exact ih.out T hT x hx
        · intro ht
          obtain ⟨b, b1, b2, b3⟩ := hT.on x (by omega) ht
          exact q1 (owesB_true.2 ⟨b, b1, b3, fun hb => ih.out T hT b hb b2⟩)
theorem strike_gone {n : Nat} {g : Nat → Nat → Int} : ∀ r, Gone n g (strike g n r)
  | 0 => ⟨by simp [strike], by simp [strike], by simp [strike]⟩
  | r + 1 => (strike_gone r).strikeA n (Nat.le_refl _)
theorem strikeA_len (g : Nat → Nat → Int) (n : Nat) (l : List Nat) : ∀ a, l.length ≤ (strikeA g n l a).length ∧ ((strikeA g n l a).length = l.length → strikeA g n l a = l ∧ ∀ k, k < a → owesB g n l k = true ∨ k ∈ l)
  | 0 => ⟨Nat.le_refl _, fun _ => ⟨rfl, fun _ h => absurd h (by omega)⟩⟩
  | a + 1 => by
    obtain ⟨h1, h2⟩ := strikeA_len g n l a
    simp only [strikeA]
    split
    · rename_i q
      refine ⟨h1, fun e => ?_⟩
      obtain ⟨e1, e2⟩ := h2 e
      rw [e1] at q ⊢
      refine ⟨rfl, fun k hk => ?_⟩
      by_cases hka : k = a
      · subst hka
        rw [Bool.or_eq_true, decide_eq_true_eq] at q
        exact q
      · exact e2 k (by omega)
    · rw [List.length_append, List.length_singleton]
      exact ⟨by omega, fun e => by omega⟩
theorem strike_len (g : Nat → Nat → Int) (n : Nat) : ∀ r, r ≤ (strike g n r).length ∨ (strikeA g n (strike g n r) n).length = (strike g n r).length
  | 0 => .inl (Nat.zero_le _)
  | r + 1 => by
    have h1 := (strikeA_len g n (strike g n r) n).1
    rcases Decidable.em ((strikeA g n (strike g n r) n).length = (strike g n r).length) with e | e
    · obtain ⟨e1, -⟩ := (strikeA_len g n (strike g n r) n).2 e
      right
      show (strikeA g n (strikeA g n (strike g n r) n) n).length = (strikeA g n (strike g n r) n).length
      rw [e1, e1]
    · rcases strike_len g n r with ih | ih
      · left
        show r + 1 ≤ (strikeA g n (strike g n r) n).length
        omega
      · exact absurd ih e
/-- Somebody is left just if there is a trap. -/
theorem strike_iff {n : Nat} {g : Nat → Nat → Int} : (strike g n n).length < n ↔ ∃ T, Trap n g T := by
  constructor
  · intro h
    rcases strike_len g n n with e | e
    · omega
    · obtain ⟨-, e2⟩ := (strikeA_len g n (strike g n n) n).2 e
      refine ⟨fun a => a ∉ strike g n n, ?_, fun a ha hn => ?_⟩
      · refine Classical.byContradiction fun q => ?_
        have := all_len n (strike g n n) fun x hx => Classical.byContradiction fun q2 => q ⟨x, hx, q2⟩
        omega
      · rcases e2 a ha with q | q
        · obtain ⟨b, b1, b2, b3⟩ := owesB_true.1 q
          exact ⟨b, b1, b3, b2⟩
        · exact absurd q hn
  · rintro ⟨T, hT⟩
    obtain ⟨a, ha, ht⟩ := hT.some_
    have hg := strike_gone (n := n) (g := g) n
    have := nodup_len n (a :: strike g n n) (List.nodup_cons.2 ⟨fun q => hg.out T hT a q ht, hg.nd⟩) fun x hx => by
      rw [List.mem_cons] at hx
      rcases hx with rfl | hx
      · exact ha
      · exact hg.lt x hx
    rw [List.length_cons] at this
    omega
/-- Who is in no trap. -/
def Dead (n : Nat) (g : Nat → Nat → Int) (v : Nat) : Prop := ∀ T, Trap n g T → ¬ T v
/-- A way along debts, on which nobody comes twice. -/
structure Path (n : Nat) (g : Nat → Nat → Int) (l : List Nat) : Prop where
  ne : 0 < l.length
  lt : ∀ x, x ∈ l → x < n
  nd : l.Nodup
  on : ∀ i, i + 1 < l.length → 0 < g (l.getD i 0) (l.getD (i + 1) 0)
/-- A circle of debts. -/
structure Circ (n : Nat) (g : Nat → Nat → Int) (c : List Nat) : Prop where
  two : 2 ≤ c.length
  lt : ∀ x, x ∈ c → x < n
  nd : c.Nodup
  on : ∀ i, i < c.length → 0 < g (c.getD i 0) (c.getD (nxtC c.length i) 0)
theorem getD_mem {l : List Nat} {i : Nat} (h : i < l.length) : l.getD i 0 ∈ l := by
  rw [List.getD_eq_getElem?_getD, List.getElem?_eq_getElem h]
  exact List.getElem_mem _
theorem mem_getD {l : List Nat} {x : Nat} (h : x ∈ l) : ∃ i, i < l.length ∧ l.getD i 0 = x := by
  obtain ⟨i, hi, e⟩ := List.mem_iff_getElem.1 h
  exact ⟨i, hi, by rw [List.getD_eq_getElem?_getD, List.getElem?_eq_getElem hi]; exact e⟩
theorem getD_app (l m : List Nat) (i : Nat) : (l ++ m).getD i 0 = if i < l.length then l.getD i 0 else m.getD (i - l.length) 0 := by
  simp only [List.getD_eq_getElem?_getD, List.getElem?_append]
  split <;> rfl
theorem getD_drop (l : List Nat) (s i : Nat) : (l.drop s).getD i 0 = l.getD (s + i) 0 := by
  simp only [List.getD_eq_getElem?_getD, List.getElem?_drop]
theorem Path.one {n : Nat} {g : Nat → Nat → Int} {k : Nat} (h : k < n) : Path n g [k] :=
  ⟨by simp, fun x hx => by rw [List.mem_singleton] at hx; omega, by simp, fun i hi => by simp at hi⟩
theorem Path.len {n : Nat} {g : Nat → Nat → Int} {l : List Nat} (h : Path n g l) : l.length ≤ n := nodup_len n l h.nd h.lt
theorem Path.last {n : Nat} {g : Nat → Nat → Int} {l : List Nat} (h : Path n g l) : l.getD (l.length - 1) 0 < n := h.lt _ (getD_mem (by have := h.ne; omega))
theorem Path.snoc {n : Nat} {g : Nat → Nat → Int} {l : List Nat} (h : Path n g l) {t : Nat} (ht : t < n) (hn : t ∉ l) (hg : 0 < g (l.getD (l.length - 1) 0) t) : Path n g (l ++ [t]) := by
  refine ⟨by simp, fun x hx => ?_, ?_, fun i hi => ?_⟩
  · rw [List.mem_append, List.mem_singleton] at hx
    rcases hx with hx | hx
    · exact h.lt x hx
    · omega
  · rw [List.nodup_append]
    refine ⟨h.nd, by simp, fun x hx y hy => ?_⟩
    rw [List.mem_singleton] at hy
    subst hy
    exact fun e => hn (e ▸ hx)
  · rw [List.length_append, List.length_singleton] at hi
    rw [getD_app, getD_app, if_pos (by omega)]
    by_cases e : i + 1 < l.length
    · rw [if_pos e]
      exact h.on i e
    · rw [if_neg e, show i + 1 - l.length = 0 by omega, show i = l.length - 1 by omega]
      exact hg
theorem Path.last_snoc (l : List Nat) (t : Nat) : (l ++ [t]).getD ((l ++ [t]).length - 1) 0 = t := by
  rw [getD_app, List.length_append, List.length_singleton, if_neg (by omega)]
  simp
/-- A way that comes back is a circle from there on. -/
theorem Path.circ {n : Nat} {g : Nat → Nat → Int} {l : List Nat} (h : Path n g l) (h0 : ∀ k, k < n → g k k = 0) {s : Nat} (hs : s < l.length) (hg : 0 < g (l.getD (l.length - 1) 0) (l.getD s 0)) : Circ n g (l.drop s) := by
  have hs2 : s + 1 < l.length := by
    refine Classical.byContradiction fun q => ?_
    have e : s = l.length - 1 := by omega
    rw [e, h0 _ h.last] at hg
    omega
  have hl : (l.drop s).length = l.length - s := List.length_drop
  refine ⟨by omega, fun x hx => h.lt x (List.mem_of_mem_drop hx), h.nd.sublist (List.drop_sublist s l), fun i hi => ?_⟩
  rw [hl] at hi ⊢
  rw [getD_drop, getD_drop]
  unfold nxtC
  by_cases e : i + 1 = l.length - s
  · rw [e, Nat.mod_self, Nat.add_zero, show s + i = l.length - 1 by omega]
    exact hg
  · rw [Nat.mod_eq_of_lt (by omega)]
    exact h.on (s + i) (by omega)
theorem Circ.trap {n : Nat} {g : Nat → Nat → Int} {c : List Nat} (h : Circ n g c) : Trap n g (fun a => a ∈ c) := by
  have := h.two
  refine ⟨⟨c.getD 0 0, h.lt _ (getD_mem (by omega)), getD_mem (by omega)⟩, fun a _ ha => ?_⟩
  obtain ⟨i, hi, rfl⟩ := mem_getD ha
  have hm := getD_mem (l := c) (i := nxtC c.length i) (Nat.mod_lt _ (by omega))
  exact ⟨_, h.lt _ hm, hm, h.on i hi⟩
theorem Circ.inj {n : Nat} {g : Nat → Nat → Int} {c : List Nat} (h : Circ n g c) {i j : Nat} (hi : i < c.length) (hj : j < c.length) (e : c.getD i 0 = c.getD j 0) : i = j := by
  rw [List.getD_eq_getElem?_getD, List.getElem?_eq_getElem hi, List.getD_eq_getElem?_getD, List.getElem?_eq_getElem hj] at e
  exact (List.getElem_inj h.nd).1 e
/-- Nobody of whom all that they owe to are dead is in a trap. -/
theorem dead_of {n : Nat} {g : Nat → Nat → Int} {v : Nat} (hv : v < n) (h : ∀ t, t < n → 0 < g v t → Dead n g t) : Dead n g v := fun T hT ht => by
  obtain ⟨b, b1, b2, b3⟩ := hT.on v hv ht
  exact h b b1 b3 T hT b2
theorem no_trap {n : Nat} {g : Nat → Nat → Int} (h : ∀ k, k < n → Dead n g k) : ¬ ∃ T, Trap n g T := by
  rintro ⟨T, hT⟩
  obtain ⟨a, ha, ht⟩ := hT.some_
  exact h a ha T hT ht
theorem cutC_eq (m : Nat → Nat → Int) (c : Nat → Nat) (L : Nat) (z : Int) (i j : Nat) : ∀ k, cutC m c L z k i j = m i j - sumTo (fun q => if c q = i ∧ c (nxtC L q) = j then z else 0) k
  | 0 => by simp [cutC, sumTo]
  | k + 1 => by
    rw [sumTo_succ]
    have ih := cutC_eq m c L z i j k
    simp only [cutC, upd2, updR]
    by_cases e : i = c k
    · subst e
      rw [if_pos rfl]
      by_cases e2 : j = c (nxtC L k)
      · subst e2
        rw [upd_same, if_pos ⟨rfl, rfl⟩, ih]
        omega
      · rw [upd_other _ _ e2, if_neg (fun q => e2 q.2.symm), ih]
        omega
    · rw [if_neg e, if_neg (fun q => e q.1.symm), ih]
      omega
/-- A sum round a circle is the sum. -/
theorem sum_round (F : Nat → Int) (L : Nat) : sumTo (fun k => F (nxtC L k)) L = sumTo F L := by
  rcases Nat.eq_zero_or_pos L with e | e
  · subst e; rfl
  obtain ⟨M, rfl⟩ : ∃ M, L = M + 1 := ⟨L - 1, by omega⟩
  have h1 : ∀ k, k ≤ M → sumTo (fun k => F (nxtC (M + 1) k)) k + F 0 = sumTo F k + F k := fun k => by
    induction k with
    | zero => intro _; simp [sumTo]
    | succ k ih =>
      intro hk
      have := ih (by omega)
      rw [sumTo_succ, sumTo_succ]
      have e : nxtC (M + 1) k = k + 1 := Nat.mod_eq_of_lt (by omega)
      rw [e]
      omega
  have h2 := h1 M (Nat.le_refl _)
  rw [sumTo_succ, sumTo_succ]
  have e : nxtC (M + 1) M = 0 := Nat.mod_self _
  rw [e]
  omega
/-- Cancelling changes no net. -/
theorem cut_net {n L : Nat} {m : Nat → Nat → Int} {c : Nat → Nat} (z : Int) (hc : ∀ k, k < L → c k < n) : netTo (cutC m c L z L) n n = netTo m n n := by
  funext a
  rcases Nat.lt_or_ge a n with ha | ha
  · rw [net_less _ ha, net_less _ ha]
    have e1 : sumTo (fun j => cutC m c L z L j a - cutC m c L z L a j) n = sumTo (fun j => (m j a - m a j) + (sumTo (fun q => if c q = a ∧ c (nxtC L q) = j then z else 0) L - sumTo (fun q => if c q = j ∧ c (nxtC L q) = a then z else 0) L)) n := sumTo_congr fun j _ => by
      rw [cutC_eq, cutC_eq]
      omega
    rw [e1, sumTo_add, sum_less (fun j => sumTo (fun q => if c q = a ∧ c (nxtC L q) = j then z else 0) L) (fun j => sumTo (fun q => if c q = j ∧ c (nxtC L q) = a then z else 0) L), sum_swap (fun j q => if c q = a ∧ c (nxtC L q) = j then z else 0), sum_swap (fun j q => if c q = j ∧ c (nxtC L q) = a then z else 0)]
    obtain ⟨F, hF⟩ : ∃ F : Nat → Int, ∀ q, F q = if c q = a then z else 0 := ⟨fun q => if c q = a then z else 0, fun _ => rfl⟩
    have e2 : sumTo (fun i => sumTo (fun j => if c i = a ∧ c (nxtC L i) = j then z else 0) n) L = sumTo F L := sumTo_congr fun k hk => by
      have := sum_at (fun _ => c k = a) (c (nxtC L k)) z n
      have hlt := hc (nxtC L k) (Nat.mod_lt _ (by omega))
      rw [hF]
      by_cases q : c k = a
      · rw [if_pos ⟨hlt, q⟩] at this
        rw [if_pos q]
        exact Eq.trans (sumTo_congr fun j _ => by simp [q]) this
      · rw [if_neg q]
        exact Eq.trans (sumTo_congr fun j _ => by rw [if_neg (fun h => q h.1)]) (sumTo_zero n)
    have e3 : sumTo (fun i => sumTo (fun j => if c i = j ∧ c (nxtC L i) = a then z else 0) n) L = sumTo (fun k => F (nxtC L k)) L := sumTo_congr fun k hk => by
      have := sum_at (fun _ => c (nxtC L k) = a) (c k) z n
      have hlt := hc k hk
      rw [hF]
      by_cases q : c (nxtC L k) = a
      · rw [if_pos ⟨hlt, q⟩] at this
        rw [if_pos q]
        exact Eq.trans (sumTo_congr fun j _ => by simp [q]) this
      · rw [if_neg q]
        exact Eq.trans (sumTo_congr fun j _ => by rw [if_neg (fun h => q h.2)]) (sumTo_zero n)
    rw [e2, e3, sum_round]
    omega
  · rw [netTo_far _ n n (Nat.le_refl _) ha, netTo_far _ n n (Nat.le_refl _) ha]
theorem lowC_le (m : Nat → Nat → Int) (c : Nat → Nat) (L : Nat) : ∀ k q, q < k → lowC m c L k ≤ m (c q) (c (nxtC L q))
  | 0, _, h => by omega
  | k + 1, q, h => by
    simp only [lowC]
    by_cases e : q = k
    · subst e; omega
    · have := lowC_le m c L k q (by omega)
      omega
theorem lowC_pos {m : Nat → Nat → Int} {c : Nat → Nat} {L : Nat} (h : ∀ q, q < L → 0 < m (c q) (c (nxtC L q))) : ∀ k, k ≤ L → 0 < lowC m c L k
  | 0, _ => by simp [lowC]
  | k + 1, hk => by
    have := lowC_pos h k (by omega)
    have := h k (by omega)
    simp only [lowC]
    omega
theorem lowC_at {m : Nat → Nat → Int} {c : Nat → Nat} {L n : Nat} (hd : ∀ i j, i < n → j < n → 0 ≤ m i j ∧ m i j ≤ 1000000) (hL : 0 < L) (hc : ∀ q, q < L → c q < n) : ∀ k, 0 < k → k ≤ L → ∃ q, q < k ∧ lowC m c L k = m (c q) (c (nxtC L q))
  | 0, h, _ => by omega
  | k + 1, _, hk => by
    have hb := hd _ _ (hc k (by omega)) (hc (nxtC L k) (Nat.mod_lt _ hL))
    simp only [lowC]
    rcases Nat.eq_zero_or_pos k with e | e
    · subst e
      refine ⟨0, by omega, ?_⟩
      simp only [lowC]
      omega
    · obtain ⟨q, q1, q2⟩ := lowC_at hd hL hc k e (by omega)
      rcases Int.le_total (lowC m c L k) (m (c k) (c (nxtC L k))) with h | h
      · exact ⟨q, by omega, by rw [← q2]; omega⟩
      · exact ⟨k, Nat.lt_succ_self k, by omega⟩
/-- What cancelling takes from one debt: once at most. -/
theorem cut_once {m : Nat → Nat → Int} {c : Nat → Nat} {L : Nat} {z : Int} (hi : ∀ i j, i < L → j < L → c i = c j → i = j) (a b : Nat) :
    ∀ k, k ≤ L → (sumTo (fun q => if c q = a ∧ c (nxtC L q) = b then z else 0) k = 0 ∧ ∀ q, q < k → ¬ (c q = a ∧ c (nxtC L q) = b)) ∨ (sumTo (fun q => if c q = a ∧ c (nxtC L q) = b then z else 0) k = z ∧ ∃ q, q < k ∧ c q = a ∧ c (nxtC L q) = b)
  | 0, _ => .inl ⟨rfl, fun _ h => absurd h (by omega)⟩
  | k + 1, hk => by
    rw [sumTo_succ]
    rcases cut_once (m := m) (z := z) hi a b k (by omega) with ⟨e1, e2⟩ | ⟨e1, q, q1, q2, q3⟩
    · rw [e1]
      by_cases e : c k = a ∧ c (nxtC L k) = b
      · rw [if_pos e]
        exact .inr ⟨by omega, k, Nat.lt_succ_self k, e⟩
      · rw [if_neg e]
        refine .inl ⟨rfl, fun q hq => ?_⟩
        by_cases e' : q = k
        · subst e'; exact e
        · exact e2 q (by omega)
    · rw [e1, if_neg (fun e => by have := hi q k (by omega) (by omega) (by rw [q2, e.1]); omega)]
      exact .inr ⟨by omega, q, by omega, q2, q3⟩
/-- How many debts there are in the first k rows. -/
def cntE (n : Nat) (g : Nat → Nat → Int) : Nat → Nat
  | 0 => 0
  | k + 1 => cntE n g k + cntP (fun j => decide (0 < g k j)) n
theorem cntP_imp {p q : Nat → Bool} : ∀ n, (∀ i, i < n → p i = true → q i = true) → cntP p n ≤ cntP q n
  | 0, _ => Nat.le_refl _
  | n + 1, h => by
    have ih := cntP_imp n fun i hi => h i (by omega)
    have := h n (Nat.lt_succ_self n)
    simp only [cntP]
    split <;> split <;> first | omega | (rename_i a b; exact absurd (this a) b)
theorem cntE_le {n : Nat} {g h : Nat → Nat → Int} : ∀ k, k ≤ n → (∀ i j, i < n → j < n → 0 < h i j → 0 < g i j) → cntE n h k ≤ cntE n g k
  | 0, _, _ => Nat.le_refl _
  | k + 1, hk, H => by
    have ih := cntE_le (g := g) (h := h) k (by omega) H
    have := cntP_imp (p := fun j => decide (0 < h k j)) (q := fun j => decide (0 < g k j)) n fun j hj e => by
      rw [decide_eq_true_eq] at e ⊢
      exact H k j (by omega) hj e
    simp only [cntE]
    omega
theorem cntE_lt {n : Nat} {g h : Nat → Nat → Int} {a b : Nat} : ∀ k, k ≤ n → (∀ i j, i < n → j < n → 0 < h i j → 0 < g i j) → a < k → b < n → 0 < g a b → ¬ 0 < h a b → cntE n h k < cntE n g k
  | 0, _, _, ha, _, _, _ => by omega
  | k + 1, hk, H, ha, hb, h1, h2 => by
    have hle := cntE_le (g := g) (h := h) k (by omega) H
    have hle2 := cntP_imp (p := fun j => decide (0 < h k j)) (q := fun j => decide (0 < g k j)) n fun j hj e => by
      rw [decide_eq_true_eq] at e ⊢
      exact H k j (by omega) hj e
    simp only [cntE]
    by_cases e : a = k
    · subst e
      have := (cntP_sub (p := fun j => decide (0 < h a j)) (q := fun j => decide (0 < g a j)) (n := n) (e := b) fun j hj e => by
        rw [decide_eq_true_eq] at e ⊢
        exact H a j (by omega) hj e).2 hb (by simpa using h1) (by simpa using h2)
      omega
    · have := cntE_lt (n := n) (g := g) (h := h) (a := a) (b := b) k (by omega) H (by omega) hb h1 h2
      omega
theorem cntE_bd (n : Nat) (g : Nat → Nat → Int) : ∀ k, cntE n g k ≤ k * n
  | 0 => by simp [cntE]
  | k + 1 => by
    have := cntE_bd n g k
    have h2 : ∀ m, cntP (fun j => decide (0 < g k j)) m ≤ m := fun m => by
      induction m with
      | zero => exact Nat.le_refl _
      | succ m ih => simp only [cntP]; split <;> omega
    have := h2 n
    simp only [cntE]
    rw [Nat.add_mul, Nat.one_mul]
    omega
/-- What cancelling a circle leaves. -/
theorem cut_ok {n : Nat} {g : Nat → Nat → Int} {c : List Nat} (hd : DOk n g) (h : Circ n g c) {g' : Nat → Nat → Int} (hg : g' = cutC g (fun k => c.getD k 0) c.length (lowC g (fun k => c.getD k 0) c.length c.length) c.length) :
    DOk n g' ∧ netTo g' n n = netTo g n n ∧ (∀ i j, i < n → j < n → g' i j ≤ g i j) ∧ cntE n g' n < cntE n g n ∧
      ∀ k, k < c.length → g' (c.getD k 0) (c.getD (nxtC c.length k) 0) = g (c.getD k 0) (c.getD (nxtC c.length k) 0) - lowC g (fun k => c.getD k 0) c.length c.length := by
  have h2 := h.two
  have hcn : ∀ k, k < c.length → c.getD k 0 < n := fun k hk => h.lt _ (getD_mem hk)
  have hinj : ∀ i j, i < c.length → j < c.length → c.getD i 0 = c.getD j 0 → i = j := fun i j hi hj e => h.inj hi hj e
  have hz := lowC_pos (m := g) (c := fun k => c.getD k 0) (L := c.length) (fun q hq => h.on q hq) c.length (Nat.le_refl _)
  have hat := lowC_at (m := g) (c := fun k => c.getD k 0) (L := c.length) hd.hd (by omega) hcn c.length (by omega) (Nat.le_refl _)
  have hle := fun q hq => lowC_le g (fun k => c.getD k 0) c.length c.length q hq
  have hnet := cut_net (m := g) (L := c.length) (c := fun k => c.getD k 0) (lowC g (fun k => c.getD k 0) c.length c.length) hcn
  have hce := fun i j => cutC_eq g (fun k => c.getD k 0) c.length (lowC g (fun k => c.getD k 0) c.length c.length) i j c.length
  generalize lowC g (fun k => c.getD k 0) c.length c.length = z at hz hat hle hnet hce hg ⊢
  rw [← hg] at hnet hce
  have hco := fun a b => cut_once (m := g) (c := fun k => c.getD k 0) (z := z) hinj a b c.length (Nat.le_refl _)
  have hent : ∀ i j, i < n → j < n → 0 ≤ g' i j ∧ g' i j ≤ g i j := fun i j hi hj => by
    rw [hce i j]
    rcases hco i j with ⟨e, _⟩ | ⟨e, q, q1, q2, q3⟩
    · rw [e]
      have := hd.hd i j hi hj
      omega
    · rw [e]
      have := hle q q1
      rw [q2, q3] at this
      omega
  have hone : ∀ k, k < c.length → g' (c.getD k 0) (c.getD (nxtC c.length k) 0) = g (c.getD k 0) (c.getD (nxtC c.length k) 0) - z := fun k hk => by
    rw [hce]
    rcases hco (c.getD k 0) (c.getD (nxtC c.length k) 0) with ⟨_, e⟩ | ⟨e, _⟩
    · exact absurd ⟨rfl, rfl⟩ (e k hk)
    · rw [e]
  refine ⟨⟨hd.hn, fun i j hi hj => ?_, fun i hi => ?_⟩, hnet, fun i j hi hj => (hent i j hi hj).2, ?_, hone⟩
  · have := hent i j hi hj
    have := hd.hd i j hi hj
    omega
  · have := hent i i hi hi
    have := hd.h0 i hi
    omega
  · obtain ⟨q, q1, q2⟩ := hat
    have hq := h.on q q1
    have := hone q q1
    exact cntE_lt (a := c.getD q 0) (b := c.getD (nxtC c.length q) 0) n (Nat.le_refl _) (fun i j hi hj e => by have := hent i j hi hj; omega) (hcn q q1) (hcn _ (Nat.mod_lt _ (by omega))) hq (by have q3 : z = g (c.getD q 0) (c.getD (nxtC c.length q) 0) := q2; omega)
/-- The debts of the first k rows, one by one. -/
def edgesR (g : Nat → Nat → Int) (k : Nat) : Nat → List (Nat × Nat)
  | 0 => []
  | j + 1 => if 0 < g k j then edgesR g k j ++ [(k, j)] else edgesR g k j
def edgesE (n : Nat) (g : Nat → Nat → Int) : Nat → List (Nat × Nat)
  | 0 => []
  | k + 1 => edgesE n g k ++ edgesR g k n
theorem edgesR_len (g : Nat → Nat → Int) (k : Nat) : ∀ j, (edgesR g k j).length = cntP (fun j => decide (0 < g k j)) j
  | 0 => rfl
  | j + 1 => by
    simp only [edgesR, cntP]
    by_cases e : 0 < g k j
    · rw [if_pos e, if_pos (by simpa using e), List.length_append, edgesR_len g k j]; rfl
    · rw [if_neg e, if_neg (by simpa using e), edgesR_len g k j]; rfl
theorem edgesE_len (n : Nat) (g : Nat → Nat → Int) : ∀ k, (edgesE n g k).length = cntE n g k
  | 0 => rfl
  | k + 1 => by simp only [edgesE, cntE]; rw [List.length_append, edgesE_len n g k, edgesR_len]
theorem edgesR_lt (g : Nat → Nat → Int) (k : Nat) : ∀ j (p : Nat × Nat), p ∈ edgesR g k j → p.1 = k ∧ p.2 < j
  | 0, p, h => by simp [edgesR] at h
  | j + 1, p, h => by
    simp only [edgesR] at h
    split at h
    · rw [List.mem_append, List.mem_singleton] at h
      rcases h with h | h
      · have := edgesR_lt g k j p h
        exact ⟨this.1, by omega⟩
      · subst h
        exact ⟨rfl, Nat.lt_succ_self j⟩
    · have := edgesR_lt g k j p h
      exact ⟨this.1, by omega⟩
theorem edgesE_lt (n : Nat) (g : Nat → Nat → Int) : ∀ k (p : Nat × Nat), p ∈ edgesE n g k → p.1 < k ∧ p.2 < n
  | 0, p, h => by simp [edgesE] at h
  | k + 1, p, h => by
    simp only [edgesE] at h
    rw [List.mem_append] at h
    rcases h with h | h
    · have := edgesE_lt n g k p h
      exact ⟨by omega, this.2⟩
    · have := edgesR_lt g k n p h
      exact ⟨by omega, this.2⟩
/-- A sum over a list. -/
def sumX {α : Type} (F : α → Int) : List α → Int
  | [] => 0
  | a :: l => F a + sumX F l
theorem sumX_app {α : Type} (F : α → Int) : ∀ l m : List α, sumX F (l ++ m) = sumX F l + sumX F m
  | [], m => by simp [sumX]
  | a :: l, m => by simp only [List.cons_append, sumX, sumX_app F l m]; omega
theorem sumX_to {α : Type} (F : α → Int) (d : α) : ∀ l : List α, sumTo (fun j => F (l.getD j d)) l.length = sumX F l := fun l => by
  have key : ∀ k, k ≤ l.length → sumTo (fun j => F (l.getD j d)) k = sumX F (l.take k) := fun k => by
    induction k with
    | zero => intro _; simp [sumTo, sumX]
    | succ k ih =>
      intro hk
      rw [sumTo_succ, ih (by omega), List.take_succ_eq_append_getElem (by omega), sumX_app, List.getD_eq_getElem?_getD, List.getElem?_eq_getElem (by omega)]
      simp [sumX]
  have := key l.length (Nat.le_refl _)
  rwa [List.take_length] at this
theorem edgesR_sum {g : Nat → Nat → Int} {k n : Nat} (h0 : ∀ j, j < n → 0 ≤ g k j) (W : Nat → Int) : ∀ j, j ≤ n → sumX (fun p : Nat × Nat => W p.2 * g p.1 p.2) (edgesR g k j) = sumTo (fun j => W j * g k j) j
  | 0, _ => rfl
  | j + 1, hj => by
    have ih := edgesR_sum h0 W j (by omega)
    have := h0 j (by omega)
    rw [sumTo_succ, ← ih]
    simp only [edgesR]
    split
    · rw [sumX_app]
      simp [sumX]
    · rw [show g k j = 0 by omega]
      simp
/-- All debts together are what is owed in all: so they settle it. -/
theorem edges_sum {n : Nat} {g : Nat → Nat → Int} (h0 : ∀ i j, i < n → j < n → 0 ≤ g i j) (W : Nat → Nat → Int) : ∀ k, k ≤ n → sumX (fun p : Nat × Nat => W p.1 p.2 * g p.1 p.2) (edgesE n g k) = sumTo (fun i => sumTo (fun j => W i j * g i j) n) k
  | 0, _ => rfl
  | k + 1, hk => by
    have ih := edges_sum h0 W k (by omega)
    rw [sumTo_succ, ← ih]
    simp only [edgesE]
    rw [sumX_app]
    have e : sumX (fun p : Nat × Nat => W p.1 p.2 * g p.1 p.2) (edgesR g k n) = sumX (fun p : Nat × Nat => W k p.2 * g p.1 p.2) (edgesR g k n) := by
      have : ∀ l : List (Nat × Nat), (∀ p ∈ l, p.1 = k) → sumX (fun p : Nat × Nat => W p.1 p.2 * g p.1 p.2) l = sumX (fun p : Nat × Nat => W k p.2 * g p.1 p.2) l := fun l => by
        induction l with
        | nil => intro _; rfl
        | cons a l ih =>
          intro h
          simp only [sumX]
          rw [ih (fun p hp => h p (by simp [hp])), h a (by simp)]
      exact this _ fun p hp => (edgesR_lt g k n p hp).1
    rw [e, edgesR_sum (fun j hj => h0 k j (by omega) hj) (W k) n (Nat.le_refl _)]
theorem few_many {n : Nat} {g : Nat → Nat → Int} (hd : DOk n g) {K : Nat} (hK : ∀ k, WayS (netTo g n n) n (openM (netTo g n n) n) k → k ≤ K) : cntP (nzB (netTo g n n)) n ≤ K + cntE n g n := by
  obtain ⟨E, hE⟩ : ∃ E, edgesE n g n = E := ⟨_, rfl⟩
  have hlt := edgesE_lt n g n
  have hlen := edgesE_len n g n
  have hsum := fun W => edges_sum (g := g) (n := n) (fun i j hi hj => (hd.hd i j hi hj).1) W n (Nat.le_refl _)
  rw [hE] at hlt hlen hsum
  have hgm : ∀ j, j < E.length → E.getD j (0, 0) ∈ E := fun j hj => by
    rw [List.getD_eq_getElem?_getD, List.getElem?_eq_getElem hj]
    exact List.getElem_mem _
  obtain ⟨k, k1, k2⟩ := merge_way (f := netTo g n n) (n := n) (m := E.length) (a := fun j => (E.getD j (0, 0)).1) (b := fun j => (E.getD j (0, 0)).2) (z := fun j => g (E.getD j (0, 0)).1 (E.getD j (0, 0)).2)
    (fun j hj => hlt _ (hgm j hj)) (fun i hi => by
      rw [sumX_to (fun p : Nat × Nat => (if p.2 = i then g p.1 p.2 else 0) - (if p.1 = i then g p.1 p.2 else 0)) (0, 0) E]
      have e1 : (fun p : Nat × Nat => (if p.2 = i then g p.1 p.2 else 0) - (if p.1 = i then g p.1 p.2 else 0)) = fun p : Nat × Nat => ((if p.2 = i then 1 else 0) - (if p.1 = i then 1 else 0) : Int) * g p.1 p.2 := by
        funext p
        by_cases q1 : p.2 = i <;> by_cases q2 : p.1 = i <;> simp [q1, q2]
      have h3 : sumX (fun p : Nat × Nat => ((if p.2 = i then 1 else 0) - (if p.1 = i then 1 else 0) : Int) * g p.1 p.2) E = sumTo (fun a => sumTo (fun b => ((if b = i then 1 else 0) - (if a = i then 1 else 0) : Int) * g a b) n) n := hsum (fun a b => (if b = i then 1 else 0) - (if a = i then 1 else 0))
      rw [e1, h3, net_less g hi]
      have e2 : sumTo (fun a => sumTo (fun b => ((if b = i then 1 else 0) - (if a = i then 1 else 0) : Int) * g a b) n) n = sumTo (fun a => sumTo (fun b => (if True then (if i = b then g a i else 0) else 0) - (if a = i then g a b else 0)) n) n := sumTo_congr fun a _ => sumTo_congr fun b _ => by
        by_cases q1 : b = i
        · subst q1
          by_cases q2 : a = b <;> simp [q2]
        · by_cases q2 : a = i
          · subst q2
            simp [q1, show ¬ a = b from fun q => q1 q.symm]
          · simp [q1, q2, show ¬ i = b from fun q => q1 q.symm]
      rw [e2]
      have e3 : sumTo (fun a => sumTo (fun b => (if True then (if i = b then g a i else 0) else 0) - (if a = i then g a b else 0)) n) n = sumTo (fun a => g a i - (if True then (if i = a then sumTo (fun b => g i b) n else 0) else 0)) n := sumTo_congr fun a _ => by
        rw [sum_less, sum_at (fun _ => True), if_pos ⟨hi, trivial⟩, if_pos trivial]
        by_cases q : a = i
        · subst q
          rw [if_pos rfl]
          simp
        · rw [if_neg (fun h => q h.symm)]
          have : sumTo (fun b => if a = i then g a b else 0) n = 0 := Eq.trans (sumTo_congr fun b _ => by rw [if_neg q]) (sumTo_zero n)
          rw [this]
      rw [e3, sum_less, sum_less, sum_at (fun _ => True), if_pos ⟨hi, trivial⟩])
  have := hK k k1
  have k2 : cntP (nzB (netTo g n n)) n ≤ k + E.length := k2
  omega
end Go.Proofs.YtbceepjjdfpfmaaGreat
namespace Go.Proofs.YtbceepjjdfpfmaaGreat
open Go.RowKit HandSpec LoanSpec
set_option maxHeartbeats 4000000
set_option maxRecDepth 100000
theorem firstI_hit {p : Nat → Bool} {n : Nat} (h : anyTo p n = true) : ∃ k, k < n ∧ p k = true ∧ firstI p n = (k : Int) := by
  obtain ⟨a, ha, hp⟩ := anyTo_true.1 h
  have : ∀ m, (∃ i, i < m ∧ i < n ∧ p i = true) → ∃ i, i < n ∧ p i = true ∧ ∀ j, j < i → p j = false := fun m => by
    induction m with
    | zero => rintro ⟨i, h, _⟩; omega
    | succ m ihm =>
      rintro ⟨i, h4, h5, h6⟩
      by_cases z : ∃ i, i < m ∧ i < n ∧ p i = true
      · exact ihm z
      · refine ⟨i, h5, h6, fun j hj => ?_⟩
        cases y : p j
        · rfl
        · exact absurd ⟨j, by omega, by omega, y⟩ z
  obtain ⟨i, i1, i2, i3⟩ := this n ⟨a, ha, ha, hp⟩
  exact ⟨i, i1, i2, firstI_yes i1 i3 i2⟩
/-- A list of its own. -/
def OwL (l : List Nat) : MSpec := fun v lo _ w => OwnR w lo 3 1 v (rows1 l)
theorem OwL.ext {l : List Nat} {v : Value} {lo hi : Nat} {w w' : World} (h : OwL l v lo hi w) (e : Ext w w') : OwL l v lo hi w' := OwnR.ext h e
theorem rows1_eq (l : List Nat) {g : Nat → Nat → Int} (h : ∀ k, k < l.length → g k 0 = ((l.getD k 0 : Nat) : Int)) : rowsG 1 l.length g = rows1 l := by
  refine List.ext_getElem (by rw [rowsG_length, rows1_length]) fun i h1 h2 => ?_
  rw [rows1_length] at h2
  have := h i h2
  rw [List.getD_eq_getElem?_getD, List.getElem?_eq_getElem h2] at this
  simp [rowsG, rows1]
  exact this
/-- The boxes of the closure. -/
structure Bx (w : World) (b1 b2 b3 : Nat) (Ad : Option Addr) (n cd : Nat) (g : Nat → Nat → Int) : Prop where
  d : RdN w Ad n (fun _ => n) g
  k1 : Blk w b1 48 #[.slice Ad n cd]
  k2 : Blk w b2 22 #[.slice none 0 0]
  k3 : Blk w b3 110 #[.func (.func 180) #[] #[.pointer (some ⟨b1, 0, none⟩), .pointer (some ⟨b2, 0, none⟩), .pointer (some ⟨b3, 0, none⟩)]]
theorem Bx.ext {w w' : World} {b1 b2 b3 : Nat} {Ad : Option Addr} {n cd : Nat} {g : Nat → Nat → Int} (h : Bx w b1 b2 b3 Ad n cd g) (e : Ext w w') : Bx w' b1 b2 b3 Ad n cd g := ⟨h.d.ext e, h.k1.ext e, h.k2.ext e, h.k3.ext e⟩
/-- A circle has been found. -/
def FoundC (n : Nat) (g : Nat → Nat → Int) (b2 : Nat) (w w' : World) : Prop := ∃ c u, Circ n g c ∧ OwnR w' w.heap.size 3 1 u (rows1 c) ∧ Blk w' b2 22 #[u] ∧ Ch (fun b => b = b2) w w' ∧ ∀ w0, Ext w0 w → w0.heap.size ≤ b2 → Ext w0 w'
theorem FoundC.from {n b2 : Nat} {g : Nat → Nat → Int} {w w1 w' : World} (h : FoundC n g b2 w1 w') (e : Ext w w1) : FoundC n g b2 w w' := by
  obtain ⟨c, u, h1, h2, h3, h5, h4⟩ := h
  exact ⟨c, u, h1, h2.base e.size, h3, (Ch.ofExt e).step h5 (fun _ _ h => h), fun w0 h hb => h4 w0 (h.trans e) hb⟩
theorem Bx.ne {w : World} {b1 b2 b3 : Nat} {Ad : Option Addr} {n cd : Nat} {g : Nat → Nat → Int} (h : Bx w b1 b2 b3 Ad n cd g) : b3 ≠ b2 := fun e => by
  have h2 := h.k2
  have h3 := h.k3
  subst e
  unfold Blk at h2 h3
  rw [h2] at h3
  simp at h3
/-- The box of the closure is as it was. -/
theorem cell_more {w1 w2 : World} {b1 b2 b3 : Nat} {Ad : Option Addr} {n cd v : Nat} {g : Nat → Nat → Int} (hb : Bx w1 b1 b2 b3 Ad n cd g) {bb : Bool} (h : (bb = false ∧ Ext w1 w2 ∧ Dead n g v) ∨ (bb = true ∧ FoundC n g b2 w1 w2)) :
    w2.cell? ⟨b3, 0, none⟩ = some (.func (.func 180) #[] #[.pointer (some ⟨b1, 0, none⟩), .pointer (some ⟨b2, 0, none⟩), .pointer (some ⟨b3, 0, none⟩)]) := by
  rcases h with ⟨-, e, -⟩ | ⟨-, c, u, -, -, -, h5, -⟩
  · exact (hb.k3.ext e).cell 0
  · exact (h5.blk hb.k3 hb.ne).cell 0
theorem OwL.fix {l : List Nat} {lo hi : Nat} {A : Option Addr} {m q : Nat} {w : World} (h : OwL l (.slice A m q) lo hi w) : OwnR w lo 3 1 (.slice A m q) (rows1 l) := h
theorem own_cap {w : World} {B : Nat} {e : TypeId} {c n q : Nat} {D : Option Addr} {l : List (List Int)} (h : OwnR w B e c (.slice D n q) l) : n ≤ q := by
  rcases h.2.2 with ⟨h1, h2⟩ | ⟨g, cap, cur, h1, _, _, h4, _⟩
  · cases h1; exact Nat.le_refl _
  · cases h1; exact h4
theorem rd_drop {w : World} {b o n s : Nat} {g : Nat → Nat → Int} (h : Rd w (some ⟨b, o, none⟩) n 1 g) (_hs : s ≤ n) : Rd w (some ⟨b, o + s, none⟩) (n - s) 1 (fun k j => g (s + k) j) := fun h0 => by
  obtain ⟨b', o', hA, hc⟩ := h (by omega)
  cases hA
  refine ⟨b, o + s, rfl, fun k hk j hj => ?_⟩
  have := hc (s + k) (by omega) j hj
  rw [show o + s + k * 1 + j = o + (s + k) * 1 + j by omega]
  exact this
theorem more180 {n b1 b2 b3 cd : Nat} {g : Nat → Nat → Int} {Ad : Option Addr} (hd : DOk n g) : ∀ (q : Nat) (l : List Nat) (w : World) (A : Option Addr) (N cap : Nat), n - l.length ≤ q → l.length = N → Path n g l → Bx w b1 b2 b3 Ad n cd g → Rd w A N 1 (rowsAt (rows1 l)) → N ≤ cap →
    Calls Tryz.prog 180 #[.slice A N cap, .pointer (some ⟨b1, 0, none⟩), .pointer (some ⟨b2, 0, none⟩), .pointer (some ⟨b3, 0, none⟩)] w fun e w' => ∃ b, e = .returned (.bool b) ∧ ((b = false ∧ Ext w w' ∧ Dead n g (l.getD (N - 1) 0)) ∨ (b = true ∧ FoundC n g b2 w w')) := by
  intro q
  induction q using Nat.strongRecOn with
  | _ q ih =>
  intro l w A N cap hq hN hp hb hr hcap
  have IH := hid ih
  have P := hid hp
  have B := hid hb
  have R := hid hr
  have E := hid (Ext.refl w)
  have hn7 := hd.hn
  have hNn := hp.len
  have h0N := hp.ne
  have HD := hid hd
  have HN := hid hN
  rw [hN] at hNn h0N hq
  obtain ⟨M, hM⟩ : ∃ M, N = M + 1 := ⟨N - 1, by omega⟩
  have hlast : (N : Int) - 1 = (M : Int) := by omega
  obtain ⟨v, hv⟩ : ∃ v, Hid (l.getD M 0 = v) := ⟨_, hid rfl⟩
  have hvn : v < n := by have := hp.last; rw [hN, show N - 1 = M by omega, hv.out] at this; exact this
  have hgo := hid (show l.getD (N - 1) 0 = v by rw [show N - 1 = M by omega]; exact hv.out)
  rw [hgo.out]
  obtain ⟨b, o, rfl, hbl, hcl⟩ := R.out.at1 (show M < N by omega)
  have hrv : rowsAt (rows1 l) M 0 = (v : Int) := by
    have : M < l.length := by omega
    have e := hv.out
    rw [List.getD_eq_getElem?_getD, List.getElem?_eq_getElem this] at e
    simp [rowsAt, rows1, this]
    rw [← e]; rfl
  rw [hrv] at hcl
  clear hrv
  clear hd hN hp hb hr ih
  have k1 := B.out.k1.cell
  have k1l := B.out.k1.lt
  obtain ⟨bd, od, Br, Cr, rfl, hbd, hcd, hRow⟩ := B.out.d.at_ hvn
  have HRow := hid hRow
  clear hRow hM
  go_enter Tryz.func180, Tryz.ntmps180
  go_upto_region 3 with fail
  clear hcl hcd hbl hbd k1 k1l
  go_loopw [21] (fun i W => ∃ j : Nat, j ≤ n ∧ i = .int .i64 (j : Int) ∧ Hid (Ext w W) ∧ Hid (∀ t, t < j → 0 < g v t → Dead n g t)) (fun i _ => n - (intOf i).toNat)
  case atStart => exact ⟨0, Nat.zero_le _, rfl, E, hid fun _ h => absurd h (by omega)⟩
  case round =>
    clear E
    obtain ⟨j, hj, rfl, E, HT⟩ := hrel
    by_cases hlj : j < n
    · obtain ⟨br, or_, rfl, hbr, hcr⟩ := (HRow.out.ext E.out).at1 hlj
      obtain ⟨z, hz⟩ : ∃ z, Hid (g v j = z) := ⟨_, hid rfl⟩
      rw [hz.out] at hcr
      have hz0 := (HD.out.hd v j hvn hlj).1
      rw [hz.out] at hz0
      by_cases h0 : z = 0
      · have t0 : (z == 0) = true := by simpa using h0
        clear hz0 h0
        go_wp2_with fail
        go_roundw
        case rel => exact ⟨j + 1, by omega, by go_num, E, hid fun t ht hg => by
          by_cases e : t = j
          · subst e
            rw [hz.out] at hg
            simp at t0
            omega
          · exact HT.out t (by omega) hg⟩
        case measure => simp [intOf]; omega
      · have t0 : (z == 0) = false := by simpa using h0
        have hgz := hid (show 0 < g v j by rw [hz.out]; omega)
        clear hz0 h0
        by_cases hm : j ∈ l
        · obtain ⟨s, s1, s2⟩ := mem_getD hm
          obtain ⟨s', r1, r2, r3⟩ := firstI_hit (p := fun k => (j : Int) == rowsAt (rows1 l) k 0) (n := N) (anyTo_true.2 ⟨s, by have := HN.out; omega, by
            rw [List.getD_eq_getElem?_getD, List.getElem?_eq_getElem s1] at s2
            simp [rowsAt, rows1, s1]
            rw [← s2]; rfl⟩)
          clear s1 s2 s
          have hsl : s' < l.length := by have := HN.out; omega
          have hs2 : l.getD s' 0 = j := by
            have r2 : ((j : Int) == rowsAt (rows1 l) s' 0) = true := r2
            rw [beq_iff_eq] at r2
            simp [rowsAt, rows1, hsl] at r2
            rw [List.getD_eq_getElem?_getD, List.getElem?_eq_getElem hsl]
            show l[s'] = j
            omega
          have hci := hid (P.out.circ HD.out.h0 hsl (by rw [HN.out, hgo.out, hs2]; exact hgz.out))
          have R3 := hid r3
          clear r2 r3 hs2 hm
          have hs0 : (0 : Int) ≤ (s' : Int) := by omega
          have hsc : ¬ cap = s' := by omega
          have hsc2 : s' < cap := by omega
          have k2 := (B.out.k2.ext E.out).cell
          have k2l := (B.out.k2.ext E.out).lt
          have k2f := (B.out.k2.ext E.out).frozen
          go_upto_region 7 with (go_at_call 139; (with_reducible refine (index139 (R.out.ext E.out) (by omega) (j : Int)).mono ?_); rintro e wz ⟨rfl, he⟩; rw [R3.out]; have E := hid (E.out.trans he); have k2 := (B.out.k2.ext E.out).cell; have k2l := (B.out.k2.ext E.out).lt; have k2f := (B.out.k2.ext E.out).frozen; clear he)
          go_upto_region 8 with fail
          obtain ⟨n8, hn8⟩ : ∃ N, Hid (wz.heap.size = N) := ⟨_, hid rfl⟩
          have hbn := hid (show b2 < n8 by have := hn8.out; omega)
          have hdl := hid (show (l.drop s').length = N - s' by rw [List.length_drop, HN.out])
          have hRd := hid (rd_drop (R.out.ext E.out) (show s' ≤ N by omega))
          go_wp2_with (go_at_call 181; (with_reducible refine (clone181 hRd.out (by omega)).mono ?_); rintro e wy ⟨u, rfl, he, ho⟩; obtain ⟨Au, cu, rfl, -⟩ := ho.slR; rw [rowsG_length] at ho ⊢; rw [hn8.out] at ho; have F := hid (E.out.trans he); have HO := hid ho; have k2 := (B.out.k2.ext F.out).cell; have k2l := (B.out.k2.ext F.out).lt; have k2f := (B.out.k2.ext F.out).frozen; clear he ho)
          go_ret
          refine ⟨_, rfl, .inr ⟨rfl, l.drop s', _, hci.out, ?_, (B.out.k2.ext F.out).set_ 0 _, (Ch.ofExt F.out).step (Ch.ofSet _ _ _ _) (fun _ _ h => h), fun w0 h hb => (h.trans F.out).setCell _ hb⟩⟩
          have ho := HO.out
          have hrow : rowsG 1 (N - s') (fun k j => rowsAt (rows1 l) (s' + k) j) = rows1 (l.drop s') := by
            rw [← hdl.out]
            refine rows1_eq (l.drop s') fun k hk => ?_
            rw [hdl.out] at hk
            have : s' + k < l.length := by have := HN.out; omega
            rw [getD_drop, List.getD_eq_getElem?_getD, List.getElem?_eq_getElem this]
            simp [rowsAt, rows1, this]
          rw [hrow] at ho
          refine (ho.far' (p := ⟨b2, 0, none⟩) hbn.out _).base ?_
          have := E.out.size
          have := hn8.out
          omega
        · have hsn := hid (P.out.snoc hlj hm (by rw [HN.out, hgo.out]; exact hgz.out))
          have R3 := hid (show firstI (fun k => (j : Int) == rowsAt (rows1 l) k 0) N = -1 from firstI_no fun k hk => by
            have hkl : k < l.length := by have := HN.out; omega
            rw [beq_eq_false_iff_ne]
            simp [rowsAt, rows1, hkl]
            intro e
            exact hm (by rw [show j = l[k] by omega]; exact List.getElem_mem _))
          have hln := hid (show (l ++ [j]).length = N + 1 by rw [List.length_append, HN.out]; rfl)
          have hN1 := hsn.out.len
          rw [hln.out] at hN1
          clear hm
          go_upto_region 10 with (go_at_call 139; (with_reducible refine (index139 (R.out.ext E.out) (by omega) (j : Int)).mono ?_); rintro e wz ⟨rfl, he⟩; rw [R3.out]; have E := hid (E.out.trans he); clear he)
          obtain ⟨w5, hw5⟩ : ∃ W : World, Hid (W = wz) := ⟨_, hid rfl⟩
          rw [← hw5.out] at E ⊢
          have k3 := (B.out.k3.ext E.out).cell
          have k3l := (B.out.k3.ext E.out).lt
          clear hcr hbr hw5
          have hlr := hid (show (rows1 l ++ [[(j : Int)]]).length = N + 1 by rw [List.length_append, rows1_length, HN.out]; rfl)
          have hl7 : l.length ≤ 7 := by have := HN.out; omega
          have hq1 := hid (show q - 1 < q by omega)
          have hq2 := hid (show n - (l ++ [j]).length ≤ q - 1 by rw [hln.out]; omega)
          have hra : rows1 l ++ [[(j : Int)]] = rows1 (l ++ [j]) := (rows1_append l [j]).symm
          have hra := hid hra
          have k30 := k3 0
          have c7 := k30
          go_region_held_law (fun w' => w'.cell? ⟨b3, 0, none⟩ = some (.func (.func 180) #[] #[.pointer (some ⟨b1, 0, none⟩), .pointer (some ⟨b2, 0, none⟩), .pointer (some ⟨b3, 0, none⟩)])) (first | exact c10 | exact c9 | exact c7 | go_keep) (first
            | (go_simp; go_at_call 181; (with_reducible refine (clone181 (R.out.ext (E.out.trans (by repeat (first | exact Ext.refl _ | assumption | refine Ext.drew ?_ | refine Ext.alloc ?_ _)))) (by omega)).mono ?_); rintro e w7 ⟨u7, rfl, he7, ho7⟩; have E7 : Ext w5 w7 := Ext.trans (by repeat (first | exact Ext.refl _ | assumption | refine Ext.drew ?_ | refine Ext.alloc ?_ _)) he7; have c7 := E7.some_ k30; rw [← HN.out, rows1_eq l fun k hk => by rw [List.getD_eq_getElem?_getD, List.getElem?_eq_getElem hk]; simp [rowsAt, rows1, hk]] at ho7; obtain ⟨A7, q7, rfl, -⟩ := OwnR.slR ho7; rw [rows1_length, HN.out] at ho7 ⊢; have HO7 := hid (ho7.base (show w5.heap.size ≤ _ from Ext.size (by repeat (first | exact Ext.refl _ | assumption | refine Ext.drew ?_ | refine Ext.alloc ?_ _)))); clear ho7)
            | (go_simp; go_at_call 180; (refine (IH.out (q - 1) hq1.out (l ++ [j]) _ A9 (N + 1) q9 hq2.out hln.out hsn.out (B.out.ext (E.out.trans E9)) HR9.out hq9.out).mono ?_); rintro e w10 ⟨bb, rfl, h10⟩; have c10 := cell_more (B.out.ext (E.out.trans E9)) h10)
            | (refine step_append_rows_at (by rfl) _ _ 22 (by rfl) el22 (by rfl) (HO7.out.ext (by repeat (first | exact Ext.refl _ | assumption | refine Ext.drew ?_ | refine Ext.alloc ?_ _))) _ 1 1 [[(j : Int)]] (by rfl) (by simp) (by simp) (by intro i; first | exact ((Blk.ext (w := (w5.alloc (.cells #[.int .i64 (j : Int)] 3)).drew) (show Blk (w5.alloc (.cells #[.int .i64 (j : Int)] 3)) w5.heap.size 3 #[.int .i64 (j : Int)] from Blk.new _ _ _) he7).cell i).trans (by simp [cellsOf]) | (simp [cellsOf]; done)) (by rw [rows1_length]; omega) (by have := E7.size; simp; omega) ?_; intro vo w9 ho9 hg9 at9; have E9 : Ext w5 w9 := Ext.grown (Ext.trans E7 (by repeat (first | exact Ext.refl _ | assumption | refine Ext.drew ?_ | refine Ext.alloc ?_ _))) hg9 (fun q hq => HO7.out.block hq); have c9 := E9.some_ k30; obtain ⟨A9, q9, rfl, r9⟩ := OwnR.slR ho9; rw [hlr.out] at ho9 r9 ⊢; rw [hra.out] at r9; have HR9 := hid r9; have hq9 : Hid (N + 1 ≤ q9) := hid (own_cap ho9); clear ho9 at9 hg9 r9))
          all_goals
            rcases h10 with ⟨rfl, e10, hdead⟩ | ⟨rfl, hf⟩
            · go_wp2_with fail
              go_roundw
              case rel =>
                refine ⟨j + 1, by omega, by go_num, hid (E.out.trans (E9.trans e10)), hid fun t ht hg => ?_⟩
                by_cases e : t = j
                · subst e
                  have h := Path.last_snoc l t
                  rw [hln.out] at h
                  rw [h] at hdead
                  exact hdead
                · exact HT.out t (by omega) hg
              case measure => simp [intOf]; omega
            · go_wp2_with fail
              go_ret
              exact ⟨_, rfl, .inr ⟨rfl, hf.from (E.out.trans E9)⟩⟩
    · have hjn : j = n := by omega
      subst hjn
      go_wp2_with fail
      go_ret
      exact ⟨_, rfl, .inl ⟨rfl, E.out, dead_of hvn HT.out⟩⟩
end Go.Proofs.YtbceepjjdfpfmaaGreat
namespace Go.Proofs.YtbceepjjdfpfmaaGreat
open Go.RowKit HandSpec LoanSpec
set_option maxHeartbeats 4000000
set_option maxRecDepth 100000
/-- What circle gives back. -/
theorem circle152 {w : World} {n cd : Nat} {g : Nat → Nat → Int} {Ad : Option Addr} (hd : DOk n g) (hr : RdN w Ad n (fun _ => n) g) :
    Calls Tryz.prog 152 #[.slice Ad n cd] w fun e w' => ∃ c u, e = .returned u ∧ Ext w w' ∧ OwnR w' w.heap.size 3 1 u (rows1 c) ∧ (Circ n g c ∨ (c = [] ∧ ∀ k, k < n → Dead n g k)) := by
  have hmf : ∀ (fn : Fn) (first cap : Array Value) (w : World), (Instr.makeFunc fn first cap).run Tryz.prog w = .ok (.func fn first cap) w := fun _ _ _ _ => rfl
  have HR := hid hr
  have HD := hid hd
  have hn7 := hd.hn
  clear hr hd
  go_enter Tryz.func152, Tryz.ntmps152
  go_wp2
  go_step3
  go_upto_region 3 with fail
  refine wp_later fun w3 hw3 => ?_
  obtain ⟨e12, B3⟩ := hw3.newB
  obtain ⟨E3, B1, B2⟩ := e12.newB2
  have B1 := hid B1
  have B2 := hid B2
  obtain ⟨b1, hb1⟩ : ∃ b, Hid (w.heap.size = b) := ⟨_, hid rfl⟩
  simp only [World.size_alloc] at B3
  rw [hb1.out] at B1 B2 B3
  rw [hb1.out]
  obtain ⟨b2, hb2⟩ : ∃ b, Hid (b1 + 1 = b) := ⟨_, hid rfl⟩
  rw [hb2.out] at B2 B3 ⊢
  obtain ⟨b3, hb3⟩ : ∃ b, Hid (b2 + 1 = b) := ⟨_, hid rfl⟩
  rw [hb3.out] at B3 ⊢
  have h12 := hb2.out
  have h23 := hb3.out
  have h01 := hb1.out
  have k3 := B3.cell
  have k3l := B3.lt
  have k3f := B3.frozen
  have E4 := hid (show Ext w (w3.setCell ⟨b3, 0, none⟩ (.func (.func 180) #[] #[.pointer (some ⟨b1, 0, none⟩), .pointer (some ⟨b2, 0, none⟩), .pointer (some ⟨b3, 0, none⟩)])) from E3.setCell _ (by show w.heap.size ≤ b3; omega))
  have X4 := hid (show Bx (w3.setCell ⟨b3, 0, none⟩ (.func (.func 180) #[] #[.pointer (some ⟨b1, 0, none⟩), .pointer (some ⟨b2, 0, none⟩), .pointer (some ⟨b3, 0, none⟩)])) b1 (b2) (b3) Ad n cd g from
    ⟨HR.out.ext E4.out, B1.out.far (show b1 ≠ b3 by omega) _, B2.out.far (show b2 ≠ b3 by omega) _, B3.set_ 0 _⟩)
  have hst : (store ⟨b3, 0, none⟩ (.func (.func 180) #[] #[.pointer (some ⟨b1, 0, none⟩), .pointer (some ⟨b2, 0, none⟩), .pointer (some ⟨b3, 0, none⟩)])).run Tryz.prog w3 = .ok () (w3.setCell ⟨b3, 0, none⟩ (.func (.func 180) #[] #[.pointer (some ⟨b1, 0, none⟩), .pointer (some ⟨b2, 0, none⟩), .pointer (some ⟨b3, 0, none⟩)])) := by
    rw [run_store _ _ _ _ _ (by rfl), k3 0, k3f 0]; rfl
  clear h12 h23 k3 k3f k3l B3
  obtain ⟨w4, hw4⟩ : ∃ W : World, Hid (W = w3.setCell ⟨b3, 0, none⟩ (.func (.func 180) #[] #[.pointer (some ⟨b1, 0, none⟩), .pointer (some ⟨b2, 0, none⟩), .pointer (some ⟨b3, 0, none⟩)])) := ⟨_, hid rfl⟩
  rw [← hw4.out] at X4 E4 hst
  have hB1 : w.heap.size ≤ b1 := by omega
  have hB2 : w.heap.size ≤ b2 := by have := hb2.out; omega
  have hB3 : w.heap.size ≤ b3 := by have := hb2.out; have := hb3.out; omega
  clear h01
  go_wp2
  have k1 := X4.out.k1.cell
  have k1l := X4.out.k1.lt
  go_step3
  go_upto_region 5 with fail
  clear k1 k1l
  go_loopw [9] (fun i W => ∃ j : Nat, j ≤ n ∧ i = .int .i64 (j : Int) ∧ Hid (Ext w4 W) ∧ Hid (∀ t, t < j → Dead n g t)) (fun i _ => n - (intOf i).toNat)
  case atStart => exact ⟨0, Nat.zero_le _, rfl, hid (Ext.refl _), hid fun _ h => absurd h (by omega)⟩
  case round =>
    obtain ⟨j, hj, rfl, F, HT⟩ := hrel
    by_cases hlj : j < n
    · have k3 := (X4.out.k3.ext F.out).cell
      have k3l := (X4.out.k3.ext F.out).lt
      go_upto_region 7 with fail
      have e8 : Ext wr (wr.alloc (.cells #[.int .i64 (j : Int)] 3)) := (Ext.refl _).alloc _
      have hRj : Rd (wr.alloc (.cells #[.int .i64 (j : Int)] 3)) (some ⟨wr.heap.size, 0, none⟩) 1 1 (rowsAt (rows1 [j])) := fun _ => ⟨wr.heap.size, 0, rfl, fun k hk q hq => by
        obtain rfl : k = 0 := by omega
        obtain rfl : q = 0 := by omega
        rw [(Blk.new wr 3 #[.int .i64 (j : Int)]).cell]
        simp [rowsAt, rows1]⟩
      have RJ := hid hRj
      have E8 := hid e8
      clear hRj e8
      go_upto_if 15 with (go_at_call 180; (refine (more180 HD.out (n - 1) [j] _ _ 1 1 (by simp) rfl (Path.one hlj) ((X4.out.ext F.out).ext E8.out) RJ.out (Nat.le_refl _)).mono ?_); rintro e w10 ⟨bb, rfl, h10⟩)
      rcases h10 with ⟨rfl, e10, hdead⟩ | ⟨rfl, c, u, hc, hu, hbk, -, hw0⟩
      · have F := hid (F.out.trans (E8.out.trans e10))
        go_wp2_with fail
        go_roundw
        case rel => exact ⟨j + 1, by omega, by go_num, F, hid fun t ht => by
          by_cases e : t = j
          · subst e
            exact hdead
          · exact HT.out t (by omega)⟩
        case measure => simp [intOf]; omega
      · have k2 := hbk.cell
        have k2l := hbk.lt
        have HC := hid hc
        have HU := hid hu
        have HW := hid (hw0 w ((E4.out.trans F.out).trans E8.out) hB2)
        clear hw0
        obtain ⟨Au, cu, rfl, -⟩ := HU.out.slR
        go_wp2_with fail
        rw [Exit.noGoto_ret]
        go_ret
        exact ⟨c, _, rfl, HW.out, HU.out.base (by have := (E4.out.trans F.out).size; have := E8.out.size; omega), .inl HC.out⟩
    · have hjn : j = n := by omega
      subst hjn
      have k2 := (X4.out.k2.ext F.out).cell
      have k2l := (X4.out.k2.ext F.out).lt
      go_wp2_with fail
      rw [Exit.noGoto_ret]
      go_ret
      exact ⟨[], _, rfl, E4.out.trans F.out, OwnR.nil, .inr ⟨rfl, HT.out⟩⟩
/-- The error of Circle. -/
def errK (n : Nat) (m : Nat → Nat) (g : Nat → Nat → Int) (b : Bool) : Int := if chkD n m g ≠ 0 then chkD n m g else if b then 0 else 6
theorem circle76 {w : World} {A : Option Addr} {n cap : Nat} {m : Nat → Nat} {g : Nat → Nat → Int} (hr : RdN w A n m g) (hn : n ≤ 1000) (hm : ∀ k, k < n → m k ≤ 1000) :
    Calls Tryz.prog 76 #[.slice A n cap] w fun e w' => ∃ u er, e = .returned (.tuple #[u, .int .i64 er]) ∧ Ext w w' ∧ (chkD n m g ≠ 0 → u = .slice none 0 0 ∧ er = chkD n m g) ∧
      (chkD n m g = 0 → (er = 0 ∧ ∃ c, Circ n g c ∧ OwnR w' w.heap.size 3 1 u (rows1 c)) ∨ (er = 6 ∧ u = .slice none 0 0 ∧ ∀ k, k < n → Dead n g k)) := by
  have HR := hid hr
  have HM := hid hm
  clear hr hm
  obtain ⟨s, hs⟩ : ∃ s, Hid (chkD n m g = s) := ⟨_, hid rfl⟩
  rcases (Decidable.em (s = 0)).symm with h0 | h0
  · have tne : (s != 0) = true := by simpa using h0
    have H0 := hid h0
    clear h0
    go_enter Tryz.func76, Tryz.ntmps76
    go_wp2_with (go_at_call 33; refine (checkDebts33 HR.out hn HM.out).mono ?_; rintro e w1 ⟨rfl, he1⟩; rw [hs.out])
    go_ret2
    exact ⟨_, _, rfl, he1, fun _ => ⟨rfl, hs.out.symm⟩, fun h => absurd (hs.out.symm.trans h) H0.out⟩
  subst h0
  obtain ⟨hd, hsq⟩ := chkD_zero hs.out
  have HD := hid hd
  have HR2 := hid (HR.out.congr (m' := fun _ => n) (g' := g) fun k hk => ⟨hsq k hk, fun _ _ => rfl⟩)
  clear hd hsq
  have E := hid (Ext.refl w)
  go_enter Tryz.func76, Tryz.ntmps76
  go_upto_region 5 with (first
    | (go_at_call 33; refine (checkDebts33 (HR.out.ext E.out) hn HM.out).mono ?_; rintro e w1 ⟨rfl, he1⟩; rw [hs.out]; have E := hid (E.out.trans he1); clear he1)
    | (go_at_call 152; refine (circle152 HD.out (HR2.out.ext E.out)).mono ?_; rintro e w2 ⟨c, u, rfl, he, hu, hc⟩; have HU := hid (hu.base E.out.size); have E := hid (E.out.trans he); have HC := hid hc; clear he hc hu))
  rcases HC.out with hc | ⟨rfl, hdead⟩
  · have h2 := hc.two
    obtain ⟨Au, cu, rfl, -⟩ := HU.out.slR
    rw [rows1_length] at HU ⊢
    have tl : ((c.length : Int) == 0) = false := by simp; intro q; rw [q] at h2; simp at h2
    go_wp2_with fail
    go_ret2
    exact ⟨_, _, rfl, E.out, fun h => absurd hs.out h, fun _ => .inl ⟨rfl, c, hc, HU.out⟩⟩
  · obtain ⟨Au, cu, rfl, -⟩ := HU.out.slR
    have hdd := hid hdead
    clear hdead
    go_wp2_with fail
    go_ret2
    exact ⟨_, _, rfl, E.out, fun h => absurd hs.out h, fun _ => .inr ⟨rfl, rfl, hdd.out⟩⟩
end Go.Proofs.YtbceepjjdfpfmaaGreat
namespace Go.Proofs.YtbceepjjdfpfmaaGreat
open Go.RowKit HandSpec LoanSpec
set_option maxHeartbeats 4000000
set_option maxRecDepth 100000
theorem cntE_congr {n : Nat} {g h : Nat → Nat → Int} (e : ∀ i j, i < n → j < n → g i j = h i j) : ∀ k, k ≤ n → cntE n g k = cntE n h k
  | 0, _ => rfl
  | k + 1, hk => by
    simp only [cntE]
    rw [cntE_congr e k (by omega)]
    congr 1
    exact cntP_congr fun j hj => by rw [e k j (by omega) hj]
theorem Circ.congr {n : Nat} {g h : Nat → Nat → Int} {c : List Nat} (e : ∀ i j, i < n → j < n → g i j = h i j) (H : Circ n g c) : Circ n h c :=
  ⟨H.two, H.lt, H.nd, fun i hi => by
    have := H.two
    have h1 := e (c.getD i 0) (c.getD (nxtC c.length i) 0) (H.lt _ (getD_mem hi)) (H.lt _ (getD_mem (Nat.mod_lt _ (by omega))))
    rw [← h1]
    exact H.on i hi⟩
theorem MtV.same {W : World} {B B' n : Nat} {v : Value} {m m' : Nat → Nat → Int} (h : MtV W B v n m) (h' : MtV W B' v n m') : ∀ i j, i < n → j < n → m i j = m' i j := fun i j hi hj => by
  obtain ⟨g, r, c, cap, e1, M⟩ := h
  obtain ⟨g', r', c', cap', e2, M'⟩ := h'
  rw [e1] at e2
  simp only [Value.slice.injEq, Option.some.injEq, Addr.mk.injEq] at e2
  obtain ⟨⟨rfl, -⟩, -, -⟩ := e2
  have a := M.atRow hi
  rw [M'.atRow hi] at a
  simp only [Option.some.injEq, Value.slice.injEq, Addr.mk.injEq] at a
  have hr : r' i = r i := a.1.1
  have h1 := (M.row i hi).cell hj
  have h2 := (M'.row i hi).cell hj
  rw [hr, h1] at h2
  simp only [Option.some.injEq, Value.int.injEq] at h2
  exact h2.2
open Classical in
/-- How many debts there are in a table. -/
noncomputable def cntV (W : World) (n : Nat) (v : Value) : Nat := if h : ∃ m, MtV W 0 v n m then cntE n (Classical.choose h) n else 0
theorem cntV_eq {W : World} {B n : Nat} {v : Value} {m : Nat → Nat → Int} (h : MtV W B v n m) : cntV W n v = cntE n m n := by
  have h0 : MtV W 0 v n m := by
    obtain ⟨g, r, c, cap, e, M⟩ := h
    exact ⟨g, r, c, cap, e, M.base (Nat.zero_le _)⟩
  have hx : ∃ m, MtV W 0 v n m := ⟨m, h0⟩
  unfold cntV
  rw [dif_pos hx]
  exact cntE_congr (MtV.same (Classical.choose_spec hx) h0) n (Nat.le_refl _)
theorem rd_list {w : World} {A : Option Addr} {l : List Nat} (h : Rd w A l.length 1 (rowsAt (rows1 l))) : Rd w A l.length 1 (fun k _ => ((l.getD k 0 : Nat) : Int)) :=
  h.congr fun i hi j hj => by
    obtain rfl : j = 0 := by omega
    rw [List.getD_eq_getElem?_getD, List.getElem?_eq_getElem hi]
    simp [rowsAt, rows1, hi]
/-- What is left of debts without a circle. -/
structure StrL (n : Nat) (g m : Nat → Nat → Int) : Prop where
  ok : DOk n m
  net : netTo m n n = netTo g n n
  le : ∀ i j, i < n → j < n → m i j ≤ g i j
  same : (∀ k, k < n → Dead n g k) → ∀ i j, i < n → j < n → m i j = g i j
theorem straight78 {w : World} {A : Option Addr} {n cap : Nat} {m : Nat → Nat} {g : Nat → Nat → Int} (hr : RdN w A n m g) (hn : n ≤ 1000) (hm : ∀ k, k < n → m k ≤ 1000) :
    Calls Tryz.prog 78 #[.slice A n cap] w fun e w' => ∃ u, e = .returned (.tuple #[u, .int .i64 (chkD n m g)]) ∧ Ext w w' ∧ (chkD n m g ≠ 0 → u = .slice none 0 0) ∧
      (chkD n m g = 0 → ∃ m', MtV w' w.heap.size u n m' ∧ StrL n g m' ∧ ∀ k, k < n → Dead n m' k) := by
  have HR := hid hr
  have HM := hid hm
  clear hr hm
  obtain ⟨s, hs⟩ : ∃ s, Hid (chkD n m g = s) := ⟨_, hid rfl⟩
  rcases (Decidable.em (s = 0)).symm with h0 | h0
  · have tne : (s != 0) = true := by simpa using h0
    have H0 := hid h0
    clear h0
    go_enter Tryz.func78, Tryz.ntmps78
    go_wp2_with (go_at_call 33; refine (checkDebts33 HR.out hn HM.out).mono ?_; rintro e w1 ⟨rfl, he1⟩; rw [hs.out])
    rw [hs.out]
    go_ret2
    exact ⟨_, rfl, he1, fun _ => rfl, fun h => absurd h H0.out⟩
  subst h0
  obtain ⟨hd, hsq⟩ := chkD_zero hs.out
  have HD := hid hd
  have HR2 := hid (HR.out.congr (m' := fun _ => n) (g' := g) fun k hk => ⟨hsq k hk, fun _ _ => rfl⟩)
  have hn7 := hd.hn
  clear hd hsq
  have E := hid (Ext.refl w)
  go_enter Tryz.func78, Tryz.ntmps78
  go_upto_region 5 with (first
    | (go_at_call 33; refine (checkDebts33 (HR.out.ext E.out) hn HM.out).mono ?_; rintro e w1 ⟨rfl, he1⟩; rw [hs.out]; have E := hid (E.out.trans he1); clear he1)
    | (go_at_call 155; refine (clone155 (HR2.out.ext E.out) hn7).mono ?_; rintro e w1 ⟨u, rfl, he1, hm1⟩; have HV := hid hm1; have E0 := hid E.out.size; have E := hid (E.out.trans he1); clear he1 hm1))
  have HV0 := hid (show MtV w1 w.heap.size u n g from by
    obtain ⟨g', r, c, cp, e, M⟩ := HV.out
    exact ⟨g', r, c, cp, e, M.base E0.out⟩)
  clear HV E0
  go_loopw [5, 6] (fun v _ W => ∃ m', Hid (MtV W w.heap.size v n m') ∧ Hid (StrL n g m') ∧ Hid (Ext w W)) (fun v _ W => cntV W n v)
  case atStart => exact ⟨g, HV0, hid ⟨HD.out, rfl, fun _ _ _ _ => Int.le_refl _, fun _ _ _ _ _ => rfl⟩, E⟩
  case round =>
    clear HV0 E
    obtain ⟨m', HV, HS, E⟩ := hrel
    have hcv := hid (cntV_eq HV.out)
    have hV := HV.out
    obtain ⟨g', r, c, cp, rfl, M⟩ := hV
    have HN := hid M.rdN
    clear M
    go_upto_region 6 with (go_at_call 152; (with_reducible refine (circle152 HS.out.ok HN.out).mono ?_); rintro e w2 ⟨cl, u2, rfl, he, hu, hc⟩; have HU := hid hu; have HC := hid hc; have HN2 := hid (HN.out.ext he); have HV2 := hid (HV.out.ext he); have E2 := hid (E.out.trans he); clear he hu hc)
    rcases HC.out with hc | ⟨rfl, hdead⟩
    · have h2 := hc.two
      have hCi := hid hc
      have hl7 := nodup_len n cl hc.nd hc.lt
      obtain ⟨Au, cu, rfl, rdu⟩ := HU.out.slR
      rw [rows1_length] at HU rdu ⊢
      have HRu := hid (rd_list rdu)
      have tl : ((cl.length : Int) == 0) = false := by simp; intro q; rw [q] at h2; simp at h2
      obtain ⟨L, hL⟩ : ∃ L, Hid (cl.length = L) := ⟨_, hid rfl⟩
      have hL7 : 1 ≤ L ∧ L ≤ 1000 := by have := hL.out; omega
      have hcn := hid (fun k (hk : k < L) => hc.lt _ (getD_mem (l := cl) (i := k) (by have := hL.out; omega)))
      rw [hL.out] at HRu tl ⊢
      clear hc rdu h2 hl7
      go_wp2_with (go_at_call 154; (with_reducible refine (cancel154 (c := fun k => cl.getD k 0) HN2.out HS.out.ok HRu.out hL7 hcn.out).mono ?_); rintro e w3 ⟨u3, rfl, he3, hm3⟩; have HM3 := hid hm3; have he3 := hid he3; clear hm3)
      have hok := cut_ok HS.out.ok hCi.out rfl
      rw [hL.out] at hok
      obtain ⟨o1, o2, o3, o4, -⟩ := hok
      have HM4 : Hid (MtV w3 w.heap.size u3 n (cutC m' (fun k => cl.getD k 0) L (lowC m' (fun k => cl.getD k 0) L L) L)) := hid (by
        obtain ⟨g4, r4, c4, cp4, e4, M4⟩ := HM3.out
        exact ⟨g4, r4, c4, cp4, e4, M4.base E2.out.size⟩)
      have hcv3 := hid (cntV_eq HM4.out)
      have O4 := hid o4
      have HS4 : Hid (StrL n g (cutC m' (fun k => cl.getD k 0) L (lowC m' (fun k => cl.getD k 0) L L) L)) := hid ⟨o1, o2.trans HS.out.net, fun i j hi hj => Int.le_trans (o3 i j hi hj) (HS.out.le i j hi hj), fun hdd => absurd ⟨_, (hCi.out.congr (HS.out.same hdd)).trap⟩ (no_trap hdd)⟩
      clear o1 o2 o3 o4
      go_roundw
      case rel => exact ⟨_, HM4, HS4, hid (E2.out.trans he3.out)⟩
      case measure =>
        have h1 := hcv.out
        have h2 := hcv3.out
        have h3 := O4.out
        omega
    · obtain ⟨Au, cu, rfl, -⟩ := HU.out.slR
      have hdd := hid hdead
      clear hdead
      go_wp2_with fail
      go_ret2
      exact ⟨_, by rw [hs.out]; rfl, E2.out, fun h => absurd hs.out h, fun _ => ⟨m', HV2.out, HS.out, hdd.out⟩⟩
end Go.Proofs.YtbceepjjdfpfmaaGreat
