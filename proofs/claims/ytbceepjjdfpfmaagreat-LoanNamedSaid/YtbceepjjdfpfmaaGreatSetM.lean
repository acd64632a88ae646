/- Plain: what Settle reckons out of groups. -/
import Derived.Test.YtbceepjjdfpfmaaGreatGrpM
namespace Go.Proofs.YtbceepjjdfpfmaaGreat
open Go.RowKit HandSpec
set_option maxHeartbeats 2000000
set_option maxRecDepth 100000
/-- Nets that are left, and payments so far. -/
structure SS where
  f : Nat → Int
  l : List (List Int)
/-- How much two can settle. -/
def amtM (f : Nat → Int) (a b : Nat) : Int := min (max (f a) (-(f a))) (max (f b) (-(f b)))
/-- Two are set against each other. -/
def payM (a b : Nat) (s : SS) : SS :=
  if amtM s.f a b = 0 ∨ decide (0 < s.f a) = decide (0 < s.f b) then s
  else if 0 < s.f a then ⟨upd (upd s.f b (s.f b + amtM s.f a b)) a (upd s.f b (s.f b + amtM s.f a b) a - amtM s.f a b), s.l ++ [[(b : Int), (a : Int), amtM s.f a b]]⟩
  else ⟨upd (upd s.f a (s.f a + amtM s.f a b)) b (upd s.f a (s.f a + amtM s.f a b) b - amtM s.f a b), s.l ++ [[(a : Int), (b : Int), amtM s.f a b]]⟩
/-- One of a group against the next j ones. -/
def inM (l : Nat → Nat) (i : Nat) : Nat → SS → SS
  | 0, s => s
  | j + 1, s => payM (l i) (l (i + 1 + j)) (inM l i j s)
/-- The first i ones of a group of m against all behind them. -/
def outM (l : Nat → Nat) (m : Nat) : Nat → SS → SS
  | 0, s => s
  | i + 1, s => inM l i (m - (i + 1)) (outM l m i s)
/-- The first k groups. -/
def setM (L : List Nat) (s : SS) : Nat → SS
  | 0 => s
  | k + 1 => outM (fun j => (places (L.getD k 0)).getD j 0) (places (L.getD k 0)).length (places (L.getD k 0)).length (setM L s k)
/-- All payments. -/
def settleM (L : List Nat) (f : Nat → Int) : SS := setM L ⟨f, []⟩ L.length
/-- Nets of no more than that, and so many payments at most. -/
def BdS (B : Int) (c : Nat) (s : SS) : Prop := (∀ i, -B ≤ s.f i ∧ s.f i ≤ B) ∧ s.l.length ≤ c
theorem BdS.pay {B : Int} {c : Nat} {s : SS} (h : BdS B c s) (a b : Nat) : BdS B (c + 1) (payM a b s) := by
  obtain ⟨h1, h2⟩ := h
  unfold payM
  split
  · exact ⟨h1, by omega⟩
  · rename_i hne
    have h0 : ¬ (decide (0 < s.f a) = decide (0 < s.f b)) := fun e => hne (.inr e)
    have ha := h1 a
    have hb := h1 b
    have hab : a ≠ b := fun e => h0 (by rw [e])
    have hba : b ≠ a := fun e => hab e.symm
    split
    · rename_i hp
      have hnb : ¬ 0 < s.f b := fun e => h0 (by simp [hp, e])
      refine ⟨fun i => ?_, by rw [List.length_append]; simp; omega⟩
      dsimp only
      unfold upd amtM
      have := h1 i
      split
      · omega
      · split <;> omega
    · rename_i hp
      refine ⟨fun i => ?_, by rw [List.length_append]; simp; omega⟩
      have hpb : 0 < s.f b := by
        rcases Int.lt_or_le 0 (s.f b) with q | q
        · exact q
        · exact absurd (by simp [hp, Int.not_lt.2 q]) h0
      dsimp only
      unfold upd amtM
      have := h1 i
      split
      · omega
      · split <;> omega
theorem BdS.in_ {B : Int} {c : Nat} {s : SS} (h : BdS B c s) (l : Nat → Nat) (i : Nat) : ∀ j, BdS B (c + j) (inM l i j s)
  | 0 => h
  | j + 1 => (BdS.in_ h l i j).pay _ _
theorem BdS.mono {B : Int} {c d : Nat} {s : SS} (h : BdS B c s) (e : c ≤ d) : BdS B d s := ⟨h.1, by have := h.2; omega⟩
theorem BdS.out_ {B : Int} {c : Nat} {s : SS} (h : BdS B c s) (l : Nat → Nat) {m : Nat} (hm : m ≤ 7) : ∀ i, i ≤ m → BdS B (c + 7 * i) (outM l m i s)
  | 0, _ => h
  | i + 1, hi => ((BdS.out_ h l hm i (by omega)).in_ l i (m - (i + 1))).mono (by omega)
theorem places_seven' (L : List Nat) (hL : ∀ s, s ∈ L → 0 < s ∧ s < 128) {k : Nat} (hk : k < L.length) : (places (L.getD k 0)).length ≤ 7 := places_seven _ (by
  have := hL (L.getD k 0) (by rw [List.getD_eq_getElem?_getD, List.getElem?_eq_getElem hk]; exact List.getElem_mem _)
  omega)
theorem BdS.set_ {B : Int} {L : List Nat} (hL : ∀ s, s ∈ L → 0 < s ∧ s < 128) {s : SS} (h : BdS B 0 s) : ∀ k, k ≤ L.length → BdS B (49 * k) (setM L s k)
  | 0, _ => h
  | k + 1, hk => by
    have hm := places_seven' L hL (k := k) (by omega)
    exact ((BdS.set_ hL h k (by omega)).out_ _ hm _ (Nat.le_refl _)).mono (by omega)
theorem dif_sub : ∀ s : Nat, s < 128 → ∀ q : Nat, q < 128 → dif s q &&& s = dif s q := by decide +kernel
theorem grpM_sub {f : Nat → Int} {n : Nat} {st : StM} (h : GoodM f n st) : ∀ (k s : Nat), s ≤ k → s < 128 → (∃ v, st.b s = some v) → ∀ q, q ∈ grpM st.p k s → q &&& s = q
  | 0, _, _, _, _, q, hq => by simp [grpM] at hq
  | k + 1, s, hk, hs, hv, u, hu => by
    simp only [grpM] at hu
    split at hu
    · simp at hu
    · rename_i h0
      obtain ⟨v, hv⟩ := hv
      obtain ⟨q, h1, h2, h3, h4⟩ := h.p s v h0 hv
      have hq := (sub_facts s hs q (by have : q ≤ s := by rw [← h3]; exact Nat.and_le_right
                                       omega) h3 h2)
      have e : ((st.p s).getD 0).toNat = q := by rw [h1]; rfl
      rw [e] at hu
      rcases List.mem_cons.1 hu with rfl | hu
      · exact h3
      · have ih := grpM_sub h k (dif s q) (by omega) (by omega) h4 u hu
        have hd := dif_sub s hs q (by omega)
        rw [← ih, Nat.and_assoc, hd]
theorem places_below : ∀ n : Nat, n ≤ 7 → ∀ q : Nat, q < 128 → q < 2 ^ n → ∀ x, x ∈ places q → x < n := by decide +kernel
/-- What groups are. -/
theorem groups_ok {f : Nat → Int} {n : Nat} (hn : n ≤ 7) (ht : totTo f n = 0) {L : List Nat} (hp : L.Perm (groupsM f n)) : (∀ s, s ∈ L → 0 < s ∧ s < 128) ∧ (∀ s, s ∈ L → ∀ x, x ∈ places s → x < n) ∧ L.length ≤ 7 := by
  have ho := openM_lt f n hn
  have ho' : openM f n < 128 := Nat.lt_of_lt_of_le ho (pow_mono7 n hn)
  have hg := outerM_good f n (openM f n) ho'
  have hv := outerM_open hn ht
  obtain ⟨h1, h2⟩ := grpM_ok hg 128 (openM f n) (by omega) ho' hv
  have h3 := grpM_sub hg 128 (openM f n) (by omega) ho' hv
  refine ⟨fun s hs => h1 s (hp.mem_iff.1 hs), fun s hs x hx => ?_, ?_⟩
  · have hm := hp.mem_iff.1 hs
    have := h1 s hm
    refine places_below n hn s this.2 ?_ x hx
    have := h3 s hm
    have : s ≤ openM f n := by rw [← this]; exact Nat.and_le_right
    omega
  · rw [hp.length_eq]
    exact Nat.le_trans h2 (places_seven _ ho')
end Go.Proofs.YtbceepjjdfpfmaaGreat
