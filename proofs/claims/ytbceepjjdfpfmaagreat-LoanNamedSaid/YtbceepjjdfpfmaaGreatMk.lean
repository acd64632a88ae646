/- What the statements' Made keeps while it makes a ledger, and what is right about the ledger. Walk of the statements' Made (30): a right ledger, out of a sack. -/
import Derived.Test.YtbceepjjdfpfmaaGreatDraw
import Derived.Test.YtbceepjjdfpfmaaGreatSho
import Derived.Test.YtbceepjjdfpfmaaGreatSetW
import Derived.Test.YtbceepjjdfpfmaaGreatDesk
import Derived.Test.YtbceepjjdfpfmaaGreatOwes
import Derived.Test.YtbceepjjdfpfmaaGreatLawC
namespace Go
open Go.RowKit
theorem Sx.grown {d : SackD} {k : Nat} {w W W' : World} {row : Option Nat} (x : Sx d k w W) (hg : W.grownBy W' row) (hr : ∀ j, row = some j → w.heap.size ≤ j) : Sx d k w W' := by
  obtain ⟨⟨h1, h2, h3⟩, h4, h5, h6⟩ := x
  refine ⟨⟨hg.os.trans h1, hg.tape.trans h2, hg.output.trans h3⟩, Nat.le_trans h4 hg.size, fun b hb hne => (hg.block b (by omega) (fun e => by have := hr _ e.symm; omega)).trans (h5 b hb hne), fun t ht => ?_⟩
  have hlt : d.blk < w.heap.size := by obtain ⟨m, hk⟩ := ht; exact hk.lt
  obtain ⟨t', a1, a2, m, hk⟩ := h6 t ht
  exact ⟨t', a1, a2, m, hk.grown hg (fun e => by have := hr _ e.symm; omega)⟩
theorem Sx.set_ {d : SackD} {k : Nat} {w W : World} (x : Sx d k w W) (g i : Nat) (u : Value) (hg : w.heap.size ≤ g) : Sx d k w (W.setCell ⟨g, i, none⟩ u) := by
  obtain ⟨⟨h1, h2, h3⟩, h4, h5, h6⟩ := x
  refine ⟨⟨h1, h2, h3⟩, by simpa using h4, fun b hb hne => (Below.heap_setCell W ⟨g, i, none⟩ u b (show b ≠ g by omega)).trans (h5 b hb hne), fun t ht => ?_⟩
  have hlt : d.blk < w.heap.size := by obtain ⟨m, hk⟩ := ht; exact hk.lt
  obtain ⟨t', a1, a2, m, hk⟩ := h6 t ht
  exact ⟨t', a1, a2, m, hk.far (show d.blk ≠ g by omega) _⟩
end Go
namespace Go.Proofs.YtbceepjjdfpfmaaGreat
open Go.RowKit HandSpec LoanSpec
set_option maxHeartbeats 2000000
set_option maxRecDepth 100000
/-- What has been made: the box of the ledger and its five lists, two of them of numbers. -/
structure MS (d : SackD) (w : World) (k G N : Nat) (fo ye : Int) (v2 v3 v4 v5 v6 : Value) (l2 l3 l4 l5 l6 : List (List Int)) (W : World) : Prop where
  x : Sx d k w W
  s : d.blk < w.heap.size
  g : w.heap.size < G
  n : w.heap.size < N
  nl : N ≤ W.heap.size
  z : Blk W w.heap.size 27 #[.int .i64 0, .int .i64 0, .slice none 0 0, .slice none 0 0, .slice none 0 0, .slice none 0 0, .slice none 0 0]
  b : Blk W G 27 #[.int .i64 fo, .int .i64 ye, v2, v3, v4, v5, v6]
  o2 : OwnR W (w.heap.size + 1) 3 1 v2 l2
  o3 : OwnR W N 3 1 v3 l3
  o4 : OwnR W (w.heap.size + 1) 68 3 v4 l4
  o5 : OwnR W (w.heap.size + 1) 71 3 v5 l5
  o6 : OwnR W (w.heap.size + 1) 64 3 v6 l6
  ne : v3 = .slice none 0 0 ∨ ∀ q, v2.ownBlock = some q → q < N
namespace MS
variable {d : SackD} {w W W' : World} {k l G N : Nat} {fo ye : Int} {v2 v3 v4 v5 v6 v' : Value} {l2 l3 l4 l5 l6 l' : List (List Int)}
theorem mono (h : MS d w k G N fo ye v2 v3 v4 v5 v6 l2 l3 l4 l5 l6 W) (e : k ≤ l) : MS d w l G N fo ye v2 v3 v4 v5 v6 l2 l3 l4 l5 l6 W := { h with x := h.x.mono e }
theorem ext (h : MS d w k G N fo ye v2 v3 v4 v5 v6 l2 l3 l4 l5 l6 W) (e : Ext W W') : MS d w k G N fo ye v2 v3 v4 v5 v6 l2 l3 l4 l5 l6 W' :=
  ⟨(h.x.trans (Sx.ofExt e)).mono (Nat.le_refl _), h.s, h.g, h.n, Nat.le_trans h.nl e.size, h.z.ext e, h.b.ext e, h.o2.ext e, h.o3.ext e, h.o4.ext e, h.o5.ext e, h.o6.ext e, h.ne⟩
theorem far {B : Nat} {e : TypeId} {c : Nat} {v : Value} {l : List (List Int)} (hs : d.blk < w.heap.size) (o : OwnR W B e c v l) (hB : w.heap.size ≤ B) : v.ownBlock ≠ some d.blk := fun q => by have := o.block q; omega
theorem sx (h : MS d w k G N fo ye v2 v3 v4 v5 v6 l2 l3 l4 l5 l6 W) (e : Sx d l W W') : MS d w (k + l) G N fo ye v2 v3 v4 v5 v6 l2 l3 l4 l5 l6 W' := by
  have hg := h.g
  have hn := h.n
  have hs := h.s
  exact ⟨h.x.trans e, h.s, h.g, h.n, Nat.le_trans h.nl e.size, h.z.sx e (by omega), h.b.sx e (by omega), h.o2.sx e (far hs h.o2 (by omega)), h.o3.sx e (far hs h.o3 (by omega)), h.o4.sx e (far hs h.o4 (by omega)), h.o5.sx e (far hs h.o5 (by omega)), h.o6.sx e (far hs h.o6 (by omega)), h.ne⟩
/-- A box of another promise changes. -/
theorem put {g i : Nat} {C : Array Value} (h : MS d w k G N fo ye v2 v3 v4 v5 v6 l2 l3 l4 l5 l6 W) (b : Blk W g 64 C) (h1 : w.heap.size < g) (h2 : g ≠ G) (h6 : v6.ownBlock ≠ some g) (u : Value) : MS d w k G N fo ye v2 v3 v4 v5 v6 l2 l3 l4 l5 l6 (W.setCell ⟨g, i, none⟩ u) := by
  have k := Ch.ofSet W g i u
  exact ⟨Sx.set_ h.x g i u (by omega), h.s, h.g, h.n, by have := h.nl; simpa using this, h.z.far (by show w.heap.size ≠ g; omega) _, h.b.far (by show G ≠ g; omega) _,
    k.own h.o2 fun q hq e => by subst e; exact h.o2.ne_blk b (by decide) hq, k.own h.o3 fun q hq e => by subst e; exact h.o3.ne_blk b (by decide) hq, k.own h.o4 fun q hq e => by subst e; exact h.o4.ne_blk b (by decide) hq, k.own h.o5 fun q hq e => by subst e; exact h.o5.ne_blk b (by decide) hq, k.own h.o6 fun q hq e => by subst e; exact h6 hq, h.ne⟩
/-- The first list of numbers is longer. -/
theorem app2 (h : MS d w k G N fo ye v2 (.slice none 0 0) v4 v5 v6 l2 l3 l4 l5 l6 W) (hg : W.grownBy W' v2.ownBlock) (o : OwnR W' (w.heap.size + 1) 3 1 v' l') : MS d w k G N fo ye v' (.slice none 0 0) v4 v5 v6 l' l3 l4 l5 l6 (W'.setCell ⟨G, 2, none⟩ v') := by
  have hgg := h.g
  have b' := h.b.grown hg (fun e => h.o2.ne_blk h.b (by decide) e.symm)
  have o4' := h.o4.grownBy_other hg (h.o4.apart' h.o2 (by decide))
  have o5' := h.o5.grownBy_other hg (h.o5.apart' h.o2 (by decide))
  have o6' := h.o6.grownBy_other hg (h.o6.apart' h.o2 (by decide))
  have k := Ch.ofSet W' G 2 v'
  exact ⟨Sx.set_ (h.x.grown hg fun j hj => by have := h.o2.block hj; omega) _ _ _ (by omega), h.s, h.g, h.n, by have := h.nl; have := hg.size; simp; omega, (h.z.grown hg (fun e => by have := h.o2.block e.symm; omega)).far (by show w.heap.size ≠ G; omega) _, b'.set_ 2 v',
    k.own o fun q hq e => by subst e; exact o.ne_blk b' (by decide) hq, k.own (h.o3.grownBy_other hg (fun q hq => (by cases hq))) fun q hq e => (by cases hq),
    k.own o4' fun q hq e => by subst e; exact o4'.ne_blk b' (by decide) hq, k.own o5' fun q hq e => by subst e; exact o5'.ne_blk b' (by decide) hq, k.own o6' fun q hq e => by subst e; exact o6'.ne_blk b' (by decide) hq, .inl rfl⟩
/-- The second list of numbers is longer. -/
theorem app3 (h : MS d w k G N fo ye v2 v3 v4 v5 v6 l2 l3 l4 l5 l6 W) (h2 : ∀ q, v2.ownBlock = some q → q < N) (hg : W.grownBy W' v3.ownBlock) (o : OwnR W' N 3 1 v' l') : MS d w k G N fo ye v2 v' v4 v5 v6 l2 l' l4 l5 l6 (W'.setCell ⟨G, 3, none⟩ v') := by
  have hgg := h.g
  have hn := h.n
  have b' := h.b.grown hg (fun e => h.o3.ne_blk h.b (by decide) e.symm)
  have o2' := h.o2.grownBy_other hg fun q hq e => by have := h2 q hq; have := h.o3.block e.symm; omega
  have o4' := h.o4.grownBy_other hg (h.o4.apart' h.o3 (by decide))
  have o5' := h.o5.grownBy_other hg (h.o5.apart' h.o3 (by decide))
  have o6' := h.o6.grownBy_other hg (h.o6.apart' h.o3 (by decide))
  have k := Ch.ofSet W' G 3 v'
  exact ⟨Sx.set_ (h.x.grown hg fun j hj => by have := h.o3.block hj; omega) _ _ _ (by omega), h.s, h.g, h.n, by have := h.nl; have := hg.size; simp; omega, (h.z.grown hg (fun e => by have := h.o3.block e.symm; omega)).far (by show w.heap.size ≠ G; omega) _, b'.set_ 3 v',
    k.own o2' fun q hq e => by subst e; exact o2'.ne_blk b' (by decide) hq, k.own o fun q hq e => by subst e; exact o.ne_blk b' (by decide) hq,
    k.own o4' fun q hq e => by subst e; exact o4'.ne_blk b' (by decide) hq, k.own o5' fun q hq e => by subst e; exact o5'.ne_blk b' (by decide) hq, k.own o6' fun q hq e => by subst e; exact o6'.ne_blk b' (by decide) hq, .inr h2⟩
/-- The list of loans is longer. -/
theorem app4 (h : MS d w k G N fo ye v2 v3 v4 v5 v6 l2 l3 l4 l5 l6 W) (hg : W.grownBy W' v4.ownBlock) (o : OwnR W' (w.heap.size + 1) 68 3 v' l') : MS d w k G N fo ye v2 v3 v' v5 v6 l2 l3 l' l5 l6 (W'.setCell ⟨G, 4, none⟩ v') := by
  have hgg := h.g
  have b' := h.b.grown hg (fun e => h.o4.ne_blk h.b (by decide) e.symm)
  have o2' := h.o2.grownBy_other hg (h.o2.apart' h.o4 (by decide))
  have o3' := h.o3.grownBy_other hg (h.o3.apart' h.o4 (by decide))
  have o5' := h.o5.grownBy_other hg (h.o5.apart' h.o4 (by decide))
  have o6' := h.o6.grownBy_other hg (h.o6.apart' h.o4 (by decide))
  have k := Ch.ofSet W' G 4 v'
  exact ⟨Sx.set_ (h.x.grown hg fun j hj => by have := h.o4.block hj; omega) _ _ _ (by omega), h.s, h.g, h.n, by have := h.nl; have := hg.size; simp; omega, (h.z.grown hg (fun e => by have := h.o4.block e.symm; omega)).far (by show w.heap.size ≠ G; omega) _, b'.set_ 4 v', k.own o2' fun q hq e => by subst e; exact o2'.ne_blk b' (by decide) hq, k.own o3' fun q hq e => by subst e; exact o3'.ne_blk b' (by decide) hq, k.own o fun q hq e => by subst e; exact o.ne_blk b' (by decide) hq, k.own o5' fun q hq e => by subst e; exact o5'.ne_blk b' (by decide) hq, k.own o6' fun q hq e => by subst e; exact o6'.ne_blk b' (by decide) hq, h.ne⟩
/-- The list of payments is longer. -/
theorem app5 (h : MS d w k G N fo ye v2 v3 v4 v5 v6 l2 l3 l4 l5 l6 W) (hg : W.grownBy W' v5.ownBlock) (o : OwnR W' (w.heap.size + 1) 71 3 v' l') : MS d w k G N fo ye v2 v3 v4 v' v6 l2 l3 l4 l' l6 (W'.setCell ⟨G, 5, none⟩ v') := by
  have hgg := h.g
  have b' := h.b.grown hg (fun e => h.o5.ne_blk h.b (by decide) e.symm)
  have o2' := h.o2.grownBy_other hg (h.o2.apart' h.o5 (by decide))
  have o3' := h.o3.grownBy_other hg (h.o3.apart' h.o5 (by decide))
  have o4' := h.o4.grownBy_other hg (h.o4.apart' h.o5 (by decide))
  have o6' := h.o6.grownBy_other hg (h.o6.apart' h.o5 (by decide))
  have k := Ch.ofSet W' G 5 v'
  exact ⟨Sx.set_ (h.x.grown hg fun j hj => by have := h.o5.block hj; omega) _ _ _ (by omega), h.s, h.g, h.n, by have := h.nl; have := hg.size; simp; omega, (h.z.grown hg (fun e => by have := h.o5.block e.symm; omega)).far (by show w.heap.size ≠ G; omega) _, b'.set_ 5 v', k.own o2' fun q hq e => by subst e; exact o2'.ne_blk b' (by decide) hq, k.own o3' fun q hq e => by subst e; exact o3'.ne_blk b' (by decide) hq, k.own o4' fun q hq e => by subst e; exact o4'.ne_blk b' (by decide) hq, k.own o fun q hq e => by subst e; exact o.ne_blk b' (by decide) hq, k.own o6' fun q hq e => by subst e; exact o6'.ne_blk b' (by decide) hq, h.ne⟩
/-- The list of promises is longer. -/
theorem app6 (h : MS d w k G N fo ye v2 v3 v4 v5 v6 l2 l3 l4 l5 l6 W) (hg : W.grownBy W' v6.ownBlock) (o : OwnR W' (w.heap.size + 1) 64 3 v' l') : MS d w k G N fo ye v2 v3 v4 v5 v' l2 l3 l4 l5 l' (W'.setCell ⟨G, 6, none⟩ v') := by
  have hgg := h.g
  have b' := h.b.grown hg (fun e => h.o6.ne_blk h.b (by decide) e.symm)
  have o2' := h.o2.grownBy_other hg (h.o2.apart' h.o6 (by decide))
  have o3' := h.o3.grownBy_other hg (h.o3.apart' h.o6 (by decide))
  have o4' := h.o4.grownBy_other hg (h.o4.apart' h.o6 (by decide))
  have o5' := h.o5.grownBy_other hg (h.o5.apart' h.o6 (by decide))
  have k := Ch.ofSet W' G 6 v'
  exact ⟨Sx.set_ (h.x.grown hg fun j hj => by have := h.o6.block hj; omega) _ _ _ (by omega), h.s, h.g, h.n, by have := h.nl; have := hg.size; simp; omega, (h.z.grown hg (fun e => by have := h.o6.block e.symm; omega)).far (by show w.heap.size ≠ G; omega) _, b'.set_ 6 v', k.own o2' fun q hq e => by subst e; exact o2'.ne_blk b' (by decide) hq, k.own o3' fun q hq e => by subst e; exact o3'.ne_blk b' (by decide) hq, k.own o4' fun q hq e => by subst e; exact o4'.ne_blk b' (by decide) hq, k.own o5' fun q hq e => by subst e; exact o5'.ne_blk b' (by decide) hq, k.own o fun q hq e => by subst e; exact o.ne_blk b' (by decide) hq, h.ne⟩
end MS
theorem chk_of_ok {x : LD} (h : Ok x) : x.chk = 0 := by
  have f : ∀ {n lo hi : Int}, lo ≤ n ∧ n ≤ hi → offB n lo hi = false := fun q => decide_eq_false (by omega)
  have a1 : x.many = false := by
    simp only [LD.many, f h.folk, f h.years, Bool.false_or, Bool.or_eq_false_iff, decide_eq_false_iff_not]
    have := h.ln; have := h.pn; have := h.mn
    omega
  have a2 : x.wideB = false := by
    simp only [LD.wideB, Bool.or_eq_false_iff, anyTo_false]
    exact ⟨fun k hk => f (h.lsack k hk), fun k hk => f (h.psack k hk), fun k hk => f (h.msack k hk)⟩
  have a3 : x.notB = false := by
    simp only [LD.notB, Bool.or_eq_false_iff, anyTo_false]
    exact ⟨fun k hk => ⟨f (h.lwho k hk), f (h.lyear k hk)⟩, fun k hk => ⟨f (h.pwho k hk), f (h.pyear k hk)⟩, fun k hk => ⟨f (h.mfrom k hk), f (h.mto k hk)⟩, fun k hk => f (h.bad k hk), fun k hk => f (h.fo k hk)⟩
  have a4 : x.sameB = false := by
    simp only [LD.sameB, anyTo_false]
    intro k hk
    simpa using h.mne k hk
  have a5 : x.orderB = false := by
    simp only [LD.orderB, fallB, Bool.or_eq_false_iff, anyTo_false, decide_eq_false_iff_not]
    exact ⟨fun k hk => by have := h.binc k (by omega); omega, fun k hk => by have := h.finc k (by omega); omega, fun k hk => by have := h.pinc k (by omega); omega⟩
  unfold LD.chk
  rw [a1, a2, a3, a4, a5]
  rfl
end Go.Proofs.YtbceepjjdfpfmaaGreat
namespace Go.Proofs.YtbceepjjdfpfmaaGreat
open Go.RowKit HandSpec LoanSpec
set_option maxHeartbeats 4000000
set_option maxRecDepth 100000
def DrawB (n : Int) : MSpec := fun v _ _ _ => ∃ q : Nat, v = .int .i64 (q : Int) ∧ (q = 0 ∨ (q : Int) < n)
def DrawA (lo hi : Int) : MSpec := fun v _ _ _ => ∃ q : Int, v = .int .i64 q ∧ lo ≤ q ∧ (q = lo ∨ q ≤ hi)
/-- A new row of these cells. -/
def RowS (d : SackD) (t : TypeId) (C : Array Value) : MSpec := fun v lo hi w => v = .slice (some ⟨lo, 0, none⟩) 1 1 ∧ hi = lo + 1 ∧ lo ≠ d.blk ∧ Blk w lo t C
theorem RowS.sx {d : SackD} {t : TypeId} {C : Array Value} {v : Value} {lo hi k : Nat} {w w' : World} (e : Sx d k w w') (h : RowS d t C v lo hi w) : RowS d t C v lo hi w' := ⟨h.1, h.2.1, h.2.2.1, h.2.2.2.sx e h.2.2.1⟩
theorem row3 {w : World} {g : Nat} {t : TypeId} {a b c : Int} (h : Blk w g t #[.int .i64 a, .int .i64 b, .int .i64 c]) : ∀ i, w.cell? ⟨g, i, none⟩ = (cellsOf [[a, b, c]])[i]? := fun i => by rw [h.cell]; simp [cellsOf]
def Row3S (d : SackD) (t : TypeId) (Q : Int → Int → Int → Prop) : MSpec := fun v lo hi w => ∃ a b c, Q a b c ∧ RowS d t #[.int .i64 a, .int .i64 b, .int .i64 c] v lo hi w
theorem Row3S.sx {d : SackD} {t : TypeId} {Q : Int → Int → Int → Prop} {v : Value} {lo hi k : Nat} {w w' : World} (e : Sx d k w w') (h : Row3S d t Q v lo hi w) : Row3S d t Q v lo hi w' := by
  obtain ⟨a, b, c, h1, h2⟩ := h
  exact ⟨a, b, c, h1, h2.sx e⟩
def PtS (d : SackD) (t : TypeId) (C : Array Value) : MSpec := fun v lo hi w => v = .pointer (some ⟨lo, 0, none⟩) ∧ lo < hi ∧ lo ≠ d.blk ∧ Blk w lo t C
theorem PtS.sx {d : SackD} {t : TypeId} {C : Array Value} {v : Value} {lo hi k : Nat} {w w' : World} (e : Sx d k w w') (h : PtS d t C v lo hi w) : PtS d t C v lo hi w' := ⟨h.1, h.2.1, h.2.2.1, h.2.2.2.sx e h.2.2.1⟩
/-- Numbers below y, each greater than the one before. -/
def IncOk (l : List (List Int)) (y : Int) : Prop := (∀ r ∈ l, ∃ a, r = [a] ∧ 0 ≤ a ∧ a < y) ∧ l.Pairwise (fun a b => a.getD 0 0 < b.getD 0 0) ∧ (l.length : Int) ≤ y
theorem IncOk.nil : IncOk [] 0 := ⟨fun r h => by simp at h, List.Pairwise.nil, by simp⟩
theorem IncOk.mono {l : List (List Int)} {y z : Int} (h : IncOk l y) (e : y ≤ z) : IncOk l z := ⟨fun r hr => by obtain ⟨a, h1, h2, h3⟩ := h.1 r hr; exact ⟨a, h1, h2, by omega⟩, h.2.1, by have := h.2.2; omega⟩
theorem IncOk.app {l : List (List Int)} {y : Int} (h : IncOk l y) (hy : 0 ≤ y) : IncOk (l ++ [[y]]) (y + 1) := by
  refine ⟨fun r hr => ?_, List.pairwise_append.2 ⟨h.2.1, List.pairwise_singleton _ _, fun a ha b hb => ?_⟩, by have := h.2.2; simp; omega⟩
  · rcases List.mem_append.1 hr with q | q
    · obtain ⟨a, h1, h2, h3⟩ := h.1 r q
      exact ⟨a, h1, h2, by omega⟩
    · obtain rfl := List.mem_singleton.1 q
      exact ⟨y, rfl, hy, by omega⟩
  · obtain rfl := List.mem_singleton.1 hb
    obtain ⟨c, rfl, -, h3⟩ := h.1 a ha
    exact h3
/-- Rows of three numbers with this property. -/
def AllR3 (Q : Int → Int → Int → Prop) (l : List (List Int)) : Prop := ∀ r ∈ l, ∃ a b c, r = [a, b, c] ∧ Q a b c
theorem AllR3.nil {Q : Int → Int → Int → Prop} : AllR3 Q [] := fun r h => by simp at h
theorem AllR3.app {Q : Int → Int → Int → Prop} {l : List (List Int)} (h : AllR3 Q l) {a b c : Int} (q : Q a b c) : AllR3 Q (l ++ [[a, b, c]]) := fun r hr => by
  rcases List.mem_append.1 hr with h1 | h1
  · exact h r h1
  · obtain rfl := List.mem_singleton.1 h1
    exact ⟨a, b, c, rfl, q⟩
theorem AllR3.mono {Q R : Int → Int → Int → Prop} {l : List (List Int)} (h : AllR3 Q l) (e : ∀ a b c, Q a b c → R a b c) : AllR3 R l := fun r hr => by
  obtain ⟨a, b, c, h1, h2⟩ := h r hr
  exact ⟨a, b, c, h1, e a b c h2⟩
/-- Somebody, a year, and bushels. -/
def LnQ (fo ye a b c : Int) : Prop := (1 ≤ a ∧ a ≤ fo - 1) ∧ (0 ≤ b ∧ b ≤ ye - 1) ∧ (1 ≤ c ∧ c ≤ 70)
def PmQ (fo a b c : Int) : Prop := (0 ≤ a ∧ a ≤ fo - 1) ∧ (0 ≤ b ∧ b ≤ fo - 1) ∧ a ≠ b ∧ (1 ≤ c ∧ c ≤ 40)
/-- Payments out of so many, the first q of them. -/
def PayOk (fo ye : Int) (np q : Nat) (l : List (List Int)) : Prop := AllR3 (fun a b c => LnQ fo ye a b c ∧ b ≤ (q : Int) * ye / np) l ∧ l.Pairwise (fun a b => a.getD 1 0 ≤ b.getD 1 0)
theorem PayOk.nil (fo ye : Int) (np q : Nat) : PayOk fo ye np q [] := ⟨AllR3.nil, List.Pairwise.nil⟩
theorem PayOk.step {fo ye : Int} {np : Nat} {l : List (List Int)} (h : PayOk fo ye np l.length l) (hl : l.length < np) (hy : 1 ≤ ye) {a b c : Int} (ha : (1 ≤ a ∧ a ≤ fo - 1) ∧ b = (l.length : Int) * ye / np ∧ (1 ≤ c ∧ c ≤ 70)) : PayOk fo ye np (l.length + 1) (l ++ [[a, b, c]]) := by
  obtain ⟨h1, rfl, h3⟩ := ha
  have hnp : (0 : Int) < (np : Int) := by omega
  have hm : (l.length : Int) * ye / np ≤ ((l.length + 1 : Nat) : Int) * ye / np := Int.ediv_le_ediv hnp (Int.mul_le_mul_of_nonneg_right (by push_cast; omega) (by omega))
  have h0 : 0 ≤ (l.length : Int) * ye / np := Int.ediv_nonneg (Int.mul_nonneg (by omega) (by omega)) (by omega)
  have h9 : (l.length : Int) * ye / np < ye := Int.ediv_lt_of_lt_mul hnp (by rw [Int.mul_comm]; exact Int.mul_lt_mul_of_pos_left (by omega) (by omega))
  refine ⟨(h.1.mono fun a b c q => ⟨q.1, by have := q.2; omega⟩).app ⟨⟨h1, by omega, h3⟩, hm⟩, List.pairwise_append.2 ⟨h.2, List.pairwise_singleton _ _, fun x hx y hy' => ?_⟩⟩
  obtain rfl := List.mem_singleton.1 hy'
  obtain ⟨p, q, r, rfl, h4⟩ := h.1 x hx
  exact h4.2
/-- The ledger that is made. -/
def mkL (fo ye : Int) (l2 l3 l4 l5 l6 : List (List Int)) : LD := ⟨fo, ye, l2.length, l3.length, l4.length, l5.length, l6.length, fun k => rowsAt l2 k 0, fun k => rowsAt l3 k 0, rowsAt l4, rowsAt l5, rowsAt l6⟩
theorem getD_mem {l : List (List Int)} {i : Nat} (h : i < l.length) : l.getD i [] ∈ l := by
  rw [List.getD_eq_getElem?_getD, List.getElem?_eq_getElem h]
  exact List.getElem_mem _
theorem AllR3.at_ {Q : Int → Int → Int → Prop} {l : List (List Int)} (h : AllR3 Q l) {i : Nat} (hi : i < l.length) : Q (rowsAt l i 0) (rowsAt l i 1) (rowsAt l i 2) := by
  obtain ⟨a, b, c, e, q⟩ := h _ (getD_mem hi)
  unfold rowsAt
  rw [e]
  exact q
theorem IncOk.at_ {l : List (List Int)} {y : Int} (h : IncOk l y) {i : Nat} (hi : i < l.length) : 0 ≤ rowsAt l i 0 ∧ rowsAt l i 0 < y := by
  obtain ⟨a, e, q⟩ := h.1 _ (getD_mem hi)
  unfold rowsAt
  rw [e]
  exact q
theorem pair_at {R : List Int → List Int → Prop} {l : List (List Int)} (h : l.Pairwise R) {i : Nat} (hi : i + 1 < l.length) : R (l.getD i []) (l.getD (i + 1) []) := by
  have := List.pairwise_iff_getElem.1 h i (i + 1) (by omega) hi (by omega)
  rw [List.getD_eq_getElem?_getD, List.getD_eq_getElem?_getD, List.getElem?_eq_getElem (by omega), List.getElem?_eq_getElem hi]
  exact this
theorem mkL_ok {fo ye : Int} {l2 l3 l4 l5 l6 : List (List Int)} {np : Nat} (hfo : 2 ≤ fo ∧ fo ≤ 7) (hye : 1 ≤ ye ∧ ye ≤ 9) (h2 : IncOk l2 ye) (h3 : IncOk l3 (l4.length : Int)) (h4 : AllR3 (LnQ fo ye) l4) (h5 : PayOk fo ye np l5.length l5) (h6 : AllR3 (PmQ fo) l6)
    (n4 : l4.length ≤ 10) (n5 : l5.length ≤ 12) (n6 : l6.length ≤ 12) : Ok (mkL fo ye l2 l3 l4 l5 l6) where
  folk := by show 1 ≤ fo ∧ fo ≤ 7; omega
  years := hye
  ln := n4
  pn := n5
  mn := n6
  lwho := fun i hi => (h4.at_ hi).1
  lyear := fun i hi => (h4.at_ hi).2.1
  lsack := fun i hi => by
    show 1 ≤ rowsAt l4 i 2 ∧ rowsAt l4 i 2 ≤ 500
    have := (h4.at_ hi).2.2
    omega
  pwho := fun i hi => (h5.1.at_ hi).1.1
  pyear := fun i hi => (h5.1.at_ hi).1.2.1
  psack := fun i hi => by
    show 1 ≤ rowsAt l5 i 2 ∧ rowsAt l5 i 2 ≤ 500
    have := (h5.1.at_ hi).1.2.2
    omega
  mfrom := fun i hi => (h6.at_ hi).1
  mto := fun i hi => (h6.at_ hi).2.1
  msack := fun i hi => by
    show 1 ≤ rowsAt l6 i 2 ∧ rowsAt l6 i 2 ≤ 500
    have := (h6.at_ hi).2.2.2
    omega
  mne := fun i hi => (h6.at_ hi).2.2.1
  bad := fun i hi => by
    show 0 ≤ rowsAt l2 i 0 ∧ rowsAt l2 i 0 ≤ ye - 1
    have := h2.at_ hi
    omega
  fo := fun i hi => by
    show 0 ≤ rowsAt l3 i 0 ∧ rowsAt l3 i 0 ≤ (l4.length : Int) - 1
    have := h3.at_ hi
    omega
  binc := fun i hi => pair_at h2.2.1 hi
  finc := fun i hi => pair_at h3.2.1 hi
  pinc := fun i hi => pair_at h5.2 hi
theorem _root_.Go.OwnR.cap_le {w : World} {B : Nat} {e : TypeId} {c n q : Nat} {D : Option Addr} {l : List (List Int)} (h : OwnR w B e c (.slice D n q) l) : n ≤ q := by
  rcases h.2.2 with ⟨h1, _⟩ | ⟨g, cap, cur, h1, _, _, h2, _⟩
  · injection h1 with _ h3 h4
    omega
  · injection h1 with _ h3 h4
    omega
theorem _root_.Go.OwnR.in_ {w : World} {B : Nat} {e : TypeId} {c n q : Nat} {A : Option Addr} {l : List (List Int)} (h : OwnR w B e c (.slice A n q) l) {lo : Nat} (hB : lo ≤ B) : ∀ b o, A = some ⟨b, o, none⟩ → lo ≤ b ∧ b < w.heap.size := by
  intro b o hA
  subst hA
  have h1 := h.block (g := b) rfl
  have h2 := h.lt (g := b) rfl
  exact ⟨by omega, h2⟩
theorem made_end {d : SackD} {w W W' : World} {k G N : Nat} {fo ye : Int} {A2 A3 A4 A5 A6 : Option Addr} {c2 c3 c4 c5 c6 : Nat} {l2 l3 l4 l5 l6 : List (List Int)} (h : MS d w k G N fo ye (.slice A2 l2.length c2) (.slice A3 l3.length c3) (.slice A4 l4.length c4) (.slice A5 l5.length c5) (.slice A6 l6.length c6) l2 l3 l4 l5 l6 W)
    (hc : Ch (fun b => b = w.heap.size) W W') : IsLA W' (mkL fo ye l2 l3 l4 l5 l6) ⟨A2, c2, A3, c3, A4, c4, A5, c5, A6, c6⟩ ∧ l5.length ≤ c5 ∧ InA w.heap.size W'.heap.size ⟨A2, c2, A3, c3, A4, c4, A5, c5, A6, c6⟩ := by
  have hn := h.n
  have o2 := hc.own h.o2 fun q hq e => by have := h.o2.block hq; omega
  have o3 := hc.own h.o3 fun q hq e => by have := h.o3.block hq; omega
  have o4 := hc.own h.o4 fun q hq e => by have := h.o4.block hq; omega
  have o5 := hc.own h.o5 fun q hq e => by have := h.o5.block hq; omega
  have o6 := hc.own h.o6 fun q hq e => by have := h.o6.block hq; omega
  exact ⟨⟨o2.rd.congr fun i _ j hj => by rw [show j = 0 by omega]; rfl, o3.rd.congr fun i _ j hj => by rw [show j = 0 by omega]; rfl, o4.rd, o5.rd, o6.rd⟩, o5.cap_le, o2.in_ (by omega), o3.in_ (by omega), o4.in_ (by omega), o5.in_ (by omega), o6.in_ (by omega)⟩
theorem made30 {d : SackD} {w : World} (hs : Start d w) {fk ys lm pm mm : Int} (hfk : 2 ≤ fk ∧ fk ≤ 7) (hys : 1 ≤ ys ∧ ys ≤ 9) (hlm : 0 ≤ lm ∧ lm ≤ 10) (hpm : 0 ≤ pm ∧ pm ≤ 12) (hmm : 0 ≤ mm ∧ mm ≤ 12) :
    Calls Tryz.prog 30 #[.pointer (some ⟨d.blk, 0, none⟩), .int .i64 fk, .int .i64 ys, .int .i64 lm, .int .i64 pm, .int .i64 mm] w fun e w' => ∃ x p, e = .returned (ledV x p) ∧ Sx d 100000 w w' ∧ IsLA w' x p ∧ Ok x ∧ Sm x ∧ x.pn ≤ p.c4 ∧
      2 ≤ x.folk ∧ x.folk ≤ fk ∧ x.years ≤ ys ∧ (x.ln : Int) ≤ lm ∧ (x.pn : Int) ≤ pm ∧ (x.mn : Int) ≤ mm ∧ InA w.heap.size w'.heap.size p := by
  have H0 := hid hs
  have hlt := hs.lt
  clear hs
  go_enter Tryz.func30, Tryz.ntmps30
  go_upto_region 1 with fail
  refine wp_later fun w0 hw0 => ?_
  obtain ⟨E0, b12⟩ := hw0.newB
  have X := hid (Sx.ofExt (d := d) E0)
  clear hw0
  go_upto_region 2 with (first
    | (go_at_call 71; (with_reducible refine (among_b H0.out X.out (by omega) 2 fk (by omega) (by omega) (by omega)).mono ?_); rintro e wa ⟨fo, rfl, ho1, ho2, xa⟩; replace X := hid (X.out.trans xa))
    | (go_at_call 71; (with_reducible refine (among_b H0.out X.out (by omega) 1 ys (by omega) (by omega) (by omega)).mono ?_); rintro e wb ⟨ye, rfl, hy1, hy2, xb⟩; replace X := hid (X.out.trans xb)))
  refine wp_later fun w1 hw1 => ?_
  obtain ⟨E1, b13⟩ := hw1.newB
  obtain ⟨G, hG⟩ : ∃ G, Hid (G = wb.heap.size) := ⟨_, hid rfl⟩
  rw [← hG.out] at b13 ⊢
  have hfo : 2 ≤ fo ∧ fo ≤ 7 := by omega
  have hfo2 : fo ≤ fk := by omega
  have hye : 1 ≤ ye ∧ ye ≤ 9 := by omega
  have hye2 : ye ≤ ys := by omega
  have hGw : w.heap.size < G := by have := xa.size; have := xb.size; have := b12.lt; have := hG.out; omega
  have M0 : Hid (MS d w 4 G (w.heap.size + 1) fo ye (.slice none 0 0) (.slice none 0 0) (.slice none 0 0) (.slice none 0 0) (.slice none 0 0) [] [] [] [] [] w1) :=
    hid ⟨(X.out.trans (Sx.ofExt E1)).mono (by omega), hlt, hGw, by omega, by have := b13.lt; omega, ((b12.sx (xa.trans xb) (by omega)).ext E1), b13, OwnR.nil, OwnR.nil, OwnR.nil, OwnR.nil, OwnR.nil, .inl rfl⟩
  have hGd : ¬ G = d.blk := by omega
  clear hw1 X E0 E1 b12 xa xb ho1 ho2 hy1 hy2
  have kb := b13.cell
  have kbl := b13.lt
  go_upto_region 3 with fail
  clear kb kbl b13
  go_loopw [28] (fun i wr => ∃ (y : Nat) (v2 : Value) (l2 : List (List Int)), (y : Int) ≤ ye ∧ i = .int .i64 (y : Int) ∧ Hid (MS d w (4 + y) G (w.heap.size + 1) fo ye v2 (.slice none 0 0) (.slice none 0 0) (.slice none 0 0) (.slice none 0 0) l2 [] [] [] [] wr ∧ IncOk l2 (y : Int))) (fun i _ => (ye - intOf i).toNat)
  case atStart => exact ⟨0, _, [], by omega, rfl, hid ⟨M0.out, IncOk.nil⟩⟩
  case round =>
    obtain ⟨y, v2, l2, hyy, rfl, HI⟩ := hrel
    have X := hid HI.out.1.x
    by_cases hly : (y : Int) < ye
    · go_upto_if 32 with (go_at_call 107; (with_reducible refine (rare_b H0.out X.out (by omega) 3 (by omega)).mono ?_); rintro e wz ⟨bb, rfl, hx⟩; have M := hid (HI.out.1.sx hx); clear hx)
      have hI := hid HI.out.2
      obtain ⟨A2, c2, rfl, -⟩ := M.out.o2.slR
      have kb := M.out.b.cell
      have kbl := M.out.b.lt
      have hll := hI.out.2.2
      have hXs := M.out.x.size
      clear HI X
      cases bb
      · go_wp2_with fail
        go_roundw
        case rel => exact ⟨y + 1, _, l2, by omega, by go_num, hid ⟨M.out.mono (by omega), hI.out.mono (by omega)⟩⟩
        case measure => simp [intOf]; omega
      · go_wp2_with (at_builtin; refine wpList_append_rows rfl _ _ 22 rfl el22 rfl (M.out.o2.ext (Ext.alloc (Ext.refl _) _)) _ 1 1 [[(y : Int)]] rfl rfl (by simp) (by intro j; simp [cellsOf]) (by omega) (by simp; omega) ?_; intro v' w8 hown8 hg8; have b8 := (M.out.b.ext (Ext.alloc (Ext.refl _) (.cells #[.int .i64 (y : Int)] 3))).grown hg8 (fun e => (M.out.o2.ext (Ext.alloc (Ext.refl _) (.cells #[.int .i64 (y : Int)] 3))).ne_blk (M.out.b.ext (Ext.alloc (Ext.refl _) (.cells #[.int .i64 (y : Int)] 3))) (by decide) e.symm); have M8 := hid ((M.out.ext (Ext.alloc (Ext.refl _) (.cells #[.int .i64 (y : Int)] 3))).app2 hg8 hown8); obtain ⟨D2, q2, rfl, -⟩ := hown8.slR; have k8 := b8.cell; have f8 := b8.frozen; have l8 := b8.lt; clear hown8 hg8 b8)
        go_roundw
        case rel => exact ⟨y + 1, _, l2 ++ [[(y : Int)]], by omega, by go_num, hid ⟨by have := M8.out.mono (show 4 + y + 1 ≤ 4 + (y + 1) by omega); simpa using this, by have := hI.out.app (by omega); simpa using this⟩⟩
        case measure => simp [intOf]; omega
    · have M1 : Hid (MS d w 20 G wr.heap.size fo ye v2 (.slice none 0 0) (.slice none 0 0) (.slice none 0 0) (.slice none 0 0) l2 [] [] [] [] wr) := hid (by
        have h := HI.out.1
        exact { (h.mono (show 4 + y ≤ 20 by omega)) with n := by have := h.x.size; have := h.b.lt; omega, nl := Nat.le_refl _, o3 := OwnR.nil, ne := .inr fun q hq => h.o2.lt hq })
      have I2 := hid (HI.out.2.mono (show (y : Int) ≤ ye by omega))
      have hN2 := hid (fun q hq => HI.out.1.o2.lt (g := q) hq)
      obtain ⟨N, hN⟩ : ∃ N, Hid (N = wr.heap.size) := ⟨_, hid rfl⟩
      rw [← hN.out] at M1 hN2
      clear HI X
      go_upto_region 9 with (go_at_call 67; (with_reducible refine (below_b H0.out M1.out.x (by omega) (lm + 1) (by omega)).mono ?_); rintro e wz ⟨nl, rfl, hnl, hx⟩; have M := hid ((M1.out.sx hx).mono (show 20 + 1 ≤ 25 by omega)); clear hx)
      have hnl' : (nl : Int) ≤ lm := by omega
      clear hnl M1 hyy hly
      go_loopw [44] (fun i wr => ∃ (q : Nat) (v3 v4 : Value) (l3 l4 : List (List Int)), q ≤ nl ∧ i = .int .i64 (q : Int) ∧ Hid (MS d w (25 + 2000 * q) G N fo ye v2 v3 v4 (.slice none 0 0) (.slice none 0 0) l2 l3 l4 [] [] wr ∧ IncOk l3 (q : Int) ∧ AllR3 (LnQ fo ye) l4 ∧ l4.length = q)) (fun i _ => nl - (intOf i).toNat)
      case atStart => exact ⟨0, _, _, [], [], by omega, rfl, hid ⟨M.out, IncOk.nil, AllR3.nil, rfl⟩⟩
      case round =>
        clear M
        obtain ⟨q, v3, v4, l3, l4, hq, rfl, HI⟩ := hrel
        obtain rfl := HI.out.2.2.2
        have M := hid HI.out.1
        have X := hid HI.out.1.x
        obtain ⟨A4, c4, hv4, -⟩ := M.out.o4.slR
        subst hv4
        have kb := M.out.b.cell
        have kbl := M.out.b.lt
        have b13 := M.out.b
        have hXs := M.out.x.size
        by_cases hlq : l4.length < nl
        · go_upto_region 11 with fail
          refine wp_region_monoG (d := d) 15 [(6, DrawA 1 (fo - 1)), (10, DrawB ye), (12, DrawA 1 60), (14, Row3S d 68 (LnQ fo ye))] (by kernel_rfl) (by kernel_rfl) (by kernel_rfl) (by kernel_rfl) ?hS ?_
          case hS =>
            simp only [List.forall_mem_cons]
            exact ⟨fun _ _ _ _ _ _ _ h => h, fun _ _ _ _ _ _ _ h => h, fun _ _ _ _ _ _ _ h => h, fun _ _ _ _ _ _ e h => Row3S.sx e h, fun _ h => by simp at h⟩
          simp only [List.take_succ_cons, List.take_zero, List.drop_succ_cons, List.drop_zero]
          iterate 6
            refine wpM_plainG rfl ?_
            go_big_quiet_step (fail)
            refine wpQuiet_nil ?_
          refine wpM_specG _ rfl rfl (fun w2 hw2 _ => ?_) (fun va la ha ga1 ga2 _ hva => ?_)
          · go_wp2_with (go_at_call 71; (with_reducible refine (among_b H0.out (X.out.trans hw2) (by omega) 1 (fo - 1) (by omega) (by omega) (by omega)).mono ?_); rintro e w' ⟨z, rfl, z1, z2, he⟩)
            exact ⟨_, _, _, rfl, he, Nat.le_refl _, he.size, Nat.le_refl _, z, rfl, z1, z2⟩
          obtain ⟨_, za, rfl, za1, za2⟩ := hva
          simp only [Act.put, List.setIfInBounds_toArray, List.set_cons_succ, List.set_cons_zero]
          iterate 3
            refine wpM_plainG rfl ?_
            go_big_quiet_step (fail)
            refine wpQuiet_nil ?_
          refine wpM_specG _ rfl rfl (fun w2 hw2 _ => ?_) (fun vb lb hb gb1 gb2 _ hvb => ?_)
          · go_wp2_with (go_at_call 67; (with_reducible refine (below_b H0.out (X.out.trans hw2) (by omega) ye (by omega)).mono ?_); rintro e w' ⟨z, rfl, z1, he⟩)
            exact ⟨_, _, _, rfl, he, Nat.le_refl _, he.size, Nat.le_refl _, z, rfl, z1⟩
          obtain ⟨_, zb, rfl, zb1⟩ := hvb
          simp only [Act.put, List.setIfInBounds_toArray, List.set_cons_succ, List.set_cons_zero]
          iterate 1
            refine wpM_plainG rfl ?_
            go_big_quiet_step (fail)
            refine wpQuiet_nil ?_
          refine wpM_specG _ rfl rfl (fun w2 hw2 _ => ?_) (fun vc lc hc gc1 gc2 _ hvc => ?_)
          · go_wp2_with (go_at_call 71; (with_reducible refine (among_b H0.out (X.out.trans hw2) (by omega) 1 60 (by omega) (by omega) (by omega)).mono ?_); rintro e w' ⟨z, rfl, z1, z2, he⟩)
            exact ⟨_, _, _, rfl, he, Nat.le_refl _, he.size, Nat.le_refl _, z, rfl, z1, z2⟩
          obtain ⟨_, zc, rfl, zc1, zc2⟩ := hvc
          simp only [Act.put, List.setIfInBounds_toArray, List.set_cons_succ, List.set_cons_zero]
          have hQ : LnQ fo ye za (zb : Int) zc := ⟨by omega, by omega, by omega⟩
          iterate 1
            refine wpM_plainG rfl ?_
            go_big_quiet_step (fail)
            refine wpQuiet_nil ?_
          refine wpM_specG _ rfl rfl (fun w2 hw2 _ => ?_) (fun vd lr hr' gr1 gr2 _ hvd => ?_)
          · go_wp2
            exact ⟨_, w2.heap.size, w2.heap.size + 1, rfl, (Sx.ofExt ((Ext.refl _).alloc _)).mono (by omega), Nat.le_refl _, Nat.le_succ _, by simp, za, (zb : Int), zc, hQ, rfl, rfl, by have := hw2.size; omega, Blk.new _ _ _⟩
          obtain ⟨_, ra, rb, rc, hQ0, rfl, rfl, -⟩ := hvd
          simp only [Act.put, List.setIfInBounds_toArray, List.set_cons_succ, List.set_cons_zero]
          refine wpM_nilG fun w4 hw4 hF => ?_
          simp only [List.forall_mem_cons] at hF
          obtain ⟨⟨-, ra', rb', rc', hQ', -, -, hrd, bR⟩, -⟩ := hF
          have M4 := hid (M.out.sx hw4)
          have b4 := M4.out.b
          have hsz4 := M4.out.z.lt
          have hQR := hid hQ'
          clear M X kb kbl b13 hQ0 hQ hQ' hw4
          have HI3 := hid (show IncOk l3 (l4.length : Int) ∧ AllR3 (LnQ fo ye) l4 from ⟨HI.out.2.1, HI.out.2.2.1⟩)
          clear HI
          go_upto_region 12 with (at_builtin; refine wpList_append_rows rfl _ _ 23 rfl el23 rfl M4.out.o4 _ 1 1 [[_, _, _]] rfl rfl (by simp) (row3 bR) (by omega) (by omega) ?_; intro v' w5 hown5 hg5; have b5 := b4.grown hg5 (fun e => M4.out.o4.ne_blk b4 (by decide) e.symm); have M5 := hid (M4.out.app4 hg5 hown5); obtain ⟨D5, q5, rfl, -⟩ := hown5.slR; have k5 := b5.cell; have f5 := b5.frozen; have l5 := b5.lt; clear hown5 hg5 b5)
          refine wp_later fun w6 hw6 => ?_
          have M6 : Hid (MS d w (25 + 2000 * l4.length + 1000) G N fo ye v2 v3 (.slice D5 (l4.length + 1) q5) (.slice none 0 0) (.slice none 0 0) l2 l3 (l4 ++ [[ra', rb', rc']]) [] [] w6) := hid (by
            have h := M5.out
            simp only [List.length_append, List.length_cons, List.length_nil, Nat.zero_add] at h
            exact h.ext hw6)
          have hA4 := hid (HI3.out.2.app hQR.out)
          have hIn := hid HI3.out.1
          clear hw6 k5 f5 l5 M5 M4 b4 bR hsz4 HI3 hQR ga1 ga2 gb1 gb2 gc1 gc2 gr1 gr2
          go_upto_if 65 with (go_at_call 107; (with_reducible refine (rare_b H0.out M6.out.x (by omega) 6 (by omega)).mono ?_); rintro e wy ⟨bb, rfl, hx⟩; have M7 := hid (M6.out.sx hx); clear hx)
          clear M6
          obtain ⟨A3, c3, hv3, -⟩ := M7.out.o3.slR
          subst hv3
          have kb := M7.out.b.cell
          have kbl := M7.out.b.lt
          have hll := hIn.out.2.2
          have hXs := M7.out.z.lt
          have hNl := M7.out.nl
          cases bb
          · go_wp2_with fail
            go_roundw
            case rel => exact ⟨l4.length + 1, _, _, l3, l4 ++ [[ra', rb', rc']], by omega, by go_num, hid ⟨M7.out.mono (by omega), hIn.out.mono (by omega), hA4.out, by simp⟩⟩
            case measure => simp [intOf]; omega
          · go_wp2_with (at_builtin; refine wpList_append_rows rfl _ _ 22 rfl el22 rfl (M7.out.o3.ext (Ext.alloc (Ext.refl _) _)) _ 1 1 [[(l4.length : Int)]] rfl rfl (by simp) (by intro j; simp [cellsOf]) (by omega) (by simp; omega) ?_; intro v' w8 hown8 hg8; have b8 := (M7.out.b.ext (Ext.alloc (Ext.refl _) (.cells #[.int .i64 (l4.length : Int)] 3))).grown hg8 (fun e => (M7.out.o3.ext (Ext.alloc (Ext.refl _) (.cells #[.int .i64 (l4.length : Int)] 3))).ne_blk (M7.out.b.ext (Ext.alloc (Ext.refl _) (.cells #[.int .i64 (l4.length : Int)] 3))) (by decide) e.symm); have M8 := hid ((M7.out.ext (Ext.alloc (Ext.refl _) (.cells #[.int .i64 (l4.length : Int)] 3))).app3 hN2.out hg8 hown8); obtain ⟨D2, q2, rfl, -⟩ := hown8.slR; have k8 := b8.cell; have f8 := b8.frozen; have l8 := b8.lt; clear hown8 hg8 b8)
            go_roundw
            case rel => exact ⟨l4.length + 1, _, _, l3 ++ [[(l4.length : Int)]], l4 ++ [[ra', rb', rc']], by omega, by go_num, hid ⟨by have := M8.out.mono (show 25 + 2000 * l4.length + 1000 + 1 ≤ 25 + 2000 * (l4.length + 1) by omega); simpa using this, by have := hIn.out.app (by omega); simpa using this, hA4.out, by simp⟩⟩
            case measure => simp [intOf]; omega
        · have M3 := hid (M.out.mono (show 25 + 2000 * l4.length ≤ 30000 by omega))
          have HI3 := hid (show IncOk l3 (l4.length : Int) ∧ AllR3 (LnQ fo ye) l4 ∧ (l4.length : Int) ≤ lm from ⟨HI.out.2.1, HI.out.2.2.1, by omega⟩)
          have hl10 : l4.length ≤ 10 := by omega
          clear HI M X kb kbl b13
          go_upto_region 17 with (go_at_call 67; (with_reducible refine (below_b H0.out M3.out.x (by omega) (pm + 1) (by omega)).mono ?_); rintro e wy ⟨np, rfl, hnp, hx⟩; have M := hid ((M3.out.sx hx).mono (show 30000 + 1 ≤ 30010 by omega)); clear hx)
          have hnp' : (np : Int) ≤ pm := by omega
          clear hnp M3 hlq
          go_loopw [78] (fun i wr => ∃ (q : Nat) (v5 : Value) (l5 : List (List Int)), q ≤ np ∧ i = .int .i64 (q : Int) ∧ Hid (MS d w (30010 + 2000 * q) G N fo ye v2 v3 (.slice A4 l4.length c4) v5 (.slice none 0 0) l2 l3 l4 l5 [] wr ∧ PayOk fo ye np q l5 ∧ l5.length = q)) (fun i _ => np - (intOf i).toNat)
          case atStart => exact ⟨0, _, [], by omega, rfl, hid ⟨M.out, PayOk.nil _ _ _ _, rfl⟩⟩
          case round =>
            clear M
            obtain ⟨q, v5, l5, hq5, rfl, HI⟩ := hrel
            obtain rfl := HI.out.2.2
            have M := hid HI.out.1
            have X := hid HI.out.1.x
            obtain ⟨A5, c5, hv5, -⟩ := M.out.o5.slR
            subst hv5
            have kb := M.out.b.cell
            have kbl := M.out.b.lt
            have hXs := M.out.x.size
            by_cases hlq : l5.length < np
            · have hnp0 : ((np : Nat) : Int) ≠ 0 := by omega
              have hmul : 0 ≤ (l5.length : Int) * ye ∧ (l5.length : Int) * ye ≤ 108 := ⟨Int.mul_nonneg (by omega) (by omega), by have := Int.mul_le_mul (show (l5.length : Int) ≤ 12 by omega) (show ye ≤ 9 by omega) (by omega) (by omega); omega⟩
              have HP5 := hid HI.out.2.1
              go_upto_region 19 with fail
              refine wp_region_monoG (d := d) 17 [(6, DrawA 1 (fo - 1)), (14, DrawA 1 70), (16, Row3S d 71 (fun a b c => (1 ≤ a ∧ a ≤ fo - 1) ∧ b = (l5.length : Int) * ye / np ∧ (1 ≤ c ∧ c ≤ 70)))] (by kernel_rfl) (by kernel_rfl) (by kernel_rfl) (by kernel_rfl) ?hS ?_
              case hS =>
                simp only [List.forall_mem_cons]
                exact ⟨fun _ _ _ _ _ _ _ h => h, fun _ _ _ _ _ _ _ h => h, fun _ _ _ _ _ _ e h => Row3S.sx e h, fun _ h => by simp at h⟩
              simp only [List.take_succ_cons, List.take_zero, List.drop_succ_cons, List.drop_zero]
              iterate 6
                refine wpM_plainG rfl ?_
                go_big_quiet_step (fail)
                refine wpQuiet_nil ?_
              refine wpM_specG _ rfl rfl (fun w2 hw2 _ => ?_) (fun va la ha ga1 ga2 _ hva => ?_)
              · go_wp2_with (go_at_call 71; (with_reducible refine (among_b H0.out (X.out.trans hw2) (by omega) 1 (fo - 1) (by omega) (by omega) (by omega)).mono ?_); rintro e w' ⟨z, rfl, z1, z2, he⟩)
                exact ⟨_, _, _, rfl, he, Nat.le_refl _, he.size, Nat.le_refl _, z, rfl, z1, z2⟩
              obtain ⟨_, za, rfl, za1, za2⟩ := hva
              simp only [Act.put, List.setIfInBounds_toArray, List.set_cons_succ, List.set_cons_zero]
              iterate 7
                refine wpM_plainG rfl ?_
                go_big_quiet_step (fail)
                refine wpQuiet_nil ?_
              refine wpM_specG _ rfl rfl (fun w2 hw2 _ => ?_) (fun vc lc hc gc1 gc2 _ hvc => ?_)
              · go_wp2_with (go_at_call 71; (with_reducible refine (among_b H0.out (X.out.trans hw2) (by omega) 1 70 (by omega) (by omega) (by omega)).mono ?_); rintro e w' ⟨z, rfl, z1, z2, he⟩)
                exact ⟨_, _, _, rfl, he, Nat.le_refl _, he.size, Nat.le_refl _, z, rfl, z1, z2⟩
              obtain ⟨_, zc, rfl, zc1, zc2⟩ := hvc
              simp only [Act.put, List.setIfInBounds_toArray, List.set_cons_succ, List.set_cons_zero]
              iterate 1
                refine wpM_plainG rfl ?_
                go_big_quiet_step (fail)
                refine wpQuiet_nil ?_
              have hQ1 : 1 ≤ za ∧ za ≤ fo - 1 := by omega
              have hQ3 : 1 ≤ zc ∧ zc ≤ 70 := by omega
              refine wpM_specG _ rfl rfl (fun w2 hw2 _ => ?_) (fun vd lr hr' gr1 gr2 _ hvd => ?_)
              · go_wp2
                exact ⟨_, w2.heap.size, w2.heap.size + 1, rfl, (Sx.ofExt ((Ext.refl _).alloc _)).mono (by omega), Nat.le_refl _, Nat.le_succ _, by simp, za, (l5.length : Int) * ye / np, zc, ⟨hQ1, rfl, hQ3⟩, rfl, rfl, by have := hw2.size; omega, Blk.new _ _ _⟩
              obtain ⟨_, ra, rb, rc, hQ0, rfl, rfl, -⟩ := hvd
              simp only [Act.put, List.setIfInBounds_toArray, List.set_cons_succ, List.set_cons_zero]
              refine wpM_nilG fun w4 hw4 hF => ?_
              simp only [List.forall_mem_cons] at hF
              obtain ⟨⟨-, ra', rb', rc', hQ', -, -, hrd, bR⟩, -⟩ := hF
              have M4 := hid (M.out.sx hw4)
              have b4 := M4.out.b
              have hsz4 := M4.out.z.lt
              have hQR := hid (PayOk.step HP5.out hlq (by omega) hQ')
              clear M X kb kbl hQ0 hQ1 hQ3 hQ' hw4 HI HP5 hmul hnp0
              go_wp2_with (at_builtin; refine wpList_append_rows rfl _ _ 24 rfl el24 rfl M4.out.o5 _ 1 1 [[_, _, _]] rfl rfl (by simp) (row3 bR) (by omega) (by omega) ?_; intro v' w5 hown5 hg5; have b5 := b4.grown hg5 (fun e => M4.out.o5.ne_blk b4 (by decide) e.symm); have M5 := hid (M4.out.app5 hg5 hown5); obtain ⟨D5, q5, rfl, -⟩ := hown5.slR; have k5 := b5.cell; have f5 := b5.frozen; have l5' := b5.lt; clear hown5 hg5 b5)
              go_roundw
              case rel => exact ⟨l5.length + 1, _, l5 ++ [[ra', rb', rc']], by omega, by go_num, hid ⟨by have := M5.out.mono (show 30010 + 2000 * l5.length + 1000 ≤ 30010 + 2000 * (l5.length + 1) by omega); simpa using this, hQR.out, by simp⟩⟩
              case measure => simp [intOf]; omega
            · have M3 := hid (M.out.mono (show 30010 + 2000 * l5.length ≤ 60000 by omega))
              have HI5 := hid (show PayOk fo ye np l5.length l5 ∧ (l5.length : Int) ≤ pm from ⟨HI.out.2.1, by omega⟩)
              have hl12 : l5.length ≤ 12 := by omega
              clear HI M X kb kbl
              go_upto_region 22 with (go_at_call 67; (with_reducible refine (below_b H0.out M3.out.x (by omega) (mm + 1) (by omega)).mono ?_); rintro e wx ⟨nm, rfl, hnm, hx⟩; have M := hid ((M3.out.sx hx).mono (show 60000 + 1 ≤ 60010 by omega)); clear hx)
              have hnm' : (nm : Int) ≤ mm := by omega
              clear hnm M3 hlq
              go_loopw [105] (fun i wr => ∃ (q : Nat) (v6 : Value) (l6 : List (List Int)), q ≤ nm ∧ i = .int .i64 (q : Int) ∧ Hid (MS d w (60010 + 2000 * q) G N fo ye v2 v3 (.slice A4 l4.length c4) (.slice A5 l5.length c5) v6 l2 l3 l4 l5 l6 wr ∧ AllR3 (PmQ fo) l6 ∧ l6.length = q)) (fun i _ => nm - (intOf i).toNat)
              case atStart => exact ⟨0, _, [], by omega, rfl, hid ⟨M.out, AllR3.nil, rfl⟩⟩
              case round =>
                clear M
                obtain ⟨q, v6, l6, hq6, rfl, HI⟩ := hrel
                obtain rfl := HI.out.2.2
                have M := hid HI.out.1
                have X := hid HI.out.1.x
                obtain ⟨A6, c6, hv6, -⟩ := M.out.o6.slR
                subst hv6
                have kb := M.out.b.cell
                have kbl := M.out.b.lt
                have hXs := M.out.x.size
                by_cases hlq : l6.length < nm
                · go_upto_region 23 with fail
                  refine wp_region_monoG (d := d) 12 [(3, DrawB fo), (7, DrawB fo), (9, DrawA 1 40), (11, PtS d 64 #[.int .i64 0, .int .i64 0, .int .i64 0])] (by kernel_rfl) (by kernel_rfl) (by kernel_rfl) (by kernel_rfl) ?hS ?_
                  case hS =>
                    simp only [List.forall_mem_cons]
                    exact ⟨fun _ _ _ _ _ _ _ h => h, fun _ _ _ _ _ _ _ h => h, fun _ _ _ _ _ _ _ h => h, fun _ _ _ _ _ _ e h => PtS.sx e h, fun _ h => by simp at h⟩
                  simp only [List.take_succ_cons, List.take_zero, List.drop_succ_cons, List.drop_zero]
                  iterate 3
                    refine wpM_plainG rfl ?_
                    go_big_quiet_step (fail)
                    refine wpQuiet_nil ?_
                  refine wpM_specG _ rfl rfl (fun w2 hw2 _ => ?_) (fun va la ha ga1 ga2 _ hva => ?_)
                  · go_wp2_with (go_at_call 67; (with_reducible refine (below_b H0.out (X.out.trans hw2) (by omega) fo (by omega)).mono ?_); rintro e w' ⟨z, rfl, z1, he⟩)
                    exact ⟨_, _, _, rfl, he, Nat.le_refl _, he.size, Nat.le_refl _, z, rfl, z1⟩
                  obtain ⟨_, za, rfl, za1⟩ := hva
                  simp only [Act.put, List.setIfInBounds_toArray, List.set_cons_succ, List.set_cons_zero]
                  iterate 3
                    refine wpM_plainG rfl ?_
                    go_big_quiet_step (fail)
                    refine wpQuiet_nil ?_
                  refine wpM_specG _ rfl rfl (fun w2 hw2 _ => ?_) (fun vb lb hb gb1 gb2 _ hvb => ?_)
                  · go_wp2_with (go_at_call 67; (with_reducible refine (below_b H0.out (X.out.trans hw2) (by omega) fo (by omega)).mono ?_); rintro e w' ⟨z, rfl, z1, he⟩)
                    exact ⟨_, _, _, rfl, he, Nat.le_refl _, he.size, Nat.le_refl _, z, rfl, z1⟩
                  obtain ⟨_, zb, rfl, zb1⟩ := hvb
                  simp only [Act.put, List.setIfInBounds_toArray, List.set_cons_succ, List.set_cons_zero]
                  iterate 1
                    refine wpM_plainG rfl ?_
                    go_big_quiet_step (fail)
                    refine wpQuiet_nil ?_
                  refine wpM_specG _ rfl rfl (fun w2 hw2 _ => ?_) (fun vc lc hc gc1 gc2 _ hvc => ?_)
                  · go_wp2_with (go_at_call 71; (with_reducible refine (among_b H0.out (X.out.trans hw2) (by omega) 1 40 (by omega) (by omega) (by omega)).mono ?_); rintro e w' ⟨z, rfl, z1, z2, he⟩)
                    exact ⟨_, _, _, rfl, he, Nat.le_refl _, he.size, Nat.le_refl _, z, rfl, z1, z2⟩
                  obtain ⟨_, zc, rfl, zc1, zc2⟩ := hvc
                  simp only [Act.put, List.setIfInBounds_toArray, List.set_cons_succ, List.set_cons_zero]
                  iterate 1
                    refine wpM_plainG rfl ?_
                    go_big_quiet_step (fail)
                    refine wpQuiet_nil ?_
                  refine wpM_specG _ rfl rfl (fun w2 hw2 _ => ?_) (fun vd lr hr' gr1 gr2 _ hvd => ?_)
                  · go_wp2
                    exact ⟨_, w2.heap.size, w2.heap.size + 1, rfl, (Sx.ofExt ((Ext.refl _).alloc _)).mono (by omega), Nat.le_refl _, Nat.le_succ _, by simp, rfl, Nat.lt_succ_self _, by have := hw2.size; omega, Blk.new _ _ _⟩
                  obtain ⟨_, rfl, hlr, hrd0, -⟩ := hvd
                  simp only [Act.put, List.setIfInBounds_toArray, List.set_cons_succ, List.set_cons_zero]
                  refine wpM_nilG fun w4 hw4 hF => ?_
                  simp only [List.forall_mem_cons] at hF
                  obtain ⟨⟨-, -, -, hrd, bR⟩, -⟩ := hF
                  have hza : (za : Int) < fo := by omega
                  have hzb : (zb : Int) < fo := by omega
                  have hzc : 1 ≤ zc ∧ zc ≤ 40 := by omega
                  have M4 := hid (M.out.sx hw4)
                  have hlrG : lr ≠ G := by have := M.out.b.lt; omega
                  have hlrw : w.heap.size < lr := by have := M.out.z.lt; omega
                  have HP6 := hid HI.out.2.1
                  have h6 := hid (show (Value.slice A6 l6.length c6).ownBlock ≠ some lr from fun e => by have := M.out.o6.lt e; omega)
                  have kr := bR.cell
                  have krl := bR.lt
                  have krf := bR.frozen
                  clear M X kb kbl hw4 HI za1 zb1 zc1 zc2
                  go_upto_region 24 with fail
                  refine wp_later fun w5 hw5 => ?_
                  have bR5 := (((bR.set_ 0 (.int .i64 (za : Int))).set_ 1 (.int .i64 (zb : Int))).set_ 2 (.int .i64 zc)).ext hw5
                  have M5 := hid (((MS.put (i := 2) (MS.put (i := 1) (MS.put (i := 0) M4.out bR hlrw hlrG h6.out (.int .i64 (za : Int))) (bR.set_ 0 (.int .i64 (za : Int))) hlrw hlrG h6.out (.int .i64 (zb : Int))) ((bR.set_ 0 (.int .i64 (za : Int))).set_ 1 (.int .i64 (zb : Int))) hlrw hlrG h6.out (.int .i64 zc))).ext hw5)
                  have bR5 : Blk w5 lr 64 #[.int .i64 (za : Int), .int .i64 (zb : Int), .int .i64 zc] := bR5
                  clear hw5 kr krl krf bR M4
                  have kr := bR5.cell
                  have krl := bR5.lt
                  have krf := bR5.frozen
                  have kb := M5.out.b.cell
                  have kbl := M5.out.b.lt
                  have hXs := M5.out.z.lt
                  by_cases hzz : za = zb
                  · subst hzz
                    obtain ⟨t, ht⟩ : ∃ t : Int, Hid (t = ((za : Int) + 1) % fo) := ⟨_, hid rfl⟩
                    have htb : 0 ≤ t ∧ t < fo := by
                      rw [ht.out]
                      exact ⟨Int.emod_nonneg _ (by omega), Int.emod_lt_of_pos _ (by omega)⟩
                    have htn : t ≠ (za : Int) := by
                      rw [ht.out]
                      by_cases q : (za : Int) + 1 < fo
                      · rw [Int.emod_eq_of_lt (by omega) q]; omega
                      · rw [show (za : Int) + 1 = fo by omega, Int.emod_self]; omega
                    have hQ : PmQ fo (za : Int) t zc := ⟨by omega, by omega, fun e => htn e.symm, hzc⟩
                    go_upto_region 26 with fail
                    rw [← ht.out]
                    refine wp_later fun w6 hw6 => ?_
                    have bR6 : Blk w6 lr 64 #[.int .i64 (za : Int), .int .i64 t, .int .i64 zc] := (bR5.set_ 1 (.int .i64 t)).ext hw6
                    have M6 := hid ((MS.put (i := 1) M5.out bR5 hlrw hlrG h6.out (.int .i64 t)).ext hw6)
                    clear hw6 kr krl krf kb kbl bR5 M5 hXs
                    have kr := bR6.cell
                    have krl := bR6.lt
                    have kb := M6.out.b.cell
                    have kbl := M6.out.b.lt
                    have hXs := M6.out.z.lt
                    go_wp2_with (at_builtin; refine wpList_append_rows rfl _ _ 25 rfl el25 rfl (M6.out.o6.ext (Ext.alloc (Ext.refl _) _)) _ 1 1 [[(za : Int), t, zc]] rfl rfl (by simp) (by intro j; simp [cellsOf]) (by omega) (by simp; omega) ?_; intro v' w8 hown8 hg8; have b8 := (M6.out.b.ext (Ext.alloc (Ext.refl _) (.cells #[.int .i64 (za : Int), .int .i64 t, .int .i64 zc] 64))).grown hg8 (fun e => (M6.out.o6.ext (Ext.alloc (Ext.refl _) (.cells #[.int .i64 (za : Int), .int .i64 t, .int .i64 zc] 64))).ne_blk (M6.out.b.ext (Ext.alloc (Ext.refl _) (.cells #[.int .i64 (za : Int), .int .i64 t, .int .i64 zc] 64))) (by decide) e.symm); have M8 := hid ((M6.out.ext (Ext.alloc (Ext.refl _) (.cells #[.int .i64 (za : Int), .int .i64 t, .int .i64 zc] 64))).app6 hg8 hown8); obtain ⟨D6, q6, rfl, -⟩ := hown8.slR; have k8 := b8.cell; have f8 := b8.frozen; have l8 := b8.lt; clear hown8 hg8 b8)
                    go_roundw
                    case rel => exact ⟨l6.length + 1, _, l6 ++ [[(za : Int), t, zc]], by omega, by go_num, hid ⟨by have := M8.out.mono (show 60010 + 2000 * l6.length + 1000 ≤ 60010 + 2000 * (l6.length + 1) by omega); simpa using this, HP6.out.app hQ, by simp⟩⟩
                    case measure => simp [intOf]; omega
                  · have hQ : PmQ fo (za : Int) (zb : Int) zc := ⟨by omega, by omega, by omega, hzc⟩
                    have tz : ((za : Int) == (zb : Int)) = false := beq_eq_false_iff_ne.2 (by omega)
                    clear hzz
                    go_upto_region 26 with fail
                    refine wp_later fun w6 hw6 => ?_
                    have bR6 := bR5.ext hw6
                    have M6 := hid (M5.out.ext hw6)
                    clear hw6 kr krl krf kb kbl bR5 M5 hXs
                    have kr := bR6.cell
                    have krl := bR6.lt
                    have kb := M6.out.b.cell
                    have kbl := M6.out.b.lt
                    have hXs := M6.out.z.lt
                    go_wp2_with (at_builtin; refine wpList_append_rows rfl _ _ 25 rfl el25 rfl (M6.out.o6.ext (Ext.alloc (Ext.refl _) _)) _ 1 1 [[(za : Int), (zb : Int), zc]] rfl rfl (by simp) (by intro j; simp [cellsOf]) (by omega) (by simp; omega) ?_; intro v' w8 hown8 hg8; have b8 := (M6.out.b.ext (Ext.alloc (Ext.refl _) (.cells #[.int .i64 (za : Int), .int .i64 (zb : Int), .int .i64 zc] 64))).grown hg8 (fun e => (M6.out.o6.ext (Ext.alloc (Ext.refl _) (.cells #[.int .i64 (za : Int), .int .i64 (zb : Int), .int .i64 zc] 64))).ne_blk (M6.out.b.ext (Ext.alloc (Ext.refl _) (.cells #[.int .i64 (za : Int), .int .i64 (zb : Int), .int .i64 zc] 64))) (by decide) e.symm); have M8 := hid ((M6.out.ext (Ext.alloc (Ext.refl _) (.cells #[.int .i64 (za : Int), .int .i64 (zb : Int), .int .i64 zc] 64))).app6 hg8 hown8); obtain ⟨D6, q6, rfl, -⟩ := hown8.slR; have k8 := b8.cell; have f8 := b8.frozen; have l8 := b8.lt; clear hown8 hg8 b8)
                    go_roundw
                    case rel => exact ⟨l6.length + 1, _, l6 ++ [[(za : Int), (zb : Int), zc]], by omega, by go_num, hid ⟨by have := M8.out.mono (show 60010 + 2000 * l6.length + 1000 ≤ 60010 + 2000 * (l6.length + 1) by omega); simpa using this, HP6.out.app hQ, by simp⟩⟩
                    case measure => simp [intOf]; omega
                · have M7 := hid (M.out.mono (show 60010 + 2000 * l6.length ≤ 100000 by omega))
                  have HI6 := hid (show AllR3 (PmQ fo) l6 ∧ (l6.length : Int) ≤ mm from ⟨HI.out.2.1, by omega⟩)
                  have kz := M7.out.z.cell
                  have kzl := M7.out.z.lt
                  have kzf := M7.out.z.frozen
                  obtain ⟨A2, c2, hv2, -⟩ := M7.out.o2.slR
                  obtain ⟨A3, c3, hv3, -⟩ := M7.out.o3.slR
                  subst hv2 hv3
                  clear HI M X
                  go_wp2_with fail
                  have hK := Ch.ofKpM (set7 (n := wr.heap.size) (H := w.heap.size) wr (.int .i64 fo) (.int .i64 ye) (.slice A2 l2.length c2) (.slice A3 l3.length c3) (.slice A4 l4.length c4) (.slice A5 l5.length c5) (.slice A6 l6.length c6))
                  obtain ⟨e1, e2, e3⟩ := made_end M7.out hK
                  have hSx : Sx d 100000 w (((((((wr.setCell ⟨w.heap.size, 0, none⟩ (.int .i64 fo)).setCell ⟨w.heap.size, 1, none⟩ (.int .i64 ye)).setCell ⟨w.heap.size, 2, none⟩ (.slice A2 l2.length c2)).setCell ⟨w.heap.size, 3, none⟩ (.slice A3 l3.length c3)).setCell ⟨w.heap.size, 4, none⟩ (.slice A4 l4.length c4)).setCell ⟨w.heap.size, 5, none⟩ (.slice A5 l5.length c5)).setCell ⟨w.heap.size, 6, none⟩ (.slice A6 l6.length c6)) := by
                    iterate 7 refine Sx.set_ ?_ _ _ _ (Nat.le_refl _)
                    exact M7.out.x
                  have hOk := mkL_ok hfo hye I2.out HI3.out.1 HI3.out.2.1 HI5.out.1 HI6.out.1 hl10 hl12 (by have := HI6.out.2; omega)
                  refine bodyPost_ret (v := .agg #[.int .i64 fo, .int .i64 ye, .slice A2 l2.length c2, .slice A3 l3.length c3, .slice A4 l4.length c4, .slice A5 l5.length c5, .slice A6 l6.length c6]) (by simp [results, Tryz.results30, go_sem, kz]) rfl ⟨_, _, rfl, hSx, e1, hOk, ⟨?_, ?_, ?_, ?_, ?_⟩, e2, hfo.1, hfo2, hye2, HI3.out.2.2, HI5.out.2, HI6.out.2, e3⟩
                  · show l2.length ≤ 1000; have := I2.out.2.2; omega
                  · show l3.length ≤ 1000; have := HI3.out.1.2.2; omega
                  · show l4.length ≤ 1000; omega
                  · show l5.length ≤ 1000; omega
                  · show l6.length ≤ 1000; have := HI6.out.2; omega
end Go.Proofs.YtbceepjjdfpfmaaGreat
