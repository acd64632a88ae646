/- What the statements' Made keeps while it makes a ledger, and what is right about the ledger. -/
import Derived.Test.YtbceepjjdfpfmaaGreatDraw
import Derived.Test.YtbceepjjdfpfmaaGreatSho
import Derived.Test.YtbceepjjdfpfmaaGreatSetW
import Derived.Test.YtbceepjjdfpfmaaGreatDesk
namespace Go
open Go.RowKit
theorem Sx.grown {d : SackD} {k : Nat} {w W W' : World} {row : Option Nat} (x : Sx d k w W) (hg : W.grownBy W' row) (hr : ∀ j, row = some j → w.heap.size ≤ j) : Sx d k w W' := by
  obtain ⟨⟨h1, h2, h3⟩, h4, h5, h6⟩ := x
  refine ⟨⟨hg.os.trans h1, hg.tape.trans h2, hg.output.trans h3⟩, Nat.le_trans h4 hg.size, fun b hb hne => (hg.block b (by omega) (fun e => by have := hr _ e.symm; omega)).trans (h5 b hb hne), fun t ht => ?_⟩
  have hlt : d.blk < w.heap.size := by obtain ⟨m, hk⟩ := ht; exact hk.lt
  obtain ⟨t', a1, a2, m, hk⟩ := h6 t ht
  exact ⟨t', a1, a2, m, hk.grown hg (fun e => by have := hr _ e.symm; omega)⟩
theorem Sx.set_ {d : SackD} {k : Nat} {w W : World} (x : Sx d k w W) (g i : Nat) (u : Value) (hg : w.heap.size ≤ g) : Sx d k w (W.setCell ⟨g, i, none⟩ u) := by
  obtain ⟨⟨h1, h2, h3⟩, h4, h5, h6⟩ := x
  refine ⟨⟨h1, h2, h3⟩, by simpa using h4, fun b hb hne => (Below.heap_setCell W ⟨g, i, none⟩ u b (show b ≠ g by omega)).trans (h5 b hb hne), fun t ht => ?_⟩
  have hlt : d.blk < w.heap.size := by obtain ⟨m, hk⟩ := ht; exact hk.lt
  obtain ⟨t', a1, a2, m, hk⟩ := h6 t ht
  exact ⟨t', a1, a2, m, hk.far (show d.blk ≠ g by omega) _⟩
end Go
namespace Go.Proofs.YtbceepjjdfpfmaaGreat
open Go.RowKit HandSpec LoanSpec
set_option maxHeartbeats 2000000
set_option maxRecDepth 100000
/-- What has been made: the box of the ledger and its five lists, two of them of numbers. -/
structure MS (d : SackD) (w : World) (k G N : Nat) (fo ye : Int) (v2 v3 v4 v5 v6 : Value) (l2 l3 l4 l5 l6 : List (List Int)) (W : World) : Prop where
  x : Sx d k w W
  s : d.blk < w.heap.size
  g : w.heap.size < G
  n : w.heap.size < N
  nl : N ≤ W.heap.size
  z : Blk W w.heap.size 27 #[.int .i64 0, .int .i64 0, .slice none 0 0, .slice none 0 0, .slice none 0 0, .slice none 0 0, .slice none 0 0]
  b : Blk W G 27 #[.int .i64 fo, .int .i64 ye, v2, v3, v4, v5, v6]
  o2 : OwnR W (w.heap.size + 1) 3 1 v2 l2
  o3 : OwnR W N 3 1 v3 l3
  o4 : OwnR W (w.heap.size + 1) 68 3 v4 l4
  o5 : OwnR W (w.heap.size + 1) 71 3 v5 l5
  o6 : OwnR W (w.heap.size + 1) 64 3 v6 l6
  ne : v3 = .slice none 0 0 ∨ ∀ q, v2.ownBlock = some q → q < N
namespace MS
variable {d : SackD} {w W W' : World} {k l G N : Nat} {fo ye : Int} {v2 v3 v4 v5 v6 v' : Value} {l2 l3 l4 l5 l6 l' : List (List Int)}
theorem mono (h : MS d w k G N fo ye v2 v3 v4 v5 v6 l2 l3 l4 l5 l6 W) (e : k ≤ l) : MS d w l G N fo ye v2 v3 v4 v5 v6 l2 l3 l4 l5 l6 W := { h with x := h.x.mono e }
theorem ext (h : MS d w k G N fo ye v2 v3 v4 v5 v6 l2 l3 l4 l5 l6 W) (e : Ext W W') : MS d w k G N fo ye v2 v3 v4 v5 v6 l2 l3 l4 l5 l6 W' :=
  ⟨(h.x.trans (Sx.ofExt e)).mono (Nat.le_refl _), h.s, h.g, h.n, Nat.le_trans h.nl e.size, h.z.ext e, h.b.ext e, h.o2.ext e, h.o3.ext e, h.o4.ext e, h.o5.ext e, h.o6.ext e, h.ne⟩
theorem far {B : Nat} {e : TypeId} {c : Nat} {v : Value} {l : List (List Int)} (hs : d.blk < w.heap.size) (o : OwnR W B e c v l) (hB : w.heap.size ≤ B) : v.ownBlock ≠ some d.blk := fun q => by have := o.block q; omega
theorem sx (h : MS d w k G N fo ye v2 v3 v4 v5 v6 l2 l3 l4 l5 l6 W) (e : Sx d l W W') : MS d w (k + l) G N fo ye v2 v3 v4 v5 v6 l2 l3 l4 l5 l6 W' := by
  have hg := h.g
  have hn := h.n
  have hs := h.s
  exact ⟨h.x.trans e, h.s, h.g, h.n, Nat.le_trans h.nl e.size, h.z.sx e (by omega), h.b.sx e (by omega), h.o2.sx e (far hs h.o2 (by omega)), h.o3.sx e (far hs h.o3 (by omega)), h.o4.sx e (far hs h.o4 (by omega)), h.o5.sx e (far hs h.o5 (by omega)), h.o6.sx e (far hs h.o6 (by omega)), h.ne⟩
/-- A box of another promise changes. -/
theorem put {g i : Nat} {C : Array Value} (h : MS d w k G N fo ye v2 v3 v4 v5 v6 l2 l3 l4 l5 l6 W) (b : Blk W g 64 C) (h1 : w.heap.size < g) (h2 : g ≠ G) (h6 : v6.ownBlock ≠ some g) (u : Value) : MS d w k G N fo ye v2 v3 v4 v5 v6 l2 l3 l4 l5 l6 (W.setCell ⟨g, i, none⟩ u) := by
  have k := Ch.ofSet W g i u
  exact ⟨Sx.set_ h.x g i u (by omega), h.s, h.g, h.n, by have := h.nl; simpa using this, h.z.far (by show w.heap.size ≠ g; omega) _, h.b.far (by show G ≠ g; omega) _,
    k.own h.o2 fun q hq e => by subst e; exact h.o2.ne_blk b (by decide) hq, k.own h.o3 fun q hq e => by subst e; exact h.o3.ne_blk b (by decide) hq, k.own h.o4 fun q hq e => by subst e; exact h.o4.ne_blk b (by decide) hq, k.own h.o5 fun q hq e => by subst e; exact h.o5.ne_blk b (by decide) hq, k.own h.o6 fun q hq e => by subst e; exact h6 hq, h.ne⟩
/-- The first list of numbers is longer. -/
theorem app2 (h : MS d w k G N fo ye v2 (.slice none 0 0) v4 v5 v6 l2 l3 l4 l5 l6 W) (hg : W.grownBy W' v2.ownBlock) (o : OwnR W' (w.heap.size + 1) 3 1 v' l') : MS d w k G N fo ye v' (.slice none 0 0) v4 v5 v6 l' l3 l4 l5 l6 (W'.setCell ⟨G, 2, none⟩ v') := by
  have hgg := h.g
  have b' := h.b.grown hg (fun e => h.o2.ne_blk h.b (by decide) e.symm)
  have o4' := h.o4.grownBy_other hg (h.o4.apart' h.o2 (by decide))
  have o5' := h.o5.grownBy_other hg (h.o5.apart' h.o2 (by decide))
  have o6' := h.o6.grownBy_other hg (h.o6.apart' h.o2 (by decide))
  have k := Ch.ofSet W' G 2 v'
  exact ⟨Sx.set_ (h.x.grown hg fun j hj => by have := h.o2.block hj; omega) _ _ _ (by omega), h.s, h.g, h.n, by have := h.nl; have := hg.size; simp; omega, (h.z.grown hg (fun e => by have := h.o2.block e.symm; omega)).far (by show w.heap.size ≠ G; omega) _, b'.set_ 2 v',
    k.own o fun q hq e => by subst e; exact o.ne_blk b' (by decide) hq, k.own (h.o3.grownBy_other hg (fun q hq => (by cases hq))) fun q hq e => (by cases hq),
    k.own o4' fun q hq e => by subst e; exact o4'.ne_blk b' (by decide) hq, k.own o5' fun q hq e => by subst e; exact o5'.ne_blk b' (by decide) hq, k.own o6' fun q hq e => by subst e; exact o6'.ne_blk b' (by decide) hq, .inl rfl⟩
/-- The second list of numbers is longer. -/
theorem app3 (h : MS d w k G N fo ye v2 v3 v4 v5 v6 l2 l3 l4 l5 l6 W) (h2 : ∀ q, v2.ownBlock = some q → q < N) (hg : W.grownBy W' v3.ownBlock) (o : OwnR W' N 3 1 v' l') : MS d w k G N fo ye v2 v' v4 v5 v6 l2 l' l4 l5 l6 (W'.setCell ⟨G, 3, none⟩ v') := by
  have hgg := h.g
  have hn := h.n
  have b' := h.b.grown hg (fun e => h.o3.ne_blk h.b (by decide) e.symm)
  have o2' := h.o2.grownBy_other hg fun q hq e => by have := h2 q hq; have := h.o3.block e.symm; omega
  have o4' := h.o4.grownBy_other hg (h.o4.apart' h.o3 (by decide))
  have o5' := h.o5.grownBy_other hg (h.o5.apart' h.o3 (by decide))
  have o6' := h.o6.grownBy_other hg (h.o6.apart' h.o3 (by decide))
  have k := Ch.ofSet W' G 3 v'
  exact ⟨Sx.set_ (h.x.grown hg fun j hj => by have := h.o3.block hj; omega) _ _ _ (by omega), h.s, h.g, h.n, by have := h.nl; have := hg.size; simp; omega, (h.z.grown hg (fun e => by have := h.o3.block e.symm; omega)).far (by show w.heap.size ≠ G; omega) _, b'.set_ 3 v',
    k.own o2' fun q hq e => by subst e; exact o2'.ne_blk b' (by decide) hq, k.own o fun q hq e => by subst e; exact o.ne_blk b' (by decide) hq,
    k.own o4' fun q hq e => by subst e; exact o4'.ne_blk b' (by decide) hq, k.own o5' fun q hq e => by subst e; exact o5'.ne_blk b' (by decide) hq, k.own o6' fun q hq e => by subst e; exact o6'.ne_blk b' (by decide) hq, .inr h2⟩
/-- The list of loans is longer. -/
theorem app4 (h : MS d w k G N fo ye v2 v3 v4 v5 v6 l2 l3 l4 l5 l6 W) (hg : W.grownBy W' v4.ownBlock) (o : OwnR W' (w.heap.size + 1) 68 3 v' l') : MS d w k G N fo ye v2 v3 v' v5 v6 l2 l3 l' l5 l6 (W'.setCell ⟨G, 4, none⟩ v') := by
  have hgg := h.g
  have b' := h.b.grown hg (fun e => h.o4.ne_blk h.b (by decide) e.symm)
  have o2' := h.o2.grownBy_other hg (h.o2.apart' h.o4 (by decide))
  have o3' := h.o3.grownBy_other hg (h.o3.apart' h.o4 (by decide))
  have o5' := h.o5.grownBy_other hg (h.o5.apart' h.o4 (by decide))
  have o6' := h.o6.grownBy_other hg (h.o6.apart' h.o4 (by decide))
  have k := Ch.ofSet W' G 4 v'
  exact ⟨Sx.set_ (h.x.grown hg fun j hj => by have := h.o4.block hj; omega) _ _ _ (by omega), h.s, h.g, h.n, by have := h.nl; have := hg.size; simp; omega, (h.z.grown hg (fun e => by have := h.o4.block e.symm; omega)).far (by show w.heap.size ≠ G; omega) _, b'.set_ 4 v', k.own o2' fun q hq e => by subst e; exact o2'.ne_blk b' (by decide) hq, k.own o3' fun q hq e => by subst e; exact o3'.ne_blk b' (by decide) hq, k.own o fun q hq e => by subst e; exact o.ne_blk b' (by decide) hq, k.own o5' fun q hq e => by subst e; exact o5'.ne_blk b' (by decide) hq, k.own o6' fun q hq e => by subst e; exact o6'.ne_blk b' (by decide) hq, h.ne⟩
/-- The list of payments is longer. -/
theorem app5 (h : MS d w k G N fo ye v2 v3 v4 v5 v6 l2 l3 l4 l5 l6 W) (hg : W.grownBy W' v5.ownBlock) (o : OwnR W' (w.heap.size + 1) 71 3 v' l') : MS d w k G N fo ye v2 v3 v4 v' v6 l2 l3 l4 l' l6 (W'.setCell ⟨G, 5, none⟩ v') := by
  have hgg := h.g
  have b' := h.b.grown hg (fun e => h.o5.ne_blk h.b (by decide) e.symm)
  have o2' := h.o2.grownBy_other hg (h.o2.apart' h.o5 (by decide))
  have o3' := h.o3.grownBy_other hg (h.o3.apart' h.o5 (by decide))
  have o4' := h.o4.grownBy_other hg (h.o4.apart' h.o5 (by decide))
  have o6' := h.o6.grownBy_other hg (h.o6.apart' h.o5 (by decide))
  have k := Ch.ofSet W' G 5 v'
  exact ⟨Sx.set_ (h.x.grown hg fun j hj => by have := h.o5.block hj; omega) _ _ _ (by omega), h.s, h.g, h.n, by have := h.nl; have := hg.size; simp; omega, (h.z.grown hg (fun e => by have := h.o5.block e.symm; omega)).far (by show w.heap.size ≠ G; omega) _, b'.set_ 5 v', k.own o2' fun q hq e => by subst e; exact o2'.ne_blk b' (by decide) hq, k.own o3' fun q hq e => by subst e; exact o3'.ne_blk b' (by decide) hq, k.own o4' fun q hq e => by subst e; exact o4'.ne_blk b' (by decide) hq, k.own o fun q hq e => by subst e; exact o.ne_blk b' (by decide) hq, k.own o6' fun q hq e => by subst e; exact o6'.ne_blk b' (by decide) hq, h.ne⟩
/-- The list of promises is longer. -/
theorem app6 (h : MS d w k G N fo ye v2 v3 v4 v5 v6 l2 l3 l4 l5 l6 W) (hg : W.grownBy W' v6.ownBlock) (o : OwnR W' (w.heap.size + 1) 64 3 v' l') : MS d w k G N fo ye v2 v3 v4 v5 v' l2 l3 l4 l5 l' (W'.setCell ⟨G, 6, none⟩ v') := by
  have hgg := h.g
  have b' := h.b.grown hg (fun e => h.o6.ne_blk h.b (by decide) e.symm)
  have o2' := h.o2.grownBy_other hg (h.o2.apart' h.o6 (by decide))
  have o3' := h.o3.grownBy_other hg (h.o3.apart' h.o6 (by decide))
  have o4' := h.o4.grownBy_other hg (h.o4.apart' h.o6 (by decide))
  have o5' := h.o5.grownBy_other hg (h.o5.apart' h.o6 (by decide))
  have k := Ch.ofSet W' G 6 v'
  exact ⟨Sx.set_ (h.x.grown hg fun j hj => by have := h.o6.block hj; omega) _ _ _ (by omega), h.s, h.g, h.n, by have := h.nl; have := hg.size; simp; omega, (h.z.grown hg (fun e => by have := h.o6.block e.symm; omega)).far (by show w.heap.size ≠ G; omega) _, b'.set_ 6 v', k.own o2' fun q hq e => by subst e; exact o2'.ne_blk b' (by decide) hq, k.own o3' fun q hq e => by subst e; exact o3'.ne_blk b' (by decide) hq, k.own o4' fun q hq e => by subst e; exact o4'.ne_blk b' (by decide) hq, k.own o5' fun q hq e => by subst e; exact o5'.ne_blk b' (by decide) hq, k.own o fun q hq e => by subst e; exact o.ne_blk b' (by decide) hq, h.ne⟩
end MS
theorem chk_of_ok {x : LD} (h : Ok x) : x.chk = 0 := by
  have f : ∀ {n lo hi : Int}, lo ≤ n ∧ n ≤ hi → offB n lo hi = false := fun q => decide_eq_false (by omega)
  have a1 : x.many = false := by
    simp only [LD.many, f h.folk, f h.years, Bool.false_or, Bool.or_eq_false_iff, decide_eq_false_iff_not]
    have := h.ln; have := h.pn; have := h.mn
    omega
  have a2 : x.wideB = false := by
    simp only [LD.wideB, Bool.or_eq_false_iff, anyTo_false]
    exact ⟨fun k hk => f (h.lsack k hk), fun k hk => f (h.psack k hk), fun k hk => f (h.msack k hk)⟩
  have a3 : x.notB = false := by
    simp only [LD.notB, Bool.or_eq_false_iff, anyTo_false]
    exact ⟨fun k hk => ⟨f (h.lwho k hk), f (h.lyear k hk)⟩, fun k hk => ⟨f (h.pwho k hk), f (h.pyear k hk)⟩, fun k hk => ⟨f (h.mfrom k hk), f (h.mto k hk)⟩, fun k hk => f (h.bad k hk), fun k hk => f (h.fo k hk)⟩
  have a4 : x.sameB = false := by
    simp only [LD.sameB, anyTo_false]
    intro k hk
    simpa using h.mne k hk
  have a5 : x.orderB = false := by
    simp only [LD.orderB, fallB, Bool.or_eq_false_iff, anyTo_false, decide_eq_false_iff_not]
    exact ⟨fun k hk => by have := h.binc k (by omega); omega, fun k hk => by have := h.finc k (by omega); omega, fun k hk => by have := h.pinc k (by omega); omega⟩
  unfold LD.chk
  rw [a1, a2, a3, a4, a5]
  rfl
end Go.Proofs.YtbceepjjdfpfmaaGreat
