/- Walks of what the laws use: copies, the reference's watch, comparisons, and the watch of the examples. -/
import Derived.Test.YtkhjmedfhobebaaGreatDoD
namespace HandSpec
/-- The watch of the examples. -/
def fourW (n : Nat) (s : Nat → Nat → Int) : WD := { hours := 24, allow := 1, hands := 3, cn := 4, bn := 2, sn := n, c := Go.rowsAt [[0, 100, 102], [6, 90, 92], [12, 80, 84], [20, 70, 71]], b := Go.rowsAt [[4, -2], [15, 10]], s := s }
def allS (u : Int) : List (List Int) := [[0, 0, 6], [1, 5, u], [2, 14, 20]]
def greatB (x : WD) : Bool := decide (11 < x.cn) || decide (14 < x.bn) || decide (16 < x.sn)
end HandSpec
namespace Go.Proofs.YtkhjmedfhobebaaGreat
open Go.RowKit HandSpec
set_option maxHeartbeats 800000
set_option maxRecDepth 100000
theorem Rd.of_blk {w : World} {g : Nat} {t : TypeId} {C : Array Value} {c : Nat} {L : List (List Int)} (h : Blk w g t C) (hC : C.toList = cellsOf L) (hc : ∀ r ∈ L, r.length = c) : Rd w (some ⟨g, 0, none⟩) L.length c (rowsAt L) := fun _ =>
 ⟨g, 0, rfl, fun k hk j hj => by
  rw [h.cell, Nat.zero_add, ← Array.getElem?_toList, hC]
  exact cellsOf_get hc hk hj⟩
theorem newB3' {w w1 : World} {A B C : Array Value} {t u v : TypeId} (h : Ext (((w.alloc (.cells A t)).alloc (.cells B u)).alloc (.cells C v)) w1) :
  Ext w w1 ∧ Blk w1 w.heap.size t A ∧ Blk w1 (w.heap.size + 1) u B ∧ Blk w1 (w.heap.size + 2) v C := by
 obtain ⟨h1, h2⟩ := h.newB
 obtain ⟨h3, h4, h5⟩ := h1.newB2
 exact ⟨h3, h4, h5, by simpa using h2⟩
theorem wp_bodyPost_later {P : Program} {fn : Func} {R : Ending → World → Prop} {x : Exit} {a : Act} {W : World} (h : ∀ w1, Ext W w1 → bodyPost P fn R x a w1) : bodyPost P fn R x a W := h W (Ext.refl _)
theorem all111 (u : Int) (w : World) : Calls Tryz.prog 111 #[.int .i64 u] w fun e w' => ∃ v, e = .returned v ∧ Ext w w' ∧ SlR w' 3 v (allS u) := by
 go_enter Tryz.func111, Tryz.ntmps111
 go_wp2
 go_ret
 exact ⟨_, rfl, (Ext.refl _).alloc _, _, _, rfl, Rd.of_blk (Blk.new _ _ _) (by simp [cellsOf, allS]) (by simp [allS])⟩
theorem four110 {w : World} {v : Value} {l : List (List Int)} (hv : SlR w 3 v l) :
  Calls Tryz.prog 110 #[v] w fun e w' => ∃ u, e = .returned u ∧ Ext w w' ∧ IsW w' u (fourW l.length (rowsAt l)) := by
 obtain ⟨A, cap, rfl, hr⟩ := hv
 go_enter Tryz.func110, Tryz.ntmps110
 go_wp2
 refine wp_bodyPost_later (fun w1 hw1 => ?_)
 obtain ⟨he, b1, b2, b3⟩ := newB3' hw1
 have k1 := b1.cell
 have k1l := b1.lt
 refine bodyPost_ret (v := .agg #[.int .i64 24, .int .i64 1, .int .i64 3, .slice (some ⟨w.heap.size + 1, 0, none⟩) 4 4, .slice (some ⟨w.heap.size + 1 + 1, 0, none⟩) 2 2, .slice A l.length cap]) (by simp [results, Tryz.results110, go_sem, k1]) rfl ?_
 refine ⟨_, rfl, he, _, _, _, _, _, _, rfl, ?_, ?_, hr.ext he⟩
 ·exact Rd.of_blk (L := [[0, 100, 102], [6, 90, 92], [12, 80, 84], [20, 70, 71]]) b2 (by simp [cellsOf]) (by simp)
 ·exact Rd.of_blk (L := [[4, -2], [15, 10]]) b3 (by simp [cellsOf]) (by simp)
theorem great31 {x : WD} {w : World} {v : Value} (hv : IsW w v x) :
  Calls Tryz.prog 31 #[v] w fun e w' => e = .returned (.bool (greatB x)) ∧ Ext w w' := by
 obtain ⟨A1, c1, A2, c2, A3, c3, rfl, r1, r2, r3⟩ := hv
 clear r1 r2 r3
 by_cases h1 : 11 < x.cn
 ·have e1 : (11 : Int) < (x.cn : Int) := by omega
  go_enter Tryz.func31, Tryz.ntmps31
  go_wp2
  go_ret
  exact ⟨ret_bool (by simp [greatB, h1]), (Ext.refl _).alloc _⟩
 ·have e1 : ¬ (11 : Int) < (x.cn : Int) := by omega
  by_cases h2 : 14 < x.bn
  ·have e2 : (14 : Int) < (x.bn : Int) := by omega
   go_enter Tryz.func31, Tryz.ntmps31
   go_wp2
   go_ret
   exact ⟨ret_bool (by simp [greatB, h2]), (Ext.refl _).alloc _⟩
  ·have e2 : ¬ (14 : Int) < (x.bn : Int) := by omega
   by_cases h3 : 16 < x.sn
   ·have e3 : (16 : Int) < (x.sn : Int) := by omega
    go_enter Tryz.func31, Tryz.ntmps31
    go_wp2
    go_ret
    exact ⟨ret_bool (by simp [greatB, h3]), (Ext.refl _).alloc _⟩
   ·have e3 : ¬ (16 : Int) < (x.sn : Int) := by omega
    go_enter Tryz.func31, Tryz.ntmps31
    go_wp2
    go_ret
    exact ⟨ret_bool (by simp [greatB, h1, h2, h3]), (Ext.refl _).alloc _⟩
end Go.Proofs.YtkhjmedfhobebaaGreat
