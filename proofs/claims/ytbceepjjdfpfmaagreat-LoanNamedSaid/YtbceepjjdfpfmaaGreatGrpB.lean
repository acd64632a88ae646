/- Walk of SortFunc at an own list of a few lists of numbers, by their first numbers: insertion. -/
import Derived.Test.YtbceepjjdfpfmaaGreatGrpA
import Derived.Test.YtbceepjjdfpfmaaGreatNest
import Derived.RegionTactic
import Derived.ChangeAlike
namespace Go.Proofs.YtbceepjjdfpfmaaGreat
open Go.RowKit HandSpec
set_option maxHeartbeats 2000000
set_option maxRecDepth 100000
theorem len206 (n : Nat) (hn : n ≤ 12) (w : World) : Calls Tryz.prog 206 #[.int .u64 (n : Int)] w fun e w' => (∃ k : Int, e = .returned (.int .i64 k)) ∧ w = w' := by
 match n, hn with
 | 0, _ | 1, _ | 2, _ | 3, _ | 4, _ | 5, _ | 6, _ | 7, _ | 8, _ | 9, _ | 10, _ | 11, _ | 12, _ =>
  go_enter Tryz.func206, Tryz.ntmps206
  go_wp2
  go_ret
  exact ⟨⟨_, rfl⟩, rfl⟩
theorem blen (n : Nat) (hn : n ≤ 12) (w : World) : Calls Tryz.prog 187 #[.int .u64 (n : Int)] w fun e w' => (∃ k : Int, e = .returned (.int .i64 k)) ∧ w = w' := by
 go_enter Tryz.func187, Tryz.ntmps187
 go_wp2_with (go_at_call 206; refine (len206 _ (by omega) _).mono ?_; rintro e w' ⟨⟨k, rfl⟩, rfl⟩)
 go_ret
 exact ⟨⟨_, rfl⟩, rfl⟩
/-- The first place of a set. -/
def hdS (s : Nat) : Nat := (places s).getD 0 0
/-- A list whose first number is its set's first place, in a block that is not g. -/
def HdV (w : World) (g : Nat) (p : Nat × Value) : Prop := ∃ b L c, p.2 = .slice (some ⟨b, 0, none⟩) L c ∧ 0 < L ∧ b ≠ g ∧ b < w.heap.size ∧ w.cell? ⟨b, 0, none⟩ = some (.int .i64 (hdS p.1 : Int))
theorem HdV.kp {n g : Nat} {w w' : World} {p : Nat × Value} (h : HdV w g p) (k : KpM n (fun k => k = g) w w') (hn : n = w.heap.size) : HdV w' g p := by
 obtain ⟨b, L, c, h1, h2, h3, h4, h5⟩ := h
 refine ⟨b, L, c, h1, h2, h3, Nat.lt_of_lt_of_le h4 k.1, ?_⟩
 have e := k.2 b (by omega) h3
 rw [← h5]
 simp only [World.cell?, e]
theorem cmp178 {w : World} {b1 b2 L1 L2 c1 c2 : Nat} {p q : Nat} (hp : p ≤ 100 ∧ q ≤ 100) (h1 : 0 < L1) (h2 : 0 < L2) (k1 : w.cell? ⟨b1, 0, none⟩ = some (.int .i64 (p : Int))) (k2 : w.cell? ⟨b2, 0, none⟩ = some (.int .i64 (q : Int))) :
  Calls Tryz.prog 178 #[.slice (some ⟨b1, 0, none⟩) L1 c1, .slice (some ⟨b2, 0, none⟩) L2 c2] w fun e w' => e = .returned (.int .i64 ((p : Int) - q)) ∧ Ext w w' := by
 obtain ⟨hp1, hp2⟩ := hp
 have l1 := World.block_lt_of_cell? w _ k1
 have l2 := World.block_lt_of_cell? w _ k2
 dsimp only at l1 l2
 go_enter Tryz.func178, Tryz.ntmps178
 go_upto_region 1 with fail
 refine wp_region_later (by kernel_rfl) (by kernel_rfl) ?_
 repeat (go_big_quiet_step (fail))
 refine wpQuiet_nil ?_
 rintro w6 ⟨⟨_, he6⟩, rfl⟩
 go_wp2
 go_ret
 exact ⟨rfl, he6⟩
/-- The i-th of a list. -/
def nthV (l : List (Nat × Value)) (i : Nat) : Nat × Value := l.getD i (0, undef)
theorem nthV_get (l : List (Nat × Value)) {i : Nat} (hi : i < l.length) : nthV l i = l[i] := by simp [nthV, hi]
def swapAt (S : List (Nat × Value)) (q : Nat) : List (Nat × Value) := S.take q ++ nthV S (q+1) :: nthV S q :: S.drop (q+2)
theorem swapAt_perm {S : List (Nat × Value)} {q : Nat} (h : q + 1 < S.length) : (swapAt S q).Perm S := by
 have e : S = S.take q ++ nthV S q :: nthV S (q+1) :: S.drop (q+2) := by
  conv => lhs; rw [← List.take_append_drop q S]
  rw [List.drop_eq_getElem_cons (show q < S.length by omega), List.drop_eq_getElem_cons h, nthV_get S (show q < S.length by omega), nthV_get S h]
 conv => rhs; rw [e]
 exact List.Perm.append_left _ (List.Perm.swap _ _ _)
theorem nthV_swapAt {S : List (Nat × Value)} {q : Nat} (h : q + 1 < S.length) (k : Nat) : nthV (swapAt S q) k = if k = q then nthV S (q+1) else if k = q + 1 then nthV S q else nthV S k := by
 have hl : (S.take q).length = q := by simp; omega
 unfold nthV swapAt
 simp only [List.getD_eq_getElem?_getD]
 rcases Nat.lt_or_ge k q with h1 | h1
 ·rw [List.getElem?_append_left (by omega), List.getElem?_take_of_lt h1, if_neg (by omega), if_neg (by omega)]
 ·rw [List.getElem?_append_right (by omega), hl]
  obtain ⟨d, rfl⟩ := Nat.le.dest h1
  rw [show q + d - q = d by omega]
  match d with
  | 0 => simp [nthV]
  | 1 => simp [nthV]
  | d + 2 =>
   rw [if_neg (by omega), if_neg (by omega)]
   simp only [List.getElem?_cons_succ, List.getElem?_drop]
   rw [show q + 2 + d = q + (d + 2) by omega]
def ky (p : Nat × Value) : Int := (hdS p.1 : Int)
/-- The first n are sorted. -/
def SortedTo (S : List (Nat × Value)) (n : Nat) : Prop := ∀ a b, a < b → b < n → ky (nthV S a) ≤ ky (nthV S b)
/-- The first i + 1 are sorted but for the one at j, which is less than those behind it. -/
def Moving (S : List (Nat × Value)) (i j : Nat) : Prop := (∀ a b, a < b → b ≤ i → a ≠ j → b ≠ j → ky (nthV S a) ≤ ky (nthV S b)) ∧ ∀ b, j < b → b ≤ i → ky (nthV S j) ≤ ky (nthV S b)
theorem Moving.first {S : List (Nat × Value)} {i : Nat} (h : SortedTo S i) : Moving S i i := ⟨fun a b h1 h2 _ h4 => h a b h1 (by omega), fun b h1 h2 => absurd h1 (by omega)⟩
theorem Moving.done {S : List (Nat × Value)} {i j : Nat} (h : Moving S i j) (hj : j = 0 ∨ ∃ q, j = q + 1 ∧ ky (nthV S q) ≤ ky (nthV S (q+1))) : SortedTo S (i+1) := by
 intro a b hab hb
 by_cases h1 : a = j
 ·subst h1; exact h.2 b hab (by omega)
 ·by_cases h2 : b = j
  ·subst h2
   rcases hj with rfl | ⟨q, rfl, hq⟩
   ·omega
   ·rcases Nat.lt_or_ge a q with h3 | h3
    ·exact Int.le_trans (h.1 a q h3 (by omega) h1 (by omega)) hq
    ·obtain rfl : a = q := by omega
     exact hq
  ·exact h.1 a b hab (by omega) h1 h2
theorem Moving.swap {S : List (Nat × Value)} {i q : Nat} (h : Moving S i (q+1)) (hl : q + 1 < S.length) (hq : ky (nthV S (q+1)) < ky (nthV S q)) : Moving (swapAt S q) i q := by
 constructor
 ·intro a b hab hb ha hb'
  rw [nthV_swapAt hl, nthV_swapAt hl, if_neg ha, if_neg hb']
  by_cases h1 : a = q + 1
  ·rw [if_pos h1, if_neg (by omega)]
   exact h.1 q b (by omega) hb (by omega) (by omega)
  ·rw [if_neg h1]
   by_cases h2 : b = q + 1
   ·rw [if_pos h2]
    exact h.1 a q (by omega) (by omega) (by omega) (by omega)
   ·rw [if_neg h2]
    exact h.1 a b hab hb h1 h2
 ·intro b hb hbi
  rw [nthV_swapAt hl, nthV_swapAt hl, if_pos rfl, if_neg (by omega)]
  by_cases h2 : b = q + 1
  ·rw [if_pos h2]; exact Int.le_of_lt hq
  ·rw [if_neg h2]; exact h.2 b (by omega) hbi
/-- As Ext, and a block keeps its type and its size. -/
def Es (w0 : World) (s : TypeId × Nat) (g : Nat) (w : World) : Prop := Ext w0 w ∧ ∃ C, Blk w g s.1 C ∧ C.size = s.2
theorem Es.trans {w0 w w' : World} {s : TypeId × Nat} {g : Nat} (h : Es w0 s g w) (e : Ext w w') : Es w0 s g w' :=
 ⟨h.1.trans e, h.2.imp fun _ hC => ⟨hC.1.ext e, hC.2⟩⟩
theorem Es.setCell {w0 w : World} {s : TypeId × Nat} {g i : Nat} (h : Es w0 s g w) (u : Value) (hB : w0.heap.size ≤ g) : Es w0 s g (w.setCell ⟨g, i, none⟩ u) :=
 ⟨h.1.setCell u hB, h.2.elim fun C hC => ⟨_, hC.1.set_ i u, by rw [Array.size_setIfInBounds]; exact hC.2⟩⟩
theorem Es.drew {w0 w : World} {s : TypeId × Nat} {g : Nat} (h : Es w0 s g w) : Es w0 s g w.drew := h.trans (Ext.refl _).drew
/-- The cells of a list's block. -/
def cV (S : List (Nat × Value)) (i : Nat) : Value := (nthV S i).2
theorem swap_all {w0 w W : World} {s : TypeId × Nat} {g N : Nat} {l S : List (Nat × Value)} {i q : Nat} {U V : Value} (h1 : S.Perm l) (h2 : Moving S i (q + 1)) (hq : q + 1 < S.length) (hk : ky (nthV S (q + 1)) < ky (nthV S q)) (a : ArrV W g l.length (cV S))
  (hK : KpM N (fun k => k = g) w W) (he : Es w0 s g W) (hB : w0.heap.size ≤ g) (hV : (nthV S q).2 = V) (hU : (nthV S (q + 1)).2 = U) :
  (swapAt S q).Perm l ∧ Moving (swapAt S q) i q ∧ ArrV ((W.setCell ⟨g, q + 1, none⟩ V).setCell ⟨g, q, none⟩ U) g l.length (cV (swapAt S q)) ∧
   KpM N (fun k => k = g) w ((W.setCell ⟨g, q + 1, none⟩ V).setCell ⟨g, q, none⟩ U) ∧ Es w0 s g ((W.setCell ⟨g, q + 1, none⟩ V).setCell ⟨g, q, none⟩ U) := by
 have hl := h1.length_eq
 have k1 : KpM N (fun k => k = g) W (W.setCell ⟨g, q + 1, none⟩ V) := KpM.setCell (p := ⟨g, q + 1, none⟩) W V (Or.inr (show g = g from rfl))
 have k2 : KpM N (fun k => k = g) (W.setCell ⟨g, q + 1, none⟩ V) ((W.setCell ⟨g, q + 1, none⟩ V).setCell ⟨g, q, none⟩ U) := KpM.setCell (p := ⟨g, q, none⟩) _ U (Or.inr (show g = g from rfl))
 have e1 : Es w0 s g (W.setCell ⟨g, q + 1, none⟩ V) := he.setCell V hB
 have e2 : Es w0 s g ((W.setCell ⟨g, q + 1, none⟩ V).setCell ⟨g, q, none⟩ U) := e1.setCell U hB
 refine ⟨(swapAt_perm hq).trans h1, h2.swap hq hk, ?_, (hK.trans k1).trans k2, e2⟩
 refine ArrV.congr ((a.set_ (q + 1) V (by omega)).set_ q U (by omega)) fun k hk => ?_
 unfold cV
 rw [nthV_swapAt hq]
 split
 ·exact hU.symm
 ·split
  ·exact hV.symm
  ·rfl
theorem insort211 {w0 w : World} {s : TypeId × Nat} {g cap : Nat} {l : List (Nat × Value)} (he0 : Es w0 s g w) (hB : w0.heap.size ≤ g) (ha : ArrV w g l.length (cV l)) (hn : l.length ≤ 100) (hcap : l.length ≤ cap) (hl : ∀ p, p ∈ l → hdS p.1 ≤ 100 ∧ HdV w g p) :
  Calls Tryz.prog 211 #[.slice (some ⟨g, 0, none⟩) l.length cap, .int .i64 0, .int .i64 (l.length : Int), .func (.func 178) #[] #[]] w fun e w' => e = .returned (.tuple #[]) ∧ Es w0 s g w' ∧ KpM w.heap.size (fun k => k = g) w w' ∧ ∃ l', l'.Perm l ∧ SortedTo l' l.length ∧ ArrV w' g l.length (cV l') := by
 have hcf := enters_ Tryz.func178 (by kernel_rfl) rfl
 have HA := hid ha
 have HM : Hid (∀ S : List (Nat × Value), S.Perm l → ∀ k, k < l.length → hdS (nthV S k).1 ≤ 100 ∧ HdV w g (nthV S k)) := hid fun S hS k hk => hl _ (hS.mem_iff.1 (by rw [nthV_get S (by rw [hS.length_eq]; exact hk)]; exact List.getElem_mem _))
 clear ha hl
 go_enter Tryz.func211, Tryz.ntmps211
 go_wp2
 go_loopw [8] (fun i wr => ∃ (k : Nat) (S : List (Nat × Value)), 1 ≤ k ∧ i = .int .i64 (k : Int) ∧ Hid (S.Perm l ∧ SortedTo S (min k l.length) ∧ ArrV wr g l.length (cV S) ∧ KpM w.heap.size (fun k => k = g) w wr) ∧ Es w0 s g wr) (fun i _ => l.length - (intOf i).toNat)
 case atStart => exact ⟨1, l, Nat.le_refl _, rfl, hid ⟨List.Perm.refl _, fun a b h1 h2 => absurd h2 (by omega), HA.out, KpM.refl _⟩, he0⟩
 case round =>
  obtain ⟨i, S, hi, rfl, HI, he⟩ := hrel
  by_cases hlt : i < l.length
  ·obtain ⟨wo, rfl⟩ : ∃ wo : World, wo = wr := ⟨_, rfl⟩
   go_wp2
   go_loopw [9] (fun jj wr => ∃ (j : Nat) (S : List (Nat × Value)), j ≤ i ∧ jj = .int .i64 (j : Int) ∧ Hid (S.Perm l ∧ Moving S i j ∧ ArrV wr g l.length (cV S) ∧ KpM w.heap.size (fun k => k = g) w wr) ∧ Es w0 s g wr) (fun jj _ => (intOf jj).toNat)
   case atStart => exact ⟨i, S, Nat.le_refl _, rfl, hid ⟨HI.out.1, Moving.first (by have := HI.out.2.1; rwa [Nat.min_eq_left (by omega)] at this), HI.out.2.2⟩, he⟩
   case round =>
    clear HI he
    obtain ⟨j, S, hj, rfl, HI, he⟩ := hrel
    rcases Nat.eq_zero_or_pos j with hz | hz
    ·subst hz
     have hd := HI.out.2.1.done (.inl rfl)
     have HD := hid hd
     clear hd
     go_upto_region 4 with fail
     refine wp_region_later (by kernel_rfl) (by kernel_rfl) ?_
     repeat (go_big_quiet_step (fail))
     refine wpQuiet_nil ?_
     rintro _ ⟨⟨w2, he2⟩, rfl⟩
     go_wp2
     go_roundw
     case rel => exact ⟨i + 1, S, by omega, by go_num, hid ⟨HI.out.1, by rw [Nat.min_eq_left (by omega)]; exact HD.out, HI.out.2.2.1.ext he2, HI.out.2.2.2.trans (KpM.ext he2 HI.out.2.2.2.1)⟩, he.trans he2⟩
     case measure => simp [intOf]; omega
    ·obtain ⟨q, rfl⟩ : ∃ q, j = q + 1 := ⟨j - 1, by omega⟩
     have hSl := HI.out.1.length_eq
     have hq0 : q < S.length := by omega
     have hq1 : q + 1 < S.length := by omega
     have a0 := HI.out.2.2.1.cell (i := q) (by omega)
     have b0 := HI.out.2.2.1.cell (i := q + 1) (by omega)
     have hb := HI.out.2.2.1.1
     obtain ⟨m1, hd0⟩ := HM.out S HI.out.1 q (by omega)
     obtain ⟨m3, hd1⟩ := HM.out S HI.out.1 (q+1) (by omega)
     have hd0 := hd0.kp HI.out.2.2.2 rfl
     have hd1 := hd1.kp HI.out.2.2.2 rfl
     obtain ⟨r0, L0, c0, v0, p0, -, l0, k0⟩ := hd0
     obtain ⟨r1, L1, c1, v1, p1, -, l1, k1⟩ := hd1
     unfold cV at a0 b0
     rw [v0] at a0
     rw [v1] at b0
     have V0 := hid v0
     have V1 := hid v1
     clear v0 v1
     have hky : Hid ((hdS (nthV S (q+1)).1 : Int) - hdS (nthV S q).1 = ky (nthV S (q+1)) - ky (nthV S q)) := hid (by unfold ky; omega)
     have hqi : ((q + 1 : Nat) : Int) < l.length := by omega
     have hqc : ((q + 1 : Nat) : Int) ≤ cap := by omega
     have hc1 := fun w' (e : Ext wr w') => cmp178 (w := w') (c1 := c1) (c2 := c0) ⟨m3, m1⟩ p1 p0 (e.some_ k1) (e.some_ k0)
     have HC1 := hid hc1
     clear hc1 k0 k1
     by_cases hlt2 : ky (nthV S (q+1)) < ky (nthV S q)
     ·have hd : decide ((hdS (nthV S (q+1)).1 : Int) - hdS (nthV S q).1 < 0) = true := by rw [hky.out]; simp; omega
      have HLT := hid hlt2
      clear hlt2
      go_upto_region 4 with fail
      refine wp_region_later (by kernel_rfl) (by kernel_rfl) ?_
      repeat (go_big_quiet_step ((go_at_call 178; exact Calls.later (HC1.out _ (Later.ext _)))))
      refine wpQuiet_nil ?_
      rintro _ ⟨⟨w2, he2⟩, rfl⟩
      have A2 := hid (HI.out.2.2.1.ext he2)
      have K2 := hid (HI.out.2.2.2.trans (KpM.ext he2 HI.out.2.2.2.1))
      have a0 := A2.out.cell (i := q) (by omega)
      have b0 := A2.out.cell (i := q + 1) (by omega)
      unfold cV at a0 b0
      rw [V0.out] at a0
      rw [V1.out] at b0
      have f0 := A2.out.frozen (i := q) (by omega)
      have g0 := A2.out.frozen (i := q + 1) (by omega)
      have hb := A2.out.1
      go_upto_region 6 with fail
      have HAll := hid (swap_all HI.out.1 HI.out.2.1 hq1 HLT.out A2.out K2.out (he.trans he2) hB V0.out V1.out)
      go_region
      all_goals
       go_wp2
       refine ⟨⟨q, swapAt S q, by omega, rfl, ?_⟩, by simp [intOf]; try omega⟩
       first
        | exact ⟨hid ⟨HAll.out.1, HAll.out.2.1, HAll.out.2.2.1, HAll.out.2.2.2.1⟩, HAll.out.2.2.2.2⟩
        | exact ⟨hid ⟨HAll.out.1, HAll.out.2.1, HAll.out.2.2.1.ext (Ext.refl _).drew, HAll.out.2.2.2.1.trans (KpM.ext (Ext.refl _).drew HAll.out.2.2.2.1.1)⟩, HAll.out.2.2.2.2.drew⟩
     ·have hd : decide ((hdS (nthV S (q+1)).1 : Int) - hdS (nthV S q).1 < 0) = false := by rw [hky.out]; simp; omega
      have HD := hid (HI.out.2.1.done (.inr ⟨q, rfl, Int.not_lt.1 hlt2⟩))
      clear hlt2
      go_upto_region 4 with fail
      refine wp_region_later (by kernel_rfl) (by kernel_rfl) ?_
      repeat (go_big_quiet_step ((go_at_call 178; exact Calls.later (HC1.out _ (Later.ext _)))))
      refine wpQuiet_nil ?_
      rintro _ ⟨⟨w2, he2⟩, rfl⟩
      go_wp2
      go_roundw
      case rel => exact ⟨i + 1, S, by omega, by go_num, hid ⟨HI.out.1, by rw [Nat.min_eq_left (by omega)]; exact HD.out, HI.out.2.2.1.ext he2, HI.out.2.2.2.trans (KpM.ext he2 HI.out.2.2.2.1)⟩, he.trans he2⟩
      case measure => simp [intOf]; omega
  ·go_wp2
   go_end0
   exact ⟨rfl, he, HI.out.2.2.2, S, HI.out.1, by have := HI.out.2.1; rwa [Nat.min_eq_right (by omega)] at this, HI.out.2.2.1⟩
theorem pdq194 {w0 w : World} {s : TypeId × Nat} {g cap : Nat} {l : List (Nat × Value)} (he0 : Es w0 s g w) (hB : w0.heap.size ≤ g) (ha : ArrV w g l.length (cV l)) (hn : l.length ≤ 12) (hcap : l.length ≤ cap) (hl : ∀ p, p ∈ l → hdS p.1 ≤ 100 ∧ HdV w g p) (z : Int) :
  Calls Tryz.prog 194 #[.slice (some ⟨g, 0, none⟩) l.length cap, .int .i64 0, .int .i64 (l.length : Int), .int .i64 z, .func (.func 178) #[] #[]] w fun e w' => e = .returned (.tuple #[]) ∧ Es w0 s g w' ∧ KpM w.heap.size (fun k => k = g) w w' ∧ ∃ l', l'.Perm l ∧ SortedTo l' l.length ∧ ArrV w' g l.length (cV l') := by
 have HA := hid ha
 clear ha
 go_enter Tryz.func194, Tryz.ntmps194
 go_wp2
 refine wp_loop_rounds 1 ?_
 rw [rounds_succ]
 go_wp2_with (go_at_call 211; refine (insort211 he0 hB HA.out (by omega) hcap hl).mono ?_; rintro e w1 ⟨rfl, he1, hk, hp⟩)
 exact bodyPost_ret (results_none rfl _ _ _) rfl ⟨rfl, he1, hk, hp⟩
theorem sort177 {w0 w : World} {s : TypeId × Nat} {g cap : Nat} {l : List (Nat × Value)} (he0 : Es w0 s g w) (hB : w0.heap.size ≤ g) (ha : ArrV w g l.length (cV l)) (hn : l.length ≤ 12) (hcap : l.length ≤ cap) (hl : ∀ p, p ∈ l → hdS p.1 ≤ 100 ∧ HdV w g p) :
  Calls Tryz.prog 177 #[.slice (some ⟨g, 0, none⟩) l.length cap, .func (.func 178) #[] #[]] w fun e w' => e = .returned (.tuple #[]) ∧ Es w0 s g w' ∧ KpM w.heap.size (fun k => k = g) w w' ∧ ∃ l', l'.Perm l ∧ SortedTo l' l.length ∧ ArrV w' g l.length (cV l') := by
 have HA := hid ha
 clear ha
 go_enter Tryz.func177, Tryz.ntmps177
 go_wp2_with (first
  | (go_at_call 187; refine (blen _ hn _).mono ?_; rintro e w' ⟨⟨z, rfl⟩, rfl⟩)
  | (go_at_call 194; refine (pdq194 he0 hB HA.out hn hcap hl _).mono ?_; rintro e w1 ⟨rfl, he1, hk, hp⟩))
 exact bodyPost_end (results_none rfl _ _ _) rfl ⟨rfl, he1, hk, hp⟩
theorem insort211_nil (w : World) : Calls Tryz.prog 211 #[.slice none 0 0, .int .i64 0, .int .i64 0, .func (.func 178) #[] #[]] w fun e w' => e = .returned (.tuple #[]) ∧ w = w' := by
 go_enter Tryz.func211, Tryz.ntmps211
 go_wp2
 refine wp_loop_rounds 1 ?_
 rw [rounds_succ]
 go_wp2
 exact bodyPost_end (results_none rfl _ _ _) rfl ⟨rfl, rfl⟩
theorem pdq194_nil (w : World) (z : Int) : Calls Tryz.prog 194 #[.slice none 0 0, .int .i64 0, .int .i64 0, .int .i64 z, .func (.func 178) #[] #[]] w fun e w' => e = .returned (.tuple #[]) ∧ w = w' := by
 go_enter Tryz.func194, Tryz.ntmps194
 go_wp2
 refine wp_loop_rounds 1 ?_
 rw [rounds_succ]
 go_wp2_with (go_at_call 211; refine (insort211_nil _).mono ?_; rintro e w1 ⟨rfl, rfl⟩)
 exact bodyPost_ret (results_none rfl _ _ _) rfl ⟨rfl, rfl⟩
theorem blen0 (w : World) : Calls Tryz.prog 187 #[.int .u64 0] w fun e w' => (∃ k : Int, e = .returned (.int .i64 k)) ∧ w = w' := blen 0 (by omega) w
theorem sort177_nil (w : World) : Calls Tryz.prog 177 #[.slice none 0 0, .func (.func 178) #[] #[]] w fun e w' => e = .returned (.tuple #[]) ∧ w = w' := by
 go_enter Tryz.func177, Tryz.ntmps177
 go_wp2_with (first
  | (go_at_call 187; refine (blen0 _).mono ?_; rintro e w' ⟨⟨z, rfl⟩, rfl⟩)
  | (go_at_call 194; refine (pdq194_nil _ _).mono ?_; rintro e w1 ⟨rfl, rfl⟩))
 exact bodyPost_end (results_none rfl _ _ _) rfl ⟨rfl, rfl⟩
end Go.Proofs.YtbceepjjdfpfmaaGreat
