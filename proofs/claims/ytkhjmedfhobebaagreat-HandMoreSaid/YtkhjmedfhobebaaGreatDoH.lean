/- Walks of SortFunc at a few stretches: insertion. -/
import Derived.Test.YtkhjmedfhobebaaGreatDoD
import Derived.RegionTactic
import Derived.ChangeAlike
namespace Go.Proofs.YtkhjmedfhobebaaGreat
open Go.RowKit HandSpec
set_option maxHeartbeats 800000
set_option maxRecDepth 100000
theorem len64 (n : Nat) (hn : n ≤ 12) (w : World) : Calls Tryz.prog 256 #[.int .u64 (n : Int)] w fun e w' => (∃ k : Int, e = .returned (.int .i64 k)) ∧ w = w' := by
 match n, hn with
 | 0, _ | 1, _ | 2, _ | 3, _ | 4, _ | 5, _ | 6, _ | 7, _ | 8, _ | 9, _ | 10, _ | 11, _ | 12, _ =>
  go_enter Tryz.func256, Tryz.ntmps256
  go_wp2
  go_ret
  exact ⟨⟨_, rfl⟩, rfl⟩
theorem blen (n : Nat) (hn : n ≤ 12) (w : World) : Calls Tryz.prog 230 #[.int .u64 (n : Int)] w fun e w' => (∃ k : Int, e = .returned (.int .i64 k)) ∧ w = w' := by
 go_enter Tryz.func230, Tryz.ntmps230
 go_wp2_with (go_at_call 256; refine (len64 _ (by omega) _).mono ?_; rintro e w' ⟨⟨k, rfl⟩, rfl⟩)
 go_ret
 exact ⟨⟨_, rfl⟩, rfl⟩
theorem cmp196 (p q a b : Nat) (h : p ≤ 100 ∧ q ≤ 100 ∧ a ≤ 100 ∧ b ≤ 100) (w : World) :
  Calls Tryz.prog 196 #[.agg #[.int .i64 (p : Int), .int .i64 (q : Int)], .agg #[.int .i64 (a : Int), .int .i64 (b : Int)]] w fun e w' => e = .returned (.int .i64 (((p : Int) - a) * 8 + q - b)) ∧ Ext w w' := by
 obtain ⟨h1, h2, h3, h4⟩ := h
 go_enter Tryz.func196, Tryz.ntmps196
 go_wp2
 go_ret
 exact ⟨rfl, ((Ext.refl _).alloc _).alloc _⟩
def swapAt (S : List (Nat × Nat)) (q : Nat) : List (Nat × Nat) := S.take q ++ nth S (q+1) :: nth S q :: S.drop (q+2)
theorem swapAt_perm {S : List (Nat × Nat)} {q : Nat} (h : q + 1 < S.length) : (swapAt S q).Perm S := by
 have e : S = S.take q ++ nth S q :: nth S (q+1) :: S.drop (q+2) := by
  conv => lhs; rw [← List.take_append_drop q S]
  rw [List.drop_eq_getElem_cons (show q < S.length by omega), List.drop_eq_getElem_cons h, nth_get S (show q < S.length by omega), nth_get S h]
 conv => rhs; rw [e]
 exact List.Perm.append_left _ (List.Perm.swap _ _ _)
theorem nth_swapAt {S : List (Nat × Nat)} {q : Nat} (h : q + 1 < S.length) (k : Nat) : nth (swapAt S q) k = if k = q then nth S (q+1) else if k = q + 1 then nth S q else nth S k := by
 have hl : (S.take q).length = q := by simp; omega
 unfold nth swapAt
 simp only [List.getD_eq_getElem?_getD]
 rcases Nat.lt_or_ge k q with h1 | h1
 ·rw [List.getElem?_append_left (by omega), List.getElem?_take_of_lt h1, if_neg (by omega), if_neg (by omega)]
 ·rw [List.getElem?_append_right (by omega), hl]
  obtain ⟨d, rfl⟩ := Nat.le.dest h1
  rw [show q + d - q = d by omega]
  match d with
  | 0 => simp [nth]
  | 1 => simp [nth]
  | d + 2 =>
   rw [if_neg (by omega), if_neg (by omega)]
   simp only [List.getElem?_cons_succ, List.getElem?_drop]
   rw [show q + 2 + d = q + (d + 2) by omega]
def ky (p : Nat × Nat) : Int := (p.1 : Int) * 8 + p.2
/-- The first n are sorted. -/
def SortedTo (S : List (Nat × Nat)) (n : Nat) : Prop := ∀ a b, a < b → b < n → ky (nth S a) ≤ ky (nth S b)
/-- The first i + 1 are sorted but for the one at j, which is less than those behind it. -/
def Moving (S : List (Nat × Nat)) (i j : Nat) : Prop := (∀ a b, a < b → b ≤ i → a ≠ j → b ≠ j → ky (nth S a) ≤ ky (nth S b)) ∧ ∀ b, j < b → b ≤ i → ky (nth S j) ≤ ky (nth S b)
theorem Moving.first {S : List (Nat × Nat)} {i : Nat} (h : SortedTo S i) : Moving S i i := ⟨fun a b h1 h2 _ h4 => h a b h1 (by omega), fun b h1 h2 => absurd h1 (by omega)⟩
theorem Moving.done {S : List (Nat × Nat)} {i j : Nat} (h : Moving S i j) (hj : j = 0 ∨ ∃ q, j = q + 1 ∧ ky (nth S q) ≤ ky (nth S (q+1))) : SortedTo S (i+1) := by
 intro a b hab hb
 by_cases h1 : a = j
 ·subst h1; exact h.2 b hab (by omega)
 ·by_cases h2 : b = j
  ·subst h2
   rcases hj with rfl | ⟨q, rfl, hq⟩
   ·omega
   ·rcases Nat.lt_or_ge a q with h3 | h3
    ·exact Int.le_trans (h.1 a q h3 (by omega) h1 (by omega)) hq
    ·obtain rfl : a = q := by omega
     exact hq
  ·exact h.1 a b hab (by omega) h1 h2
theorem Moving.swap {S : List (Nat × Nat)} {i q : Nat} (h : Moving S i (q+1)) (hl : q + 1 < S.length) (hq : ky (nth S (q+1)) < ky (nth S q)) : Moving (swapAt S q) i q := by
 constructor
 ·intro a b hab hb ha hb'
  rw [nth_swapAt hl, nth_swapAt hl, if_neg ha, if_neg hb']
  by_cases h1 : a = q + 1
  ·rw [if_pos h1, if_neg (by omega)]
   exact h.1 q b (by omega) hb (by omega) (by omega)
  ·rw [if_neg h1]
   by_cases h2 : b = q + 1
   ·rw [if_pos h2]
    exact h.1 a q (by omega) (by omega) (by omega) (by omega)
   ·rw [if_neg h2]
    exact h.1 a b hab hb h1 h2
 ·intro b hb hbi
  rw [nth_swapAt hl, nth_swapAt hl, if_pos rfl, if_neg (by omega)]
  by_cases h2 : b = q + 1
  ·rw [if_pos h2]; exact Int.le_of_lt hq
  ·rw [if_neg h2]; exact h.2 b (by omega) hbi
theorem c2_swap {S : List (Nat × Nat)} {q : Nat} (h : q + 1 < S.length) {i : Nat} (hi : i < S.length * 2) :
  upd (upd (upd (upd (c2 S) ((q+1) * 2) ((nth S q).1 : Int)) ((q+1) * 2 + 1) ((nth S q).2 : Int)) (q * 2) ((nth S (q+1)).1 : Int)) (q * 2 + 1) ((nth S (q+1)).2 : Int) i = c2 (swapAt S q) i := by
 have hl : (swapAt S q).length = S.length := (swapAt_perm h).length_eq
 have e : ∀ a, a < S.length → c2 (swapAt S q) (a * 2) = ((nth (swapAt S q) a).1 : Int) ∧ c2 (swapAt S q) (a * 2 + 1) = ((nth (swapAt S q) a).2 : Int) := fun a ha => ⟨c2_0 _ (by omega), c2_1 _ (by omega)⟩
 obtain ⟨a, rfl | rfl⟩ : ∃ a, i = a * 2 ∨ i = a * 2 + 1 := ⟨i / 2, by omega⟩
 ·rw [(e a (by omega)).1, nth_swapAt h]
  unfold upd
  rw [if_neg (by omega)]
  by_cases h1 : a = q
  ·rw [if_pos (by omega), if_pos h1]
  ·rw [if_neg (by omega), if_neg (by omega), if_neg h1]
   by_cases h2 : a = q + 1
   ·rw [if_pos (by omega), if_pos h2]
   ·rw [if_neg (by omega), if_neg h2, c2_0 _ (by omega)]
 ·rw [(e a (by omega)).2, nth_swapAt h]
  unfold upd
  by_cases h1 : a = q
  ·rw [if_pos (by omega), if_pos h1]
  ·rw [if_neg (by omega), if_neg (by omega), if_neg h1]
   by_cases h2 : a = q + 1
   ·rw [if_pos (by omega), if_pos h2]
   ·rw [if_neg (by omega), if_neg (by omega), if_neg h2, c2_1 _ (by omega)]
/-- As Ext, and a block keeps its type and its size. -/
def Es (w0 : World) (s : TypeId × Nat) (g : Nat) (w : World) : Prop := Ext w0 w ∧ ∃ C, Blk w g s.1 C ∧ C.size = s.2
theorem Es.trans {w0 w w' : World} {s : TypeId × Nat} {g : Nat} (h : Es w0 s g w) (e : Ext w w') : Es w0 s g w' :=
 ⟨h.1.trans e, h.2.imp fun _ hC => ⟨hC.1.ext e, hC.2⟩⟩
theorem Es.setCell {w0 w : World} {s : TypeId × Nat} {g i : Nat} (h : Es w0 s g w) (u : Value) (hB : w0.heap.size ≤ g) : Es w0 s g (w.setCell ⟨g, i, none⟩ u) :=
 ⟨h.1.setCell u hB, h.2.elim fun C hC => ⟨_, hC.1.set_ i u, by rw [Array.size_setIfInBounds]; exact hC.2⟩⟩
theorem Es.drew {w0 w : World} {s : TypeId × Nat} {g : Nat} (h : Es w0 s g w) : Es w0 s g w.drew := h.trans (Ext.refl _).drew
theorem insort260 {w0 w : World} {s : TypeId × Nat} {g cap : Nat} {l : List (Nat × Nat)} (he0 : Es w0 s g w) (hB : w0.heap.size ≤ g) (ha : Arr w g (l.length * 2) (c2 l)) (hn : l.length ≤ 100) (hcap : l.length ≤ cap) (hl : ∀ p, p ∈ l → p.1 ≤ 100 ∧ p.2 ≤ 100) :
  Calls Tryz.prog 260 #[.slice (some ⟨g, 0, none⟩) l.length cap, .int .i64 0, .int .i64 (l.length : Int), .func (.func 196) #[] #[]] w fun e w' => e = .returned (.tuple #[]) ∧ Es w0 s g w' ∧ ∃ l', l'.Perm l ∧ SortedTo l' l.length ∧ Arr w' g (l.length * 2) (c2 l') := by
 have hcf := enters_ Tryz.func196 (by kernel_rfl) rfl
 have HA := hid ha
 have HM : Hid (∀ S : List (Nat × Nat), S.Perm l → ∀ k, k < l.length → (nth S k).1 ≤ 100 ∧ (nth S k).2 ≤ 100) := hid fun S hS k hk => hl _ (hS.mem_iff.1 (by rw [nth_get S (by rw [hS.length_eq]; exact hk)]; exact List.getElem_mem _))
 clear ha hl
 go_enter Tryz.func260, Tryz.ntmps260
 go_wp2
 go_loopw [8] (fun i wr => ∃ (k : Nat) (S : List (Nat × Nat)), 1 ≤ k ∧ i = .int .i64 (k : Int) ∧ Hid (S.Perm l ∧ SortedTo S (min k l.length) ∧ Arr wr g (l.length * 2) (c2 S)) ∧ Es w0 s g wr) (fun i _ => l.length - (intOf i).toNat)
 case atStart => exact ⟨1, l, Nat.le_refl _, rfl, hid ⟨List.Perm.refl _, fun a b h1 h2 => absurd h2 (by omega), HA.out⟩, he0⟩
 case round =>
  obtain ⟨i, S, hi, rfl, HI, he⟩ := hrel
  by_cases hlt : i < l.length
  ·obtain ⟨wo, rfl⟩ : ∃ wo : World, wo = wr := ⟨_, rfl⟩
   go_wp2
   go_loopw [9] (fun jj wr => ∃ (j : Nat) (S : List (Nat × Nat)), j ≤ i ∧ jj = .int .i64 (j : Int) ∧ Hid (S.Perm l ∧ Moving S i j ∧ Arr wr g (l.length * 2) (c2 S)) ∧ Es w0 s g wr) (fun jj _ => (intOf jj).toNat)
   case atStart => exact ⟨i, S, Nat.le_refl _, rfl, hid ⟨HI.out.1, Moving.first (by have := HI.out.2.1; rwa [Nat.min_eq_left (by omega)] at this), HI.out.2.2⟩, he⟩
   case round =>
    clear HI he
    obtain ⟨j, S, hj, rfl, HI, he⟩ := hrel
    rcases Nat.eq_zero_or_pos j with hz | hz
    ·subst hz
     have hd := HI.out.2.1.done (.inl rfl)
     have HD := hid hd
     clear hd
     go_upto_region 4 with fail
     refine wp_region_later (by kernel_rfl) (by kernel_rfl) ?_
     repeat (go_big_quiet_step (fail))
     refine wpQuiet_nil ?_
     rintro _ ⟨⟨w2, he2⟩, rfl⟩
     go_wp2
     go_roundw
     case rel => exact ⟨i + 1, S, by omega, by go_num, hid ⟨HI.out.1, by rw [Nat.min_eq_left (by omega)]; exact HD.out, HI.out.2.2.ext he2⟩, he.trans he2⟩
     case measure => simp [intOf]; omega
    ·obtain ⟨q, rfl⟩ : ∃ q, j = q + 1 := ⟨j - 1, by omega⟩
     have hSl := HI.out.1.length_eq
     have hq0 : q < S.length := by omega
     have hq1 : q + 1 < S.length := by omega
     have a0 := HI.out.2.2.cell (i := q * 2) (by omega)
     have a1 := HI.out.2.2.cell (i := q * 2 + 1) (by omega)
     have b0 := HI.out.2.2.cell (i := (q + 1) * 2) (by omega)
     have b1 := HI.out.2.2.cell (i := (q + 1) * 2 + 1) (by omega)
     rw [c2_0 S hq0] at a0
     rw [c2_1 S hq0] at a1
     rw [c2_0 S hq1] at b0
     rw [c2_1 S hq1] at b1
     have hb := HI.out.2.2.1
     obtain ⟨m1, m2⟩ := HM.out S HI.out.1 q (by omega)
     obtain ⟨m3, m4⟩ := HM.out S HI.out.1 (q+1) (by omega)
     have hky : Hid ((((nth S (q+1)).1 : Int) - (nth S q).1) * 8 + (nth S (q+1)).2 - (nth S q).2 = ky (nth S (q+1)) - ky (nth S q)) := hid (by unfold ky; omega)
     have hqi : ((q + 1 : Nat) : Int) < l.length := by omega
     have hqc : ((q + 1 : Nat) : Int) ≤ cap := by omega
     by_cases hlt2 : ky (nth S (q+1)) < ky (nth S q)
     ·have hd : decide ((((nth S (q+1)).1 : Int) - (nth S q).1) * 8 + (nth S (q+1)).2 - (nth S q).2 < 0) = true := by rw [hky.out]; simp; omega
      have HLT := hid hlt2
      clear hlt2
      go_upto_region 4 with fail
      refine wp_region_later (by kernel_rfl) (by kernel_rfl) ?_
      repeat (go_big_quiet_step ((go_at_call 196; exact Calls.later (cmp196 _ _ _ _ ⟨m3, m4, m1, m2⟩ _))))
      refine wpQuiet_nil ?_
      rintro _ ⟨⟨w2, he2⟩, rfl⟩
      have A2 := hid (HI.out.2.2.ext he2)
      have a0 := A2.out.cell (i := q * 2) (by omega)
      have a1 := A2.out.cell (i := q * 2 + 1) (by omega)
      have b0 := A2.out.cell (i := (q + 1) * 2) (by omega)
      have b1 := A2.out.cell (i := (q + 1) * 2 + 1) (by omega)
      rw [c2_0 S hq0] at a0
      rw [c2_1 S hq0] at a1
      rw [c2_0 S hq1] at b0
      rw [c2_1 S hq1] at b1
      have f0 := A2.out.frozen (i := q * 2) (by omega)
      have f1 := A2.out.frozen (i := q * 2 + 1) (by omega)
      have g0 := A2.out.frozen (i := (q + 1) * 2) (by omega)
      have g1 := A2.out.frozen (i := (q + 1) * 2 + 1) (by omega)
      have hb := A2.out.1
      go_upto_region 6 with fail
      go_region
      all_goals
       go_wp2
       refine ⟨⟨q, swapAt S q, by omega, rfl, hid ⟨(swapAt_perm hq1).trans HI.out.1, HI.out.2.1.swap hq1 HLT.out, ?_⟩, ?_⟩, by simp [intOf]; try omega⟩
       ·refine Arr.congr ?_ (fun i hi => c2_swap hq1 (by omega))
        first
         | exact (((A2.out.set_ _ _ (by omega)).set_ _ _ (by omega)).set_ _ _ (by omega)).set_ _ _ (by omega)
         | exact ((((A2.out.set_ _ _ (by omega)).set_ _ _ (by omega)).set_ _ _ (by omega)).set_ _ _ (by omega)).ext (Ext.refl _).drew
       ·first
         | exact ((((he.trans he2).setCell _ hB).setCell _ hB).setCell _ hB).setCell _ hB
         | exact (((((he.trans he2).setCell _ hB).setCell _ hB).setCell _ hB).setCell _ hB).drew
     ·have hd : decide ((((nth S (q+1)).1 : Int) - (nth S q).1) * 8 + (nth S (q+1)).2 - (nth S q).2 < 0) = false := by rw [hky.out]; simp; omega
      have HD := hid (HI.out.2.1.done (.inr ⟨q, rfl, Int.not_lt.1 hlt2⟩))
      clear hlt2
      go_upto_region 4 with fail
      refine wp_region_later (by kernel_rfl) (by kernel_rfl) ?_
      repeat (go_big_quiet_step ((go_at_call 196; exact Calls.later (cmp196 _ _ _ _ ⟨m3, m4, m1, m2⟩ _))))
      refine wpQuiet_nil ?_
      rintro _ ⟨⟨w2, he2⟩, rfl⟩
      go_wp2
      go_roundw
      case rel => exact ⟨i + 1, S, by omega, by go_num, hid ⟨HI.out.1, by rw [Nat.min_eq_left (by omega)]; exact HD.out, HI.out.2.2.ext he2⟩, he.trans he2⟩
      case measure => simp [intOf]; omega
  ·go_wp2
   go_end0
   exact ⟨rfl, he, S, HI.out.1, by have := HI.out.2.1; rwa [Nat.min_eq_right (by omega)] at this, HI.out.2.2⟩
theorem pdq237 {w0 w : World} {s : TypeId × Nat} {g cap : Nat} {l : List (Nat × Nat)} (he0 : Es w0 s g w) (hB : w0.heap.size ≤ g) (ha : Arr w g (l.length * 2) (c2 l)) (hn : l.length ≤ 12) (hcap : l.length ≤ cap) (hl : ∀ p, p ∈ l → p.1 ≤ 100 ∧ p.2 ≤ 100) (z : Int) :
  Calls Tryz.prog 237 #[.slice (some ⟨g, 0, none⟩) l.length cap, .int .i64 0, .int .i64 (l.length : Int), .int .i64 z, .func (.func 196) #[] #[]] w fun e w' => e = .returned (.tuple #[]) ∧ Es w0 s g w' ∧ ∃ l', l'.Perm l ∧ SortedTo l' l.length ∧ Arr w' g (l.length * 2) (c2 l') := by
 have HA := hid ha
 clear ha
 go_enter Tryz.func237, Tryz.ntmps237
 go_wp2
 refine wp_loop_rounds 1 ?_
 rw [rounds_succ]
 go_wp2_with (go_at_call 260; refine (insort260 he0 hB HA.out (by omega) hcap hl).mono ?_; rintro e w1 ⟨rfl, he1, hp⟩)
 exact bodyPost_ret (results_none rfl _ _ _) rfl ⟨rfl, he1, hp⟩
theorem sort195 {w0 w : World} {s : TypeId × Nat} {g cap : Nat} {l : List (Nat × Nat)} (he0 : Es w0 s g w) (hB : w0.heap.size ≤ g) (ha : Arr w g (l.length * 2) (c2 l)) (hn : l.length ≤ 12) (hcap : l.length ≤ cap) (hl : ∀ p, p ∈ l → p.1 ≤ 100 ∧ p.2 ≤ 100) :
  Calls Tryz.prog 195 #[.slice (some ⟨g, 0, none⟩) l.length cap, .func (.func 196) #[] #[]] w fun e w' => e = .returned (.tuple #[]) ∧ Es w0 s g w' ∧ ∃ l', l'.Perm l ∧ SortedTo l' l.length ∧ Arr w' g (l.length * 2) (c2 l') := by
 have HA := hid ha
 clear ha
 go_enter Tryz.func195, Tryz.ntmps195
 go_wp2_with (first
  | (go_at_call 230; refine (blen _ hn _).mono ?_; rintro e w' ⟨⟨z, rfl⟩, rfl⟩)
  | (go_at_call 237; refine (pdq237 he0 hB HA.out hn hcap hl _).mono ?_; rintro e w1 ⟨rfl, he1, hp⟩))
 exact bodyPost_end (results_none rfl _ _ _) rfl ⟨rfl, he1, hp⟩
end Go.Proofs.YtkhjmedfhobebaaGreat
