/- Walks of the library at a few numbers: Sort by insertion, Compact, Values, Collect; what is wrong with a list of hands. -/
import Derived.Test.YtkhjmedfhobebaaGreatDoH
import Derived.Test.YtkhjmedfhobebaaGreatGenB
import Derived.Test.YtkhjmedfhobebaaGreatLawD
namespace Go.Proofs.YtkhjmedfhobebaaGreat
open Go.RowKit HandSpec
set_option maxHeartbeats 800000
set_option maxRecDepth 100000
/-- Number k of a list. -/
def ni (l : List Int) (k : Nat) : Int := l.getD k 0
theorem ni_get (l : List Int) {k : Nat} (h : k < l.length) : ni l k = l[k] := by
 unfold ni
 rw [List.getD_eq_getElem?_getD, List.getElem?_eq_getElem h]
 rfl
theorem nan235 (a : Int) (w : World) : Calls Tryz.prog 235 #[.int .i64 a] w fun e w' => e = .returned (.bool false) ∧ w = w' := by
 go_enter Tryz.func235, Tryz.ntmps235
 go_wp2
 go_ret
 exact ⟨ret_bool (by simp), rfl⟩
theorem less252 (a b : Int) (w : World) : Calls Tryz.prog 252 #[.int .i64 a, .int .i64 b] w fun e w' => e = .returned (.bool (decide (a < b))) ∧ Ext w w' := by
 go_enter Tryz.func252, Tryz.ntmps252
 go_wp2_with (go_at_call 235; refine (nan235 _ _).mono ?_; rintro e w' ⟨rfl, rfl⟩)
 go_ret
 exact ⟨rfl, Ext.refl _⟩
def swapI (S : List Int) (q : Nat) : List Int := S.take q ++ ni S (q+1) :: ni S q :: S.drop (q+2)
theorem swapI_perm {S : List Int} {q : Nat} (h : q + 1 < S.length) : (swapI S q).Perm S := by
 have e : S = S.take q ++ ni S q :: ni S (q+1) :: S.drop (q+2) := by
  conv => lhs; rw [← List.take_append_drop q S]
  rw [List.drop_eq_getElem_cons (show q < S.length by omega), List.drop_eq_getElem_cons h, ni_get S (show q < S.length by omega), ni_get S h]
 conv => rhs; rw [e]
 exact List.Perm.append_left _ (List.Perm.swap _ _ _)
theorem ni_swapI {S : List Int} {q : Nat} (h : q + 1 < S.length) (k : Nat) : ni (swapI S q) k = if k = q then ni S (q+1) else if k = q + 1 then ni S q else ni S k := by
 have hl : (S.take q).length = q := by simp; omega
 unfold ni swapI
 simp only [List.getD_eq_getElem?_getD]
 rcases Nat.lt_or_ge k q with h1 | h1
 ·rw [List.getElem?_append_left (by omega), List.getElem?_take_of_lt h1, if_neg (by omega), if_neg (by omega)]
 ·rw [List.getElem?_append_right (by omega), hl]
  obtain ⟨d, rfl⟩ := Nat.le.dest h1
  rw [show q + d - q = d by omega]
  match d with
  | 0 => simp [ni]
  | 1 => simp [ni]
  | d + 2 =>
   rw [if_neg (by omega), if_neg (by omega)]
   simp only [List.getElem?_cons_succ, List.getElem?_drop]
   rw [show q + 2 + d = q + (d + 2) by omega]
/-- The first n are sorted. -/
def SortedI (S : List Int) (n : Nat) : Prop := ∀ a b, a < b → b < n → ni S a ≤ ni S b
/-- The first i + 1 are sorted but for the one at j, which is less than those behind it. -/
def MovingI (S : List Int) (i j : Nat) : Prop := (∀ a b, a < b → b ≤ i → a ≠ j → b ≠ j → ni S a ≤ ni S b) ∧ ∀ b, j < b → b ≤ i → ni S j ≤ ni S b
theorem MovingI.first {S : List Int} {i : Nat} (h : SortedI S i) : MovingI S i i := ⟨fun a b h1 h2 _ h4 => h a b h1 (by omega), fun b h1 h2 => absurd h1 (by omega)⟩
theorem MovingI.done {S : List Int} {i j : Nat} (h : MovingI S i j) (hj : j = 0 ∨ ∃ q, j = q + 1 ∧ ni S q ≤ ni S (q+1)) : SortedI S (i+1) := by
 intro a b hab hb
 by_cases h1 : a = j
 ·subst h1; exact h.2 b hab (by omega)
 ·by_cases h2 : b = j
  ·subst h2
   rcases hj with rfl | ⟨q, rfl, hq⟩
   ·omega
   ·rcases Nat.lt_or_ge a q with h3 | h3
    ·exact Int.le_trans (h.1 a q h3 (by omega) h1 (by omega)) hq
    ·obtain rfl : a = q := by omega
     exact hq
  ·exact h.1 a b hab (by omega) h1 h2
theorem MovingI.swap {S : List Int} {i q : Nat} (h : MovingI S i (q+1)) (hl : q + 1 < S.length) (hq : ni S (q+1) < ni S q) : MovingI (swapI S q) i q := by
 constructor
 ·intro a b hab hb ha hb'
  rw [ni_swapI hl, ni_swapI hl, if_neg ha, if_neg hb']
  by_cases h1 : a = q + 1
  ·rw [if_pos h1, if_neg (by omega)]
   exact h.1 q b (by omega) hb (by omega) (by omega)
  ·rw [if_neg h1]
   by_cases h2 : b = q + 1
   ·rw [if_pos h2]
    exact h.1 a q (by omega) (by omega) (by omega) (by omega)
   ·rw [if_neg h2]
    exact h.1 a b hab hb h1 h2
 ·intro b hb hbi
  rw [ni_swapI hl, ni_swapI hl, if_pos rfl, if_neg (by omega)]
  by_cases h2 : b = q + 1
  ·rw [if_pos h2]; exact Int.le_of_lt hq
  ·rw [if_neg h2]; exact h.2 b (by omega) hbi
theorem ni_swap {S : List Int} {q : Nat} (h : q + 1 < S.length) {i : Nat} : upd (upd (ni S) (q+1) (ni S q)) q (ni S (q+1)) i = ni (swapI S q) i := by
 rw [ni_swapI h]
 rfl
theorem insort246 {w0 w : World} {g cap : Nat} {l : List Int} (he0 : Ext w0 w) (hB : w0.heap.size ≤ g) (ha : Arr w g l.length (ni l)) (hn : l.length ≤ 100) (hcap : l.length ≤ cap) :
  Calls Tryz.prog 246 #[.slice (some ⟨g, 0, none⟩) l.length cap, .int .i64 0, .int .i64 (l.length : Int)] w fun e w' => e = .returned (.tuple #[]) ∧ Ext w0 w' ∧ ∃ l', l'.Perm l ∧ SortedI l' l.length ∧ Arr w' g l.length (ni l') := by
 have HA := hid ha
 clear ha
 go_enter Tryz.func246, Tryz.ntmps246
 go_wp2
 go_loopw [6] (fun i wr => ∃ (k : Nat) (S : List Int), 1 ≤ k ∧ i = .int .i64 (k : Int) ∧ Hid (S.Perm l ∧ SortedI S (min k l.length) ∧ Arr wr g l.length (ni S)) ∧ Ext w0 wr) (fun i _ => l.length - (intOf i).toNat)
 case atStart => exact ⟨1, l, Nat.le_refl _, rfl, hid ⟨List.Perm.refl _, fun a b h1 h2 => absurd h2 (by omega), HA.out⟩, he0⟩
 case round =>
  obtain ⟨i, S, hi, rfl, HI, he⟩ := hrel
  by_cases hlt : i < l.length
  ·obtain ⟨wo, rfl⟩ : ∃ wo : World, wo = wr := ⟨_, rfl⟩
   go_wp2
   go_loopw [7] (fun jj wr => ∃ (j : Nat) (S : List Int), j ≤ i ∧ jj = .int .i64 (j : Int) ∧ Hid (S.Perm l ∧ MovingI S i j ∧ Arr wr g l.length (ni S)) ∧ Ext w0 wr) (fun jj _ => (intOf jj).toNat)
   case atStart => exact ⟨i, S, Nat.le_refl _, rfl, hid ⟨HI.out.1, MovingI.first (by have := HI.out.2.1; rwa [Nat.min_eq_left (by omega)] at this), HI.out.2.2⟩, he⟩
   case round =>
    clear HI he
    obtain ⟨j, S, hj, rfl, HI, he⟩ := hrel
    rcases Nat.eq_zero_or_pos j with hz | hz
    ·subst hz
     have hd := HI.out.2.1.done (.inl rfl)
     have HD := hid hd
     clear hd
     go_upto_region 4 with fail
     refine wp_region_later (by kernel_rfl) (by kernel_rfl) ?_
     repeat (go_big_quiet_step (fail))
     refine wpQuiet_nil ?_
     rintro _ ⟨⟨w2, he2⟩, rfl⟩
     go_wp2
     go_roundw
     case rel => exact ⟨i + 1, S, by omega, by go_num, hid ⟨HI.out.1, by rw [Nat.min_eq_left (by omega)]; exact HD.out, HI.out.2.2.ext he2⟩, he.trans he2⟩
     case measure => simp [intOf]; omega
    ·obtain ⟨q, rfl⟩ : ∃ q, j = q + 1 := ⟨j - 1, by omega⟩
     have hSl := HI.out.1.length_eq
     have hq0 : q < S.length := by omega
     have hq1 : q + 1 < S.length := by omega
     have a0 := HI.out.2.2.cell (i := q) (by omega)
     have b0 := HI.out.2.2.cell (i := q + 1) (by omega)
     have hb := HI.out.2.2.1
     have hqi : ((q + 1 : Nat) : Int) < l.length := by omega
     have hqc : ((q + 1 : Nat) : Int) ≤ cap := by omega
     by_cases hlt2 : ni S (q+1) < ni S q
     ·have hd : decide (ni S (q+1) < ni S q) = true := by simpa using hlt2
      have HLT := hid hlt2
      clear hlt2
      go_upto_region 4 with fail
      refine wp_region_later (by kernel_rfl) (by kernel_rfl) ?_
      repeat (go_big_quiet_step ((go_at_call 252; exact Calls.later (less252 _ _ _))))
      refine wpQuiet_nil ?_
      rintro _ ⟨⟨w2, he2⟩, rfl⟩
      have A2 := hid (HI.out.2.2.ext he2)
      have a0 := A2.out.cell (i := q) (by omega)
      have b0 := A2.out.cell (i := q + 1) (by omega)
      have f0 := A2.out.frozen (i := q) (by omega)
      have g0 := A2.out.frozen (i := q + 1) (by omega)
      have hb := A2.out.1
      go_upto_region 6 with fail
      go_region
      all_goals
       go_wp2
       refine ⟨⟨q, swapI S q, by omega, rfl, hid ⟨(swapI_perm hq1).trans HI.out.1, HI.out.2.1.swap hq1 HLT.out, ?_⟩, ?_⟩, by simp [intOf]; try omega⟩
       ·refine Arr.congr ?_ (fun i _ => ni_swap hq1)
        first
         | exact (A2.out.set_ _ _ (by omega)).set_ _ _ (by omega)
         | exact ((A2.out.set_ _ _ (by omega)).set_ _ _ (by omega)).ext (Ext.refl _).drew
       ·first
         | exact ((he.trans he2).setCell _ hB).setCell _ hB
         | exact (((he.trans he2).setCell _ hB).setCell _ hB).drew
     ·have hd : decide (ni S (q+1) < ni S q) = false := by simpa using hlt2
      have HD := hid (HI.out.2.1.done (.inr ⟨q, rfl, Int.not_lt.1 hlt2⟩))
      clear hlt2
      go_upto_region 4 with fail
      refine wp_region_later (by kernel_rfl) (by kernel_rfl) ?_
      repeat (go_big_quiet_step ((go_at_call 252; exact Calls.later (less252 _ _ _))))
      refine wpQuiet_nil ?_
      rintro _ ⟨⟨w2, he2⟩, rfl⟩
      go_wp2
      go_roundw
      case rel => exact ⟨i + 1, S, by omega, by go_num, hid ⟨HI.out.1, by rw [Nat.min_eq_left (by omega)]; exact HD.out, HI.out.2.2.ext he2⟩, he.trans he2⟩
      case measure => simp [intOf]; omega
  ·go_wp2
   go_end0
   exact ⟨rfl, he, S, HI.out.1, by have := HI.out.2.1; rwa [Nat.min_eq_right (by omega)] at this, HI.out.2.2⟩
theorem insort246_nil (w : World) : Calls Tryz.prog 246 #[.slice none 0 0, .int .i64 0, .int .i64 0] w fun e w' => e = .returned (.tuple #[]) ∧ w = w' := by
 go_enter Tryz.func246, Tryz.ntmps246
 go_wp2
 refine wp_loop_rounds 1 ?_
 rw [rounds_succ]
 go_wp2
 exact bodyPost_end (results_none rfl _ _ _) rfl ⟨rfl, rfl⟩
theorem pdq229 {w0 w : World} {g cap : Nat} {l : List Int} (he0 : Ext w0 w) (hB : w0.heap.size ≤ g) (ha : Arr w g l.length (ni l)) (hn : l.length ≤ 12) (hcap : l.length ≤ cap) (z : Int) :
  Calls Tryz.prog 229 #[.slice (some ⟨g, 0, none⟩) l.length cap, .int .i64 0, .int .i64 (l.length : Int), .int .i64 z] w fun e w' => e = .returned (.tuple #[]) ∧ Ext w0 w' ∧ ∃ l', l'.Perm l ∧ SortedI l' l.length ∧ Arr w' g l.length (ni l') := by
 have HA := hid ha
 clear ha
 go_enter Tryz.func229, Tryz.ntmps229
 go_wp2
 refine wp_loop_rounds 1 ?_
 rw [rounds_succ]
 go_wp2_with (go_at_call 246; refine (insort246 he0 hB HA.out (by omega) hcap).mono ?_; rintro e w1 ⟨rfl, he1, hp⟩)
 exact bodyPost_ret (results_none rfl _ _ _) rfl ⟨rfl, he1, hp⟩
theorem pdq229_nil (w : World) (z : Int) : Calls Tryz.prog 229 #[.slice none 0 0, .int .i64 0, .int .i64 0, .int .i64 z] w fun e w' => e = .returned (.tuple #[]) ∧ w = w' := by
 go_enter Tryz.func229, Tryz.ntmps229
 go_wp2
 refine wp_loop_rounds 1 ?_
 rw [rounds_succ]
 go_wp2_with (go_at_call 246; refine (insort246_nil _).mono ?_; rintro e w1 ⟨rfl, rfl⟩)
 exact bodyPost_ret (results_none rfl _ _ _) rfl ⟨rfl, rfl⟩
theorem blenN (w : World) : Calls Tryz.prog 230 #[.int .u64 0] w fun e w' => (∃ k : Int, e = .returned (.int .i64 k)) ∧ w = w' := blen 0 (by omega) w
theorem sort181 {w0 w : World} {g cap : Nat} {l : List Int} (he0 : Ext w0 w) (hB : w0.heap.size ≤ g) (ha : Arr w g l.length (ni l)) (hn : l.length ≤ 12) (hcap : l.length ≤ cap) :
  Calls Tryz.prog 181 #[.slice (some ⟨g, 0, none⟩) l.length cap] w fun e w' => e = .returned (.tuple #[]) ∧ Ext w0 w' ∧ ∃ l', l'.Perm l ∧ SortedI l' l.length ∧ Arr w' g l.length (ni l') := by
 have HA := hid ha
 clear ha
 go_enter Tryz.func181, Tryz.ntmps181
 go_wp2_with (first
  | (go_at_call 230; refine (blen _ hn _).mono ?_; rintro e w' ⟨⟨z, rfl⟩, rfl⟩)
  | (go_at_call 229; refine (pdq229 he0 hB HA.out hn hcap _).mono ?_; rintro e w1 ⟨rfl, he1, hp⟩))
 exact bodyPost_end (results_none rfl _ _ _) rfl ⟨rfl, he1, hp⟩
theorem sort181_nil (w : World) : Calls Tryz.prog 181 #[.slice none 0 0] w fun e w' => e = .returned (.tuple #[]) ∧ w = w' := by
 go_enter Tryz.func181, Tryz.ntmps181
 go_wp2_with (first
  | (go_at_call 230; refine (blenN _).mono ?_; rintro e w' ⟨⟨z, rfl⟩, rfl⟩)
  | (go_at_call 229; refine (pdq229_nil _ _).mono ?_; rintro e w1 ⟨rfl, rfl⟩))
 exact bodyPost_end (results_none rfl _ _ _) rfl ⟨rfl, rfl⟩
/-- Own numbers in a block, or nil. -/
def MyI (w : World) (B : Nat) (v : Value) (l : List Int) : Prop :=
 (v = .slice none 0 0 ∧ l = []) ∨ ∃ g cap, v = .slice (some ⟨g, 0, none⟩) l.length cap ∧ B ≤ g ∧ l.length ≤ cap ∧ Arr w g l.length (ni l)
def rowsI (l : List Int) : List (List Int) := l.map fun i => [i]
theorem rowsI_length (l : List Int) : (rowsI l).length = l.length := by simp [rowsI]
theorem rowsI_at (l : List Int) (k : Nat) : rowsAt (rowsI l) k 0 = ni l k := by
 unfold rowsAt rowsI ni
 simp only [List.getD_eq_getElem?_getD, List.getElem?_map]
 cases l[k]? <;> simp
theorem MyI.of_own {w : World} {B : Nat} {e : TypeId} {v : Value} {l : List Int} (h : OwnR w B e 1 v (rowsI l)) : MyI w B v l := by
 rcases OwnR.arr h with ⟨h1, h2⟩ | ⟨g, cap, h1, h2, h3, h4⟩
 ·exact .inl ⟨h1, by cases l with | nil => rfl | cons a l => simp [rowsI] at h2⟩
 ·rw [rowsI_length] at h1 h3 h4
  rw [Nat.mul_one] at h4
  exact .inr ⟨g, cap, h1, h2, h3, h4.congr fun i _ => by rw [Nat.div_one, Nat.mod_one, rowsI_at]⟩
theorem sort_ints {w0 w : World} {B : Nat} {v : Value} {l : List Int} (h : MyI w B v l) (he0 : Ext w0 w) (hB : w0.heap.size ≤ B) (hn : l.length ≤ 12) :
  Calls Tryz.prog 181 #[v] w fun e w' => e = .returned (.tuple #[]) ∧ Ext w0 w' ∧ ∃ l', l'.Perm l ∧ SortedI l' l'.length ∧ MyI w' B v l' := by
 rcases h with ⟨rfl, rfl⟩ | ⟨g, cap, rfl, hBg, hcap, ha⟩
 ·refine (sort181_nil w).mono ?_
  rintro e w' ⟨rfl, rfl⟩
  exact ⟨rfl, he0, [], List.Perm.refl _, fun a b _ h => by simp at h, .inl ⟨rfl, rfl⟩⟩
 ·refine (sort181 he0 (by omega) ha hn hcap).mono ?_
  rintro e w' ⟨rfl, he, l', hp, hs, ha'⟩
  have hl := hp.length_eq
  exact ⟨rfl, he, l', hp, by rw [hl]; exact hs, .inr ⟨g, cap, by rw [hl], hBg, by rw [hl]; exact hcap, by rw [hl]; exact ha'⟩⟩
/-- Two neighbours are the same. -/
def smN (h : Nat → Int) (k : Nat) : Bool := h (k+1) == h k
theorem compact232 {w0 w : World} {g n cap : Nat} {h : Nat → Int} (he0 : Ext w0 w) (hB : w0.heap.size ≤ g) (ha : Arr w g n h) (hn : n ≤ 1000) (hcap : n ≤ cap) :
  Calls Tryz.prog 232 #[.slice (some ⟨g, 0, none⟩) n cap] w (fun e w' => ∃ m cap', e = .returned (.slice (some ⟨g, 0, none⟩) m cap') ∧ decide (m < n) = anyTo (smN h) (n - 1) ∧ m ≤ n ∧ Ext w0 w') := by
 have HA := hid ha; clear ha
 by_cases h2 : n < 2
 ·go_enter Tryz.func232, Tryz.ntmps232
  go_wp2
  go_ret
  refine ⟨_, _, rfl, ?_, Nat.le_refl _, he0⟩
  rcases (show n = 0 ∨ n = 1 by omega) with rfl | rfl <;> simp [anyTo]
 ·obtain ⟨m, rfl⟩ : ∃ m, n = m + 1 := ⟨n - 1, by omega⟩
  go_enter Tryz.func232, Tryz.ntmps232
  go_wp2
  go_loopw [3] (fun i wr => ∃ k : Nat, k ≤ m ∧ i = .int .i64 (k + 1 : Nat) ∧ Hid (∀ j, j < k → smN h j = false) ∧ Ext w wr) (fun i _ => m + 1 - (intOf i).toNat)
  case atStart => exact ⟨0, by omega, rfl, fun _ h => absurd h (by omega), Ext.refl _⟩
  case round =>
   obtain ⟨k, hk, rfl, hp, he⟩ := hrel
   by_cases hlt : k < m
   ·have a0 := (HA.out.ext he).cell (i := k+1) (by omega)
    have b0 := (HA.out.ext he).cell (i := k) (by omega)
    have hb := (HA.out.ext he).1
    go_upto_region 6 with fail
    refine wp_region_later (by kernel_rfl) (by kernel_rfl) ?_
    repeat (go_big_quiet_step (fail))
    refine wpQuiet_nil ?_
    rintro _ ⟨⟨w2, he2⟩, rfl⟩
    cases hq : smN h k
    ·have hq' : (h (k+1) == h k) = false := hq
     have HQ := hid hq; clear hq
     go_wp2
     go_roundw
     case rel => exact ⟨k+1, by omega, by go_num, anyTo_step hp.out HQ.out, he.trans he2⟩
     case measure => simp [intOf]; omega
    ·have hq' : (h (k+1) == h k) = true := hq
     have HQ := hid hq; clear hq
     have A2 := hid ((HA.out.ext he).ext he2)
     clear a0 b0
     have E2 := he0.trans (he.trans he2)
     go_wp2
     go_loopw [3, 5] (fun i j wr => ∃ p q : Nat, q + 1 ≤ m - k ∧ k + 1 ≤ p ∧ p ≤ k + 1 + q ∧ i = .int .i64 p ∧ j = .int .i64 (q + 1 : Nat) ∧ (∃ h', Hid (Arr wr g (m + 1) h')) ∧ Ext w0 wr) (fun _ j _ => m + 1 - (intOf j).toNat)
     case atStart => exact ⟨k + 1, 0, by omega, by omega, by omega, rfl, rfl, ⟨_, A2⟩, E2⟩
     case round =>
      clear he2 E2 A2
      obtain ⟨p, q, r1, r2, r3, rfl, rfl, ⟨h', A2⟩, E2⟩ := hrel
      by_cases hlt' : q + 1 < m - k
      ·have a0 := A2.out.cell (i := k+1+(q+1)) (by omega)
       have b0 := A2.out.cell (i := k+1+q) (by omega)
       have hb := A2.out.1
       go_upto_region 11 with fail
       refine wp_region_later (by kernel_rfl) (by kernel_rfl) ?_
       repeat (go_big_quiet_step (fail))
       refine wpQuiet_nil ?_
       rintro _ ⟨⟨w2, he2⟩, rfl⟩
       have A3 := hid (A2.out.ext he2)
       have E3 := E2.trans he2
       clear a0 b0 A2 E2
       cases hq2 : (h' (k+1+(q+1)) == h' (k+1+q))
       ·have hq3 : (h' (k+1+(q+1)) != h' (k+1+q)) = true := by simp [bne, hq2]
        have a0 := A3.out.cell (i := k+1+(q+1)) (by omega)
        have b0 := A3.out.cell (i := p) (by omega)
        have f0 := A3.out.frozen (i := p) (by omega)
        have hb := A3.out.1
        go_wp2
        go_roundw
        case rel => exact ⟨p + 1, q + 1, by omega, by omega, by omega, by go_num, by go_num, ⟨_, hid (A3.out.set_ _ _ (by omega))⟩, E3.setCell _ hB⟩
        case measure => simp [intOf]; omega
       ·have hq3 : (h' (k+1+(q+1)) != h' (k+1+q)) = false := by simp [bne, hq2]
        go_wp2
        go_roundw
        case rel => exact ⟨p, q + 1, by omega, by omega, by omega, rfl, by go_num, ⟨_, A3⟩, E3⟩
        case measure => simp [intOf]; omega
      ·go_wp2_with ((with_reducible refine wpList_here ⟨none, .call { callee := .builtin .clear, args := #[_], argTypes := #[56] }, _, _, _, _⟩ ?_); refine wpList_clear_arr rfl _ 56 rfl el56 (z := .int .i64 0) (fun _ => by kernel_rfl) rfl (g := g) (s := p) (n := m + 1 - p) (cap := cap - p) rfl A2.out (by omega) ?_; intro w3 A3 E3)
       go_ret
       refine ⟨_, _, rfl, ?_, by omega, E3 _ E2 hB⟩
       rw [show m + 1 - 1 = m from rfl, anyTo_true.2 ⟨k, hlt, HQ.out⟩]; simp; omega
   ·go_wp2
    go_ret
    obtain rfl : k = m := by omega
    refine ⟨_, _, rfl, ?_, Nat.le_refl _, he0.trans he⟩
    rw [show k + 1 - 1 = k from rfl, anyTo_false.2 hp.out]; simp
theorem compact232_nil (w : World) : Calls Tryz.prog 232 #[.slice none 0 0] w fun e w' => e = .returned (.slice none 0 0) ∧ w = w' := by
 go_enter Tryz.func232, Tryz.ntmps232
 go_wp2
 go_ret
 exact ⟨rfl, rfl⟩
/-- Compact at own numbers: how long the result is. -/
theorem compact_ints {w0 w : World} {B : Nat} {v : Value} {l : List Int} (h : MyI w B v l) (he0 : Ext w0 w) (hB : w0.heap.size ≤ B) (hn : l.length ≤ 1000) :
  Calls Tryz.prog 232 #[v] w fun e w' => ∃ A m cap', e = .returned (.slice A m cap') ∧ Ext w0 w' ∧ decide (m < l.length) = anyTo (smN (ni l)) (l.length - 1) ∧ m ≤ l.length := by
 rcases h with ⟨rfl, rfl⟩ | ⟨g, cap, rfl, hBg, hcap, ha⟩
 ·refine (compact232_nil w).mono ?_
  rintro e w' ⟨rfl, rfl⟩
  exact ⟨none, 0, 0, rfl, he0, by simp [anyTo], by simp⟩
 ·refine (compact232 he0 (by omega) ha hn hcap).mono ?_
  rintro e w' ⟨m, c, rfl, h1, h2, h3⟩
  exact ⟨_, m, c, rfl, h3, h1, h2⟩
end Go.Proofs.YtkhjmedfhobebaaGreat
namespace Go.Proofs.YtkhjmedfhobebaaGreat
open Go.RowKit HandSpec
attribute [local go_sem] Oper.semAt_some
set_option maxHeartbeats 2000000
set_option maxRecDepth 100000
/-- The numbers of a slice. -/
def ints (g : Nat → Nat → Int) (n : Nat) : List Int := (List.range n).map fun k => g k 0
theorem ints_length (g : Nat → Nat → Int) (n : Nat) : (ints g n).length = n := by simp [ints]
theorem ints_succ (g : Nat → Nat → Int) (n : Nat) : ints g (n+1) = ints g n ++ [g n 0] := by simp [ints, List.range_succ]
theorem rowsI_append (a b : List Int) : rowsI (a ++ b) = rowsI a ++ rowsI b := by simp [rowsI]
theorem values259_stops {n cap : Nat} (hn : n ≤ 1000) {b1 n₁ : Nat} {M : Nat → Prop} {w0 : World} {A : Option Addr} {g : Nat → Nat → Int} (hb : Blk w0 b1 56 #[.slice A n cap]) (hr : Rd w0 A n 1 g) (hA : 0 < n → ∀ b o, A = some ⟨b, o, none⟩ → b < n₁ ∧ ¬ M b) :
  SeqStopsK Fence.wide 2 Tryz.prog 259 #[.pointer (some ⟨b1, 0, none⟩)] (fun x : Int => #[.int .i64 x]) (KpM n₁ M) (fun xs => xs = ints g n) (fun _ => True) 1001 w0 := by
 have HK : ∀ W W', Rd W A n 1 g → KpM n₁ M W W' → Rd W' A n 1 g := fun W W' h k => by
  rcases Nat.eq_zero_or_pos n with h0 | h0
  ·subst h0; exact Rd.nil
  ·exact h.kpm k (hA h0)
 have HK := hid HK
 clear hA
 intro l J Jx W hW _ _ hY h0
 have hk0 := (hb.ext hW)
 have hr0 := (hr.ext hW)
 have HY := hid hY
 clear hY hr
 refine callsIn_of_wp Tryz.func259 rfl trivial ?_ rfl
 simp only [Tryz.ntmps259, List.size_toArray, List.length_cons, List.length_nil, Nat.reduceAdd, Nat.reduceSub, Array.replicate_succ, Array.replicate_zero, List.push_toArray, List.append_toArray, List.nil_append, List.cons_append]
 have k0 := hk0.cell
 gi_wp2
 clear k0
 gi_loopw [7] (fun i wr => ∃ k : Nat, k ≤ n ∧ i = .int .i64 (k : Int) ∧ J (ints g k) wr ∧ Rd wr A n 1 g) (fun i _ => n - (intOf i).toNat)
 case atStart => exact ⟨0, by omega, rfl, h0, hr0⟩
 case round =>
  obtain ⟨k, hk, rfl, hJ, hr⟩ := hrel
  by_cases hlt : k < n
  ·obtain ⟨b, o, rfl, hbl, a0⟩ := hr.at1 hlt
   have HR := hid hr
   clear hr
   obtain ⟨fn, tmps, assign, body, hy, hR⟩ := HY.out (ints g k) (g k 0) wr hJ (by rw [ints_length]; omega)
   gi_wp2
   refine hR.mono ?_
   rintro e W3 (⟨rfl, hJ3, hk3⟩ | ⟨rfl, hJx3⟩)
   ·gi_wp2
    go_roundw
    case rel => exact ⟨k + 1, by omega, by go_num, by rw [ints_succ]; exact hJ3, HK.out _ _ HR.out hk3⟩
    case measure => simp [intOf]; omega
   ·gi_wp2
    refine bodyPost_ret (results_none rfl _ _ _) rfl ?_
    exact ⟨⟨_, rfl⟩, .inr ⟨_, trivial, hJx3⟩⟩
  ·gi_wp2
   go_end0
   obtain rfl : k = n := by omega
   exact ⟨⟨_, rfl⟩, .inl ⟨_, rfl, hJ⟩⟩
theorem values234 {A : Option Addr} {n cap : Nat} (w : World) : Calls Tryz.prog 234 #[.slice A n cap] w fun e w' => e = .returned (.func (.func 259) #[] #[.pointer (some ⟨w.heap.size, 0, none⟩)]) ∧ Ext w w' ∧ Blk w' w.heap.size 56 #[.slice A n cap] := by
 have hmf : ∀ (fn : Fn) (first cap : Array Value) (w : World), (Instr.makeFunc fn first cap).run Tryz.prog w = .ok (.func fn first cap) w := fun _ _ _ _ => rfl
 go_enter Tryz.func234, Tryz.ntmps234
 go_wp2
 go_ret
 exact ⟨rfl, (Ext.refl _).alloc _, Blk.new _ _ _⟩
theorem append276 {w : World} {b1 n cap : Nat} {A : Option Addr} {g : Nat → Nat → Int} (hn : n ≤ 1000) (hb : Blk w b1 56 #[.slice A n cap]) (hr : Rd w A n 1 g) :
  Calls Tryz.prog 276 #[.slice none 0 0, .func (.func 259) #[] #[.pointer (some ⟨b1, 0, none⟩)]] w fun e w' => ∃ u, e = .returned u ∧ Ext w w' ∧ OwnR w' w.heap.size 3 1 u (rowsI (ints g n)) := by
 have hbl := hb.lt
 have HA : Hid (0 < n → ∀ b o, A = some ⟨b, o, none⟩ → b < w.heap.size + 1 ∧ ¬ b = w.heap.size) := hid fun h0 b o e => by
  obtain ⟨b', o', e', h1, -⟩ := hr.at1 h0
  rw [e] at e'
  cases e'
  omega
 refine (callsIn_wide (n := 3)).1 (callsIn_of_wp_marks Tryz.func276 rfl trivial (wpIn_wide.2 ?_) rfl)
 simp only [Tryz.ntmps276, List.size_toArray, List.length_cons, List.length_nil, Nat.reduceAdd, Nat.reduceSub, Array.replicate_succ, Array.replicate_zero, List.push_toArray, List.append_toArray, List.nil_append, List.cons_append]
 go_wp2
 have e0 : Ext w (w.alloc (.cells #[.slice none 0 0] 56)) := (Ext.refl _).alloc _
 obtain ⟨w1, hw1⟩ : ∃ w1, w1 = w.alloc (.cells #[.slice none 0 0] 56) := ⟨_, rfl⟩
 have hs1 : w1.heap.size = w.heap.size + 1 := by rw [hw1]; simp
 have hko : Blk w1 w.heap.size 56 #[.slice none 0 0] := by rw [hw1]; exact Blk.new _ _ _
 have hb1 : Blk w1 b1 56 #[.slice A n cap] := by rw [hw1]; exact hb.ext e0
 have hr1 : Rd w1 A n 1 g := by rw [hw1]; exact hr.ext e0
 have he : Ext w w1 := by rw [hw1]; exact e0
 rw [← hw1]
 clear hw1 e0 hb hr
 refine wp_range (gf := 259) rfl (enters_ Tryz.func259 (by kernel_rfl) rfl) (fun y : Int => .int .i64 y) (fun k => k = w.heap.size) (values259_stops hn hb1 hr1 (by rw [hs1]; exact HA.out)) (Ext.refl _)
  (fun (pre : List Int) W => w1.heap.size ≤ W.heap.size ∧ Ext w W ∧ ∃ u, Blk W w.heap.size 56 #[u] ∧ OwnR W w1.heap.size 3 1 u (rowsI pre))
  (ownFrom_of fun pre W W' k ⟨i0, i1, u, i3, i4⟩ => ⟨Nat.le_trans i0 k.1, i1.kc k (by omega), u, i3.kc k, i4.kc k⟩) ⟨Nat.le_refl _, he, _, hko, by simpa [rowsI] using OwnR.nil⟩
  (fun (y : Int) tm a' W => a' = { tmps := (tm.setIfInBounds 7 (.int .i64 y)).setIfInBounds 5 (.int .i64 y), defers := [] })
  (fun y a' => ownFrom_of fun _ W W' k h => h) ?_ ?_ ?_
 ·intro l pre y W K hI hK
  simp only [List.setIfInBounds_toArray, List.set_cons_succ, List.set_cons_zero]
  gi_wp2
  exact hK _ _ (KeepsFrom.ext (Ext.refl _)) (KpM.refl _) hI rfl
 ·rintro l pre y a' W hl - ⟨i0, i1, u, i3, i4⟩ rfl hN
  simp only [List.setIfInBounds_toArray, List.set_cons_succ, List.set_cons_zero]
  have HN := hid hN
  have hkl : (rowsI pre).length < 10000 := by rw [rowsI_length]; omega
  clear hN
  have kc := i3.cell
  have kf := i3.frozen
  gi_wp2_with (gi_at_builtin; refine wpListIn_append_rows rfl _ _ 56 rfl el56 rfl (i4.ext (Ext.alloc (Ext.refl _) _)) _ 1 1 [[y]] rfl rfl (by simp) (by intro j; simp [cellsOf]) (by omega) (by simp; omega) ?_; intro v' w3 hown3 hg3; have b3 := (i3.ext (Ext.alloc (Ext.refl _) _)).grown hg3 (fun e => by have := i4.block e.symm; omega); have kc := b3.cell; have kf := b3.frozen; obtain ⟨A', cap', rfl, _⟩ := hown3.slR)
  have hg3 : World.grownBy _ _ u.ownBlock := hg3
  have h4 := i4.ext (Ext.alloc (Ext.refl W) (.cells #[.int .i64 y] 3))
  have ea : Ext W (W.alloc (.cells #[.int .i64 y] 3)) := (Ext.refl _).alloc _
  have hrow : ∀ k, u.ownBlock = some k → w1.heap.size ≤ k := fun k hk => i4.block hk
  refine ⟨((KeepsFrom.ext ea).trans (.grown hg3 h4.cells)).trans (.set _ _ _), ((KpM.ext ea i0).trans (.grown hg3 (Nat.le_trans i0 ea.size) fun k hk => .inl (hrow k hk))).trans (.setCell _ _ (.inr rfl)), ?_⟩
  refine ⟨Nat.le_trans i0 (Nat.le_trans ea.size (Nat.le_trans hg3.size (by simp))), ((i1.trans ea).grown hg3 fun k hk => by have := hrow k hk; omega).setCell _ (by simp), _, b3.set_ 0 _, ?_⟩
  rw [rowsI_append]
  simpa [rowsI] using hown3.set_far (b := w.heap.size) (by omega) _
 ·rintro D ys W hD hys ⟨i0, i1, u, i3, i4⟩ hK
  have kc := i3.cell
  go_wp2
  refine ⟨by simp, .inl ⟨_, _, rfl, run_takeDeferred hK, ?_⟩⟩
  have kp := Kc.put (.deferred none) hD hK rfl
  refine ⟨_, results_tmp rfl _ _ _, u, rfl, i1.kc kp (by omega), ?_⟩
  rw [← hys]
  exact (i4.kc kp).base (by omega)
end Go.Proofs.YtkhjmedfhobebaaGreat
namespace HandSpec
open Go.Proofs.YtkhjmedfhobebaaGreat
/-- A number that is no hand. -/
def badL (x : WD) (g : Nat → Nat → Int) (n : Nat) : Bool := anyTo (fun k => !inB (g k 0) 0 (x.hands - 1)) n
/-- A number that comes twice. -/
def dupL (g : Nat → Nat → Int) (n : Nat) : Bool := anyTo (fun k => anyTo (fun i => g i 0 == g k 0) k) n
/-- What is wrong with a list of hands. -/
def listE (x : WD) (g : Nat → Nat → Int) (n : Nat) : Int := if badL x g n then 1 else if dupL g n then 5 else 0
theorem ints_at (g : Nat → Nat → Int) (n : Nat) {k : Nat} (h : k < (ints g n).length) : (ints g n)[k] = g k 0 := by simp [ints]
theorem dupL_nodup (g : Nat → Nat → Int) (n : Nat) : dupL g n = true ↔ ¬ (ints g n).Nodup := by
 unfold dupL List.Nodup
 rw [List.pairwise_iff_getElem]
 constructor
 ·intro h hp
  obtain ⟨k, hk, h1⟩ := anyTo_true.1 h
  obtain ⟨i, hi, h2⟩ := anyTo_true.1 h1
  have hl := ints_length g n
  refine hp i k (by omega) (by omega) hi ?_
  rw [ints_at, ints_at]
  simpa using h2
 ·intro h
  rcases Bool.eq_false_or_eq_true (anyTo (fun k => anyTo (fun i => g i 0 == g k 0) k) n) with e | e
  ·exact e
  ·refine absurd ?_ h
   intro i j hi hj hij he
   have hl := ints_length g n
   have h1 := anyTo_false.1 e j (by omega)
   have h2 := anyTo_false.1 h1 i hij
   rw [ints_at, ints_at] at he
   simp [he] at h2
theorem sm_nodup {l : List Int} (hs : SortedI l l.length) : anyTo (smN (ni l)) (l.length - 1) = true ↔ ¬ l.Nodup := by
 unfold List.Nodup
 rw [List.pairwise_iff_getElem]
 constructor
 ·intro h hp
  obtain ⟨k, hk, h1⟩ := anyTo_true.1 h
  unfold smN at h1
  rw [beq_iff_eq] at h1
  refine hp k (k+1) (by omega) (by omega) (Nat.lt_succ_self k) ?_
  rw [← ni_get, ← ni_get]
  exact h1.symm
 ·intro h
  rcases Bool.eq_false_or_eq_true (anyTo (smN (ni l)) (l.length - 1)) with e | e
  ·exact e
  ·refine absurd ?_ h
   intro i j hi hj hij he
   have h1 := anyTo_false.1 e i (by omega)
   unfold smN at h1
   rw [beq_eq_false_iff_ne] at h1
   rw [← ni_get l hi, ← ni_get l hj] at he
   have h2 := hs i (i+1) (Nat.lt_succ_self i) (by omega)
   rcases Nat.lt_or_ge (i+1) j with h3 | h3
   ·have h4 := hs (i+1) j h3 hj
    exact h1 (by omega)
   ·obtain rfl : j = i + 1 := by omega
    exact h1 he.symm
/-- Sorted numbers have equal neighbours just if one came twice. -/
theorem sm_dup {l : List Int} {g : Nat → Nat → Int} {n : Nat} (hp : l.Perm (ints g n)) (hs : SortedI l l.length) : anyTo (smN (ni l)) (l.length - 1) = dupL g n := by
 rw [Bool.eq_iff_iff, sm_nodup hs, dupL_nodup, hp.nodup_iff]
end HandSpec
