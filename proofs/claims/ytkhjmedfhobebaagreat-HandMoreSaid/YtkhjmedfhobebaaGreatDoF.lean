/- Walks of sums; what plans are. No condition. -/
import Derived.Test.YtkhjmedfhobebaaGreatDoD
namespace HandSpec
namespace P
/-- Numbers as bits. -/
def setF (l : List Nat) (k : Nat) : Nat := 2 ^ l.getD k 0
def set (l : List Nat) : Nat := orTo (setF l) l.length
/-- In which intervals some hands are there. -/
def spot (x : WD) (m i : Nat) : Bool := decide (i + 1 < x.cn) && decide (th x i (i+1) &&& m ≠ 0)
/-- The first, and the last interval of the first k ones from a on; b, or -2. -/
def firstTo (own : Nat → Bool) (a : Nat) (b : Int) : Nat → Int
 | 0 => b
 | k+1 => if own (a + k) then min (firstTo own a b k) (a + k : Nat) else firstTo own a b k
def lastTo (own : Nat → Bool) (a : Nat) : Nat → Int
 | 0 => -2
 | k+1 => if own (a + k) then (a + k : Nat) else lastTo own a k
theorem firstTo_bd {own : Nat → Bool} {a : Nat} {b : Int} (hb : 0 ≤ b) : ∀ k, 0 ≤ firstTo own a b k ∧ firstTo own a b k ≤ b
 | 0 => ⟨hb, Int.le_refl _⟩
 | k+1 => by
  have := firstTo_bd (own := own) (a := a) hb k
  unfold firstTo
  split <;> omega
theorem lastTo_bd {own : Nat → Bool} {a : Nat} : ∀ k, -2 ≤ lastTo own a k ∧ lastTo own a k ≤ a + k
 | 0 => by unfold lastTo; omega
 | k+1 => by
  have := lastTo_bd (own := own) (a := a) k
  unfold lastTo
  split <;> omega
end P
end HandSpec
namespace Go.Proofs.YtkhjmedfhobebaaGreat
open Go.RowKit HandSpec
set_option maxHeartbeats 800000
set_option maxRecDepth 100000
theorem setF_lt {l : List Nat} (hl : ∀ i ∈ l, i < 6) {k : Nat} (hk : k < l.length) : P.setF l k < 2 ^ 6 := by
 have h := hl (l[k]) (List.getElem_mem hk)
 unfold P.setF
 rw [List.getD_eq_getElem?_getD, List.getElem?_eq_getElem hk]
 exact Nat.pow_lt_pow_right (by omega) h
theorem set_lt {l : List Nat} (hl : ∀ i ∈ l, i < 6) : P.set l < 64 := P.orTo_lt (n := 6) _ fun _ hi => setF_lt hl hi
theorem wrap2 {i : Nat} (h : i < 6) : IntKind.i64.wrap ((2 : Int) ^ i) = (2 : Int) ^ i := by
 match i, h with
 | 0, _ | 1, _ | 2, _ | 3, _ | 4, _ | 5, _ => rfl
theorem set_any {l : List Nat} (hl : ∀ i ∈ l, i < 6) (hn : l.length ≤ 1000) {w : World} {v : Value} (hv : SlR w 1 v (rows1 l)) :
  Calls Tryz.prog 132 #[v] w fun e w' => e = .returned (.int .i64 (P.set l : Int)) ∧ Ext w w' := by
 obtain ⟨A, cap, rfl, hr⟩ := hv
 rw [rows1_length] at *
 go_enter Tryz.func132, Tryz.ntmps132
 go_wp2
 go_loop [3, 8] (fun s i => ∃ k : Nat, k ≤ l.length ∧ i = .int .i64 (k : Int) ∧ s = .int .i64 (orTo (P.setF l) k : Int)) (fun _ i => l.length - (intOf i).toNat)
 case atStart => exact ⟨0, Nat.zero_le _, rfl, rfl⟩
 case round =>
  obtain ⟨k, hk, rfl, rfl⟩ := hrel
  by_cases hlt : k < l.length
  ·obtain ⟨b, o, rfl, hb, c0⟩ := hr.atN hlt
   have hi : l.getD k 0 < 6 := by
    have := hl (l[k]) (List.getElem_mem hlt)
    rwa [List.getD_eq_getElem?_getD, List.getElem?_eq_getElem hlt]
   have h1 : orTo (P.setF l) k < 64 := P.orTo_lt (n := 6) _ fun i hi => setF_lt hl (by omega)
   have h2 : 2 ^ l.getD k 0 < 64 := Nat.pow_lt_pow_right (a := 2) (n := 6) (by omega) hi
   have ho := or64 h1 h2
   have HS : Hid (orTo (P.setF l) (k+1) = orTo (P.setF l) k ||| 2 ^ l.getD k 0) := hid rfl
   have hw := wrap2 hi
   rw [Int.natCast_pow] at ho
   clear h1 h2
   generalize l.getD k 0 = q at *
   generalize orTo (P.setF l) k = s at *
   have hw' : IntKind.i64.wrap ((2 : Int) ^ q) = (2 : Int) ^ q := hw
   have ho' : bits .or .i64 (s : Int) ((2 : Int) ^ q) = ((s ||| 2 ^ q : Nat) : Int) := ho
   clear hw ho hr
   go_wp2
   go_round
   case rel => exact ⟨k + 1, by omega, by go_num, by rw [HS.out]⟩
   case measure => simp [intOf]; omega
  ·go_wp2
   go_ret
   obtain rfl : k = l.length := by omega
   exact ⟨rfl, Ext.refl _⟩
theorem membersP_any (m : Nat) (hm : m < 64) (w : World) :
  Calls Tryz.prog 135 #[.int .i64 (m : Int)] w fun e w' => ∃ v, e = .returned v ∧ Ext w w' ∧ OwnR w' w.heap.size 3 1 v (rows1 (ones 6 m)) := by
 go_enter Tryz.func135, Tryz.ntmps135
 go_wp2
 go_loopw [3, 4] (fun o i wr => ∃ k : Nat, k ≤ 6 ∧ i = .int .i64 (k : Int) ∧ OwnR wr w.heap.size 3 1 o (rows1 (ones k m)) ∧ Ext w wr) (fun _ i _ => 6 - (intOf i).toNat)
 case atStart => exact ⟨0, Nat.zero_le _, rfl, by simpa [ones, rows1] using OwnR.nil, Ext.refl _⟩
 case round =>
  obtain ⟨k, hk, rfl, hown, he⟩ := hrel
  have hb := ones_succ k m
  rw [testBit_div] at hb
  have hll := ones_length k m
  have hd : ((m : Int) / 2 ^ k) = ((m / 2 ^ k : Nat) : Int) := by simp
  have hz : m / 2 ^ k = 0 → ones k m = ones 6 m := fun h => by
   refine ones_of ?_ hm
   rcases Nat.div_eq_zero_iff.1 h with h | h
   ·have := Nat.two_pow_pos k; omega
   ·exact h
  have h6 : 6 ≤ k → m / 2 ^ k = 0 := fun h => Nat.div_eq_of_lt (Nat.lt_of_lt_of_le hm (Nat.pow_le_pow_right (show 0 < 2 by omega) h))
  have hlt : m / 2 ^ k < 64 := Nat.lt_of_le_of_lt (Nat.div_le_self _ _) hm
  have ha := and64 hlt (show 1 < 64 by omega)
  have ha1 : m / 2 ^ k &&& 1 = m / 2 ^ k % 2 := Nat.and_one_is_mod _
  rw [ha1] at ha
  generalize hg : m / 2 ^ k = q at *
  have ha' : bits .and .i64 (q : Int) 1 = ((q % 2 : Nat) : Int) := ha
  clear ha
  have HB := hid hb
  have HZ := hid hz
  have H6 := hid h6
  have HG := hid hg
  clear hb hz h6 hg ha1
  by_cases h0 : 0 < q
  ·have hk6 : k < 6 := by
    rcases Nat.lt_or_ge k 6 with h | h
    ·exact h
    ·have := H6.out h; omega
   by_cases h1 : q % 2 = 1
   ·have e1 : (((q % 2 : Nat) : Int) == 1) = true := by simp [h1]
    have HQ := hid h1
    clear h1
    go_wp2_with (at_builtin; refine wpList_append_rows rfl _ _ 56 rfl elem56 rfl (hown.ext (Ext.alloc (Ext.refl _) _)) wr.heap.size 1 1 [[(k : Int)]] rfl rfl (by simp) (by intro i; simp [cellsOf]) (by rw [rows1_length]; omega) (by have := he.size; simp; omega) ?_; intro v' w2 hown2 hg2)
    go_roundw
    case rel => exact ⟨k + 1, by omega, by go_num, by rw [HB.out, HQ.out, rows1_append]; simpa [rows1] using hown2, (he.alloc _).grown hg2 fun g hg => hown.block hg⟩
    case measure => simp [intOf]; omega
   ·have e1 : (((q % 2 : Nat) : Int) == 1) = false := by
     have : q % 2 = 0 := by omega
     rw [this]; rfl
    have HQ := hid h1
    clear h1
    go_wp2
    go_roundw
    case rel => exact ⟨k + 1, by omega, by go_num, by rw [HB.out]; simpa [HQ.out] using hown, he⟩
    case measure => simp [intOf]; omega
  ·obtain rfl : q = 0 := by omega
   go_wp2
   go_ret
   exact ⟨_, rfl, he, by rw [← HZ.out trivial]; exact hown⟩
def boolsC (f : Nat → Bool) : Array Value := #[.bool (f 0), .bool (f 1), .bool (f 2), .bool (f 3), .bool (f 4), .bool (f 5), .bool (f 6), .bool (f 7)]
theorem boolsC_at (f : Nat → Bool) {i : Nat} (hi : i < 8) : (boolsC f)[i]? = some (.bool (f i)) := by
 match i, hi with
 | 0, _ | 1, _ | 2, _ | 3, _ | 4, _ | 5, _ | 6, _ | 7, _ => rfl
theorem boolsC_set (f : Nat → Bool) {i : Nat} (hi : i < 8) (b : Bool) : (boolsC f).setIfInBounds i (.bool b) = boolsC (fun j => if j = i then b else f j) := by
 match i, hi with
 | 0, _ | 1, _ | 2, _ | 3, _ | 4, _ | 5, _ | 6, _ | 7, _ => simp [boolsC]
theorem spots_any {x : WD} (hx : Ok x) {w : World} {v : Value} (hv : IsD w v x) {m : Nat} (hm : m < 64) :
  Calls Tryz.prog 139 #[v, .int .i64 (m : Int)] w fun e w' => e = .returned (.agg (boolsC (P.spot x m))) ∧ Ext w w' := by
 obtain ⟨db, A1, c1, A2, c2, A3, c3, mb, L, rfl, hk, -, -, -, hmp, hl⟩ := hv
 have hcn := hx.cn
 have HL := hid hl
 clear hl
 have kd := hk.cell
 have kdl := hk.lt
 go_enter Tryz.func139, Tryz.ntmps139
 go_wp2
 refine wp_later fun w1 hw1 => ?_
 obtain ⟨he, hb4, hb5⟩ := hw1.newB2
 clear kd hw1
 go_loopw [14] (fun i wr => ∃ k : Nat, k ≤ x.cn - 1 ∧ i = .int .i64 (k : Int) ∧ Hid (Ext w wr ∧ Blk wr w.heap.size 194 (boolsC fun _ => false) ∧ Blk wr (w.heap.size + 1) 194 (boolsC fun j => decide (j < k) && P.spot x m j))) (fun i _ => x.cn - 1 - (intOf i).toNat)
 case atStart => exact ⟨0, Nat.zero_le _, rfl, hid ⟨he, hb4, by simpa [boolsC] using hb5⟩⟩
 case round =>
  obtain ⟨k, hk', rfl, HI⟩ := hrel
  have kd := (hk.ext HI.out.1).cell
  have kdl := (hk.ext HI.out.1).lt
  by_cases hlt : k < x.cn - 1
  ·have h5 := HI.out.2.2.lt
   have c5 : wr.cell? ⟨w.heap.size + 1, k, none⟩ = some (.bool false) := by rw [HI.out.2.2.cell, boolsC_at _ (by omega)]; simp
   have f5 := HI.out.2.2.frozen k
   have hlk : (Instr.lookup 187 (.map (some mb)) (.agg #[.int .i64 (k : Int), .int .i64 ((k : Int) + 1)]) false).run Tryz.prog wr = .ok (.int .i64 (P.th x k (k+1) : Int)) wr := by
    have := lookup_run (hmp.ext HI.out.1) k (k+1)
    rw [HL.out k (k+1) (by omega) (by omega)] at this
    simpa using this
   have ha := and64 (P.th_lt hx k (k+1)) hm
   have HS : Hid (P.spot x m k = decide (P.th x k (k+1) &&& m ≠ 0)) := hid (by unfold P.spot; rw [decide_eq_true (show k + 1 < x.cn by omega)]; rfl)
   have hki : (k : Int) < 8 := by omega
   have ha' : bits .and .i64 (P.th x k (k+1) : Int) (m : Int) = ((P.th x k (k+1) &&& m : Nat) : Int) := ha
   clear ha
   generalize P.th x k (k+1) &&& m = q at *
   have HQ : Hid (((q : Int) != 0) = P.spot x m k) := hid (by rw [HS.out]; by_cases h : q = 0 <;> simp [h])
   go_wp2
   go_roundw
   case rel =>
    refine ⟨k + 1, by omega, by go_num, hid ⟨HI.out.1.setCell _ (by simp), HI.out.2.1.far (by simp) _, ?_⟩⟩
    have h1 := HI.out.2.2.set_ k (.bool ((q : Int) != 0))
    rw [boolsC_set _ (by omega)] at h1
    have e2 : (fun j => if j = k then ((q : Int) != 0) else decide (j < k) && P.spot x m j) = fun j => decide (j < k + 1) && P.spot x m j := by
     funext j
     by_cases hj : j = k
     ·rw [if_pos hj, HQ.out, hj]; simp
     ·have : decide (j < k) = decide (j < k + 1) := by simp; omega
      simp [hj, this]
    rw [e2] at h1
    exact h1
   case measure => simp [intOf]; omega
  ·have k4 := HI.out.2.1.cell
   have f4 := HI.out.2.1.frozen
   have k4l := HI.out.2.1.lt
   have k5 := HI.out.2.2.cell
   have k5l := HI.out.2.2.lt
   obtain rfl : k = x.cn - 1 := by omega
   have e2 : (fun j => decide (j < x.cn - 1) && P.spot x m j) = P.spot x m := by
    funext j
    unfold P.spot
    by_cases hj : j < x.cn - 1
    ·simp [hj]
    ·have : ¬ j + 1 < x.cn := by omega
     simp [this]
   rw [e2] at k5
   unfold boolsC at k4 k5
   have hki : ((x.cn - 1 : Nat) : Int) = (x.cn : Int) - 1 := by omega
   go_wp2
   exact bodyPost_ret (v := .agg (boolsC (P.spot x m))) (by simp [results, Tryz.results139, go_sem, k4, boolsC]) rfl ⟨rfl, (((((((HI.out.1.setCell _ (by simp)).setCell _ (by simp)).setCell _ (by simp)).setCell _ (by simp)).setCell _ (by simp)).setCell _ (by simp)).setCell _ (by simp)).setCell _ (by simp)⟩
theorem ends_any {own : Nat → Bool} {a b : Nat} (hab : a ≤ b) (hb : b ≤ 8) (w : World) (v : Value) (hv : ∃ p, v = .pointer p) :
  Calls Tryz.prog 194 #[v, .agg #[.int .i64 (a : Int), .int .i64 (b : Int)], .agg (boolsC own)] w fun e w' => e = .returned (.tuple #[.int .i64 (P.firstTo own a b (b - a)), .int .i64 (P.lastTo own a (b - a))]) ∧ Ext w w' := by
 obtain ⟨p, rfl⟩ := hv
 have hbc : ∀ i : Nat, i < 8 → (boolsC own)[i]? = some (.bool (own i)) := fun _ h => boolsC_at own h
 have HB := hid hbc
 clear hbc
 unfold boolsC at HB ⊢
 go_enter Tryz.func194, Tryz.ntmps194
 go_wp2
 refine wp_later fun w1 hw1 => ?_
 obtain ⟨he, hb4, hb5⟩ := hw1.newB2
 clear hw1
 have k4 := hb4.cell
 have k4l := hb4.lt
 have k5l := hb5.lt
 go_loop [6, 7, 8] (fun f l i => ∃ k : Nat, k ≤ b - a ∧ i = .int .i64 ((a + k : Nat) : Int) ∧ f = .int .i64 (P.firstTo own a b k) ∧ l = .int .i64 (P.lastTo own a k)) (fun _ _ i => b - (intOf i).toNat)
 case atStart => exact ⟨0, Nat.zero_le _, by go_num, rfl, rfl⟩
 case round =>
  obtain ⟨k, hk, rfl, rfl, rfl⟩ := hrel
  have h1 := P.firstTo_bd (own := own) (a := a) (b := b) (by omega) k
  have h2 := P.lastTo_bd (own := own) (a := a) k
  by_cases hlt : a + k < b
  ·have c5 : w1.cell? ⟨w.heap.size + 1, a + k, none⟩ = some (.bool (own (a + k))) := by rw [hb5.cell]; exact HB.out _ (by omega)
   have HF : Hid (P.firstTo own a b (k+1) = if own (a + k) then min (P.firstTo own a b k) (a + k : Nat) else P.firstTo own a b k) := hid rfl
   have HG : Hid (P.lastTo own a (k+1) = if own (a + k) then ((a + k : Nat) : Int) else P.lastTo own a k) := hid rfl
   have hi8 : ((a + k : Nat) : Int) < 8 := by omega
   cases ho : own (a + k)
   all_goals
    rw [ho] at c5 HF HG
    clear ho
    go_wp2
    go_round
    case rel => exact ⟨k + 1, by omega, by go_num, by rw [HF.out]; simp; try (split <;> omega), by rw [HG.out]; simp⟩
    case measure => simp [intOf]; omega
  ·go_wp2
   go_ret2
   obtain rfl : k = b - a := by omega
   exact ⟨rfl, he⟩
end Go.Proofs.YtkhjmedfhobebaaGreat
namespace HandSpec
namespace P
structure Plan where
 sum : Int
 st : Nat × Nat
 rest : Nat
/-- The cells of plans. -/
def pcell (b : Nat → Plan) (i : Nat) : Int :=
 if i % 4 = 0 then (b (i / 4)).sum else if i % 4 = 1 then ((b (i / 4)).st.1 : Int) else if i % 4 = 2 then ((b (i / 4)).st.2 : Int) else ((b (i / 4)).rest : Int)
theorem pcell0 (b : Nat → Plan) (k : Nat) : pcell b (k * 4) = (b k).sum := by unfold pcell; rw [if_pos (by omega), show k * 4 / 4 = k by omega]
theorem pcell1 (b : Nat → Plan) (k : Nat) : pcell b (k * 4 + 1) = ((b k).st.1 : Int) := by unfold pcell; rw [if_neg (by omega), if_pos (by omega), show (k * 4 + 1) / 4 = k by omega]
theorem pcell2 (b : Nat → Plan) (k : Nat) : pcell b (k * 4 + 2) = ((b k).st.2 : Int) := by unfold pcell; rw [if_neg (by omega), if_neg (by omega), if_pos (by omega), show (k * 4 + 2) / 4 = k by omega]
theorem pcell3 (b : Nat → Plan) (k : Nat) : pcell b (k * 4 + 3) = ((b k).rest : Int) := by unfold pcell; rw [if_neg (by omega), if_neg (by omega), if_neg (by omega), show (k * 4 + 3) / 4 = k by omega]
def updP (b : Nat → Plan) (k : Nat) (p : Plan) : Nat → Plan := fun j => if j = k then p else b j
theorem updP_same (b : Nat → Plan) (k : Nat) (p : Plan) : updP b k p k = p := by simp [updP]
theorem updP_other (b : Nat → Plan) {j k : Nat} (p : Plan) (h : j ≠ k) : updP b k p j = b j := by simp [updP, h]
/-- The first interval of a stretch in which the hands are there. -/
def fst (x : WD) (m : Nat) (s : Nat × Nat) : Nat := (firstTo (spot x m) s.1 s.2 (s.2 - s.1)).toNat
def lst (x : WD) (m : Nat) (s : Nat × Nat) : Int := lastTo (spot x m) s.1 (s.2 - s.1)
/-- Whether a stretch may be the last one before an interval. -/
def okS (x : WD) (m e : Nat) (s : Nat × Nat) : Bool := decide (lst x m s + 1 = e) && decide (th x s.1 s.2 &&& m = th x s.1 s.2) && decide (0 < gap x s.1 s.2)
def stepP (x : WD) (m e : Nat) (b : Nat → Plan) (s : Nat × Nat) : Nat → Plan :=
 if okS x m e s && decide ((b e).sum < (b (fst x m s)).sum + gap x s.1 s.2) then updP b e ⟨(b (fst x m s)).sum + gap x s.1 s.2, s, fst x m s⟩ else b
def initP (b : Nat → Plan) (e : Nat) : Nat → Plan := updP b e ⟨(b (e - 1)).sum, (0, 0), e - 1⟩
def roundP (x : WD) (m : Nat) (b : Nat → Plan) (e : Nat) : Nat → Plan := if spot x m (e - 1) then (stretches x.cn).foldl (stepP x m e) (initP b e) else initP b e
def bestTo (x : WD) (m : Nat) : Nat → Nat → Plan
 | 0 => fun _ => ⟨0, (0, 0), 0⟩
 | e+1 => roundP x m (bestTo x m e) (e+1)
def best (x : WD) (m : Nat) : Nat → Plan := bestTo x m (x.cn - 1)
/-- The stretches of a plan, the last one first. -/
def chain (b : Nat → Plan) : Nat → Nat → List (Nat × Nat)
 | 0, _ => []
 | f+1, e => if e = 0 then [] else (if (b e).st = (0, 0) then [] else [(b e).st]) ++ chain b f (b e).rest
/-- No hands at all in the intervals. -/
def noOwn (x : WD) (m : Nat) : Bool := !anyTo (spot x m) 8
def Good (x : WD) (b : Nat → Plan) (e : Nat) : Prop := ∀ k, k ≤ e → (0 ≤ (b k).sum ∧ (b k).sum ≤ 20000 * k) ∧ (0 < k → (b k).rest < k) ∧ ((b k).st = (0, 0) ∨ ((b k).st.1 < (b k).st.2 ∧ (b k).st.2 < x.cn))
theorem gap_bd {x : WD} (h : Ok x) {a b : Nat} (ha : a < x.cn) (hb : b < x.cn) : -20000 ≤ gap x a b ∧ gap x a b ≤ 20000 := by
 have h1 : -16000 ≤ books x a b ∧ books x a b ≤ 16000 := books_bound h a (b - a) (by have := h.cn; omega)
 have g1 := h.hour a ha
 have g2 := h.hour b hb
 have g3 := h.hours
 have g4 := h.lo a ha
 have g5 := h.hi b hb
 have g6 := h.allow
 have g9 : -1200 ≤ x.allow * (x.c b 0 - x.c a 0) ∧ x.allow * (x.c b 0 - x.c a 0) ≤ 1200 := by
  have h1 := Int.mul_le_mul_of_nonneg_left (show x.c b 0 - x.c a 0 ≤ 60 by omega) g6.1
  have h2 := Int.mul_le_mul_of_nonneg_left (show -60 ≤ x.c b 0 - x.c a 0 by omega) g6.1
  omega
 unfold gap
 omega
theorem first_le_last {own : Nat → Bool} {a : Nat} {b : Int} : ∀ {k : Nat}, 0 ≤ lastTo own a k → firstTo own a b k ≤ lastTo own a k
 | 0, h => by unfold lastTo at h; omega
 | k+1, h => by
  unfold lastTo at h ⊢
  unfold firstTo
  split
  ·omega
  ·next hn =>
   rw [if_neg hn] at h
   exact first_le_last h
theorem fst_lt {x : WD} {m : Nat} {s : Nat × Nat} : fst x m s ≤ s.2 := by
 have := firstTo_bd (own := spot x m) (a := s.1) (b := (s.2 : Int)) (by omega) (s.2 - s.1)
 unfold fst; omega
theorem fst_cast (x : WD) (m : Nat) (s : Nat × Nat) : firstTo (spot x m) s.1 s.2 (s.2 - s.1) = (fst x m s : Int) := by
 have := firstTo_bd (own := spot x m) (a := s.1) (b := (s.2 : Int)) (by omega) (s.2 - s.1)
 unfold fst; omega
theorem okS_first {x : WD} {m e : Nat} {s : Nat × Nat} (h : okS x m e s = true) (he : 0 < e) : fst x m s + 1 ≤ e := by
 simp only [okS, Bool.and_eq_true, decide_eq_true_eq] at h
 have h1 : lastTo (spot x m) s.1 (s.2 - s.1) + 1 = e := h.1.1
 have := first_le_last (own := spot x m) (a := s.1) (b := (s.2 : Int)) (k := s.2 - s.1) (by omega)
 have h3 := fst_cast x m s
 omega
theorem Good.init {x : WD} {b : Nat → Plan} {e : Nat} (h : Good x b e) : Good x (initP b (e+1)) (e+1) := by
 intro k hk
 by_cases hke : k = e + 1
 ·subst hke
  unfold initP
  rw [updP_same]
  have := h e (Nat.le_refl _)
  refine ⟨?_, fun _ => by simp, .inl rfl⟩
  simp only [Nat.add_sub_cancel]
  omega
 ·unfold initP
  rw [updP_other _ _ hke]
  exact h k (by omega)
theorem Good.step {x : WD} (hx : Ok x) {m : Nat} {b : Nat → Plan} {e : Nat} {s : Nat × Nat} (h : Good x b e) (he : 0 < e) (hs : s.1 < s.2 ∧ s.2 < x.cn) : Good x (stepP x m e b s) e := by
 unfold stepP
 split
 ·next hc =>
  rw [Bool.and_eq_true] at hc
  have hf := okS_first hc.1 he
  have hg := gap_bd hx (show s.1 < x.cn by omega) hs.2
  have hpos : 0 < gap x s.1 s.2 := by
   have := hc.1
   simp only [okS, Bool.and_eq_true, decide_eq_true_eq] at this
   exact this.2
  intro k hk
  by_cases hke : k = e
  ·subst hke
   rw [updP_same]
   have := h (fst x m s) (by omega)
   refine ⟨?_, fun _ => by simp; omega, .inr hs⟩
   simp only
   omega
  ·rw [updP_other _ _ hke]
   exact h k hk
 ·exact h
theorem Good.fold {x : WD} (hx : Ok x) {m : Nat} {e : Nat} (he : 0 < e) : ∀ {l : List (Nat × Nat)} {b : Nat → Plan}, Good x b e → (∀ s ∈ l, s.1 < s.2 ∧ s.2 < x.cn) → Good x (l.foldl (stepP x m e) b) e
 | [], _, h, _ => h
 | s :: l, b, h, hl => show Good x (l.foldl (stepP x m e) (stepP x m e b s)) e from Good.fold hx he (h.step hx he (hl s (List.mem_cons_self ..))) fun q hq => hl q (List.mem_cons_of_mem _ hq)
theorem Good.round {x : WD} (hx : Ok x) {m : Nat} {b : Nat → Plan} {e : Nat} (h : Good x b e) : Good x (roundP x m b (e+1)) (e+1) := by
 unfold roundP
 split
 ·exact Good.fold hx (by omega) h.init fun s hs => mem_stretches.1 hs
 ·exact h.init
theorem Good.bestTo {x : WD} (hx : Ok x) (m : Nat) : ∀ e, Good x (bestTo x m e) e
 | 0 => fun k hk => by
  obtain rfl : k = 0 := by omega
  exact ⟨⟨Int.le_refl _, by show (0:Int) ≤ _; omega⟩, fun h => absurd h (by omega), .inl rfl⟩
 | e+1 => (Good.bestTo hx m e).round hx
/-- Plans behind the end are still empty. -/
theorem stepP_other {x : WD} {m e : Nat} {b : Nat → Plan} {s : Nat × Nat} {k : Nat} (h : k ≠ e) : stepP x m e b s k = b k := by
 unfold stepP
 split
 ·exact updP_other _ _ h
 ·rfl
theorem foldP_other {x : WD} {m e : Nat} {k : Nat} (h : k ≠ e) : ∀ (l : List (Nat × Nat)) (b : Nat → Plan), l.foldl (stepP x m e) b k = b k
 | [], _ => rfl
 | s :: l, b => by rw [List.foldl_cons, foldP_other h l, stepP_other h]
theorem roundP_other {x : WD} {m e : Nat} {b : Nat → Plan} {k : Nat} (h : k ≠ e) : roundP x m b e k = b k := by
 unfold roundP initP
 split
 ·rw [foldP_other h]; exact updP_other _ _ h
 ·exact updP_other _ _ h
theorem stepP_no {x : WD} {m e : Nat} {b : Nat → Plan} {s : Nat × Nat} (h : okS x m e s = false) : stepP x m e b s = b := by unfold stepP; rw [h]; simp
theorem stepP_yes {x : WD} {m e : Nat} {b : Nat → Plan} {s : Nat × Nat} (h : okS x m e s = true) (h2 : (b e).sum < (b (fst x m s)).sum + gap x s.1 s.2) : stepP x m e b s = updP b e ⟨(b (fst x m s)).sum + gap x s.1 s.2, s, fst x m s⟩ := by unfold stepP; rw [h, decide_eq_true h2]; simp
theorem stepP_le {x : WD} {m e : Nat} {b : Nat → Plan} {s : Nat × Nat} (h2 : ¬ (b e).sum < (b (fst x m s)).sum + gap x s.1 s.2) : stepP x m e b s = b := by unfold stepP; rw [decide_eq_false h2]; simp
theorem chain_length (b : Nat → Plan) : ∀ (f e : Nat), (chain b f e).length ≤ f
 | 0, _ => by simp [chain]
 | f+1, e => by
  unfold chain
  split
  ·simp
  ·have := chain_length b f (b e).rest
   split <;> simp <;> omega
theorem chain_zero (b : Nat → Plan) : ∀ f, chain b f 0 = []
 | 0 => rfl
 | f+1 => by unfold chain; simp
end P
end HandSpec
namespace Go.Proofs.YtkhjmedfhobebaaGreat
open Go.RowKit HandSpec
theorem andNot64 {a b : Nat} (ha : a < 64) (hb : b < 64) : bits .andNot .i64 (a : Int) (b : Int) = ((a ^^^ (a &&& b) : Nat) : Int) := by
 have h : a ^^^ (a &&& b) < 2 ^ 6 := Nat.xor_lt_two_pow ha (Nat.and_lt_two_pow _ hb)
 have e : (BitVec.ofInt IntKind.i64.bits (a : Int) &&& ~~~ BitVec.ofInt IntKind.i64.bits (b : Int)).toNat = a ^^^ (a &&& b) := by
  show (BitVec.ofInt 64 (a : Int) &&& ~~~ BitVec.ofInt 64 (b : Int)).toNat = a ^^^ (a &&& b)
  rw [ofIntN, ofIntN]
  have : BitVec.ofNat 64 a &&& ~~~ BitVec.ofNat 64 b = BitVec.ofNat 64 (a ^^^ (a &&& b)) := by
   apply BitVec.eq_of_getLsbD_eq
   intro i hi
   simp [hi]
   cases (BitVec.ofNat 64 a)[i] <;> cases (BitVec.ofNat 64 b)[i] <;> rfl
  rw [this, BitVec.toNat_ofNat, Nat.mod_eq_of_lt (by omega)]
 show IntKind.i64.wrap ((BitVec.ofInt IntKind.i64.bits (a : Int) &&& ~~~ BitVec.ofInt IntKind.i64.bits (b : Int)).toNat : Int) = _
 rw [e, wrapN (by omega)]
theorem xor_zero (a b : Nat) : a ^^^ (a &&& b) = 0 ↔ a &&& b = a := by
 constructor
 ·intro h
  have h1 : (a ^^^ (a &&& b)) ^^^ (a &&& b) = a := by rw [Nat.xor_assoc, Nat.xor_self, Nat.xor_zero]
  rw [h, Nat.zero_xor] at h1
  exact h1
 ·intro h
  rw [h, Nat.xor_self]
end Go.Proofs.YtkhjmedfhobebaaGreat
