/- Walks of the program: numbers as bits and back, the intervals in which hands are there, and the ends of a stretch among these. -/
import Derived.Test.YtkhjmedfhobebaaGreatDoE
namespace HandSpec
namespace P
/-- Numbers as bits. -/
def setF (l : List Nat) (k : Nat) : Nat := 2 ^ l.getD k 0
def set (l : List Nat) : Nat := orTo (setF l) l.length
/-- In which intervals some hands are there. -/
def spot (x : WD) (m i : Nat) : Bool := decide (i + 1 < x.cn) && decide (th x i (i+1) &&& m ≠ 0)
/-- The first, and the last interval of the first k ones from a on; b, or -2. -/
def firstTo (own : Nat → Bool) (a : Nat) (b : Int) : Nat → Int
  | 0 => b
  | k+1 => if own (a + k) then min (firstTo own a b k) (a + k : Nat) else firstTo own a b k
def lastTo (own : Nat → Bool) (a : Nat) : Nat → Int
  | 0 => -2
  | k+1 => if own (a + k) then (a + k : Nat) else lastTo own a k
theorem firstTo_bd {own : Nat → Bool} {a : Nat} {b : Int} (hb : 0 ≤ b) : ∀ k, 0 ≤ firstTo own a b k ∧ firstTo own a b k ≤ b
  | 0 => ⟨hb, Int.le_refl _⟩
  | k+1 => by
    have := firstTo_bd (own := own) (a := a) hb k
    unfold firstTo
    split <;> omega
theorem lastTo_bd {own : Nat → Bool} {a : Nat} : ∀ k, -2 ≤ lastTo own a k ∧ lastTo own a k ≤ a + k
  | 0 => by unfold lastTo; omega
  | k+1 => by
    have := lastTo_bd (own := own) (a := a) k
    unfold lastTo
    split <;> omega
end P
end HandSpec
namespace Go.Proofs.YtkhjmedfhobebaaGreat
open Go.RowKit HandSpec
set_option maxHeartbeats 800000
set_option maxRecDepth 100000
theorem setF_lt {l : List Nat} (hl : ∀ i ∈ l, i < 6) {k : Nat} (hk : k < l.length) : P.setF l k < 2 ^ 6 := by
  have h := hl (l[k]) (List.getElem_mem hk)
  unfold P.setF
  rw [List.getD_eq_getElem?_getD, List.getElem?_eq_getElem hk]
  exact Nat.pow_lt_pow_right (by omega) h
theorem set_lt {l : List Nat} (hl : ∀ i ∈ l, i < 6) : P.set l < 64 := P.orTo_lt (n := 6) _ fun _ hi => setF_lt hl hi
theorem wrap2 {i : Nat} (h : i < 6) : IntKind.i64.wrap ((2 : Int) ^ i) = (2 : Int) ^ i := by
  match i, h with
  | 0, _ | 1, _ | 2, _ | 3, _ | 4, _ | 5, _ => rfl
theorem set_any {l : List Nat} (hl : ∀ i ∈ l, i < 6) (hn : l.length ≤ 1000) {w : World} {v : Value} (hv : SlR w 1 v (rows1 l)) :
    Calls Tryz.prog 132 #[v] w fun e w' => e = .returned (.int .i64 (P.set l : Int)) ∧ Ext w w' := by
  obtain ⟨A, cap, rfl, hr⟩ := hv
  rw [rows1_length] at *
  go_enter Tryz.func132, Tryz.ntmps132
  go_wp2
  go_loop [3, 8] (fun s i => ∃ k : Nat, k ≤ l.length ∧ i = .int .i64 (k : Int) ∧ s = .int .i64 (orTo (P.setF l) k : Int)) (fun _ i => l.length - (intOf i).toNat)
  case atStart => exact ⟨0, Nat.zero_le _, rfl, rfl⟩
  case round =>
    obtain ⟨k, hk, rfl, rfl⟩ := hrel
    by_cases hlt : k < l.length
    · obtain ⟨b, o, rfl, hb, c0⟩ := hr.atN hlt
      have hi : l.getD k 0 < 6 := by
        have := hl (l[k]) (List.getElem_mem hlt)
        rwa [List.getD_eq_getElem?_getD, List.getElem?_eq_getElem hlt]
      have h1 : orTo (P.setF l) k < 64 := P.orTo_lt (n := 6) _ fun i hi => setF_lt hl (by omega)
      have h2 : 2 ^ l.getD k 0 < 64 := Nat.pow_lt_pow_right (a := 2) (n := 6) (by omega) hi
      have ho := or64 h1 h2
      have HS : Hid (orTo (P.setF l) (k+1) = orTo (P.setF l) k ||| 2 ^ l.getD k 0) := hid rfl
      have hw := wrap2 hi
      rw [Int.natCast_pow] at ho
      clear h1 h2
      generalize l.getD k 0 = q at *
      generalize orTo (P.setF l) k = s at *
      have hw' : IntKind.i64.wrap ((2 : Int) ^ q) = (2 : Int) ^ q := hw
      have ho' : bits .or .i64 (s : Int) ((2 : Int) ^ q) = ((s ||| 2 ^ q : Nat) : Int) := ho
      clear hw ho hr
      go_wp2
      go_round
      case rel => exact ⟨k + 1, by omega, by go_num, by rw [HS.out]⟩
      case measure => simp [intOf]; omega
    · go_wp2
      go_ret
      obtain rfl : k = l.length := by omega
      exact ⟨rfl, Ext.refl _⟩
theorem membersP_any (m : Nat) (hm : m < 64) (w : World) :
    Calls Tryz.prog 135 #[.int .i64 (m : Int)] w fun e w' => ∃ v, e = .returned v ∧ Ext w w' ∧ OwnR w' w.heap.size 3 1 v (rows1 (ones 6 m)) := by
  go_enter Tryz.func135, Tryz.ntmps135
  go_wp2
  go_loopw [3, 4] (fun o i wr => ∃ k : Nat, k ≤ 6 ∧ i = .int .i64 (k : Int) ∧ OwnR wr w.heap.size 3 1 o (rows1 (ones k m)) ∧ Ext w wr) (fun _ i _ => 6 - (intOf i).toNat)
  case atStart => exact ⟨0, Nat.zero_le _, rfl, by simpa [ones, rows1] using OwnR.nil, Ext.refl _⟩
  case round =>
    obtain ⟨k, hk, rfl, hown, he⟩ := hrel
    have hb := ones_succ k m
    rw [testBit_div] at hb
    have hll := ones_length k m
    have hd : ((m : Int) / 2 ^ k) = ((m / 2 ^ k : Nat) : Int) := by simp
    have hz : m / 2 ^ k = 0 → ones k m = ones 6 m := fun h => by
      refine ones_of ?_ hm
      rcases Nat.div_eq_zero_iff.1 h with h | h
      · have := Nat.two_pow_pos k; omega
      · exact h
    have h6 : 6 ≤ k → m / 2 ^ k = 0 := fun h => Nat.div_eq_of_lt (Nat.lt_of_lt_of_le hm (Nat.pow_le_pow_right (show 0 < 2 by omega) h))
    have hlt : m / 2 ^ k < 64 := Nat.lt_of_le_of_lt (Nat.div_le_self _ _) hm
    have ha := and64 hlt (show 1 < 64 by omega)
    have ha1 : m / 2 ^ k &&& 1 = m / 2 ^ k % 2 := Nat.and_one_is_mod _
    rw [ha1] at ha
    generalize hg : m / 2 ^ k = q at *
    have ha' : bits .and .i64 (q : Int) 1 = ((q % 2 : Nat) : Int) := ha
    clear ha
    have HB := hid hb
    have HZ := hid hz
    have H6 := hid h6
    have HG := hid hg
    clear hb hz h6 hg ha1
    by_cases h0 : 0 < q
    · have hk6 : k < 6 := by
        rcases Nat.lt_or_ge k 6 with h | h
        · exact h
        · have := H6.out h; omega
      by_cases h1 : q % 2 = 1
      · have e1 : (((q % 2 : Nat) : Int) == 1) = true := by simp [h1]
        have HQ := hid h1
        clear h1
        go_wp2_with (at_builtin; refine wpList_append_rows rfl _ _ 56 rfl elem56 rfl (hown.ext (Ext.alloc (Ext.refl _) _)) wr.heap.size 1 1 [[(k : Int)]] rfl rfl (by simp) (by intro i; simp [cellsOf]) (by rw [rows1_length]; omega) (by have := he.size; simp; omega) ?_; intro v' w2 hown2 hg2)
        go_roundw
        case rel => exact ⟨k + 1, by omega, by go_num, by rw [HB.out, HQ.out, rows1_append]; simpa [rows1] using hown2, (he.alloc _).grown hg2 fun g hg => hown.block hg⟩
        case measure => simp [intOf]; omega
      · have e1 : (((q % 2 : Nat) : Int) == 1) = false := by
          have : q % 2 = 0 := by omega
          rw [this]; rfl
        have HQ := hid h1
        clear h1
        go_wp2
        go_roundw
        case rel => exact ⟨k + 1, by omega, by go_num, by rw [HB.out]; simpa [HQ.out] using hown, he⟩
        case measure => simp [intOf]; omega
    · obtain rfl : q = 0 := by omega
      go_wp2
      go_ret
      exact ⟨_, rfl, he, by rw [← HZ.out trivial]; exact hown⟩
def boolsC (f : Nat → Bool) : Array Value := #[.bool (f 0), .bool (f 1), .bool (f 2), .bool (f 3), .bool (f 4), .bool (f 5), .bool (f 6), .bool (f 7)]
theorem boolsC_at (f : Nat → Bool) {i : Nat} (hi : i < 8) : (boolsC f)[i]? = some (.bool (f i)) := by
  match i, hi with
  | 0, _ | 1, _ | 2, _ | 3, _ | 4, _ | 5, _ | 6, _ | 7, _ => rfl
theorem boolsC_set (f : Nat → Bool) {i : Nat} (hi : i < 8) (b : Bool) : (boolsC f).setIfInBounds i (.bool b) = boolsC (fun j => if j = i then b else f j) := by
  match i, hi with
  | 0, _ | 1, _ | 2, _ | 3, _ | 4, _ | 5, _ | 6, _ | 7, _ => simp [boolsC]
theorem spots_any {x : WD} (hx : Ok x) {w : World} {v : Value} (hv : IsD w v x) {m : Nat} (hm : m < 64) :
    Calls Tryz.prog 139 #[v, .int .i64 (m : Int)] w fun e w' => e = .returned (.agg (boolsC (P.spot x m))) ∧ Ext w w' := by
  obtain ⟨db, A1, c1, A2, c2, A3, c3, mb, L, rfl, hk, -, -, -, hmp, hl⟩ := hv
  have hcn := hx.cn
  have HL := hid hl
  clear hl
  have kd := hk.cell
  have kdl := hk.lt
  go_enter Tryz.func139, Tryz.ntmps139
  go_wp2
  refine wp_later fun w1 hw1 => ?_
  obtain ⟨he, hb4, hb5⟩ := hw1.newB2
  clear kd hw1
  go_loopw [14] (fun i wr => ∃ k : Nat, k ≤ x.cn - 1 ∧ i = .int .i64 (k : Int) ∧ Hid (Ext w wr ∧ Blk wr w.heap.size 194 (boolsC fun _ => false) ∧ Blk wr (w.heap.size + 1) 194 (boolsC fun j => decide (j < k) && P.spot x m j))) (fun i _ => x.cn - 1 - (intOf i).toNat)
  case atStart => exact ⟨0, Nat.zero_le _, rfl, hid ⟨he, hb4, by simpa [boolsC] using hb5⟩⟩
  case round =>
    obtain ⟨k, hk', rfl, HI⟩ := hrel
    have kd := (hk.ext HI.out.1).cell
    have kdl := (hk.ext HI.out.1).lt
    by_cases hlt : k < x.cn - 1
    · have h5 := HI.out.2.2.lt
      have c5 : wr.cell? ⟨w.heap.size + 1, k, none⟩ = some (.bool false) := by rw [HI.out.2.2.cell, boolsC_at _ (by omega)]; simp
      have f5 := HI.out.2.2.frozen k
      have hlk : (Instr.lookup 187 (.map (some mb)) (.agg #[.int .i64 (k : Int), .int .i64 ((k : Int) + 1)]) false).run Tryz.prog wr = .ok (.int .i64 (P.th x k (k+1) : Int)) wr := by
        have := lookup_run (hmp.ext HI.out.1) k (k+1)
        rw [HL.out k (k+1) (by omega) (by omega)] at this
        simpa using this
      have ha := and64 (P.th_lt hx k (k+1)) hm
      have HS : Hid (P.spot x m k = decide (P.th x k (k+1) &&& m ≠ 0)) := hid (by unfold P.spot; rw [decide_eq_true (show k + 1 < x.cn by omega)]; rfl)
      have hki : (k : Int) < 8 := by omega
      have ha' : bits .and .i64 (P.th x k (k+1) : Int) (m : Int) = ((P.th x k (k+1) &&& m : Nat) : Int) := ha
      clear ha
      generalize P.th x k (k+1) &&& m = q at *
      have HQ : Hid (((q : Int) != 0) = P.spot x m k) := hid (by rw [HS.out]; by_cases h : q = 0 <;> simp [h])
      go_wp2
      go_roundw
      case rel =>
        refine ⟨k + 1, by omega, by go_num, hid ⟨HI.out.1.setCell _ (by simp), HI.out.2.1.far (by simp) _, ?_⟩⟩
        have h1 := HI.out.2.2.set_ k (.bool ((q : Int) != 0))
        rw [boolsC_set _ (by omega)] at h1
        have e2 : (fun j => if j = k then ((q : Int) != 0) else decide (j < k) && P.spot x m j) = fun j => decide (j < k + 1) && P.spot x m j := by
          funext j
          by_cases hj : j = k
          · rw [if_pos hj, HQ.out, hj]; simp
          · have : decide (j < k) = decide (j < k + 1) := by simp; omega
            simp [hj, this]
        rw [e2] at h1
        exact h1
      case measure => simp [intOf]; omega
    · have k4 := HI.out.2.1.cell
      have f4 := HI.out.2.1.frozen
      have k4l := HI.out.2.1.lt
      have k5 := HI.out.2.2.cell
      have k5l := HI.out.2.2.lt
      obtain rfl : k = x.cn - 1 := by omega
      have e2 : (fun j => decide (j < x.cn - 1) && P.spot x m j) = P.spot x m := by
        funext j
        unfold P.spot
        by_cases hj : j < x.cn - 1
        · simp [hj]
        · have : ¬ j + 1 < x.cn := by omega
          simp [this]
      rw [e2] at k5
      unfold boolsC at k4 k5
      have hki : ((x.cn - 1 : Nat) : Int) = (x.cn : Int) - 1 := by omega
      go_wp2
      exact bodyPost_ret (v := .agg (boolsC (P.spot x m))) (by simp [results, Tryz.results139, go_sem, k4, boolsC]) rfl ⟨rfl, (((((((HI.out.1.setCell _ (by simp)).setCell _ (by simp)).setCell _ (by simp)).setCell _ (by simp)).setCell _ (by simp)).setCell _ (by simp)).setCell _ (by simp)).setCell _ (by simp)⟩
theorem ends_any {own : Nat → Bool} {a b : Nat} (hab : a ≤ b) (hb : b ≤ 8) (w : World) (v : Value) (hv : ∃ p, v = .pointer p) :
    Calls Tryz.prog 194 #[v, .agg #[.int .i64 (a : Int), .int .i64 (b : Int)], .agg (boolsC own)] w fun e w' => e = .returned (.tuple #[.int .i64 (P.firstTo own a b (b - a)), .int .i64 (P.lastTo own a (b - a))]) ∧ Ext w w' := by
  obtain ⟨p, rfl⟩ := hv
  have hbc : ∀ i : Nat, i < 8 → (boolsC own)[i]? = some (.bool (own i)) := fun _ h => boolsC_at own h
  have HB := hid hbc
  clear hbc
  unfold boolsC at HB ⊢
  go_enter Tryz.func194, Tryz.ntmps194
  go_wp2
  refine wp_later fun w1 hw1 => ?_
  obtain ⟨he, hb4, hb5⟩ := hw1.newB2
  clear hw1
  have k4 := hb4.cell
  have k4l := hb4.lt
  have k5l := hb5.lt
  go_loop [6, 7, 8] (fun f l i => ∃ k : Nat, k ≤ b - a ∧ i = .int .i64 ((a + k : Nat) : Int) ∧ f = .int .i64 (P.firstTo own a b k) ∧ l = .int .i64 (P.lastTo own a k)) (fun _ _ i => b - (intOf i).toNat)
  case atStart => exact ⟨0, Nat.zero_le _, by go_num, rfl, rfl⟩
  case round =>
    obtain ⟨k, hk, rfl, rfl, rfl⟩ := hrel
    have h1 := P.firstTo_bd (own := own) (a := a) (b := b) (by omega) k
    have h2 := P.lastTo_bd (own := own) (a := a) k
    by_cases hlt : a + k < b
    · have c5 : w1.cell? ⟨w.heap.size + 1, a + k, none⟩ = some (.bool (own (a + k))) := by rw [hb5.cell]; exact HB.out _ (by omega)
      have HF : Hid (P.firstTo own a b (k+1) = if own (a + k) then min (P.firstTo own a b k) (a + k : Nat) else P.firstTo own a b k) := hid rfl
      have HG : Hid (P.lastTo own a (k+1) = if own (a + k) then ((a + k : Nat) : Int) else P.lastTo own a k) := hid rfl
      have hi8 : ((a + k : Nat) : Int) < 8 := by omega
      cases ho : own (a + k)
      all_goals
        rw [ho] at c5 HF HG
        clear ho
        go_wp2
        go_round
        case rel => exact ⟨k + 1, by omega, by go_num, by rw [HF.out]; simp; try (split <;> omega), by rw [HG.out]; simp⟩
        case measure => simp [intOf]; omega
    · go_wp2
      go_ret2
      obtain rfl : k = b - a := by omega
      exact ⟨rfl, he⟩
end Go.Proofs.YtkhjmedfhobebaaGreat
