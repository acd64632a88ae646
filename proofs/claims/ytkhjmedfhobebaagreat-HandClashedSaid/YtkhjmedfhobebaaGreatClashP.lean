/- What the law of clashes asks: plain law, and its two tests as contracts. No condition. -/
import Derived.Test.YtkhjmedfhobebaaGreatDel
import Derived.Test.YtkhjmedfhobebaaGreatDoY
import Derived.Test.YtkhjmedfhobebaaGreatRefK
namespace HandSpec
namespace L
open R P Go Go.Proofs.YtkhjmedfhobebaaGreat
variable {y : WD}
/-- A stretch shows a clash. -/
def clashK (y : WD) (k : Nat) : Bool := R.clashB y (nth (stretches y.cn) k)
theorem clashK_none (h : R.clashes y = none) : ∀ j, j < (stretches y.cn).length → clashK y j = false := fun j hj => by
  unfold R.clashes at h
  rw [List.find?_eq_none] at h
  have := h (nth (stretches y.cn) j) (by rw [nth_get _ hj]; exact List.getElem_mem hj)
  exact Bool.eq_false_iff.2 this
theorem clashK_some {s : Nat × Nat} (h : R.clashes y = some s) : ∃ j, j < (stretches y.cn).length ∧ nth (stretches y.cn) j = s ∧ clashK y j = true ∧ ∀ i, i < j → clashK y i = false := by
  unfold R.clashes at h
  rw [List.find?_eq_some_iff_getElem] at h
  obtain ⟨h1, j, hj, h2, h3⟩ := h
  refine ⟨j, hj, by rw [nth_get _ hj]; exact h2, ?_, fun i hi => ?_⟩
  · unfold clashK; rw [nth_get _ hj, h2]; exact h1
  · have := h3 i hi
    unfold clashK
    rw [nth_get _ (by omega)]
    simpa using this
/-- All hands. -/
def allH (y : WD) : List Nat := List.range y.hands.toNat
theorem there_any (y : WD) (a b : Nat) : (R.there y a b).isEmpty = !((allH y).any fun h : Nat => R.is y a b h) := by
  unfold R.there allH
  rw [Bool.eq_iff_iff, List.isEmpty_iff, List.filter_eq_nil_iff]
  simp
/-- What the test of a stretch returns. -/
theorem clashB_any (y : WD) (a b : Nat) : R.clashB y (a, b) = (decide (y.c a 2 + R.booked y a b < y.c b 1) || (decide (0 < R.gap y a b) && !((allH y).any fun h : Nat => R.is y a b h))) := by
  unfold R.clashB
  rw [there_any]
theorem allH_len (y : WD) : (allH y).length = y.hands.toNat := by simp [allH]
theorem allH_at (y : WD) {k : Nat} (h : k < y.hands.toNat) : rowsAt (rows1 (allH y)) k 0 = (k : Int) := by
  unfold rowsAt rows1 allH
  simp [h]
theorem allH_listE (hy : Ok y) : lE y (rowsAt (rows1 (allH y))) (allH y).length = 0 := by
  have hh := hy.hands
  have h1 : badL y (rowsAt (rows1 (allH y))) (allH y).length = false := by
    unfold badL
    rw [anyTo_false]
    intro k hk
    rw [allH_len] at hk
    rw [allH_at y hk]
    simp [inB]; omega
  have h2 : dupL (rowsAt (rows1 (allH y))) (allH y).length = false := by
    unfold dupL
    rw [anyTo_false]
    intro k hk
    rw [allH_len] at hk
    rw [anyTo_false]
    intro i hi
    rw [allH_at y hk, allH_at y (by omega)]
    simp; omega
  unfold lE listE
  rw [if_neg (fun h => h (chk_of hy)), h1, h2]
  simp
theorem allH_set (y : WD) : P.set (natL (rowsAt (rows1 (allH y))) (allH y).length) = whole y := by
  have e : natL (rowsAt (rows1 (allH y))) (allH y).length = allH y := by
    unfold natL
    rw [allH_len]
    unfold allH
    apply List.ext_getElem (by simp)
    intro i h1 h2
    simp only [List.length_map, List.length_range] at h1
    have := allH_at y h1
    unfold allH at this
    simp [this]
  rw [e]
  apply Nat.eq_of_testBit_eq
  intro h
  rw [F.set_bit, whole_bit]
  unfold allH
  simp
theorem allH_left (hy : Ok y) (hc : R.clashes y = none) : (P.left y (P.set (natL (rowsAt (rows1 (allH y))) (allH y).length))).isEmpty = true := by
  have hw : fwOk y (whole y) = true := by
    have := clash_iff hy
    rw [hc] at this
    cases h : fwOk y (whole y) with
    | true => rfl
    | false => rw [h] at this; cases this
  rw [allH_set, F.left_fw hy hw]
  exact hw
end L
end HandSpec
namespace Go.Proofs.YtkhjmedfhobebaaGreat
open Go.RowKit HandSpec
set_option maxHeartbeats 1600000
set_option maxRecDepth 100000
/-- The test of a spell: it is that of a hand. -/
theorem run89 {w : World} {b4 b7 : Nat} {wh : Nat} {hands : Int} (hw : wh < 256) (hh : 1 ≤ hands ∧ hands ≤ 6) {x0 x1 v3 v4 v5 : Value} (h4 : Blk w b4 5 #[.int .u8 (wh : Int)]) (h7 : Blk w b7 26 #[x0, x1, .int .i64 hands, v3, v4, v5]) (a b c : Int) :
    Calls Tryz.prog 89 #[.agg #[.int .i64 a, .int .i64 b, .int .i64 c], .pointer (some ⟨b4, 0, none⟩), .pointer (some ⟨b7, 0, none⟩)] w fun e w' => e = .returned (.bool (decide (a = ((wh % hands.toNat : Nat) : Int)))) ∧ Ext w w' := by
  obtain ⟨hm, hm2⟩ := tmodN wh (show 0 < hands by omega)
  have hne : hands ≠ 0 := by omega
  obtain ⟨q, hq⟩ : ∃ q, q = wh % hands.toNat := ⟨_, rfl⟩
  rw [← hq] at hm hm2 ⊢
  clear hq
  have k4 := h4.cell
  have k4l := h4.lt
  have k7 := h7.cell
  have k7l := h7.lt
  go_enter Tryz.func89, Tryz.ntmps89
  go_upto_region 1 with fail
  refine wp_later fun w1 hw1 => ?_
  obtain ⟨E1, b3⟩ := hw1.newB
  have k3 := b3.cell
  have k3l := b3.lt
  replace k4 := (h4.ext E1).cell
  replace k4l := (h4.ext E1).lt
  replace k7 := (h7.ext E1).cell
  replace k7l := (h7.ext E1).lt
  clear hw1
  refine wp_region_later (by kernel_rfl) (by kernel_rfl) ?_
  repeat (go_big_quiet_step (fail))
  refine wpQuiet_nil ?_
  rintro w2 ⟨⟨_, he2⟩, rfl⟩
  go_wp2
  go_ret
  refine ⟨ret_bool ?_, E1.trans he2⟩
  rw [Bool.eq_iff_iff]; simp
/-- The test of a stretch: it shows a clash. -/
theorem run91 {y : WD} (hy : Ok y) {w : World} {b1 b2 : Nat} {A3 A4 A5 Ah : Option Addr} {c3 c4 c5 ch n : Nat} (h1 : Blk w b1 26 #[.int .i64 y.hours, .int .i64 y.allow, .int .i64 y.hands, .slice A3 y.cn c3, .slice A4 y.bn c4, .slice A5 y.sn c5])
    (hv : IsW w (.agg #[.int .i64 y.hours, .int .i64 y.allow, .int .i64 y.hands, .slice A3 y.cn c3, .slice A4 y.bn c4, .slice A5 y.sn c5]) y) (h2 : Blk w b2 56 #[.slice Ah n ch]) (hs : SlR w 1 (.slice Ah n ch) (rows1 (L.allH y))) {a b : Nat} (hab : a < b) (hb : b < y.cn) :
    Calls Tryz.prog 91 #[.agg #[.int .i64 (a : Int), .int .i64 (b : Int)], .pointer (some ⟨b1, 0, none⟩), .pointer (some ⟨b2, 0, none⟩)] w fun e w' => e = .returned (.bool (R.clashB y (a, b))) ∧ Ext w w' := by
  have HV := hid hv
  have HS := hid hs
  have ha : a < y.cn := by omega
  have hl := L.clashB_any y a b
  obtain ⟨cb, co, hA3, hcb, -, -, a2⟩ := (IsW.rdC hv).at3 ha
  obtain ⟨_, _, hq, -, -, d1, -⟩ := (IsW.rdC hv).at3 hb
  obtain ⟨rfl, rfl⟩ := same_addr hq hA3
  subst hA3
  have g4 := hy.hi a ha
  have g5 := hy.lo b hb
  have g7 := R.booked_bound hy a b
  have hm1 : ((a : Nat) : Int) < y.cn := by omega
  have hm2 : ((b : Nat) : Int) < y.cn := by omega
  have hln : (L.allH y).length ≤ 1000 := by have := L.allH_len y; have := hy.hands; omega
  have HL := hid hl
  have HA := hid hab
  have HBB := hid hb
  have HY := hid hy
  have HLN := hid hln
  clear hq hv hs hl hab hb hy hln
  obtain ⟨bk, hbk⟩ : ∃ z, z = R.booked y a b := ⟨_, rfl⟩
  obtain ⟨gp, hgp⟩ : ∃ z, z = R.gap y a b := ⟨_, rfl⟩
  obtain ⟨mt, hmt⟩ : ∃ z, z = (L.allH y).any fun h : Nat => R.is y a b h := ⟨_, rfl⟩
  have C92 := hid (fun W (e : Ext w W) => (by rw [hbk]; exact books92 HY.out (HV.out.ext e) (by have := HA.out; omega) HBB.out : Calls Tryz.prog 92 #[.agg #[.int .i64 y.hours, .int .i64 y.allow, .int .i64 y.hands, .slice (some ⟨cb, co, none⟩) y.cn c3, .slice A4 y.bn c4, .slice A5 y.sn c5], .int .i64 (a : Int), .int .i64 (b : Int)] W fun e w' => e = .returned (.int .i64 bk) ∧ Ext W w'))
  have C74 := hid (fun W (e : Ext w W) => (by rw [hgp]; exact gap74 HY.out (HV.out.ext e) HA.out HBB.out : Calls Tryz.prog 74 #[.agg #[.int .i64 y.hours, .int .i64 y.allow, .int .i64 y.hands, .slice (some ⟨cb, co, none⟩) y.cn c3, .slice A4 y.bn c4, .slice A5 y.sn c5], .agg #[.int .i64 (a : Int), .int .i64 (b : Int)]] W fun e w' => e = .returned (.int .i64 gp) ∧ Ext W w'))
  have C93 := hid (fun W (e : Ext w W) => (by rw [hmt]; exact met93 HY.out (HV.out.ext e) HA.out HBB.out (HS.out.ext e) HLN.out : Calls Tryz.prog 93 #[.agg #[.int .i64 y.hours, .int .i64 y.allow, .int .i64 y.hands, .slice (some ⟨cb, co, none⟩) y.cn c3, .slice A4 y.bn c4, .slice A5 y.sn c5], .slice Ah n ch, .agg #[.int .i64 (a : Int), .int .i64 (b : Int)]] W fun e w' => e = .returned (.bool mt) ∧ Ext W w'))
  rw [← hbk, ← hgp, ← hmt] at HL
  rw [← hbk] at g7
  clear hbk hgp hmt
  go_enter Tryz.func91, Tryz.ntmps91
  go_upto_region 1 with fail
  refine wp_later fun w1 hw1 => ?_
  obtain ⟨E1, b3⟩ := hw1.newB
  have k3 := b3.cell
  have k3l := b3.lt
  have k1 := (h1.ext E1).cell
  have k1l := (h1.ext E1).lt
  have k2 := (h2.ext E1).cell
  have k2l := (h2.ext E1).lt
  have a2 := E1.some_ a2
  have d1 := E1.some_ d1
  have hcb1 : cb < w1.heap.size := Nat.lt_of_lt_of_le hcb E1.size
  clear hw1 hcb
  cases q1 : decide (y.c a 2 + bk < y.c b 1) <;> cases q2 : decide (0 < gp) <;> cases q3 : mt
  all_goals
    subst q3
    refine wp_region_later (by kernel_rfl) (by kernel_rfl) ?_
    repeat (go_big_quiet_step (first | (go_at_call 92; exact Calls.later (C92.out _ (E1.trans (Later.ext _)))) | (go_at_call 74; exact Calls.later (C74.out _ (E1.trans (Later.ext _)))) | (go_at_call 93; exact Calls.later (C93.out _ (E1.trans (Later.ext _))))))
    refine wpQuiet_nil ?_
    rintro w2 ⟨⟨_, he2⟩, rfl⟩
    go_wp2
    go_ret
    refine ⟨ret_bool ?_, E1.trans he2⟩
    rw [HL.out, q1, q2]
    rfl
end Go.Proofs.YtkhjmedfhobebaaGreat
