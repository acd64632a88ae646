/- Walk of the reference's Taken: the least that some hands have taken. The watch is right, as Ok says. -/
import Derived.Test.YtkhjmedfhobebaaGreatRefG
import Derived.Test.YtkhjmedfhobebaaGreatDoA
import Derived.Test.YtkhjmedfhobebaaGreatMathL
import Derived.Test.YtkhjmedfhobebaaGreatGenB
namespace Go.Proofs.YtkhjmedfhobebaaGreat
open Go.RowKit HandSpec
set_option maxHeartbeats 1600000
set_option maxRecDepth 100000
/-- A slice of zeros, made at once. -/
theorem wpList_make56 {w : World} {ops : Array Oper} {rest : List Oper} {o : Oper} {a : Act} {Q : Exit → Act → World → Prop} (hg : o.guard = none) (l c : Operand) (ho : o.op = Op.makeSlice 56 l c) (n : Nat) (L C : Int) (hl : a.eval l = .int .i64 L) (hc : a.eval c = .int .i64 C) (hL : L = (n : Int)) (hC : C = (n : Int)) (hn : n ≤ 100000)
  (h : ∀ w', Ext w w' → Arr w' w.heap.size n (fun _ => 0) → wpList Tryz.prog ops Q rest (a.put o.dst (.slice (some ⟨w.heap.size, 0, none⟩) n n)) w') : wpList Tryz.prog ops Q (o :: rest) a w := by
 obtain ⟨i, z, hi, hz, h1, h2, h3⟩ := el56.i
 obtain ⟨i', hi', e1, e2, e3⟩ := info_parts (show (Tryz.prog.info? 3).map (fun i => (i.zero, i.size, i.bytes)) = some (some (.int .i64 0), 1, 8) by kernel_rfl)
 obtain rfl : i = i' := Option.some.inj (hi.symm.trans hi')
 obtain rfl : z = .int .i64 0 := Option.some.inj (hz.symm.trans e1)
 refine wpList_make_full w hg l c 56 ho w.heap.size 3 i (.int .i64 0) 1 Tryz.underlying56 hi hz h1 .i64 .i64 L C n hl hc hL hC (by rw [h2]; omega) (by unfold maxLen; omega) (Nat.le_refl _) fun w' hown hg' => ?_
 refine h w' ((Ext.refl _).grown hg' (fun k hk => by cases hk)) ?_
 have hcells : (madeCells (Value.int .i64 0).cells (n * 1)).toList = cellsOf (List.replicate n [(0 : Int)]) := by
  refine List.ext_getElem? fun j => ?_
  by_cases hj : j < n
  ·have := cellsOf_get (c := 1) (l := List.replicate n [(0 : Int)]) (by simp) (k := j) (j := 0) (by simpa using hj) (by omega)
   rw [Nat.mul_one, Nat.add_zero] at this
   rw [this]
   simp [madeCells, hj, Value.cells, Nat.mod_one]
  ·have h1 : (cellsOf (List.replicate n [(0 : Int)])).length = n * 1 := by rw [cellsOf_length (c := 1) (by simp)]; simp
   rw [List.getElem?_eq_none (l := cellsOf (List.replicate n [(0 : Int)])) (by rw [h1]; omega)]
   simp [madeCells]
   omega
 have ho' : OwnR w' w.heap.size 3 1 (.slice (some ⟨w.heap.size, 0, none⟩) n n) (List.replicate n [(0 : Int)]) := ⟨by simp, by rw [← hcells, List.length_replicate]; exact hown⟩
 rcases OwnR.arr ho' with ⟨h1, -⟩ | ⟨g, cap, h1, -, -, ha⟩
 ·cases h1
 ·simp only [Value.slice.injEq, Option.some.injEq, Addr.mk.injEq, and_true] at h1
  obtain ⟨rfl, -, -⟩ := h1
  rw [List.length_replicate] at ha
  exact (ha.mono (by omega)).congr fun i hi => by simp [rowsAt, hi, Nat.mod_one]
theorem width_pos {x : WD} (hx : Ok x) {i : Nat} (hi : i < x.cn) : 0 < R.width x i ∧ R.width x i ≤ 501 ∧ ((R.width x i : Nat) : Int) = x.c i 2 - x.c i 1 + 1 := by
 have h1 := hx.lo i hi
 have h2 := hx.hi i hi
 have h3 := hx.le i hi
 unfold R.width
 omega
/-- What the next numbers are, while they are found. -/
def nextAt (x : WD) (m i k q : Nat) (t : Nat) : Int := if t < k then R.tk x m (i+1) t else if t = k then R.trow x m i (R.tk x m i) k q else 0
theorem tk_bd (x : WD) (m : Nat) : ∀ i, ∀ k, R.tk x m i k ≤ R.never
 | 0, _ => by show (0 : Int) ≤ R.never; unfold R.never; omega
 | i+1, k => by
  have : ∀ n, R.trow x m i (R.tk x m i) k n ≤ R.never := by
   intro n
   induction n with
   | zero => exact Int.le_refl _
   | succ n ih =>
    show R.tstep x m i (R.tk x m i) k _ n ≤ _
    rcases R.tstep_eq x m i (R.tk x m i) k (R.trow x m i (R.tk x m i) k n) n with ⟨_, e⟩ | ⟨_, e⟩ <;> omega
  exact this _
theorem trow_bd (x : WD) (m i : Nat) (k : Nat) : ∀ n, 0 ≤ R.trow x m i (R.tk x m i) k n ∧ R.trow x m i (R.tk x m i) k n ≤ R.never
 | 0 => by show 0 ≤ R.never ∧ R.never ≤ R.never; unfold R.never; omega
 | n+1 => by
  have ih := trow_bd x m i k n
  have h1 := R.tk_nonneg x m i n
  have h2 := R.cost_nonneg x m i n k
  show 0 ≤ R.tstep x m i (R.tk x m i) k _ n ∧ R.tstep x m i (R.tk x m i) k _ n ≤ _
  rcases R.tstep_eq x m i (R.tk x m i) k (R.trow x m i (R.tk x m i) k n) n with ⟨_, e⟩ | ⟨_, e⟩ <;> omega
theorem trow_no {x : WD} {m i k j : Nat} (h : ¬ R.stepOk x i j k) : R.trow x m i (R.tk x m i) k (j+1) = R.trow x m i (R.tk x m i) k j := by
 show R.tstep x m i (R.tk x m i) k _ j = _
 rcases R.tstep_eq x m i (R.tk x m i) k (R.trow x m i (R.tk x m i) k j) j with ⟨hs, _⟩ | ⟨_, e⟩
 ·exact absurd hs h
 ·exact e
theorem trow_yes {x : WD} {m i k j : Nat} (h : R.stepOk x i j k) : R.trow x m i (R.tk x m i) k (j+1) = min (R.trow x m i (R.tk x m i) k j) (R.tk x m i j + R.cost x m i j k) := by
 show R.tstep x m i (R.tk x m i) k _ j = _
 rcases R.tstep_eq x m i (R.tk x m i) k (R.trow x m i (R.tk x m i) k j) j with ⟨_, e⟩ | ⟨hn, _⟩
 ·exact e
 ·exact absurd h hn
/-- The numbers of the next count, while number k is found from the first j before. -/
def nxtAt (x : WD) (m i k j : Nat) (t : Nat) : Int := if t < k then R.tk x m (i+1) t else if t = k then R.trow x m i (R.tk x m i) k j else 0
def nxtTo (x : WD) (m i k : Nat) (t : Nat) : Int := if t < k then R.tk x m (i+1) t else 0
theorem nxt_start (x : WD) (m i k t : Nat) : upd (nxtTo x m i k) k 1000000 t = nxtAt x m i k 0 t := by
 unfold upd nxtTo nxtAt
 by_cases h : t = k
 ·subst h
  rw [if_pos rfl, if_neg (Nat.lt_irrefl _), if_pos rfl]; rfl
 ·rw [if_neg h, if_neg h]
theorem nxt_set (x : WD) (m i k j t : Nat) (z : Int) (hz : z = R.trow x m i (R.tk x m i) k (j+1)) : upd (nxtAt x m i k j) k z t = nxtAt x m i k (j+1) t := by
 unfold upd nxtAt
 by_cases h : t = k
 ·subst h
  rw [if_pos rfl, if_neg (Nat.lt_irrefl _), if_pos rfl, hz]
 ·rw [if_neg h, if_neg h, if_neg h]
theorem nxt_end (x : WD) (m i k t : Nat) : nxtAt x m i k (R.width x i) t = nxtTo x m i (k+1) t := by
 unfold nxtAt nxtTo
 by_cases h : t = k
 ·subst h
  rw [if_neg (Nat.lt_irrefl _), if_pos rfl, if_pos (by omega)]; rfl
 ·rw [if_neg h]
  by_cases h2 : t < k
  ·rw [if_pos h2, if_pos (by omega)]
  ·rw [if_neg h2, if_neg (by omega)]
theorem hours_bd {x : WD} (hx : Ok x) {i : Nat} (h : i + 1 < x.cn) : 0 ≤ R.hours x i (i+1) ∧ R.hours x i (i+1) ≤ 60 := by
 have h1 := hx.hour i (by omega)
 have h2 := hx.hour (i+1) h
 have h3 := hx.hours
 have h4 := hx.inc i h
 unfold R.hours; omega
theorem al_bd {x : WD} (hx : Ok x) {i : Nat} (h : i + 1 < x.cn) : 0 ≤ x.allow * R.hours x i (i+1) ∧ x.allow * R.hours x i (i+1) ≤ 1200 := by
 obtain ⟨h1, h2⟩ := hours_bd hx h
 obtain ⟨h3, h4⟩ := hx.allow
 refine ⟨Int.mul_nonneg h3 h1, ?_⟩
 have := Int.mul_le_mul_of_nonneg_left h2 h3
 omega
theorem whole_any2 {x : WD} (hx : Ok x) {w : World} {v : Value} (hv : IsW w v x) :
  Calls Tryz.prog 23 #[v] w fun e w' => e = .returned (.int .i64 ((R.whole x : Nat) : Int)) ∧ Ext w w' := whole_any hx hv
theorem can_one {x : WD} (hx : Ok x) {w : World} {v : Value} (hv : IsW w v x) (m : Nat) (hm : m < 64) (i : Nat) (hi : i + 1 < x.cn) {b : Bool} (hb : R.can x m i = b) :
  Calls Tryz.prog 118 #[v, .int .i64 (m : Int), .int .i64 (i : Int)] w fun e w' => e = .returned (.bool b) ∧ Ext w w' := by
 have h := can_any hx hv m (Nat.lt_trans hm (by decide)) i hi
 rw [hb] at h
 exact h
theorem nxt_cell {W : World} {g N : Nat} {x : WD} {m i k j : Nat} (a : Arr W g N (nxtAt x m i k j)) (hk : k < N) : W.cell? ⟨g, k, none⟩ = some (.int .i64 (R.trow x m i (R.tk x m i) k j)) := by
 have h := a.cell hk
 have e : nxtAt x m i k j k = R.trow x m i (R.tk x m i) k j := by unfold nxtAt; rw [if_neg (Nat.lt_irrefl k), if_pos rfl]
 rw [e] at h
 exact h
theorem nxt_keep (x : WD) (m i k j t : Nat) (h : R.trow x m i (R.tk x m i) k (j+1) = R.trow x m i (R.tk x m i) k j) : nxtAt x m i k (j+1) t = nxtAt x m i k j t := by unfold nxtAt; rw [h]
theorem whole_lt' {x : WD} (hx : Ok x) : R.whole x < 64 := by
 have h2 := hx.hands
 have : 2 ^ x.hands.toNat ≤ 2 ^ 6 := Nat.pow_le_pow_right (by omega) (by omega)
 unfold R.whole; omega
theorem taken_any {x : WD} (hx : Ok x) {w : World} {v : Value} (hv : IsW w v x) {m : Nat} (hm : m ≤ R.whole x) :
  Calls Tryz.prog 24 #[v, .int .i64 (m : Int)] w fun e w' => e = .returned (.int .i64 (R.taken x m)) ∧ Ext w w' := by
 have hv0 := hid hv
 have hwl := whole_lt' hx
 have HWM := hid (show ((R.whole x : Nat) : Int) - (m : Int) = ((R.whole x - m : Nat) : Int) by omega)
 obtain ⟨A1, c1, A2, c2, A3, c3, rfl, r1, r2, r3⟩ := hv
 have hcn := hx.cn
 obtain ⟨cb, co, rfl, hcb, ca0, ca1, ca2⟩ := r1.at3 (show 0 < x.cn by omega)
 simp only [Nat.zero_mul, Nat.add_zero] at ca0 ca1 ca2
 have R1 := hid r1
 clear r1 r2 r3
 have hw0 := width_pos hx (show 0 < x.cn by omega)
 have hlo0 := hx.lo 0 (by omega)
 have hhi0 := hx.hi 0 (by omega)
 go_enter Tryz.func24, Tryz.ntmps24
 go_upto_region 2 with fail
 refine wp_later fun w1 hw1 => ?_
 obtain ⟨he1, hk0, hk5⟩ := hw1.newB2
 have k0 := hk0.cell
 have k5 := hk5.cell
 have k0l := hk0.lt
 have k5l := hk5.lt
 clear hw1
 go_upto_region 3 with (at_make; refine wpList_make56 rfl _ _ rfl (R.width x 0) _ _ rfl rfl (by omega) (by omega) (by omega) ?_; intro w2 he2 ha2)
 have hg2 : w.heap.size < w1.heap.size := by have := he1.size; omega
 have k0 := (hk0.ext he2).cell
 have hk0 := hk0.ext he2
 have he2 := he1.trans he2
 have ha2 : Arr w2 w1.heap.size (R.width x 0) (fun j => R.tk x m 0 j) := ha2
 have HB0 := hid hk0
 clear hk5 k5 k5l k0 k0l hk0
 clear he1 ca0 ca1 ca2 hlo0 hhi0 hw0 hcb
 go_wp2_with fail
 go_loopw [6, 7] (fun s6 s7 wr => ∃ i : Nat, i + 1 ≤ x.cn ∧ s7 = .int .i64 (i : Int) ∧ ∃ g, s6 = .slice (some ⟨g, 0, none⟩) (R.width x i) (R.width x i) ∧ w.heap.size < g ∧ Arr wr g (R.width x i) (fun j => R.tk x m i j) ∧ Ext w wr ∧ Blk wr w.heap.size 34 #[.int .i64 x.hours, .int .i64 x.allow, .int .i64 x.hands, .slice (some ⟨cb, co, none⟩) x.cn c1, .slice A2 x.bn c2, .slice A3 x.sn c3]) (fun _ s7 _ => x.cn - (intOf s7).toNat)
 case atStart => exact ⟨0, by omega, rfl, _, rfl, hg2, ha2, he2, HB0.out⟩
 case round =>
  clear HB0 ha2 he2 k0 hg2
  obtain ⟨i, hi, rfl, g, rfl, hg, ha, he, hb0⟩ := hrel
  have k0 := hb0.cell
  have k0l := hb0.lt
  by_cases hlt : i + 1 < x.cn
  ·obtain ⟨_, _, hq, _, d0, d1, d2⟩ := (R1.out.ext he).at3 (show i < x.cn by omega)
   obtain ⟨rfl, rfl⟩ := same_addr hq rfl
   obtain ⟨_, _, hq2, _, f0, f1, f2⟩ := (R1.out.ext he).at3 hlt
   obtain ⟨rfl, rfl⟩ := same_addr hq2 rfl
   have hwi := width_pos hx (show i < x.cn by omega)
   have hwn := width_pos hx hlt
   have hlo := hx.lo i (by omega)
   have hhi := hx.hi i (by omega)
   have hlo' := hx.lo (i+1) hlt
   have hhi' := hx.hi (i+1) hlt
   clear hq hq2
   go_upto_region 7 with fail
   refine wp_later fun w3 hw3 => ?_
   obtain ⟨he3, hb8⟩ := hw3.newB
   have k0 := (hb0.ext he3).cell
   have d1 := he3.some_ d1
   have d2 := he3.some_ d2
   have f1 := he3.some_ f1
   have f2 := he3.some_ f2
   have hw3l := hb8.lt
   clear hw3
   have hm1 : (i : Int) < (x.cn : Int) := by omega
   have hm2 : (i : Int) + 1 < (x.cn : Int) := by omega
   have hm0 : 0 ≤ (i : Int) + 1 := by omega
   have hm3 : IntKind.i64.wrap ((i : Int) + 1) = (i : Int) + 1 := IntWalk.i64_in _ (by omega)
   have hm4 : ((i : Int) + 1).toNat = i + 1 := by omega
   go_cut [9, 10] (fun s9 s10 wx => ∃ g9 g10 : Nat, s9 = .pointer (some ⟨g9, 0, none⟩) ∧ s10 = .pointer (some ⟨g10, 0, none⟩) ∧ Ext w3 wx ∧ Blk wx g9 67 #[.int .i64 (x.c i 1), .int .i64 (x.c i 2)] ∧ Blk wx g10 67 #[.int .i64 (x.c (i+1) 1), .int .i64 (x.c (i+1) 2)])
   case first =>
    go_region_held3 (fun w' => Ext w3 w' ∧ ∀ b o, (w3.cell? ⟨b, o, none⟩).isSome = true → w'.cell? ⟨b, o, none⟩ = w3.cell? ⟨b, o, none⟩) (exact Ext.sees (by repeat (first | exact Ext.refl _ | refine Ext.drew ?_ | refine Ext.alloc ?_ _ | (refine Ext.setCell ?_ _ (by simp <;> omega))))) (fail)
    ·go_wp2_with fail
     go_meet
     exact ⟨_, _, rfl, rfl, (((Ext.refl _).alloc _).alloc _).drew, (blk2 _).1, (blk2 _).2⟩
    ·go_wp2_with fail
     go_meet
     exact ⟨_, _, rfl, rfl, (((Ext.refl _).alloc _).alloc _).drew, (blk2 _).2, (blk2 _).1⟩
   case rest =>
    obtain ⟨g9, g10, rfl, rfl, he4, q9, q10⟩ := hcut
    go_upto_region 8 with fail
    refine wp_later fun w5 hw5 => ?_
    have q9 := q9.ext hw5
    have q10 := q10.ext hw5
    have E5 : Ext wr w5 := he3.trans (he4.trans hw5)
    have hb0 := hb0.ext E5
    have ha := ha.ext E5
    have hb8 := hb8.ext (he4.trans hw5)
    have E0 : Ext w w5 := he.trans E5
    clear hm3 hm4 d0 d1 d2 f0 f1 f2 k0 he he3 he4 hw5 E5
    have k0 := hb0.cell
    have k0l := hb0.lt
    have k10 := q10.cell
    have k10l := q10.lt
    go_upto_region 9 with (at_make; refine wpList_make56 rfl _ _ rfl (R.width x (i+1)) _ _ rfl rfl (by omega) (by omega) (by omega) ?_; intro w6 he6 ha6)
    have g5 : w.heap.size < w5.heap.size := by have := ha.1; omega
    clear k0 k0l k10 k10l
    go_wp2_with fail
    go_loopw [12] (fun s12 wk => ∃ k : Nat, k ≤ R.width x (i+1) ∧ s12 = .int .i64 (k : Int) ∧ Ext w5 wk ∧ Arr wk w5.heap.size (R.width x (i+1)) (nxtTo x m i k)) (fun s12 _ => R.width x (i+1) - (intOf s12).toNat)
    case atStart => exact ⟨0, Nat.zero_le _, rfl, he6, ha6.congr fun t _ => by simp [nxtTo]⟩
    case round =>
     clear ha6 he6
     obtain ⟨k, hk, rfl, hek, hak⟩ := hrel
     by_cases hkl : k < R.width x (i+1)
     ·have c12 := hak.cell hkl
      have f12 := hak.frozen hkl
      have hakl := hak.1
      go_wp2_with fail
      go_loopw [13] (fun s13 wj => ∃ j : Nat, j ≤ R.width x i ∧ s13 = .int .i64 (j : Int) ∧ Ext w5 wj ∧ Arr wj w5.heap.size (R.width x (i+1)) (nxtAt x m i k j)) (fun s13 _ => R.width x i - (intOf s13).toNat)
      case atStart => exact ⟨0, Nat.zero_le _, rfl, hek.setCell _ (by simp), (hak.set_ k 1000000 hkl).congr fun t _ => nxt_start x m i k t⟩
      case round =>
       clear c12 f12 hakl hek hak
       obtain ⟨j, hj, rfl, hej, haj⟩ := hrel
       by_cases hjl : j < R.width x i
       ·have k0 := (hb0.ext hej).cell
        have k0l := (hb0.ext hej).lt
        have k8 := (hb8.ext hej).cell
        have k8l := (hb8.ext hej).lt
        have k9 := (q9.ext hej).cell
        have k9l := (q9.ext hej).lt
        have k10 := (q10.ext hej).cell
        have k10l := (q10.ext hej).lt
        have hbk := R.booked_bound hx i (i+1)
        go_upto_region 16 with fail
        refine wp_region_later (by kernel_rfl) (by kernel_rfl) ?_
        repeat (go_big_quiet_step ((go_at_call 56; exact Calls.later (booked_any hx ((hv0.out.ext (E0.trans hej)).ext (Later.ext _)) i (i+1) (by omega) hlt))))
        refine wpQuiet_nil ?_
        rintro _ ⟨⟨w7, he7⟩, rfl⟩
        have he := hej.trans he7
        have k0 := (hb0.ext he).cell
        have k0l := (hb0.ext he).lt
        have k8 := (hb8.ext he).cell
        have k8l := (hb8.ext he).lt
        go_upto_region 17 with fail
        have hG1 : -5000 ≤ x.c i 1 + ↑j + R.booked x i (i + 1) - (x.c (i + 1) 1 + ↑k) ∧ x.c i 1 + ↑j + R.booked x i (i + 1) - (x.c (i + 1) 1 + ↑k) ≤ 5000 := by omega
        obtain ⟨G, hG⟩ : ∃ G, G = x.c i 1 + ↑j + R.booked x i (i + 1) - (x.c (i + 1) 1 + ↑k) := ⟨_, rfl⟩
        rw [← hG] at hG1 ⊢
        have HG := hid (show G = R.gone x i j k from hG)
        clear hG
        have hhr := hours_bd hx (show i + 1 < x.cn from hlt)
        have hmul := al_bd hx (show i + 1 < x.cn from hlt)
        refine wp_region_later (by kernel_rfl) (by kernel_rfl) ?_
        repeat (go_big_quiet_step ((go_at_call 119; exact Calls.later (hours_any hx ((hv0.out.ext (E0.trans he)).ext (Later.ext _)) i (i+1) (by omega) hlt))))
        refine wpQuiet_nil ?_
        rintro _ ⟨⟨w8, he8⟩, rfl⟩
        go_upto_region 18 with fail
        have E8 := he.trans he8
        have EJ8 := he7.trans he8
        obtain ⟨O, hO⟩ : ∃ O, O = (if x.allow * R.hours x i (i + 1) < G then G - x.allow * R.hours x i (i + 1) else 0) := ⟨_, rfl⟩
        rw [← hO]
        have hOb : 0 ≤ O ∧ O ≤ 7000 := by rw [hO]; split <;> omega
        have HO := hid (show O = R.over x i j k by
         rw [hO]; unfold R.over R.al; rw [← HG.out]; split <;> omega)
        have HOG := hid (show G ≤ R.al x i (i+1) ∨ 0 < O by rw [hO]; unfold R.al; split <;> omega)
        clear hO hG1 hmul hhr k8 k8l k9 k9l k10 k10l hbk
        have k0 := (hb0.ext E8).cell
        have k0l := (hb0.ext E8).lt
        by_cases hg0 : G < 0
        ·have HN := hid (show ¬ R.stepOk x i j k from fun h => by have := h.1; rw [← HG.out] at this; omega)
         refine wp_region_later (by kernel_rfl) (by kernel_rfl) ?_
         repeat (go_big_quiet_step ((fail)))
         refine wpQuiet_nil ?_
         rintro _ ⟨⟨w9, he9⟩, rfl⟩
         go_wp2_with fail
         go_roundw
         case rel => exact ⟨j + 1, by omega, by go_num, E8.trans he9, (haj.ext (EJ8.trans he9)).congr fun t _ => by rw [nxt_keep _ _ _ _ _ _ (trow_no HN.out)]⟩
         case measure => simp [intOf]; omega
        ·by_cases ho : 0 < O
         ·cases hcw : R.can x (R.whole x) i
          ·have HCW := hid hcw
           clear hcw
           have HN := hid (show ¬ R.stepOk x i j k from fun h => by have h2 := h.2 HCW.out; rw [← HG.out] at h2; have h3 := HO.out; unfold R.over at h3; rw [← HG.out] at h3; omega)
           refine wp_region_later (by kernel_rfl) (by kernel_rfl) ?_
           repeat (go_big_quiet_step (((first
            | (go_at_call 23; exact Calls.later (whole_any2 hx ((hv0.out.ext (E0.trans E8)).ext (Later.ext _))))
            | (go_at_call 118; exact Calls.later (can_one hx ((hv0.out.ext (E0.trans E8)).ext (Later.ext _)) (R.whole x) hwl i hlt HCW.out))))))
           refine wpQuiet_nil ?_
           rintro _ ⟨⟨w9, he9⟩, rfl⟩
           go_wp2_with fail
           go_roundw
           case rel => exact ⟨j + 1, by omega, by go_num, E8.trans he9, (haj.ext (EJ8.trans he9)).congr fun t _ => by rw [nxt_keep _ _ _ _ _ _ (trow_no HN.out)]⟩
           case measure => simp [intOf]; omega
          ·have HCW := hid hcw
           clear hcw
           have HY := hid (show R.stepOk x i j k from ⟨by rw [← HG.out]; omega, fun h => by rw [HCW.out] at h; cases h⟩)
           refine wp_region_later (by kernel_rfl) (by kernel_rfl) ?_
           repeat (go_big_quiet_step (((first
            | (go_at_call 23; exact Calls.later (whole_any2 hx ((hv0.out.ext (E0.trans E8)).ext (Later.ext _))))
            | (go_at_call 118; exact Calls.later (can_one hx ((hv0.out.ext (E0.trans E8)).ext (Later.ext _)) (R.whole x) hwl i hlt HCW.out))))))
           refine wpQuiet_nil ?_
           rintro _ ⟨⟨w9, he9⟩, rfl⟩
           have E9 := E8.trans he9
           have EJ9 := EJ8.trans he9
           cases hc : R.can x (R.whole x - m) i
           ·have HC := hid hc
            clear hc
            have k0 := (hb0.ext E9).cell
            have k0l := (hb0.ext E9).lt
            go_upto_region 19 with fail
            have h64 : R.whole x - m < 64 := by omega
            have hsub := HWM.out
            have hsub2 : IntKind.i64.wrap (((R.whole x : Nat) : Int) - (m : Int)) = ((R.whole x - m : Nat) : Int) := by rw [hsub]; exact IntWalk.i64_in _ (by omega)
            refine wp_region_later (by kernel_rfl) (by kernel_rfl) ?_
            repeat (go_big_quiet_step (((first
             | (go_at_call 23; exact Calls.later (whole_any2 hx ((hv0.out.ext (E0.trans E9)).ext (Later.ext _))))
             | (go_at_call 118; exact Calls.later (can_one hx ((hv0.out.ext (E0.trans E9)).ext (Later.ext _)) (R.whole x - m) h64 i hlt HC.out))))))
            refine wpQuiet_nil ?_
            rintro _ ⟨⟨w10, he10⟩, rfl⟩
            clear hsub hsub2
            have E10 := E9.trans he10
            have EJ10 := EJ9.trans he10
            have c21 := nxt_cell (haj.ext EJ10) hkl
            have c22 := (ha.ext E10).cell hjl
            have l21 := (haj.ext EJ10).1
            have l22 := (ha.ext E10).1
            have b1 := trow_bd x m i k j
            have b2 := R.tk_nonneg x m i j
            have b3 := tk_bd x m i j
            have hnv : R.never = 1000000 := rfl
            rw [hnv] at b1 b3
            have HZ := hid (show min (R.trow x m i (R.tk x m i) k j) (R.tk x m i j + O) = R.trow x m i (R.tk x m i) k (j+1) by rw [trow_yes HY.out]; unfold R.cost; rw [HC.out, ← HO.out]; simp)
            clear hnv
            go_upto_region 21 with fail
            refine wp_region_tail 13 (by kernel_rfl) (by kernel_rfl) ?_
            simp only [List.take_succ_cons, List.take_zero, List.drop_succ_cons, List.drop_zero]
            repeat (go_big_quiet_step (fail))
            refine wpQuiet_nil ?_
            rintro _ ⟨⟨w11, he11⟩, rfl⟩
            have E11 := E10.trans he11
            have EJ11 := EJ10.trans he11
            have c21 := (haj.ext EJ11).cell hkl
            have f21 := (haj.ext EJ11).frozen hkl
            have l21 := (haj.ext EJ11).1
            go_wp2_with fail
            go_roundw
            case rel => exact ⟨j + 1, by omega, by go_num, E11.setCell _ (by simp), ((haj.ext EJ11).set_ k _ hkl).congr fun t _ => nxt_set _ _ _ _ _ _ _ (by rw [← HZ.out]; split <;> omega)⟩
            case measure => simp [intOf]; omega
           ·have HC := hid hc
            clear hc
            have k0 := (hb0.ext E9).cell
            have k0l := (hb0.ext E9).lt
            go_upto_region 19 with fail
            have h64 : R.whole x - m < 64 := by omega
            have hsub := HWM.out
            have hsub2 : IntKind.i64.wrap (((R.whole x : Nat) : Int) - (m : Int)) = ((R.whole x - m : Nat) : Int) := by rw [hsub]; exact IntWalk.i64_in _ (by omega)
            refine wp_region_later (by kernel_rfl) (by kernel_rfl) ?_
            repeat (go_big_quiet_step (((first
             | (go_at_call 23; exact Calls.later (whole_any2 hx ((hv0.out.ext (E0.trans E9)).ext (Later.ext _))))
             | (go_at_call 118; exact Calls.later (can_one hx ((hv0.out.ext (E0.trans E9)).ext (Later.ext _)) (R.whole x - m) h64 i hlt HC.out))))))
            refine wpQuiet_nil ?_
            rintro _ ⟨⟨w10, he10⟩, rfl⟩
            clear hsub hsub2
            have E10 := E9.trans he10
            have EJ10 := EJ9.trans he10
            have c21 := nxt_cell (haj.ext EJ10) hkl
            have c22 := (ha.ext E10).cell hjl
            have l21 := (haj.ext EJ10).1
            have l22 := (ha.ext E10).1
            have b1 := trow_bd x m i k j
            have b2 := R.tk_nonneg x m i j
            have b3 := tk_bd x m i j
            have hnv : R.never = 1000000 := rfl
            rw [hnv] at b1 b3
            have HZ := hid (show min (R.trow x m i (R.tk x m i) k j) (R.tk x m i j) = R.trow x m i (R.tk x m i) k (j+1) by rw [trow_yes HY.out]; unfold R.cost; rw [HC.out]; simp)
            clear hnv
            go_upto_region 21 with fail
            refine wp_region_tail 13 (by kernel_rfl) (by kernel_rfl) ?_
            simp only [List.take_succ_cons, List.take_zero, List.drop_succ_cons, List.drop_zero]
            repeat (go_big_quiet_step (fail))
            refine wpQuiet_nil ?_
            rintro _ ⟨⟨w11, he11⟩, rfl⟩
            have E11 := E10.trans he11
            have EJ11 := EJ10.trans he11
            have c21 := (haj.ext EJ11).cell hkl
            have f21 := (haj.ext EJ11).frozen hkl
            have l21 := (haj.ext EJ11).1
            go_wp2_with fail
            go_roundw
            case rel => exact ⟨j + 1, by omega, by go_num, E11.setCell _ (by simp), ((haj.ext EJ11).set_ k _ hkl).congr fun t _ => nxt_set _ _ _ _ _ _ _ (by rw [← HZ.out]; split <;> omega)⟩
            case measure => simp [intOf]; omega
         ·have HY := hid (show R.stepOk x i j k from ⟨by rw [← HG.out]; omega, fun _ => by rw [← HG.out]; have := HOG.out; omega⟩)
          refine wp_region_later (by kernel_rfl) (by kernel_rfl) ?_
          repeat (go_big_quiet_step ((fail)))
          refine wpQuiet_nil ?_
          rintro _ ⟨⟨w9, he9⟩, rfl⟩
          have E9 := E8.trans he9
          have EJ9 := EJ8.trans he9
          cases hc : R.can x (R.whole x - m) i
          ·have HC := hid hc
           clear hc
           have k0 := (hb0.ext E9).cell
           have k0l := (hb0.ext E9).lt
           go_upto_region 19 with fail
           have h64 : R.whole x - m < 64 := by omega
           have hsub := HWM.out
           have hsub2 : IntKind.i64.wrap (((R.whole x : Nat) : Int) - (m : Int)) = ((R.whole x - m : Nat) : Int) := by rw [hsub]; exact IntWalk.i64_in _ (by omega)
           refine wp_region_later (by kernel_rfl) (by kernel_rfl) ?_
           repeat (go_big_quiet_step (((first
            | (go_at_call 23; exact Calls.later (whole_any2 hx ((hv0.out.ext (E0.trans E9)).ext (Later.ext _))))
            | (go_at_call 118; exact Calls.later (can_one hx ((hv0.out.ext (E0.trans E9)).ext (Later.ext _)) (R.whole x - m) h64 i hlt HC.out))))))
           refine wpQuiet_nil ?_
           rintro _ ⟨⟨w10, he10⟩, rfl⟩
           clear hsub hsub2
           have E10 := E9.trans he10
           have EJ10 := EJ9.trans he10
           have c21 := nxt_cell (haj.ext EJ10) hkl
           have c22 := (ha.ext E10).cell hjl
           have l21 := (haj.ext EJ10).1
           have l22 := (ha.ext E10).1
           have b1 := trow_bd x m i k j
           have b2 := R.tk_nonneg x m i j
           have b3 := tk_bd x m i j
           have hnv : R.never = 1000000 := rfl
           rw [hnv] at b1 b3
           have HZ := hid (show min (R.trow x m i (R.tk x m i) k j) (R.tk x m i j + O) = R.trow x m i (R.tk x m i) k (j+1) by rw [trow_yes HY.out]; unfold R.cost; rw [HC.out, ← HO.out]; simp)
           clear hnv
           go_upto_region 21 with fail
           refine wp_region_tail 13 (by kernel_rfl) (by kernel_rfl) ?_
           simp only [List.take_succ_cons, List.take_zero, List.drop_succ_cons, List.drop_zero]
           repeat (go_big_quiet_step (fail))
           refine wpQuiet_nil ?_
           rintro _ ⟨⟨w11, he11⟩, rfl⟩
           have E11 := E10.trans he11
           have EJ11 := EJ10.trans he11
           have c21 := (haj.ext EJ11).cell hkl
           have f21 := (haj.ext EJ11).frozen hkl
           have l21 := (haj.ext EJ11).1
           go_wp2_with fail
           go_roundw
           case rel => exact ⟨j + 1, by omega, by go_num, E11.setCell _ (by simp), ((haj.ext EJ11).set_ k _ hkl).congr fun t _ => nxt_set _ _ _ _ _ _ _ (by rw [← HZ.out]; split <;> omega)⟩
           case measure => simp [intOf]; omega
          ·have HC := hid hc
           clear hc
           have k0 := (hb0.ext E9).cell
           have k0l := (hb0.ext E9).lt
           go_upto_region 19 with fail
           have h64 : R.whole x - m < 64 := by omega
           have hsub := HWM.out
           have hsub2 : IntKind.i64.wrap (((R.whole x : Nat) : Int) - (m : Int)) = ((R.whole x - m : Nat) : Int) := by rw [hsub]; exact IntWalk.i64_in _ (by omega)
           refine wp_region_later (by kernel_rfl) (by kernel_rfl) ?_
           repeat (go_big_quiet_step (((first
            | (go_at_call 23; exact Calls.later (whole_any2 hx ((hv0.out.ext (E0.trans E9)).ext (Later.ext _))))
            | (go_at_call 118; exact Calls.later (can_one hx ((hv0.out.ext (E0.trans E9)).ext (Later.ext _)) (R.whole x - m) h64 i hlt HC.out))))))
           refine wpQuiet_nil ?_
           rintro _ ⟨⟨w10, he10⟩, rfl⟩
           clear hsub hsub2
           have E10 := E9.trans he10
           have EJ10 := EJ9.trans he10
           have c21 := nxt_cell (haj.ext EJ10) hkl
           have c22 := (ha.ext E10).cell hjl
           have l21 := (haj.ext EJ10).1
           have l22 := (ha.ext E10).1
           have b1 := trow_bd x m i k j
           have b2 := R.tk_nonneg x m i j
           have b3 := tk_bd x m i j
           have hnv : R.never = 1000000 := rfl
           rw [hnv] at b1 b3
           have HZ := hid (show min (R.trow x m i (R.tk x m i) k j) (R.tk x m i j) = R.trow x m i (R.tk x m i) k (j+1) by rw [trow_yes HY.out]; unfold R.cost; rw [HC.out]; simp)
           clear hnv
           go_upto_region 21 with fail
           refine wp_region_tail 13 (by kernel_rfl) (by kernel_rfl) ?_
           simp only [List.take_succ_cons, List.take_zero, List.drop_succ_cons, List.drop_zero]
           repeat (go_big_quiet_step (fail))
           refine wpQuiet_nil ?_
           rintro _ ⟨⟨w11, he11⟩, rfl⟩
           have E11 := E10.trans he11
           have EJ11 := EJ10.trans he11
           have c21 := (haj.ext EJ11).cell hkl
           have f21 := (haj.ext EJ11).frozen hkl
           have l21 := (haj.ext EJ11).1
           go_wp2_with fail
           go_roundw
           case rel => exact ⟨j + 1, by omega, by go_num, E11.setCell _ (by simp), ((haj.ext EJ11).set_ k _ hkl).congr fun t _ => nxt_set _ _ _ _ _ _ _ (by rw [← HZ.out]; split <;> omega)⟩
           case measure => simp [intOf]; omega
       ·go_wp2_with fail
        obtain rfl : j = R.width x i := by omega
        go_roundw
        case rel => exact ⟨k + 1, by omega, by go_num, hej, haj.congr fun t _ => nxt_end x m i k t⟩
        case measure => simp [intOf]; omega
     ·obtain rfl : k = R.width x (i+1) := by omega
      go_wp2_with fail
      go_roundw
      case rel => exact ⟨i + 1, by omega, by go_num, w5.heap.size, rfl, g5, hak.congr fun t ht => by simp [nxtTo, ht], E0.trans hek, hb0.ext hek⟩
      case measure => simp [intOf]; omega
  ·obtain rfl : i = x.cn - 1 := by omega
   have hwi := width_pos hx (show x.cn - 1 < x.cn by omega)
   go_wp2_with fail
   go_loopw [16, 17] (fun s16 s17 wk => ∃ k : Nat, k ≤ R.width x (x.cn - 1) ∧ s17 = .int .i64 (k : Int) ∧ s16 = .int .i64 (R.tmin (R.tk x m (x.cn - 1)) k) ∧ Ext wr wk) (fun _ s17 _ => R.width x (x.cn - 1) - (intOf s17).toNat)
   case atStart => exact ⟨0, Nat.zero_le _, rfl, rfl, Ext.refl _⟩
   case round =>
    obtain ⟨k, hk, rfl, rfl, hek⟩ := hrel
    by_cases hkl : k < R.width x (x.cn - 1)
    ·have c16 := (ha.ext hek).cell hkl
     have hal := (ha.ext hek).1
     have HM := hid (show R.tmin (R.tk x m (x.cn - 1)) (k+1) = min (R.tmin (R.tk x m (x.cn - 1)) k) (R.tk x m (x.cn - 1) k) from rfl)
     go_wp2_with fail
     go_roundw
     case rel => exact ⟨k + 1, by omega, by go_num, by rw [HM.out]; congr 1; split <;> omega, hek⟩
     case measure => simp [intOf]; omega
    ·obtain rfl : k = R.width x (x.cn - 1) := by omega
     go_wp2_with fail
     go_ret
     exact ⟨rfl, he.trans hek⟩
end Go.Proofs.YtkhjmedfhobebaaGreat
