/- Walks of the reference: the number of a list of hands, and the smallest stretches that some hands leave. The watch is right, as Ok says. -/
import Derived.Test.YtkhjmedfhobebaaGreatDoY
import Derived.Test.YtkhjmedfhobebaaGreatMathN
import Derived.Test.YtkhjmedfhobebaaGreatRefG
namespace HandSpec
open Go.Proofs.YtkhjmedfhobebaaGreat
theorem natL_succ (g : Nat → Nat → Int) (n : Nat) : natL g (n+1) = natL g n ++ [(g n 0).toNat] := by simp [natL, List.range_succ]
theorem natL_mem {g : Nat → Nat → Int} {n : Nat} (h : ∀ k, k < n + 1 → 0 ≤ g k 0) : (g n 0).toNat ∈ natL g n ↔ anyTo (fun i => g i 0 == g n 0) n = true := by
 rw [anyTo_true]
 simp only [natL, List.mem_map, List.mem_range, beq_iff_eq]
 have hn := h n (by omega)
 constructor
 ·rintro ⟨i, hi, e⟩
  have := h i (by omega)
  exact ⟨i, hi, by omega⟩
 ·rintro ⟨i, hi, e⟩
  exact ⟨i, hi, by rw [e]⟩
theorem set_add {l : List Nat} (h : Nat) : P.set (l ++ [h]) = P.set l ||| 2 ^ h := by
 apply Nat.eq_of_testBit_eq
 intro i
 rw [Nat.testBit_or, F.set_bit, F.set_bit, Nat.testBit_two_pow]
 simp only [List.mem_append, List.mem_singleton]
 by_cases h1 : i ∈ l
 ·simp [h1]
 ·by_cases h2 : i = h
  ·simp [h2]
  ·have h3 : ¬ h = i := fun e => h2 e.symm
   simp [h1, h2, h3]
theorem or_add64 : ∀ h, h < 6 → ∀ m, m < 64 → m / 2 ^ h % 2 ≠ 1 → m ||| 2 ^ h = m + 2 ^ h := by decide +kernel
theorem dupL_succ (g : Nat → Nat → Int) (n : Nat) : dupL g (n+1) = (dupL g n || anyTo (fun i => g i 0 == g n 0) n) := rfl
/-- The smallest stretches in which none of some hands is there. -/
def R.left (x : WD) (m : Nat) : List (Nat × Nat) := (R.smallest x).filter fun p => !R.met x m p.1 p.2
theorem left_eq {x : WD} (hx : Ok x) (m : Nat) : P.left x m = R.left x m := by
 unfold P.left R.left
 rw [← smallest_eq hx]
 refine List.filter_congr fun p hp => ?_
 have h := smallest_mem hp
 unfold P.lfQ
 rw [R.met_th hx h.1 h.2]
end HandSpec
namespace Go.Proofs.YtkhjmedfhobebaaGreat
open Go.RowKit HandSpec
set_option maxHeartbeats 1600000
set_option maxRecDepth 100000
def pwK (k : Nat) : Int := ((2 ^ k : Nat) : Int)
theorem pwK_step (k : Nat) : pwK (k+1) = 2 * pwK k := by unfold pwK; rw [Nat.pow_succ]; omega
theorem pwK_bd {k : Nat} (h : k ≤ 6) : 1 ≤ pwK k ∧ pwK k ≤ 64 := by
 have h1 : 2 ^ k ≤ 2 ^ 6 := Nat.pow_le_pow_right (by omega) h
 have h2 : 1 ≤ 2 ^ k := Nat.one_le_two_pow
 unfold pwK
 omega
/-- The number of a list, if nothing is wrong with it. -/
def handsV (x : WD) (g : Nat → Nat → Int) (n : Nat) : Int := if listE x g n = 0 then (P.set (natL g n) : Int) else 0
theorem hands_any {x : WD} (hx : Ok x) {w : World} {v : Value} (hv : IsW w v x) {A : Option Addr} {n cap : Nat} {g : Nat → Nat → Int} (hr : Rd w A n 1 g) (hn : n ≤ 12) :
  Calls Tryz.prog 76 #[v, .slice A n cap] w fun e w' => e = .returned (.tuple #[.int .i64 (handsV x g n), .int .i64 (listE x g n)]) ∧ Ext w w' := by
 have HV := hid hv
 obtain ⟨A1, c1, A2, c2, A3, c3, rfl, r1, r2, r3⟩ := hv
 have hhd := hx.hands
 have HR := hid hr
 clear r1 r2 r3 hr
 go_enter Tryz.func76, Tryz.ntmps76
 go_wp2
 refine wp_later fun w1 hw1 => ?_
 obtain ⟨E1, b1⟩ := hw1.newB
 clear hw1
 go_loopw [6] (fun i wr => ∃ k : Nat, k ≤ n ∧ i = .int .i64 (k : Int) ∧ Hid (∀ j, j < k → (!inB (g j 0) 0 (x.hands - 1)) = false) ∧ Ext w1 wr) (fun i _ => n - (intOf i).toNat)
 case atStart => exact ⟨0, Nat.zero_le _, rfl, fun _ h => absurd h (by omega), Ext.refl _⟩
 case round =>
  obtain ⟨k, hk, rfl, hp, he⟩ := hrel
  have k1 := (b1.ext he).cell
  have k1l := (b1.ext he).lt
  by_cases hlt : k < n
  ·obtain ⟨b, o, rfl, hbl, a0⟩ := (HR.out.ext (E1.trans he)).at1 hlt
   go_upto_region 4 with fail
   refine wp_region_later (by kernel_rfl) (by kernel_rfl) ?_
   repeat (go_big_quiet_step ((go_at_call 117; exact Calls.later ((off_any _ _ _ _).mono fun e w' h => ⟨h.1, h.2 ▸ Ext.refl _⟩))))
   refine wpQuiet_nil ?_
   rintro _ ⟨⟨w2, he2⟩, rfl⟩
   rw [offB_eq]
   cases hq : (!inB (g k 0) 0 (x.hands - 1))
   ·have HQ := hid hq
    clear hq
    go_wp2
    go_roundw
    case rel => exact ⟨k + 1, by omega, by go_num, anyTo_step hp.out HQ.out, he.trans he2⟩
    case measure => simp [intOf]; omega
   ·have hb : badL x g n = true := anyTo_true.2 ⟨k, hlt, hq⟩
    have hz : listE x g n = 1 := by unfold listE; rw [hb]; rfl
    have hv : handsV x g n = 0 := by unfold handsV; rw [hz]; rfl
    have HZ := hid hz
    have HVV := hid hv
    clear hz hv hb hq
    go_wp2
    go_ret2
    exact ⟨by rw [HZ.out, HVV.out]; rfl, E1.trans (he.trans he2)⟩
  ·obtain rfl : k = n := by omega
   have hb : badL x g k = false := anyTo_false.2 hp.out
   have HB := hid (badL_false hb)
   have HBB := hid hb
   clear hp hb
   obtain ⟨wo, rfl⟩ : ∃ wo : World, wo = wr := ⟨_, rfl⟩
   go_wp2_with fail
   go_loopw [7, 8] (fun s i wr => ∃ j : Nat, j ≤ k ∧ i = .int .i64 (j : Int) ∧ s = .int .i64 (P.set (natL g j) : Int) ∧ Hid (dupL g j = false) ∧ Ext w1 wr) (fun _ i _ => k - (intOf i).toNat)
   case atStart => exact ⟨0, Nat.zero_le _, rfl, rfl, rfl, he⟩
   case round =>
    clear k1 k1l he
    obtain ⟨j, hj, rfl, rfl, hd, he⟩ := hrel
    by_cases hjk : j < k
    ·obtain ⟨b, o, rfl, hbl, a0⟩ := (HR.out.ext (E1.trans he)).at1 hjk
     obtain ⟨g1, g2⟩ := HB.out j hjk
     obtain ⟨h, hh⟩ := Int.eq_ofNat_of_zero_le g1
     have hm := natL_mem (g := g) (n := j) fun i hi => (HB.out i (by omega)).1
     have hs := natL_succ g j
     have h64 : P.set (natL g j) < 64 := set_lt fun i hi => by
      simp only [natL, List.mem_map, List.mem_range] at hi
      obtain ⟨i', h1, rfl⟩ := hi
      have := HB.out i' (by omega)
      omega
     rw [hh] at a0 g2
     have hh2 : (g j 0).toNat = h := by omega
     rw [hh2] at hm hs
     have h6 : h < 6 := by omega
     have HADD := hid (fun h1 => (set_add (l := natL g j) h).trans (or_add64 h h6 _ h64 h1))
     have hbit : (h ∈ natL g j) ↔ P.set (natL g j) / 2 ^ h % 2 = 1 := by
      have e := F.set_bit (natL g j) h
      rw [testBit_div] at e
      constructor
      ·intro hmem; rw [decide_eq_true hmem] at e; exact of_decide_eq_true e
      ·intro h1; rw [decide_eq_true h1] at e; exact of_decide_eq_true e.symm
     rw [hm] at hbit
     have HBIT := hid hbit
     have HS := hid hs
     have HH := hid hh
     clear hm hs hbit hh hh2 g1
     obtain ⟨m, hmm⟩ : ∃ m, P.set (natL g j) = m := ⟨_, rfl⟩
     rw [hmm] at h64 HADD HBIT ⊢
     have HMM := hid hmm
     clear hmm
     obtain ⟨wb, rfl⟩ : ∃ wb : World, wb = wr := ⟨_, rfl⟩
     go_wp2_with fail
     go_loopw [9, 10] (fun s i wr => ∃ p : Nat, p ≤ h ∧ i = .int .i64 (p : Int) ∧ s = .int .i64 (pwK p) ∧ Ext w1 wr) (fun _ i _ => h - (intOf i).toNat)
     case atStart => exact ⟨0, Nat.zero_le _, rfl, rfl, he⟩
     case round =>
      clear he
      obtain ⟨p, hp, rfl, rfl, he⟩ := hrel
      obtain ⟨_, _, hq, hbl', a1⟩ := (HR.out.ext (E1.trans he)).at1 hjk
      obtain ⟨rfl, rfl⟩ := same_addr hq rfl
      rw [HH.out] at a1
      have hpb := pwK_bd (k := p) (by omega)
      have HST := hid (pwK_step p)
      clear hq
      by_cases hph : p < h
      ·go_wp2
       go_roundw
       case rel => exact ⟨p + 1, by omega, by go_num, by rw [HST.out], he⟩
       case measure => simp [intOf]; omega
      ·obtain rfl : p = h := by omega
       have hne : pwK p ≠ 0 := by omega
       have hqe : Int.tdiv (m : Int) (pwK p) = ((m / 2 ^ p : Nat) : Int) := by unfold pwK; rfl
       by_cases hbt : m / 2 ^ p % 2 = 1
       ·have hd1 : dupL g k = true := anyTo_true.2 ⟨j, hjk, HBIT.out.2 hbt⟩
        have hz : listE x g k = 5 := by unfold listE; rw [HBB.out, hd1]; rfl
        have hv : handsV x g k = 0 := by unfold handsV; rw [hz]; rfl
        have HZ := hid hz
        have HVV := hid hv
        have hql : m / 2 ^ p < 64 := Nat.lt_of_le_of_lt (Nat.div_le_self _ _) h64
        obtain ⟨q, hqq⟩ : ∃ q, m / 2 ^ p = q := ⟨_, rfl⟩
        rw [hqq] at hqe hbt hql
        have hbi : ((q : Int) % 2 == 1) = true := by simp; omega
        clear hqq hz hv hd1 hbt
        go_wp2
        go_ret2
        exact ⟨by rw [HZ.out, HVV.out]; rfl, E1.trans he⟩
       ·have HSUM := hid (HADD.out hbt)
        have HND := hid (show dupL g (j+1) = false by
         rw [dupL_succ, hd.out, Bool.false_or]
         rcases Bool.eq_false_or_eq_true (anyTo (fun i => g i 0 == g j 0) j) with h1 | h1
         ·exact absurd (HBIT.out.1 h1) hbt
         ·exact h1)
        have hql : m / 2 ^ p < 64 := Nat.lt_of_le_of_lt (Nat.div_le_self _ _) h64
        obtain ⟨q, hqq⟩ : ∃ q, m / 2 ^ p = q := ⟨_, rfl⟩
        rw [hqq] at hqe hbt hql
        have hbi : ((q : Int) % 2 == 1) = false := by simp; omega
        clear hqq hbt
        go_wp2
        go_roundw
        case rel => exact ⟨j + 1, by omega, by go_num, by rw [HS.out, HSUM.out]; unfold pwK; go_num, HND, he⟩
        case measure => simp [intOf]; omega
    ·obtain rfl : j = k := by omega
     have hz : listE x g j = 0 := by unfold listE; rw [HBB.out, hd.out]; rfl
     have HZ := hid hz
     have HVV := hid (show handsV x g j = (P.set (natL g j) : Int) by unfold handsV; rw [hz]; rfl)
     clear hz
     go_wp2
     go_ret2
     exact ⟨by rw [HZ.out, HVV.out]; rfl, E1.trans he⟩
/-- The first ones of some stretches that some hands leave. -/
def R.leftTo (x : WD) (m : Nat) (l : List (Nat × Nat)) (k : Nat) : List (Nat × Nat) := (l.take k).filter fun p => !R.met x m p.1 p.2
theorem leftTo_succ (x : WD) (m : Nat) (l : List (Nat × Nat)) {k : Nat} (h : k < l.length) : R.leftTo x m l (k+1) = R.leftTo x m l k ++ if R.met x m (nth l k).1 (nth l k).2 = true then [] else [nth l k] := by
 unfold R.leftTo
 rw [List.take_succ_eq_append_getElem h, List.filter_append, nth_get l h]
 by_cases hm : R.met x m l[k].1 l[k].2 = true <;> simp [hm]
theorem leftTo_length (x : WD) (m : Nat) (l : List (Nat × Nat)) (k : Nat) : (R.leftTo x m l k).length ≤ l.length :=
 Nat.le_trans (List.length_filter_le _ _) (by simp; omega)
theorem left77 {x : WD} (hx : Ok x) {w : World} {v : Value} (hv : IsW w v x) (m : Nat) (hm : m < 2 ^ 62) :
  Calls Tryz.prog 77 #[v, .int .i64 (m : Int)] w fun e w' => ∃ u, e = .returned u ∧ Ext w w' ∧ SlR w' 2 u (rows2 (R.left x m)) := by
 have HV := hid hv
 obtain ⟨A1, c1, A2, c2, A3, c3, rfl, r1, r2, r3⟩ := hv
 clear r1 r2 r3
 have hcn := hx.cn
 have hll := smallest_len hx
 have HM := hid (fun p (hp : p ∈ R.smallest x) => smallest_mem (x := x) (p := p) (by rw [smallest_eq hx]; exact hp))
 have HL : Hid (R.left x m = R.leftTo x m (R.smallest x) (R.smallest x).length) := hid (by unfold R.left R.leftTo; rw [List.take_length])
 go_enter Tryz.func77, Tryz.ntmps77
 go_wp2_with (go_at_call 43; refine (smallest_any hx (HV.out.ext (Ext.alloc (Ext.refl _) _))).mono ?_; rintro e w1 ⟨u, rfl, he0, hu⟩)
 obtain ⟨he, hb⟩ := he0.newB
 have hs := hu.slR
 clear hu he0
 obtain ⟨A, cap, rfl, hr⟩ := hs
 rw [rows2_length] at *
 generalize R.smallest x = l at *
 refine wp_later fun w2 hw2 => ?_
 have hr := hr.ext hw2
 have hb := hb.ext hw2
 have HV2 := hid (HV.out.ext (he.trans hw2))
 go_loopw [5, 7] (fun o i wr => ∃ k : Nat, k ≤ l.length ∧ i = .int .i64 (k : Int) ∧ OwnR wr w2.heap.size 65 2 o (rows2 (R.leftTo x m l k)) ∧ Ext w2 wr) (fun _ i _ => l.length - (intOf i).toNat)
 case atStart => exact ⟨0, Nat.zero_le _, rfl, by simpa [rows2, R.leftTo] using OwnR.nil, Ext.refl _⟩
 case round =>
  obtain ⟨i, hi, rfl, hown, he1⟩ := hrel
  obtain ⟨wo, rfl⟩ : ∃ wo : World, wo = wr := ⟨_, rfl⟩
  by_cases hlt : i < l.length
  ·have hr := hr.ext he1
   obtain ⟨b, o, rfl, hbl, c1, c2⟩ := hr.atP hlt
   have HS := hid (leftTo_succ x m l hlt)
   have hsl := leftTo_length x m l i
   obtain ⟨p1, p2⟩ := HM.out (nth l i) (by rw [nth_get l hlt]; exact List.getElem_mem hlt)
   have HR := hid hr
   clear hr
   obtain ⟨a, ha⟩ : ∃ a, (nth l i).1 = a := ⟨_, rfl⟩
   obtain ⟨d, hd⟩ : ∃ d, (nth l i).2 = d := ⟨_, rfl⟩
   rw [ha, hd] at p1
   rw [hd] at p2
   rw [ha] at c1
   rw [hd] at c2
   have HPR : Hid (nth l i = (a, d)) := hid (by rw [← ha, ← hd])
   clear ha hd
   have k1 := (hb.ext he1).cell
   have k1l := (hb.ext he1).lt
   go_wp2_with fail
   clear k1 k1l
   go_loopw [8, 9] (fun s kk wr => ∃ (e : Nat) (t : Bool), a + e ≤ d ∧ kk = .int .i64 ((a + e : Nat) : Int) ∧ s = .bool t ∧ Hid (t = anyTo (fun q => R.can x m (a + q)) e) ∧ Ext wo wr) (fun _ kk _ => d - (intOf kk).toNat)
   case atStart => exact ⟨0, false, by omega, rfl, rfl, rfl, Ext.refl _⟩
   case round =>
    obtain ⟨e, t, hk, rfl, rfl, ht, he2⟩ := hrel
    have k1 := (hb.ext (he1.trans he2)).cell
    have k1l := (hb.ext (he1.trans he2)).lt
    have c1 := he2.some_ c1
    have c2 := he2.some_ c2
    have hbl := Nat.lt_of_lt_of_le hbl he2.size
    have HSU : Hid (anyTo (fun q => R.can x m (a + q)) (e+1) = (anyTo (fun q => R.can x m (a + q)) e || R.can x m (a + e))) := hid rfl
    by_cases hks : a + e < d
    ·cases t
     ·go_wp2_with (go_at_call 118; refine (can_any hx (HV2.out.ext (he1.trans he2)) m hm (a + e) (by omega)).mono ?_; rintro e w3 ⟨rfl, he3⟩)
      go_roundw
      case rel => exact ⟨e + 1, _, by omega, by go_num, rfl, hid (by rw [HSU.out, ← ht.out]; simp), he2.trans he3⟩
      case measure => simp [intOf]; omega
     ·go_wp2_with fail
      go_roundw
      case rel => exact ⟨e + 1, true, by omega, by go_num, rfl, hid (by rw [HSU.out, ← ht.out]; rfl), he2⟩
      case measure => simp [intOf]; omega
    ·obtain rfl : d = a + e := by omega
     have HT : Hid (R.met x m (nth l i).1 (nth l i).2 = t) := hid (by rw [HPR.out, ht.out]; unfold R.met; rw [show a + e - a = e by omega])
     cases t
     ·go_wp2_with (at_builtin; refine wpList_append_rows rfl _ _ 53 rfl elem53 rfl ((hown.ext he2).ext (Ext.alloc (Ext.refl _) _)) _ 1 1 [[(a : Int), ((a + e : Nat) : Int)]] rfl rfl (by simp) (by intro j; simp [cellsOf]) (by rw [rows2_length]; omega) (by have := he1.size; have := he2.size; simp; omega) ?_; intro v' w4 hown2 hg2)
      go_roundw
      case rel => exact ⟨i + 1, by omega, by go_num, by rw [HS.out, HT.out, if_neg (by decide), HPR.out, rows2_append]; simpa [rows2] using hown2, ((he1.trans he2).alloc _).grown hg2 fun g hg => (hown.ext he2).block hg⟩
      case measure => simp [intOf]; omega
     ·go_wp2_with fail
      go_roundw
      case rel => exact ⟨i + 1, by omega, by go_num, by rw [HS.out, HT.out, if_pos rfl, List.append_nil]; exact hown.ext he2, he1.trans he2⟩
      case measure => simp [intOf]; omega
  ·go_wp2_with fail
   go_ret
   obtain rfl : i = l.length := by omega
   exact ⟨_, rfl, he.trans (hw2.trans he1), by rw [HL.out]; exact hown.slR⟩
end Go.Proofs.YtkhjmedfhobebaaGreat
