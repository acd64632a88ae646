/- Walks of what stretches prove: the program's Proves, and the reference's. -/
import Derived.Test.YtkhjmedfhobebaaGreatDoX
namespace HandSpec
namespace P
/-- The error of stretch k of a list, for a hand. -/
def pvE (x : WD) (h : Nat) (g : Nat → Nat → Int) (k : Nat) : Int :=
 if strE x (g k 0) (g k 1) ≠ 0 then strE x (g k 0) (g k 1) else if gap x (g k 0).toNat (g k 1).toNat ≤ 0 then 8 else if th x (g k 0).toNat (g k 1).toNat ^^^ (th x (g k 0).toNat (g k 1).toNat &&& 2 ^ h) ≠ 0 then 8 else 0
def pvG (x : WD) (g : Nat → Nat → Int) (k : Nat) : Int := gap x (g k 0).toNat (g k 1).toNat
/-- The first error of a list. -/
def errTo (f : Nat → Int) : Nat → Int
 | 0 => 0
 | k+1 => if errTo f k ≠ 0 then errTo f k else f k
theorem errTo_no {f : Nat → Int} : ∀ {n : Nat}, (∀ k, k < n → f k = 0) → errTo f n = 0
 | 0, _ => rfl
 | n+1, h => by unfold errTo; rw [errTo_no fun k hk => h k (by omega)]; simp [h n (by omega)]
theorem errTo_first {f : Nat → Int} {k : Nat} (h : ∀ j, j < k → f j = 0) (hk : f k ≠ 0) : ∀ {n : Nat}, k < n → errTo f n = f k
 | 0, h' => absurd h' (by omega)
 | n+1, h' => by
  unfold errTo
  rcases Nat.lt_or_eq_of_le (Nat.le_of_lt_succ h') with h1 | h1
  ·rw [errTo_first h hk h1, if_pos hk]
  ·subst h1; rw [errTo_no h]; simp
theorem errTo_zero {f : Nat → Int} : ∀ {n : Nat}, errTo f n = 0 → ∀ k, k < n → f k = 0
 | 0, _, _, h => absurd h (by omega)
 | n+1, h, k, hk => by
  unfold errTo at h
  by_cases h1 : errTo f n = 0
  ·rw [if_neg (by simpa using h1)] at h
   rcases Nat.lt_or_eq_of_le (Nat.le_of_lt_succ hk) with h2 | h2
   ·exact errTo_zero h1 k h2
   ·rw [h2]; exact h
  ·rw [if_pos h1] at h; exact absurd h h1
/-- Stretch k has interval i. -/
def cov (g : Nat → Nat → Int) (k i : Nat) : Bool := decide (g k 0 ≤ i) && decide ((i : Int) < g k 1)
/-- An interval of a hand is in two stretches. -/
def dup (own : Nat → Bool) (g : Nat → Nat → Int) (n : Nat) : Bool := anyTo (fun k => anyTo (fun i => own i && (cov g k i && anyTo (fun j => cov g j i) k)) 8) n
theorem pvE_zero {x : WD} {h : Nat} {g : Nat → Nat → Int} {k : Nat} (hz : pvE x h g k = 0) : strE x (g k 0) (g k 1) = 0 := by
 unfold pvE at hz
 by_cases h1 : strE x (g k 0) (g k 1) = 0
 ·exact h1
 ·rw [if_pos h1] at hz; exact absurd hz h1
/-- Stretch k has nothing twice with those before it. -/
def dupAt (own : Nat → Bool) (g : Nat → Nat → Int) (k : Nat) : Bool := anyTo (fun i => own i && (cov g k i && anyTo (fun j => cov g j i) k)) 8
def provesE (x : WD) (h : Nat) (g : Nat → Nat → Int) (n : Nat) : Int := if errTo (pvE x h g) n ≠ 0 then errTo (pvE x h g) n else if dup (spot x (2 ^ h)) g n then 5 else 0
def provesV (x : WD) (h : Nat) (g : Nat → Nat → Int) (n : Nat) : Int := if provesE x h g n = 0 then sumTo (pvG x g) n else 0
end P
end HandSpec
namespace Go.Proofs.YtkhjmedfhobebaaGreat
open Go.RowKit HandSpec
set_option maxHeartbeats 2000000
set_option maxRecDepth 100000
theorem provesP_chk {x : WD} {w : World} {v : Value} (hv : IsW w v x) (h1 : x.cn ≤ 1000) (h2 : x.bn ≤ 1000) (h3 : x.sn ≤ 1000) (h : Int) (u : Value) (hc : P.chk x ≠ 0) :
  Calls Tryz.prog 40 #[v, .int .i64 h, u] w fun e w' => e = .returned (.tuple #[.int .i64 0, .int .i64 (P.chk x)]) ∧ Ext w w' := by
 have HV := hid hv
 obtain ⟨A1, c1, A2, c2, A3, c3, rfl, r1, r2, r3⟩ := hv
 clear r1 r2 r3
 have hne : (P.chk x == 0) = false := by simpa using hc
 have HC := hid hc
 clear hc
 go_enter Tryz.func40, Tryz.ntmps40
 go_wp2_with (go_at_call 136; refine (opened_bad (HV.out.ext ((Ext.refl _).alloc _)) h1 h2 h3 HC.out).mono ?_; rintro e w1 ⟨rfl, he1⟩; obtain ⟨he1, hb⟩ := he1.newB)
 go_ret2
 exact ⟨rfl, he1⟩
theorem provesP_hand {x : WD} {w : World} {v : Value} (hv : IsW w v x) (h1 : x.cn ≤ 1000) (h2 : x.bn ≤ 1000) (h3 : x.sn ≤ 1000) (h : Int) (u : Value) (hc : P.chk x = 0) (hh : inB h 0 (x.hands - 1) = false) :
  Calls Tryz.prog 40 #[v, .int .i64 h, u] w fun e w' => e = .returned (.tuple #[.int .i64 0, .int .i64 1]) ∧ Ext w w' := by
 have HV := hid hv
 obtain ⟨A1, c1, A2, c2, A3, c3, rfl, r1, r2, r3⟩ := hv
 clear r1 r2 r3
 have hx := Ok.of_chk hc
 have hhd := hx.hands
 rw [← IntWalk.wrap64_in (x.hands - 1) (by omega)] at hh
 have HC := hid hc
 have HH := hid hh
 clear hc hh
 go_enter Tryz.func40, Tryz.ntmps40
 go_wp2_with (first
  | (go_at_call 136; refine (opened_ok (HV.out.ext ((Ext.refl _).alloc _)) h1 h2 h3 HC.out).mono ?_; rintro e w1 ⟨va, rfl, he1, hu⟩; obtain ⟨he1, hb⟩ := he1.newB; have k1 := hb.cell; have k1l := hb.lt)
  | (go_at_call 121; refine (hand_any (HV.out.ext he1) h).mono ?_; rintro e w2 ⟨rfl, he2⟩; rw [HH.out]))
 go_ret2
 exact ⟨rfl, he1.trans he2⟩
theorem provesP_any {x : WD} {w : World} {v : Value} (hv : IsW w v x) (h1 : x.cn ≤ 1000) (h2 : x.bn ≤ 1000) (h3 : x.sn ≤ 1000) {h : Nat} (hc : P.chk x = 0) (hh : (h : Int) < x.hands) {A : Option Addr} {n cap : Nat} {g : Nat → Nat → Int} (hr : Rd w A n 2 g) (hn : n ≤ 100) :
  Calls Tryz.prog 40 #[v, .int .i64 (h : Int), .slice A n cap] w fun e w' => e = .returned (.tuple #[.int .i64 (P.provesV x h g n), .int .i64 (P.provesE x h g n)]) ∧ Ext w w' := by
 have HV := hid hv
 obtain ⟨A1, c1, A2, c2, A3, c3, rfl, r1, r2, r3⟩ := hv
 clear r1 r2 r3
 have hx := Ok.of_chk hc
 have hhd := hx.hands
 have hcn := hx.cn
 have hinb : inB (h : Int) 0 (wrap64 (x.hands - 1)) = true := by rw [IntWalk.wrap64_in _ (by omega)]; simp [inB]; omega
 have HC := hid hc
 have HH := hid hinb
 clear hc hinb
 have hw2 := wrap2 (i := h) (by omega)
 have hm : 2 ^ h < 64 := Nat.pow_lt_pow_right (a := 2) (n := 6) (by omega) (by omega)
 go_enter Tryz.func40, Tryz.ntmps40
 go_wp2_with (first
  | (go_at_call 136; refine (opened_ok (HV.out.ext ((Ext.refl _).alloc _)) h1 h2 h3 HC.out).mono ?_; rintro e w1 ⟨va, rfl, he1, hu⟩; obtain ⟨he1, hb⟩ := he1.newB; have k1 := hb.cell; have k1l := hb.lt; have HU := hid hu; obtain ⟨db, B1, d1, B2, d2, B3, d3, mb, L, rfl, hk, -, -, -, hmp, hl⟩ := hu; have HL := hid hl; clear hl)
  | (go_at_call 121; refine (hand_any (HV.out.ext he1) (h : Int)).mono ?_; rintro e w2 ⟨rfl, he2⟩; rw [HH.out]))
 clear k1 k1l
 have E2 := hid (he1.trans he2)
 have B2' := hid (hb.ext he2)
 go_loopw [10, 36] (fun s i wr => ∃ k : Nat, k ≤ n ∧ i = .int .i64 (k : Int) ∧ s = .int .i64 (sumTo (P.pvG x g) k) ∧ (-(20000 * (k : Int)) ≤ sumTo (P.pvG x g) k ∧ sumTo (P.pvG x g) k ≤ 20000 * k) ∧ Hid (∀ j, j < k → P.pvE x h g j = 0) ∧ Ext w2 wr) (fun _ i _ => n - (intOf i).toNat)
 case atStart => exact ⟨0, Nat.zero_le _, rfl, rfl, by simp [sumTo], fun _ h => absurd h (by omega), Ext.refl _⟩
 case round =>
  obtain ⟨k, hkn, rfl, rfl, hsb, hp, he⟩ := hrel
  have k1 := (B2'.out.ext he).cell
  have k1l := (B2'.out.ext he).lt
  by_cases hlt : k < n
  ·obtain ⟨b, o, rfl, hbl, a0, a1⟩ := (hr.ext (E2.out.trans he)).at2 hlt
   by_cases hs : P.strE x (g k 0) (g k 1) = 0
   ·have HS := hid hs
    obtain ⟨-, ha, hb', hab⟩ := strE_ok hs
    simp [inB] at ha hb'
    obtain ⟨p, hp0⟩ := Int.eq_ofNat_of_zero_le ha.1
    obtain ⟨q, hq0⟩ := Int.eq_ofNat_of_zero_le hb'.1
    rw [hp0] at a0
    rw [hq0] at a1
    have hpq : p < q := by omega
    have hqn : q < x.cn := by omega
    have HPE : Hid (P.pvE x h g k = if P.gap x p q ≤ 0 then 8 else if P.th x p q ^^^ (P.th x p q &&& 2 ^ h) ≠ 0 then 8 else 0) := hid (by unfold P.pvE; rw [if_neg (by simpa using hs), hp0, hq0]; rfl)
    have HPG : Hid (P.pvG x g k = P.gap x p q) := hid (by unfold P.pvG; rw [hp0, hq0]; rfl)
    have HSC : Hid (P.strE x (p : Int) (q : Int) = 0) := hid (by rw [← hp0, ← hq0]; exact hs)
    have HP0 := hid hp0
    have HQ0 := hid hq0
    clear hs ha hb' hab hp0 hq0
    have E1 := hid (he2.trans he)
    go_upto_region 13 with (go_at_call 137; refine (str_ok (HV.out.ext ((E2.out.trans he).trans ((Ext.refl _).alloc _))) h1 h2 h3 (p : Int) (q : Int) HSC.out).mono ?_; rintro e w5 ⟨vb, rfl, he5, -⟩; obtain ⟨he5, hb12⟩ := he5.newB; have k12 := hb12.cell; have k12l := hb12.lt)
    clear k1 k1l a0 a1
    have kd := (hk.ext (E1.out.trans he5)).cell
    have kdl := (hk.ext (E1.out.trans he5)).lt
    have D5 := hid (HU.out.ext (E1.out.trans he5))
    have hlk : ∀ n : Later w5, (Instr.lookup 187 (.map (some mb)) (.agg #[.int .i64 (p : Int), .int .i64 (q : Int)]) false).run Tryz.prog n.at_ = .ok (.int .i64 (P.th x p q : Int)) n.at_ := fun n => by
     rw [lookup_run (hmp.ext ((E1.out.trans he5).trans n.ok)), HL.out p q hpq hqn]
    have hand := andNot64 (P.th_lt hx p q) hm
    rw [Int.natCast_pow] at hand
    have hand' : bits .andNot .i64 (P.th x p q : Int) ((2 : Int) ^ h) = ((P.th x p q ^^^ (P.th x p q &&& 2 ^ h) : Nat) : Int) := hand
    clear hand
    by_cases o1 : P.gap x p q ≤ 0
    ·have q1 : decide (P.gap x p q ≤ 0) = true := by simpa using o1
     have HP8 : Hid (P.pvE x h g k = 8) := hid (by rw [HPE.out, if_pos o1])
     clear o1
     refine wp_region_later (by kernel_rfl) (by kernel_rfl) ?_
     repeat (go_big_quiet_step ((go_at_call 138; exact Calls.later (gapP_any hx (D5.out.ext (Later.ext _)) p q (Nat.le_of_lt hpq) hqn))))
     refine wpQuiet_nil ?_
     rintro w6 ⟨⟨_, he6⟩, rfl⟩
     go_wp2
     go_ret2
     have hE : P.provesE x h g n = 8 := by unfold P.provesE; rw [P.errTo_first (f := P.pvE x h g) (n := n) hp.out (by rw [HP8.out]; decide) hlt, HP8.out]; rfl
     refine ⟨?_, E2.out.trans (he.trans (he5.trans he6))⟩
     unfold P.provesV
     rw [hE]
     rfl
    ·have q1 : decide (P.gap x p q ≤ 0) = false := by simpa using o1
     by_cases o2 : P.th x p q ^^^ (P.th x p q &&& 2 ^ h) ≠ 0
     ·have q2 : (((P.th x p q ^^^ (P.th x p q &&& 2 ^ h) : Nat) : Int) != 0) = true := by simpa using o2
      have HP8 : Hid (P.pvE x h g k = 8) := hid (by rw [HPE.out, if_neg o1, if_pos o2])
      clear o1 o2
      refine wp_region_later (by kernel_rfl) (by kernel_rfl) ?_
      repeat (go_big_quiet_step ((go_at_call 138; exact Calls.later (gapP_any hx (D5.out.ext (Later.ext _)) p q (Nat.le_of_lt hpq) hqn))))
      refine wpQuiet_nil ?_
      rintro w6 ⟨⟨_, he6⟩, rfl⟩
      go_wp2
      go_ret2
      have hE : P.provesE x h g n = 8 := by unfold P.provesE; rw [P.errTo_first (f := P.pvE x h g) (n := n) hp.out (by rw [HP8.out]; decide) hlt, HP8.out]; rfl
      refine ⟨?_, E2.out.trans (he.trans (he5.trans he6))⟩
      unfold P.provesV
      rw [hE]
      rfl
     ·have q2 : (((P.th x p q ^^^ (P.th x p q &&& 2 ^ h) : Nat) : Int) != 0) = false := by
       have : P.th x p q ^^^ (P.th x p q &&& 2 ^ h) = 0 := by simpa using o2
       rw [this]; rfl
      have HP0' : Hid (P.pvE x h g k = 0) := hid (by rw [HPE.out, if_neg o1, if_neg o2])
      have hgb := P.gap_bd hx (show p < x.cn by omega) hqn
      have hss : sumTo (P.pvG x g) (k + 1) = sumTo (P.pvG x g) k + P.gap x p q := by show _ + P.pvG x g k = _; rw [HPG.out]
      have HSS := hid hss
      clear o1 o2 hss
      refine wp_region_later (by kernel_rfl) (by kernel_rfl) ?_
      repeat (go_big_quiet_step ((go_at_call 138; exact Calls.later (gapP_any hx (D5.out.ext (Later.ext _)) p q (Nat.le_of_lt hpq) hqn))))
      refine wpQuiet_nil ?_
      rintro w6 ⟨⟨_, he6⟩, rfl⟩
      have D6 := hid (D5.out.ext he6)
      have k12 := (hb12.ext he6).cell
      have k12l := (hb12.ext he6).lt
      clear kd kdl hlk hand' q1 q2
      go_wp2_with (go_at_call 138; refine (gapP_any hx D6.out p q (Nat.le_of_lt hpq) hqn).mono ?_; rintro e w7 ⟨rfl, he7⟩)
      go_roundw
      case rel => exact ⟨k + 1, by omega, by go_num, by rw [HSS.out], by rw [HSS.out]; omega, hid fun j hj => by
       rcases Nat.lt_or_eq_of_le (Nat.le_of_lt_succ hj) with h | h
       ·exact hp.out j h
       ·rw [h]; exact HP0'.out, he.trans (he5.trans (he6.trans he7))⟩
      case measure => simp [intOf]; omega
   ·have HS := hid hs
    have hne : (P.strE x (g k 0) (g k 1) == 0) = false := by simpa using hs
    have HPE : Hid (P.pvE x h g k = P.strE x (g k 0) (g k 1)) := hid (by unfold P.pvE; rw [if_pos hs])
    clear hs hr
    go_wp2_with (go_at_call 137; refine (str_err (HV.out.ext ((E2.out.trans he).trans ((Ext.refl _).alloc _))) h1 h2 h3 _ _ HS.out).mono ?_; rintro e w5 ⟨rfl, he5⟩)
    go_ret2
    have he0 := P.errTo_first (f := P.pvE x h g) (n := n) hp.out (by rw [HPE.out]; exact HS.out) hlt
    refine ⟨?_, (E2.out.trans he).trans (((Ext.refl _).alloc _).trans he5)⟩
    have hE : P.provesE x h g n = P.strE x (g k 0) (g k 1) := by unfold P.provesE; rw [he0, HPE.out, if_pos HS.out]
    unfold P.provesV
    rw [hE, if_neg HS.out]
    rfl
  ·obtain rfl : k = n := by omega
   have hsp := fun W' (hu' : IsD W' (.pointer (some ⟨db, 0, none⟩)) x) => spots_any hx hu' hm
   rw [Int.natCast_pow] at hsp
   have HSP : Hid (∀ W', IsD W' (.pointer (some ⟨db, 0, none⟩)) x → Calls Tryz.prog 139 #[.pointer (some ⟨db, 0, none⟩), .int .i64 ((2 : Int) ^ h)] W' fun e w' => e = .returned (.agg (boolsC (P.spot x (2 ^ h)))) ∧ Ext W' w') := hid hsp
   clear hsp
   have hval : ∀ j, j < k → ∃ p q : Nat, g j 0 = (p : Int) ∧ g j 1 = (q : Int) ∧ p < q ∧ q < x.cn := fun j hj => by
    obtain ⟨-, ha, hb', hab⟩ := strE_ok (P.pvE_zero (hp.out j hj))
    simp [inB] at ha hb'
    obtain ⟨p, hp0⟩ := Int.eq_ofNat_of_zero_le ha.1
    obtain ⟨q, hq0⟩ := Int.eq_ofNat_of_zero_le hb'.1
    exact ⟨p, q, hp0, hq0, by omega, by omega⟩
   have HVL := hid hval
   clear hval k1 k1l
   have U3 := hid (HU.out.ext (he2.trans he))
   go_upto_region 19 with (go_at_call 139; refine (HSP.out _ U3.out).mono ?_; rintro e w5 ⟨rfl, he5⟩; unfold boolsC)
   refine wp_later fun w6 hw6 => ?_
   obtain ⟨he6, b15, b16⟩ := hw6.newB2
   clear hw6
   have E6 := hid ((E2.out.trans he).trans (he5.trans he6))
   have hsz := E6.out.size
   have hsz5 := ((E2.out.trans he).trans he5).size
   go_wp2
   go_loopw [78] (fun i wr => ∃ (m : Nat) (met : Nat → Bool), m ≤ k ∧ i = .int .i64 (m : Int) ∧ Hid (Blk wr w5.heap.size 194 (boolsC (P.spot x (2 ^ h))) ∧ Blk wr (w5.heap.size + 1) 194 (boolsC met) ∧ (∀ i, i < 8 → met i = anyTo (fun j => P.cov g j i) m) ∧ (∀ j, j < m → P.dupAt (P.spot x (2 ^ h)) g j = false)) ∧ Ext w wr) (fun i _ => k - (intOf i).toNat)
   case atStart => exact ⟨0, fun _ => false, Nat.zero_le _, rfl, hid ⟨b15, b16, fun _ _ => rfl, fun _ h => absurd h (by omega)⟩, E6.out⟩
   case round =>
    obtain ⟨m, met, hmk, rfl, HI, hew⟩ := hrel
    obtain ⟨wo, rfl⟩ : ∃ wo : World, wo = wr := ⟨_, rfl⟩
    by_cases hlt2 : m < k
    ·obtain ⟨b, o, rfl, hbl, a0, a1⟩ := (hr.ext hew).at2 hlt2
     obtain ⟨p, q, hp0, hq0, hpq, hqn⟩ := HVL.out m hlt2
     rw [hp0] at a0
     rw [hq0] at a1
     have HP0 := hid hp0
     have HQ0 := hid hq0
     clear hp0 hq0
     go_wp2
     refine wp_later fun w7 hw7 => ?_
     obtain ⟨he7, b18⟩ := hw7.newB
     clear hw7 a0 a1
     have HJ := hid (And.intro (HI.out.1.ext he7) (HI.out.2.1.ext he7))
     go_loopw [19] (fun i wz => ∃ (r : Nat) (mt : Nat → Bool), r ≤ q - p ∧ i = .int .i64 ((p + r : Nat) : Int) ∧ Hid (Blk wz w5.heap.size 194 (boolsC (P.spot x (2 ^ h))) ∧ Blk wz (w5.heap.size + 1) 194 (boolsC mt) ∧ Blk wz wo.heap.size 51 #[.int .i64 (p : Int), .int .i64 (q : Int)] ∧ (∀ i, i < 8 → mt i = (met i || (decide (p ≤ i) && decide (i < p + r)))) ∧ (∀ i, p ≤ i → i < p + r → (P.spot x (2 ^ h) i && met i) = false)) ∧ Ext w wz) (fun i _ => q - (intOf i).toNat)
     case atStart => exact ⟨0, met, Nat.zero_le _, rfl, hid ⟨HJ.out.1, HJ.out.2, b18, fun i _ => by
      have : (decide (p ≤ i) && decide (i < p + 0)) = false := by by_cases h1 : p ≤ i <;> by_cases h2 : i < p <;> simp [h1, h2]; omega
      rw [this, Bool.or_false], fun i h1 h2 => absurd h2 (by omega)⟩, hew.trans he7⟩
     case round =>
      clear b18 HJ
      obtain ⟨r, mt, hrq, rfl, HK, hez⟩ := hrel
      have k18 := HK.out.2.2.1.cell
      have k18l := HK.out.2.2.1.lt
      have k15l := HK.out.1.lt
      have k16l := HK.out.2.1.lt
      by_cases hin : p + r < q
      ·have c15 : wr.cell? ⟨w5.heap.size, p + r, none⟩ = some (.bool (P.spot x (2 ^ h) (p + r))) := by rw [HK.out.1.cell, boolsC_at _ (by omega)]
       have c16 : wr.cell? ⟨w5.heap.size + 1, p + r, none⟩ = some (.bool (mt (p + r))) := by rw [HK.out.2.1.cell, boolsC_at _ (by omega)]
       have f16 := HK.out.2.1.frozen (p + r)
       have hi8 : ((p + r : Nat) : Int) < 8 := by omega
       have hmt : mt (p + r) = met (p + r) := by rw [HK.out.2.2.2.1 _ (by omega), decide_eq_false (show ¬ p + r < p + r by omega)]; simp
       have HMT := hid hmt
       clear hmt
       have fin : Hid ((P.spot x (2 ^ h) (p + r) && met (p + r)) = false → (Blk (wr.setCell ⟨w5.heap.size + 1, p + r, none⟩ (.bool true)) w5.heap.size 194 (boolsC (P.spot x (2 ^ h))) ∧ Blk (wr.setCell ⟨w5.heap.size + 1, p + r, none⟩ (.bool true)) (w5.heap.size + 1) 194 (boolsC fun j => if j = p + r then true else mt j) ∧ Blk (wr.setCell ⟨w5.heap.size + 1, p + r, none⟩ (.bool true)) wo.heap.size 51 #[.int .i64 (p : Int), .int .i64 (q : Int)] ∧ (∀ i, i < 8 → (if i = p + r then true else mt i) = (met i || (decide (p ≤ i) && decide (i < p + (r + 1))))) ∧ (∀ i, p ≤ i → i < p + (r + 1) → (P.spot x (2 ^ h) i && met i) = false))) := hid fun hno => by
        have hne : wo.heap.size ≠ w5.heap.size + 1 := by have := HI.out.2.1.lt; omega
        have hb := HK.out.2.1.set_ (p + r) (.bool true)
        rw [boolsC_set _ (by omega)] at hb
        refine ⟨HK.out.1.far (by simp) _, hb, HK.out.2.2.1.far hne _, fun i hi => ?_, fun i hi1 hi2 => ?_⟩
        ·by_cases hir : i = p + r
         ·rw [if_pos hir, decide_eq_true (show p ≤ i by omega), decide_eq_true (show i < p + (r + 1) by omega)]; simp
         ·rw [if_neg hir, HK.out.2.2.2.1 i hi]
          have : decide (i < p + r) = decide (i < p + (r + 1)) := by simp; omega
          rw [this]
        ·by_cases hir : i = p + r
         ·rw [hir]; exact hno
         ·exact HK.out.2.2.2.2 i hi1 (by omega)
       cases hso : P.spot x (2 ^ h) (p + r)
       ·have HSO := hid hso
        rw [hso] at c15
        clear hso
        go_wp2
        go_roundw
        case rel => exact ⟨r + 1, _, by omega, by go_num, hid (fin.out (by rw [HSO.out]; rfl)), hez.setCell _ (by have := E6.out.size; simp; omega)⟩
        case measure => simp [intOf]; omega
       ·have HSO := hid hso
        rw [hso] at c15
        clear hso
        cases hm2 : mt (p + r)
        ·have HM2 := hid hm2
         rw [hm2] at c16
         clear hm2
         go_wp2
         go_roundw
         case rel => exact ⟨r + 1, _, by omega, by go_num, hid (fin.out (by rw [← HMT.out, HM2.out]; simp)), hez.setCell _ (by have := E6.out.size; simp; omega)⟩
         case measure => simp [intOf]; omega
        ·have HM2 := hid hm2
         rw [hm2] at c16
         clear hm2
         go_wp2
         go_ret2
         have hd : P.dup (P.spot x (2 ^ h)) g k = true := anyTo_true.2 ⟨m, hlt2, anyTo_true.2 ⟨p + r, by omega, by
          have h3 : P.cov g m (p + r) = true := by simp only [P.cov, HP0.out, HQ0.out, Bool.and_eq_true, decide_eq_true_eq]; omega
          have h4 := HI.out.2.2.1 (p + r) (by omega)
          rw [← HMT.out, HM2.out] at h4
          rw [HSO.out, h3, ← h4]; rfl⟩⟩
         have he0 : P.errTo (P.pvE x h g) k = 0 := P.errTo_no hp.out
         have hE : P.provesE x h g k = 5 := by unfold P.provesE; rw [he0, hd]; rfl
         refine ⟨?_, hez⟩
         unfold P.provesV
         rw [hE]
         rfl
      ·go_wp2
       go_roundw
       case rel =>
        refine ⟨m + 1, mt, by omega, by go_num, hid ⟨HK.out.1, HK.out.2.1, fun i hi => ?_, fun j hj => ?_⟩, hez⟩
        ·rw [HK.out.2.2.2.1 i hi, HI.out.2.2.1 i hi]
         show _ = (anyTo (fun j => P.cov g j i) m || P.cov g m i)
         congr 1
         simp only [P.cov, HP0.out, HQ0.out]
         have e1 : decide (p ≤ i) = decide ((p : Int) ≤ (i : Int)) := by simp
         have e2 : decide (i < p + r) = decide ((i : Int) < (q : Int)) := by simp; omega
         rw [e1, e2]
        ·rcases Nat.lt_or_eq_of_le (Nat.le_of_lt_succ hj) with h4 | h4
         ·exact HI.out.2.2.2 j h4
         ·subst h4
          refine anyTo_false.2 fun i hi => ?_
          cases hcv : P.cov g j i
          ·simp
          ·simp only [P.cov, HP0.out, HQ0.out, Bool.and_eq_true, decide_eq_true_eq] at hcv
           have := HK.out.2.2.2.2 i (by omega) (by omega)
           rw [HI.out.2.2.1 i hi] at this
           rw [Bool.true_and]
           exact this
       case measure => simp [intOf]; omega
    ·obtain rfl : m = k := by omega
     go_wp2
     go_ret2
     have he0 : P.errTo (P.pvE x h g) m = 0 := P.errTo_no hp.out
     have hd : P.dup (P.spot x (2 ^ h)) g m = false := anyTo_false.2 HI.out.2.2.2
     have hE : P.provesE x h g m = 0 := by unfold P.provesE; rw [he0, hd]; rfl
     refine ⟨?_, hew⟩
     unfold P.provesV
     rw [hE]
     rfl
end Go.Proofs.YtkhjmedfhobebaaGreat
namespace HandSpec
theorem strE_right {x : WD} (hc : P.chk x = 0) (a b : Int) : P.strE x a b = R.right x a b := by
 unfold P.strE R.right
 rw [if_neg (by simpa using hc), offB_eq, offB_eq]
/-- Another hand is there. -/
theorem other_iff {x : WD} (hx : Ok x) {p q : Nat} (hpq : p < q) (hqn : q < x.cn) (h : Nat) : P.th x p q ^^^ (P.th x p q &&& 2 ^ h) ≠ 0 ↔ ∃ j, j < x.hands.toNat ∧ j ≠ h ∧ R.is x p q j = true := by
 constructor
 ·intro hne
  obtain ⟨j, hj⟩ : ∃ j, (P.th x p q ^^^ (P.th x p q &&& 2 ^ h)).testBit j = true := by
   refine Classical.byContradiction fun hn => hne (Nat.eq_of_testBit_eq fun i => ?_)
   rw [Nat.zero_testBit]
   cases hc : (P.th x p q ^^^ (P.th x p q &&& 2 ^ h)).testBit i
   ·rfl
   ·exact absurd ⟨i, hc⟩ hn
  rw [Nat.testBit_xor, Nat.testBit_and, Nat.testBit_two_pow] at hj
  have hjh : j ≠ h := by
   rintro rfl
   simp at hj
  have hjt : (P.th x p q).testBit j = true := by
   cases hb : (P.th x p q).testBit j
   ·rw [hb] at hj; simp at hj
   ·rfl
  refine ⟨j, ?_, hjh, by rw [← P.th_bit hx hpq hqn]; exact hjt⟩
  rcases Nat.lt_or_ge j x.hands.toNat with h1 | h1
  ·exact h1
  ·have := Nat.testBit_lt_two_pow (Nat.lt_of_lt_of_le (P.th_lt' hx p q) (Nat.pow_le_pow_right (n := 2) (by omega) h1))
   rw [this] at hjt; cases hjt
 ·rintro ⟨j, _, hjh, hj⟩ h0
  have := congrArg (fun n => Nat.testBit n j) h0
  simp only [Nat.testBit_xor, Nat.testBit_and, Nat.testBit_two_pow, Nat.zero_testBit] at this
  rw [P.th_bit hx hpq hqn, hj, decide_eq_false (show ¬ h = j from fun e => hjh e.symm)] at this
  simp at this
theorem spot_is {x : WD} (hx : Ok x) {i : Nat} (hi : i + 1 < x.cn) (h : Nat) : P.spot x (2 ^ h) i = R.is x i (i+1) h := by
 unfold P.spot
 rw [decide_eq_true hi, Bool.true_and, ← P.th_bit hx (show i < i + 1 by omega) hi, Bool.eq_iff_iff, decide_eq_true_eq]
 constructor
 ·intro hne
  cases hb : (P.th x i (i+1)).testBit h
  ·exfalso
   refine hne (Nat.eq_of_testBit_eq fun j => ?_)
   rw [Nat.testBit_and, Nat.testBit_two_pow, Nat.zero_testBit]
   by_cases e : h = j
   ·subst e; rw [hb]; simp
   ·simp [e]
  ·rfl
 ·intro hb h0
  have := congrArg (fun n => Nat.testBit n h) h0
  simp only [Nat.testBit_and, Nat.testBit_two_pow, Nat.zero_testBit, hb] at this
  simp at this
def cntTo (f : Nat → Bool) : Nat → Nat
 | 0 => 0
 | k+1 => cntTo f k + if f k then 1 else 0
theorem cntTo_le (f : Nat → Bool) : ∀ k, cntTo f k ≤ k
 | 0 => Nat.le_refl _
 | k+1 => by have := cntTo_le f k; unfold cntTo; split <;> omega
theorem cntTo_zero {f : Nat → Bool} : ∀ {n : Nat}, (∀ k, k < n → f k = false) → cntTo f n = 0
 | 0, _ => rfl
 | n+1, h => by unfold cntTo; rw [cntTo_zero fun k hk => h k (by omega), h n (by omega)]; rfl
theorem cntTo_one {f : Nat → Bool} {n : Nat} : cntTo f n = 0 → ∀ k, k < n → f k = false := by
 induction n with
 | zero => intro _ k hk; omega
 | succ n ih =>
  intro h k hk
  unfold cntTo at h
  cases hf : f n
  ·rcases Nat.lt_or_eq_of_le (Nat.le_of_lt_succ hk) with h1 | h1
   ·exact ih (by omega) k h1
   ·rw [h1]; exact hf
  ·rw [hf] at h; simp at h
theorem cntTo_two {f : Nat → Bool} : ∀ {n : Nat}, 1 < cntTo f n ↔ ∃ k, k < n ∧ f k = true ∧ ∃ j, j < k ∧ f j = true
 | 0 => by simp [cntTo]
 | n+1 => by
  unfold cntTo
  constructor
  ·intro h
   by_cases h1 : 1 < cntTo f n
   ·obtain ⟨k, hk, h2⟩ := cntTo_two.1 h1
    exact ⟨k, by omega, h2⟩
   ·cases hf : f n
    ·rw [hf] at h; simp at h; omega
    ·rw [hf] at h
     simp at h
     refine ⟨n, by omega, hf, ?_⟩
     refine Classical.byContradiction fun hn => ?_
     have := cntTo_zero (f := f) (n := n) fun k hk => by
      cases hc : f k
      ·rfl
      ·exact absurd ⟨k, hk, hc⟩ hn
     omega
  ·rintro ⟨k, hk, hf, j, hj, hfj⟩
   rcases Nat.lt_or_eq_of_le (Nat.le_of_lt_succ hk) with h1 | h1
   ·have := cntTo_two.2 ⟨k, h1, hf, j, hj, hfj⟩
    omega
   ·subst h1
    rw [hf]
    have : cntTo f k ≠ 0 := fun h0 => by rw [cntTo_one h0 j hj] at hfj; cases hfj
    simp; omega
end HandSpec
namespace Go.Proofs.YtkhjmedfhobebaaGreat
open Go.RowKit HandSpec
set_option maxHeartbeats 2000000
set_option maxRecDepth 100000
theorem provesR_any {x : WD} {w : World} {v : Value} (hv : IsW w v x) {h : Nat} (hc : P.chk x = 0) (_hh : (h : Int) < x.hands) {A : Option Addr} {n cap : Nat} {g : Nat → Nat → Int} (hr : Rd w A n 2 g) (hn : n ≤ 100) :
  Calls Tryz.prog 29 #[v, .int .i64 (h : Int), .slice A n cap] w fun e w' => e = .returned (.tuple #[.int .i64 (P.provesV x h g n), .int .i64 (P.provesE x h g n)]) ∧ Ext w w' := by
 have HV := hid hv
 obtain ⟨A1, c1, A2, c2, A3, c3, rfl, r1, r2, r3⟩ := hv
 clear r1 r2 r3
 have hx := Ok.of_chk hc
 have hhd := hx.hands
 have hcn := hx.cn
 have HC := hid hc
 clear hc
 go_enter Tryz.func29, Tryz.ntmps29
 go_upto_region 1 with fail
 refine wp_later fun w1 hw1 => ?_
 obtain ⟨E0, b3⟩ := hw1.newB
 clear hw1
 go_wp2
 go_loopw [8, 9] (fun s i wr => ∃ k : Nat, k ≤ n ∧ i = .int .i64 (k : Int) ∧ s = .int .i64 (sumTo (P.pvG x g) k) ∧ (-(20000 * (k : Int)) ≤ sumTo (P.pvG x g) k ∧ sumTo (P.pvG x g) k ≤ 20000 * k) ∧ Hid (∀ j, j < k → P.pvE x h g j = 0) ∧ Ext w1 wr) (fun _ i _ => n - (intOf i).toNat)
 case atStart => exact ⟨0, Nat.zero_le _, rfl, rfl, by simp [sumTo], fun _ h => absurd h (by omega), Ext.refl _⟩
 case round =>
  obtain ⟨k, hkn, rfl, rfl, hsb, hp, he⟩ := hrel
  have k3 := (b3.ext he).cell
  have k3l := (b3.ext he).lt
  by_cases hlt : k < n
  ·obtain ⟨b, o, rfl, hbl, a0, a1⟩ := (hr.ext (E0.trans he)).at2 hlt
   have hki : (k : Int) < n := by omega
   have HSR := hid (strE_right HC.out (g k 0) (g k 1))
   go_upto_region 5 with fail
   refine wp_region_later (by kernel_rfl) (by kernel_rfl) ?_
   repeat (go_big_quiet_step ((go_at_call 55; exact Calls.later (right_any (by omega) (HV.out.ext ((E0.trans he).trans (Later.ext _))) _ _))))
   refine wpQuiet_nil ?_
   rintro w2 ⟨⟨_, he2⟩, rfl⟩
   have k3 := (b3.ext (he.trans he2)).cell
   have k3l := (b3.ext (he.trans he2)).lt
   have a0 := he2.some_ a0
   have a1 := he2.some_ a1
   by_cases hs : R.right x (g k 0) (g k 1) = 0
   ·obtain ⟨-, ha, hb', hab⟩ := strE_ok (x := x) (a := g k 0) (b := g k 1) (by rw [HSR.out]; exact hs)
    simp [inB] at ha hb'
    obtain ⟨p, hp0⟩ := Int.eq_ofNat_of_zero_le ha.1
    obtain ⟨q, hq0⟩ := Int.eq_ofNat_of_zero_le hb'.1
    have hpq : p < q := by omega
    have hqn : q < x.cn := by omega
    have HPE : Hid (P.pvE x h g k = if P.gap x p q ≤ 0 then 8 else if P.th x p q ^^^ (P.th x p q &&& 2 ^ h) ≠ 0 then 8 else 0) := hid (by unfold P.pvE; rw [HSR.out, if_neg (by simpa using hs), hp0, hq0]; rfl)
    have HPG : Hid (P.pvG x g k = P.gap x p q) := hid (by unfold P.pvG; rw [hp0, hq0]; rfl)
    have hgp : P.gap x p q = R.gap x p q := P.gap_eq hx (Nat.le_of_lt hpq) hqn
    rw [hgp] at HPE HPG
    have hgb : -20000 ≤ R.gap x p q ∧ R.gap x p q ≤ 20000 := by rw [← hgp]; exact P.gap_bd hx (by omega) hqn
    rw [hp0] at a0
    rw [hq0] at a1
    have HP0 := hid hp0
    have HQ0 := hid hq0
    clear ha hb' hab hp0 hq0 hgp
    go_upto_region 8 with fail
    clear hs
    have E2 := hid (he.trans he2)
    by_cases o1 : R.gap x p q ≤ 0
    ·have q1 : decide (R.gap x p q ≤ 0) = true := by simpa using o1
     have HP8 : Hid (P.pvE x h g k = 8) := hid (by rw [HPE.out, if_pos o1])
     clear o1
     refine wp_region_later (by kernel_rfl) (by kernel_rfl) ?_
     repeat (go_big_quiet_step ((go_at_call 57; exact Calls.later (gap_any hx (HV.out.ext ((E0.trans E2.out).trans (Later.ext _))) p q (by omega) hqn))))
     refine wpQuiet_nil ?_
     rintro w3 ⟨⟨_, he3⟩, rfl⟩
     go_wp2
     go_ret2
     have hE : P.provesE x h g n = 8 := by unfold P.provesE; rw [P.errTo_first (f := P.pvE x h g) (n := n) hp.out (by rw [HP8.out]; decide) hlt, HP8.out]; rfl
     refine ⟨?_, E0.trans (E2.out.trans he3)⟩
     unfold P.provesV
     rw [hE]
     rfl
    ·have q1 : decide (R.gap x p q ≤ 0) = false := by simpa using o1
     have HO1 : Hid (0 < R.gap x p q) := hid (Int.not_le.1 o1)
     clear o1
     refine wp_region_later (by kernel_rfl) (by kernel_rfl) ?_
     repeat (go_big_quiet_step ((go_at_call 57; exact Calls.later (gap_any hx (HV.out.ext ((E0.trans E2.out).trans (Later.ext _))) p q (by omega) hqn))))
     refine wpQuiet_nil ?_
     rintro w3 ⟨⟨_, he3⟩, rfl⟩
     have E3 := hid (E2.out.trans he3)
     clear k3 k3l a0 a1 q1
     go_wp2
     go_loopw [11] (fun i wz => ∃ j : Nat, j ≤ x.hands.toNat ∧ i = .int .i64 (j : Int) ∧ Hid (∀ t, t < j → t ≠ h → R.is x p q t = false) ∧ Ext w3 wz) (fun i _ => x.hands.toNat - (intOf i).toNat)
     case atStart => exact ⟨0, Nat.zero_le _, rfl, fun _ h => absurd h (by omega), Ext.refl _⟩
     case round =>
      obtain ⟨j, hjn, rfl, hno, hez⟩ := hrel
      have F3 := hid (E3.out.trans hez)
      have k3 := (b3.ext F3.out).cell
      have k3l := (b3.ext F3.out).lt
      obtain ⟨_, _, hqa, _, a0, a1⟩ := (hr.ext (E0.trans F3.out)).at2 hlt
      obtain ⟨rfl, rfl⟩ := same_addr hqa rfl
      rw [HP0.out] at a0
      rw [HQ0.out] at a1
      clear hqa
      by_cases hj : j < x.hands.toNat
      ·have hji : (j : Int) < x.hands := by omega
       go_upto_region 13 with fail
       by_cases hjh : j = h
       ·have q2 : ((j : Int) != (h : Int)) = false := by rw [bne_eq_false_iff_eq]; omega
        have HJH := hid hjh
        clear hjh
        refine wp_region_later (by kernel_rfl) (by kernel_rfl) ?_
        repeat (go_big_quiet_step (fail))
        refine wpQuiet_nil ?_
        rintro w4 ⟨⟨_, he4⟩, rfl⟩
        go_wp2
        go_roundw
        case rel => exact ⟨j + 1, by omega, by go_num, hid fun t ht hth => by
         rcases Nat.lt_or_eq_of_le (Nat.le_of_lt_succ ht) with h4 | h4
         ·exact hno.out t h4 hth
         ·exact absurd (h4.trans HJH.out) hth, hez.trans he4⟩
        case measure => simp [intOf]; omega
       ·have q2 : ((j : Int) != (h : Int)) = true := by rw [bne_iff_ne]; omega
        have HJH := hid hjh
        clear hjh
        cases his : R.is x p q j
        ·have HIS := hid his
         clear his
         have hcl : ∀ n : Later wr, Calls Tryz.prog 126 #[.agg #[.int .i64 x.hours, .int .i64 x.allow, .int .i64 x.hands, .slice A1 x.cn c1, .slice A2 x.bn c2, .slice A3 x.sn c3], .agg #[.int .i64 (p : Int), .int .i64 (q : Int)], .int .i64 (j : Int)] n.at_ fun e w' => e = .returned (.bool false) ∧ Ext n.at_ w' := fun n => by
          have := is_any hx (HV.out.ext ((E0.trans F3.out).trans n.ok)) p q (Nat.le_of_lt hpq) hqn (j : Int)
          rwa [HIS.out] at this
         have HCL := hid hcl
         clear hcl
         refine wp_region_later (by kernel_rfl) (by kernel_rfl) ?_
         repeat (go_big_quiet_step ((go_at_call 126; exact Calls.later (HCL.out _))))
         refine wpQuiet_nil ?_
         rintro w4 ⟨⟨_, he4⟩, rfl⟩
         go_wp2
         go_roundw
         case rel => exact ⟨j + 1, by omega, by go_num, hid fun t ht hth => by
          rcases Nat.lt_or_eq_of_le (Nat.le_of_lt_succ ht) with h4 | h4
          ·exact hno.out t h4 hth
          ·rw [h4]; exact HIS.out, hez.trans he4⟩
         case measure => simp [intOf]; omega
        ·have HIS := hid his
         clear his
         have hcl : ∀ n : Later wr, Calls Tryz.prog 126 #[.agg #[.int .i64 x.hours, .int .i64 x.allow, .int .i64 x.hands, .slice A1 x.cn c1, .slice A2 x.bn c2, .slice A3 x.sn c3], .agg #[.int .i64 (p : Int), .int .i64 (q : Int)], .int .i64 (j : Int)] n.at_ fun e w' => e = .returned (.bool true) ∧ Ext n.at_ w' := fun n => by
          have := is_any hx (HV.out.ext ((E0.trans F3.out).trans n.ok)) p q (Nat.le_of_lt hpq) hqn (j : Int)
          rwa [HIS.out] at this
         have HCL := hid hcl
         have HP8 : Hid (P.pvE x h g k = 8) := hid (by rw [HPE.out, if_neg (Int.not_le.2 HO1.out), if_pos ((other_iff hx hpq hqn h).2 ⟨j, hj, HJH.out, HIS.out⟩)])
         clear hcl
         refine wp_region_later (by kernel_rfl) (by kernel_rfl) ?_
         repeat (go_big_quiet_step ((go_at_call 126; exact Calls.later (HCL.out _))))
         refine wpQuiet_nil ?_
         rintro w4 ⟨⟨_, he4⟩, rfl⟩
         go_wp2
         go_ret2
         have hE : P.provesE x h g n = 8 := by unfold P.provesE; rw [P.errTo_first (f := P.pvE x h g) (n := n) hp.out (by rw [HP8.out]; decide) hlt, HP8.out]; rfl
         refine ⟨?_, E0.trans (F3.out.trans he4)⟩
         unfold P.provesV
         rw [hE]
         rfl
      ·have hji : ¬ (j : Int) < x.hands := by omega
       have HP0' : Hid (P.pvE x h g k = 0) := hid (by
        rw [HPE.out, if_neg (Int.not_le.2 HO1.out), if_neg]
        rw [other_iff hx hpq hqn h]
        rintro ⟨t, ht, hth, his⟩
        rw [hno.out t (by omega) hth] at his
        cases his)
       have hss : sumTo (P.pvG x g) (k + 1) = sumTo (P.pvG x g) k + R.gap x p q := by show _ + P.pvG x g k = _; rw [HPG.out]
       have HSS := hid hss
       have hwn : IntKind.i64.wrap (sumTo (P.pvG x g) k + R.gap x p q) = sumTo (P.pvG x g) k + R.gap x p q := IntWalk.i64_in _ (by omega)
       clear hss
       go_upto_region 15 with fail
       refine wp_region_later (by kernel_rfl) (by kernel_rfl) ?_
       repeat (go_big_quiet_step ((go_at_call 57; exact Calls.later (gap_any hx (HV.out.ext ((E0.trans F3.out).trans (Later.ext _))) p q (by omega) hqn))))
       refine wpQuiet_nil ?_
       rintro w4 ⟨⟨_, he4⟩, rfl⟩
       clear hwn
       go_wp2
       go_roundw
       case rel => exact ⟨k + 1, by omega, by go_num, by rw [HSS.out], by rw [HSS.out]; omega, hid fun j hj => by
        rcases Nat.lt_or_eq_of_le (Nat.le_of_lt_succ hj) with h4 | h4
        ·exact hp.out j h4
        ·rw [h4]; exact HP0'.out, F3.out.trans he4⟩
       case measure => simp [intOf]; omega
   ·have HS := hid hs
    have hne : (R.right x (g k 0) (g k 1) == 0) = false := by simpa using hs
    have HPE : Hid (P.pvE x h g k = R.right x (g k 0) (g k 1)) := hid (by unfold P.pvE; rw [HSR.out, if_pos hs])
    clear hs
    go_wp2
    go_ret2
    have he0 := P.errTo_first (f := P.pvE x h g) (n := n) hp.out (by rw [HPE.out]; exact HS.out) hlt
    refine ⟨?_, (E0.trans he).trans he2⟩
    have hE : P.provesE x h g n = R.right x (g k 0) (g k 1) := by unfold P.provesE; rw [he0, HPE.out, if_pos HS.out]
    unfold P.provesV
    rw [hE, if_neg HS.out]
    rfl
  ·obtain rfl : k = n := by omega
   have hval : ∀ j, j < k → ∃ p q : Nat, g j 0 = (p : Int) ∧ g j 1 = (q : Int) ∧ p < q ∧ q < x.cn := fun j hj => by
    obtain ⟨-, ha, hb', hab⟩ := strE_ok (P.pvE_zero (hp.out j hj))
    simp [inB] at ha hb'
    obtain ⟨p, hp0⟩ := Int.eq_ofNat_of_zero_le ha.1
    obtain ⟨q, hq0⟩ := Int.eq_ofNat_of_zero_le hb'.1
    exact ⟨p, q, hp0, hq0, by omega, by omega⟩
   have HVL := hid hval
   clear hval k3 k3l
   go_wp2
   go_loopw [12] (fun i wz => ∃ t : Nat, t ≤ x.cn ∧ i = .int .i64 (t : Int) ∧ Hid (∀ i, i < t → i + 1 < x.cn → cntTo (fun j => P.cov g j i && R.is x i (i+1) h) k ≤ 1) ∧ Ext w1 wz) (fun i _ => x.cn - (intOf i).toNat)
   case atStart => exact ⟨0, Nat.zero_le _, rfl, fun _ h => absurd h (by omega), he⟩
   case round =>
    obtain ⟨t, htn, rfl, hcnt, hez⟩ := hrel
    have k3 := (b3.ext hez).cell
    have k3l := (b3.ext hez).lt
    by_cases ht : t + 1 < x.cn
    ·have hti : (t : Int) + 1 < (x.cn : Int) := by omega
     obtain ⟨wo, rfl⟩ : ∃ wo : World, wo = wr := ⟨_, rfl⟩
     go_wp2
     clear k3 k3l
     obtain ⟨f, hf⟩ : ∃ f : Nat → Bool, f = fun j => P.cov g j t && R.is x t (t+1) (h : Int) := ⟨_, rfl⟩
     have HF := hid hf
     clear hf
     go_loopw [13, 14] (fun c i wz => ∃ r : Nat, r ≤ k ∧ i = .int .i64 (r : Int) ∧ c = .int .i64 ((cntTo f r : Nat) : Int) ∧ Ext w1 wz) (fun _ i _ => k - (intOf i).toNat)
     case atStart => exact ⟨0, Nat.zero_le _, rfl, rfl, hez⟩
     case round =>
      obtain ⟨r, hrk, rfl, rfl, hey⟩ := hrel
      have k3 := (b3.ext hey).cell
      have k3l := (b3.ext hey).lt
      have hcl := cntTo_le f r
      by_cases hr2 : r < k
      ·obtain ⟨b, o, rfl, hbl, a0, a1⟩ := (hr.ext (E0.trans hey)).at2 hr2
       have HCS := hid (show cntTo f (r+1) = cntTo f r + if (P.cov g r t && R.is x t (t+1) h) then 1 else 0 by rw [show (P.cov g r t && R.is x t (t+1) h) = f r by rw [HF.out]]; rfl)
       have hri : (r : Int) < k := by omega
       have hsc := is_any hx (HV.out.ext (E0.trans hey)) t (t+1) (by omega) ht (h : Int)
       rw [Int.natCast_add] at hsc
       by_cases o1 : g r 0 ≤ (t : Int)
       ·by_cases o2 : (t : Int) < g r 1
        ·have hcv : P.cov g r t = true := by simp [P.cov, o1, o2]
         cases his : R.is x t (t+1) h
         all_goals
          rw [hcv, his] at HCS
          rw [his] at hsc
          have HSC := hid hsc
          clear hsc his hcv
          go_wp2_with (go_at_call 126; refine HSC.out.mono ?_; rintro e w4 ⟨rfl, he4⟩)
          go_roundw
          case rel => exact ⟨r + 1, by omega, by go_num, by rw [HCS.out]; simp, hey.trans he4⟩
          case measure => simp [intOf]; omega
        ·have hcv : P.cov g r t = false := by simp [P.cov]; omega
         rw [hcv] at HCS
         clear hsc hcv
         go_wp2
         go_roundw
         case rel => exact ⟨r + 1, by omega, by go_num, by rw [HCS.out]; simp, hey⟩
         case measure => simp [intOf]; omega
       ·have hcv : P.cov g r t = false := by simp [P.cov]; omega
        rw [hcv] at HCS
        clear hsc hcv
        go_wp2
        go_roundw
        case rel => exact ⟨r + 1, by omega, by go_num, by rw [HCS.out]; simp, hey⟩
        case measure => simp [intOf]; omega
      ·obtain rfl : r = k := by omega
       by_cases hc2 : 1 < cntTo f r
       ·have hci : (1 : Int) < ((cntTo f r : Nat) : Int) := by omega
        have HC2 := hid hc2
        clear hc2
        go_wp2
        go_ret2
        have hd : P.dup (P.spot x (2 ^ h)) g r = true := by
         obtain ⟨a, ha, hfa, b, hb, hfb⟩ := cntTo_two.1 HC2.out
         rw [HF.out] at hfa hfb
         simp only [Bool.and_eq_true] at hfa hfb
         refine anyTo_true.2 ⟨a, ha, anyTo_true.2 ⟨t, by omega, ?_⟩⟩
         rw [spot_is hx ht, hfa.2, hfa.1, anyTo_true.2 ⟨b, hb, hfb.1⟩]; rfl
        have he0 : P.errTo (P.pvE x h g) r = 0 := P.errTo_no hp.out
        have hE : P.provesE x h g r = 5 := by unfold P.provesE; rw [he0, hd]; rfl
        refine ⟨?_, E0.trans hey⟩
        unfold P.provesV
        rw [hE]
        rfl
       ·have hci : ¬ (1 : Int) < ((cntTo f r : Nat) : Int) := by omega
        have HC2 := hid hc2
        clear hc2
        go_wp2
        go_roundw
        case rel => exact ⟨t + 1, by omega, by go_num, hid fun i hi hic => by
         rcases Nat.lt_or_eq_of_le (Nat.le_of_lt_succ hi) with h4 | h4
         ·exact hcnt.out i h4 hic
         ·subst h4; have := Nat.not_lt.1 HC2.out; rw [HF.out] at this; exact this, hey⟩
        case measure => simp [intOf]; omega
    ·have hti : ¬ (t : Int) + 1 < (x.cn : Int) := by omega
     go_wp2
     go_ret2
     have hd : P.dup (P.spot x (2 ^ h)) g k = false := by
      refine anyTo_false.2 fun a ha => anyTo_false.2 fun i hi => ?_
      cases hs : P.spot x (2 ^ h) i
      ·simp
      ·have hic : i + 1 < x.cn := by
        unfold P.spot at hs
        rw [Bool.and_eq_true, decide_eq_true_eq] at hs
        exact hs.1
       cases hcv : P.cov g a i
       ·simp
       ·cases hav : anyTo (fun j => P.cov g j i) a
        ·simp
        ·exfalso
         obtain ⟨b, hb, hbv⟩ := anyTo_true.1 hav
         have h5 := hcnt.out i (by omega) hic
         have h6 : 1 < cntTo (fun j => P.cov g j i && R.is x i (i+1) h) k := cntTo_two.2 ⟨a, ha, by simp [hcv, ← spot_is hx hic, hs], b, hb, by simp [hbv, ← spot_is hx hic, hs]⟩
         omega
     have he0 : P.errTo (P.pvE x h g) k = 0 := P.errTo_no hp.out
     have hE : P.provesE x h g k = 0 := by unfold P.provesE; rw [he0, hd]; rfl
     refine ⟨?_, E0.trans hez⟩
     unfold P.provesV
     rw [hE]
     rfl
end Go.Proofs.YtkhjmedfhobebaaGreat
