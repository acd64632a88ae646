/- Walk of Shows (62). The groups are short. -/
import Derived.Test.YtbceepjjdfpfmaaGreatCon
import Derived.Test.YtbceepjjdfpfmaaGreatNetA
import Derived.Test.YtbceepjjdfpfmaaGreatHeld
namespace Go.Proofs.YtbceepjjdfpfmaaGreat
open Go.RowKit HandSpec LoanSpec
set_option maxHeartbeats 2000000
set_option maxRecDepth 100000
theorem asks147 {w : World} {A : Option Addr} {n cap L : Nat} {g : Nat → Nat → Int} {b : Nat} {t : TypeId} (hn : n ≤ 1000) (hb : Blk w b t #[.slice A n cap]) :
    Asks w (.func (.func 147) #[] #[.pointer (some ⟨b, 0, none⟩)]) L (enc1 g) (fun k => inB (g k 0) 0 ((n : Int) - 1)) := by
  refine ⟨_, _, rfl, enters_ Tryz.func147 (by kernel_rfl) rfl, fun k hk w' he => ?_⟩
  unfold enc1
  have k0 := (hb.ext he).cell
  have hlt := (hb.ext he).lt
  go_enter Tryz.func147, Tryz.ntmps147
  go_wp2_with (go_at_call 101; refine (in_any _ _ _ _).mono ?_; rintro e w2 ⟨rfl, rfl⟩)
  go_ret
  exact ⟨rfl, Ext.refl _⟩
/-- A group that has people, in their order. -/
def ordB (c : Nat → Nat) (gr : Nat → Nat → Int) (k : Nat) : Bool := decide (0 < c k) && !fallB (gr k) (c k)
theorem asks148 {w : World} {n : Nat} {m : Nat → Nat} {g : Nat → Nat → Int} {B : Nat → Option Addr} {C : Nat → Nat} (hm : ∀ k, k < n → m k ≤ 1000) (hr : ∀ k, k < n → Rd w (B k) (m k) 1 (fun j _ => g k j)) :
    Asks w (.func (.func 148) #[] #[]) n (fun k => .slice (B k) (m k) (C k)) (ordB m g) := by
  refine ⟨_, _, rfl, enters_ Tryz.func148 (by kernel_rfl) rfl, fun k hk w' he => ?_⟩
  have hR := hid ((hr k hk).ext he)
  have hmk := hid (hm k hk)
  clear hm hr
  obtain ⟨x, hx⟩ : ∃ x, Hid (fallB (g k) (m k) = x) := ⟨_, hid rfl⟩
  by_cases h0 : 0 < m k
  · have h1 : (0 : Int) < (m k : Int) := by omega
    have hG := hid (show ordB m g k = !x by unfold ordB; rw [hx.out, decide_eq_true h0]; rfl)
    go_enter Tryz.func148, Tryz.ntmps148
    go_wp2_with (go_at_call 131; refine (rising131 hR.out hmk.out).mono ?_; rintro e w2 ⟨rfl, he2⟩; rw [show fallB (fun i => g k i) (m k) = x from hx.out])
    go_ret
    exact ⟨ret_bool hG.out.symm, he2⟩
  · have h1 : ¬ (0 : Int) < (m k : Int) := by omega
    have hG := hid (show ordB m g k = false by unfold ordB; rw [decide_eq_false h0]; rfl)
    go_enter Tryz.func148, Tryz.ntmps148
    go_wp2_with fail
    go_ret
    exact ⟨ret_bool hG.out.symm, Ext.refl _⟩
/-- Someone named is not there. -/
def outG (n q : Nat) (c : Nat → Nat) (gr : Nat → Nat → Int) : Bool := anyTo (fun k => !inB (rowsAt (allR c gr q) k 0) 0 ((n : Int) - 1)) (allR c gr q).length
/-- A group is empty, or out of order. -/
def offG (q : Nat) (c : Nat → Nat) (gr : Nat → Nat → Int) : Bool := anyTo (fun k => !ordB c gr k) q
/-- A group is not whole. -/
def badG (f : Nat → Int) (c : Nat → Nat) (gr : Nat → Nat → Int) (k : Nat) : Bool := anyTo (fun j => f (gr k j).toNat == 0) (c k) || !(sumTo (fun j => f (gr k j).toNat) (c k) == 0)
/-- How often z comes. -/
def timesTo (r : Nat → Int) (z : Int) : Nat → Nat
  | 0 => 0
  | i + 1 => timesTo r z i + if r i = z then 1 else 0
/-- Someone who is not even is not in just one group. -/
def offT (f : Nat → Int) (r : Nat → Int) (T k : Nat) : Bool := !(f k == 0) && !(timesTo r (k : Int) T == 1)
/-- How many of the first k are not even. -/
def manyTo (f : Nat → Int) : Nat → Nat
  | 0 => 0
  | k + 1 => manyTo f k + if f k = 0 then 0 else 1
theorem timesTo_le (r : Nat → Int) (z : Int) : ∀ i, timesTo r z i ≤ i
  | 0 => Nat.le_refl _
  | i + 1 => by
    have := timesTo_le r z i
    simp only [timesTo]
    split <;> omega
theorem manyTo_le (f : Nat → Int) : ∀ i, manyTo f i ≤ i
  | 0 => Nat.le_refl _
  | i + 1 => by
    have := manyTo_le f i
    simp only [manyTo]
    split <;> omega
def showE (n : Nat) (m : Nat → Nat) (g : Nat → Nat → Int) (q : Nat) (c : Nat → Nat) (gr : Nat → Nat → Int) : Int :=
  if chkD n m g ≠ 0 then chkD n m g else if outG n q c gr then 1 else if offG q c gr then 4
  else if anyTo (badG (netTo g n n) c gr) q then 8 else if anyTo (offT (netTo g n n) (fun i => rowsAt (allR c gr q) i 0) (allR c gr q).length) n then 8 else 0
def showV (n : Nat) (m : Nat → Nat) (g : Nat → Nat → Int) (q : Nat) (c : Nat → Nat) (gr : Nat → Nat → Int) : Int :=
  if showE n m g q c gr = 0 then (manyTo (netTo g n n) n : Int) - q else 0
theorem rowsAt_app {a b : List (List Int)} {k j : Nat} (h : k < a.length) : rowsAt (a ++ b) k j = rowsAt a k j := by
  have e : (a ++ b).getD k [] = a.getD k [] := by rw [List.getD_eq_getElem?_getD, List.getElem?_append_left h, ← List.getD_eq_getElem?_getD]
  unfold rowsAt
  rw [e]
theorem rowsAt_app' {a b : List (List Int)} {k j : Nat} : rowsAt (a ++ b) (a.length + k) j = rowsAt b k j := by
  have e : (a ++ b).getD (a.length + k) [] = b.getD k [] := by rw [List.getD_eq_getElem?_getD, List.getElem?_append_right (Nat.le_add_right _ _), Nat.add_sub_cancel_left, ← List.getD_eq_getElem?_getD]
  unfold rowsAt
  rw [e]
theorem allR_at (c : Nat → Nat) (gr : Nat → Nat → Int) : ∀ q k j, k < q → j < c k → ∃ i, i < (allR c gr q).length ∧ rowsAt (allR c gr q) i 0 = gr k j
  | 0, _, _, h, _ => absurd h (by omega)
  | q + 1, k, j, h, hj => by
    simp only [allR, List.length_append, rowsG_length]
    by_cases e : k = q
    · subst e
      exact ⟨(allR c gr k).length + j, by omega, by rw [rowsAt_app', rowsG_at hj (by omega)]⟩
    · obtain ⟨i, h1, h2⟩ := allR_at c gr q k j (by omega) hj
      exact ⟨i, by omega, by rw [rowsAt_app h1, h2]⟩
theorem outG_no {n q : Nat} {c : Nat → Nat} {gr : Nat → Nat → Int} (h : outG n q c gr = false) : (∀ k j, k < q → j < c k → ∃ t : Nat, gr k j = (t : Int) ∧ t < n) := fun k j hk hj => by
  obtain ⟨i, h1, h2⟩ := allR_at c gr q k j hk hj
  have := anyTo_false.1 h i h1
  rw [h2] at this
  simp [inB] at this
  exact ⟨(gr k j).toNat, by omega, by omega⟩
theorem ret_two {a b a' b' : Int} (h : a = a') (h' : b = b') : Ending.returned (.tuple #[.int .i64 a, .int .i64 b]) = .returned (.tuple #[.int .i64 a', .int .i64 b']) := by rw [h, h']
theorem shows62 {w : World} {A Ag : Option Addr} {n cap q capg : Nat} {m c : Nat → Nat} {g gr : Nat → Nat → Int} (hr : RdN w A n m g) (hn : n ≤ 1000) (hm : ∀ k, k < n → m k ≤ 1000) (hg : RdN w Ag q c gr) (hq : q ≤ 20) (hc : ∀ k, k < q → c k ≤ 20) :
    Calls Tryz.prog 62 #[.slice A n cap, .slice Ag q capg] w (fun e w' => e = .returned (.tuple #[.int .i64 (showV n m g q c gr), .int .i64 (showE n m g q c gr)]) ∧ Ext w w') := by
  have hmf : ∀ (fn : Fn) (first cap : Array Value) (w : World), (Instr.makeFunc fn first cap).run Tryz.prog w = .ok (.func fn first cap) w := fun _ _ _ _ => rfl
  have hT : (allR c gr q).length ≤ 400 := by
    have := allR_length c gr (C := 20) q hc
    omega
  have HR := hid hr
  have HM := hid hm
  have HG := hid hg
  have HC := hid hc
  obtain ⟨Bg, Cg, hg1, hg2⟩ := hg
  have HG1 := hid hg1
  have HG2 := hid hg2
  have HC' := hid (show ∀ k, k < q → c k ≤ 1000 from fun k hk => by have := hc k hk; omega)
  clear hr hm hc hg1 hg2
  obtain ⟨s, hs⟩ : ∃ s, Hid (chkD n m g = s) := ⟨_, hid rfl⟩
  have B1 := hid (Blk.new w 48 #[.slice A n cap])
  have E1 : Ext w (w.alloc (.cells #[.slice A n cap] 48)) := (Ext.refl _).alloc _
  have E1 := hid E1
  obtain ⟨er, her⟩ : ∃ er, Hid (showE n m g q c gr = er) := ⟨_, hid rfl⟩
  obtain ⟨vr, hvr⟩ : ∃ vr, Hid (showV n m g q c gr = vr) := ⟨_, hid rfl⟩
  have hv := hid (show vr = if er = 0 then (manyTo (netTo g n n) n : Int) - q else 0 by rw [← hvr.out, ← her.out]; rfl)
  have hv0 := hid (show er ≠ 0 → vr = 0 from fun h => by rw [hv.out, if_neg h])
  rcases (Decidable.em (s = 0)).symm with h0 | h0
  · have hne : (s != 0) = true := by simpa using h0
    have he := hid (show er = s by rw [← her.out]; unfold showE; rw [hs.out, if_pos h0])
    have H0 := hid h0
    rw [her.out, hvr.out]
    clear h0
    go_enter Tryz.func62, Tryz.ntmps62
    go_wp2_with (go_at_call 33; refine (checkDebts33 (HR.out.ext E1.out) hn HM.out).mono ?_; rintro e w1 ⟨rfl, he1⟩; rw [hs.out])
    go_ret2
    exact ⟨ret_two (hv0.out (by rw [he.out]; exact H0.out)).symm he.out.symm, E1.out.trans he1⟩
  subst h0
  obtain ⟨hd, hsq⟩ := chkD_zero hs.out
  have HD := hid hd
  have HR2 := hid (HR.out.congr (m' := fun _ => n) (g' := g) fun k hk => ⟨hsq k hk, fun _ _ => rfl⟩)
  clear hd hsq
  obtain ⟨al, hal⟩ : ∃ al, Hid (allR c gr q = al) := ⟨_, hid rfl⟩
  obtain ⟨f, hf⟩ : ∃ f, Hid (netTo g n n = f) := ⟨_, hid rfl⟩
  have hE := hid (show er = if outG n q c gr then 1 else if offG q c gr then 4
    else if anyTo (badG f c gr) q then 8 else if anyTo (offT f (fun i => rowsAt al i 0) al.length) n then 8 else 0 by rw [← her.out, ← hf.out, ← hal.out]; unfold showE; rw [hs.out, if_neg (by simp)])
  obtain ⟨q1, hq1⟩ : ∃ x, Hid (outG n q c gr = x) := ⟨_, hid rfl⟩
  obtain ⟨q2, hq2⟩ : ∃ x, Hid (offG q c gr = x) := ⟨_, hid rfl⟩
  have hq1' := hid (show anyTo (fun k => !inB (rowsAt al k 0) 0 ((n : Int) - 1)) al.length = q1 by rw [← hal.out]; exact hq1.out)
  have hq2' := hid (show anyTo (fun k => !ordB c gr k) q = q2 from hq2.out)
  rw [hq1.out, hq2.out] at hE
  rw [hf.out] at hv
  rw [hal.out] at hT
  rw [her.out, hvr.out]
  go_enter Tryz.func62, Tryz.ntmps62
  cases q1
  case true =>
    have hE1 := hid (show er = 1 by rw [hE.out]; rfl)
    go_wp2_with (first | (go_at_call 33; refine (checkDebts33 (HR.out.ext E1.out) hn HM.out).mono ?_; rintro e w1 ⟨rfl, he1⟩; rw [hs.out]; have E2 := hid (E1.out.trans he1); have k1 := (B1.out.ext he1).cell; have k1l := (B1.out.ext he1).lt; have B2 := hid (B1.out.ext he1); clear he1) | (go_at_call 146; refine (concat146 (HG.out.ext E2.out) (by omega) HC'.out).mono ?_; rintro e w2 ⟨u, rfl, he2, ho2⟩; rw [hal.out] at ho2; obtain ⟨Aa, ca, rfl, hra⟩ := ho2.slR; have HA := hid hra; have E3 := hid (E2.out.trans he2); have B3 := hid (B2.out.ext he2); clear he2 ho2 hra) | (go_at_call 112; refine (every112 HA.out (by omega) (asks147 hn B3.out)).mono ?_; rintro e w3 ⟨rfl, he3⟩; rw [hq1'.out]))
    go_ret2
    exact ⟨ret_two (hv0.out (by rw [hE1.out]; simp)).symm hE1.out.symm, E3.out.trans he3⟩
  case false =>
    have hin := hid (outG_no hq1.out)
    cases q2
    case true =>
      have hE1 := hid (show er = 4 by rw [hE.out]; rfl)
      go_wp2_with (first | (go_at_call 33; refine (checkDebts33 (HR.out.ext E1.out) hn HM.out).mono ?_; rintro e w1 ⟨rfl, he1⟩; rw [hs.out]; have E2 := hid (E1.out.trans he1); have k1 := (B1.out.ext he1).cell; have k1l := (B1.out.ext he1).lt; have B2 := hid (B1.out.ext he1); clear he1) | (go_at_call 146; refine (concat146 (HG.out.ext E2.out) (by omega) HC'.out).mono ?_; rintro e w2 ⟨u, rfl, he2, ho2⟩; rw [hal.out] at ho2; obtain ⟨Aa, ca, rfl, hra⟩ := ho2.slR; have HA := hid hra; have E3 := hid (E2.out.trans he2); have B3 := hid (B2.out.ext he2); clear he2 ho2 hra) | (go_at_call 112; refine (every112 HA.out (by omega) (asks147 hn B3.out)).mono ?_; rintro e w3 ⟨rfl, he3⟩; rw [hq1'.out]; have E4 := hid (E3.out.trans he3); clear he3) | (go_at_call 109; refine (every109 (HG1.out.ext E4.out) (by omega) (asks148 HC'.out fun k hk => (HG2.out k hk).ext E4.out)).mono ?_; rintro e w4 ⟨rfl, he4⟩; rw [hq2'.out]))
      go_ret2
      exact ⟨ret_two (hv0.out (by rw [hE1.out]; simp)).symm hE1.out.symm, E4.out.trans he4⟩
    case false =>
      go_upto_region 9 with (first | (go_at_call 33; refine (checkDebts33 (HR.out.ext E1.out) hn HM.out).mono ?_; rintro e w1 ⟨rfl, he1⟩; rw [hs.out]; have E2 := hid (E1.out.trans he1); have k1 := (B1.out.ext he1).cell; have k1l := (B1.out.ext he1).lt; have B2 := hid (B1.out.ext he1); clear he1) | (go_at_call 146; refine (concat146 (HG.out.ext E2.out) (by omega) HC'.out).mono ?_; rintro e w2 ⟨u, rfl, he2, ho2⟩; rw [hal.out] at ho2; obtain ⟨Aa, ca, rfl, hra⟩ := ho2.slR; have HA := hid hra; have E3 := hid (E2.out.trans he2); have B3 := hid (B2.out.ext he2); clear he2 ho2 hra) | (go_at_call 112; refine (every112 HA.out (by omega) (asks147 hn B3.out)).mono ?_; rintro e w3 ⟨rfl, he3⟩; rw [hq1'.out]; have E4 := hid (E3.out.trans he3); have B4 := hid (B3.out.ext he3); have HA4 := hid (HA.out.ext he3); clear he3) | (go_at_call 109; refine (every109 (HG1.out.ext E4.out) (by omega) (asks148 HC'.out fun k hk => (HG2.out k hk).ext E4.out)).mono ?_; rintro e w4 ⟨rfl, he4⟩; rw [hq2'.out]))
      have E5 := hid (E4.out.trans he4)
      have B5 := B4.out.ext he4
      have HA5 := hid (HA4.out.ext he4)
      have k1 := B5.cell
      have k1l := B5.lt
      clear he4
      go_upto_region 10 with (go_at_call 108; refine (net108 (HR2.out.ext E5.out) HD.out).mono ?_; rintro e w6 ⟨G, rfl, he6, hG, hA⟩; rw [hf.out] at hA; have HN := hid hA; have E6 := hid (E5.out.trans he6); have HA6 := hid (HA5.out.ext he6); clear hA hG he6)
      have hn7 := HD.out.hn
      have hfb := hid (fun i => show -49000000 ≤ f i ∧ f i ≤ 49000000 by
        have := netTo_bd HD.out.hd (by omega) n (Nat.le_refl _) i
        rw [hf.out] at this
        omega)
      clear k1 k1l B5
      go_upto_region 11 with fail
      obtain ⟨W, rfl⟩ : ∃ W : World, W = w6 := ⟨_, rfl⟩
      go_loopw [40] (fun i wr => ∃ k : Nat, k ≤ q ∧ i = .int .i64 (k : Int) ∧ Hid (∀ j, j < k → badG f c gr j = false) ∧ Ext W wr) (fun i _ => q - (intOf i).toNat)
      case atStart => exact ⟨0, Nat.zero_le _, rfl, hid fun _ h => absurd h (by omega), Ext.refl _⟩
      case round =>
        obtain ⟨k, hk, rfl, hp, he⟩ := hrel
        by_cases hlt : k < q
        · obtain ⟨b, o, B', C', rfl, hb, hcc, hR⟩ := (HG.out.ext (E6.out.trans he)).at_ hlt
          have hck := HC.out k hlt
          have hink := hid (fun j hj => hin.out k j hlt hj)
          have hRR := hid hR
          have hbad := hid (show badG f c gr k = (anyTo (fun j => f (gr k j).toNat == 0) (c k) || !(sumTo (fun j => f (gr k j).toNat) (c k) == 0)) from rfl)
          obtain ⟨M, hM⟩ : ∃ M, Hid (c k = M) := ⟨_, hid rfl⟩
          rw [hM.out] at hcc hck hink hRR hbad
          clear hR
          go_upto_region 15 with fail
          obtain ⟨W1, rfl⟩ : ∃ W1 : World, W1 = wr := ⟨_, rfl⟩
          go_loopw [11, 46] (fun s i wx => ∃ (j : Nat) (z : Int), j ≤ M ∧ i = .int .i64 (j : Int) ∧ s = .int .i64 z ∧ Hid (z = sumTo (fun j => f (gr k j).toNat) j) ∧ Hid (∀ i, i < j → (f (gr k i).toNat == 0) = false) ∧ Ext W1 wx) (fun _ i _ => M - (intOf i).toNat)
          case atStart => exact ⟨0, 0, Nat.zero_le _, rfl, rfl, hid rfl, hid fun _ h => absurd h (by omega), Ext.refl _⟩
          case round =>
            obtain ⟨j, z, hj, rfl, rfl, hz, hnz, he2⟩ := hrel
            by_cases hlj : j < M
            · obtain ⟨t, ht, htn⟩ := hink.out j hlj
              obtain ⟨b1, o1, rfl, hb1, hc1⟩ := (hRR.out.ext he2).at1 hlj
              rw [ht] at hc1
              have HT := hid ht
              clear ht
              obtain ⟨x, hx⟩ : ∃ x, Hid (f t = x) := ⟨_, hid rfl⟩
              have hxb := hfb.out t
              have hN2 := HN.out.cell htn
              have hN3 := (he.trans he2).some_ hN2
              have hNl := Nat.lt_of_lt_of_le HN.out.lt (he.trans he2).size
              rw [hx.out] at hN3 hxb
              have hzb := HandSpec.P.sumTo_bd (f := fun j => f (gr k j).toNat) (B := 49000000) j fun i _ => hfb.out _
              have hzb2 : -2000000000 ≤ z ∧ z ≤ 2000000000 := by rw [hz.out]; omega
              have hst := hid (show sumTo (fun j => f (gr k j).toNat) (j + 1) = z + x by rw [sumTo_succ, hz.out, HT.out]; show _ + f ((t : Nat) : Int).toNat = _; rw [Int.toNat_natCast, hx.out])
              have hxe := hid (show (f (gr k j).toNat == 0) = (x == 0) by rw [HT.out, Int.toNat_natCast, hx.out])
              clear hN2 hzb
              cases hx0 : (x == 0)
              · go_wp2_with fail
                go_roundw
                case rel => exact ⟨j + 1, z + x, by omega, by go_num, by go_num, hid hst.out.symm, hid (anyTo_step hnz.out (by rw [hxe.out]; exact hx0)), he2⟩
                case measure => simp [intOf]; omega
              · have hbk := hid (show er = 8 by
                  rw [hE.out, if_neg (by simp), if_neg (by simp), if_pos (anyTo_true.2 ⟨k, hlt, by rw [hbad.out, anyTo_true.2 ⟨j, hlj, by rw [hxe.out]; exact hx0⟩]; rfl⟩)])
                go_wp2_with fail
                go_ret2
                exact ⟨ret_two (hv0.out (by rw [hbk.out]; simp)).symm hbk.out.symm, E6.out.trans (he.trans he2)⟩
            · have hjM : j = M := by omega
              subst hjM
              have hbad2 := hid (show badG f c gr k = !(z == 0) by rw [hbad.out, anyTo_false.2 hnz.out, hz.out]; rfl)
              cases hz0 : (z == 0)
              · have hzn : (z != 0) = true := by simpa using hz0
                have hbk := hid (show er = 8 by
                  rw [hE.out, if_neg (by simp), if_neg (by simp), if_pos (anyTo_true.2 ⟨k, hlt, by rw [hbad2.out, hz0]; rfl⟩)])
                go_wp2_with fail
                go_ret2
                exact ⟨ret_two (hv0.out (by rw [hbk.out]; simp)).symm hbk.out.symm, E6.out.trans (he.trans he2)⟩
              · have hzn : (z != 0) = false := by simpa using hz0
                go_wp2_with fail
                go_roundw
                case rel => exact ⟨k + 1, by omega, by go_num, hid (anyTo_step hp.out (by rw [hbad2.out, hz0]; rfl)), he.trans he2⟩
                case measure => simp [intOf]; omega
        · have hkq : k = q := by omega
          subst hkq
          have hE2 := hid (show er = if anyTo (offT f (fun i => rowsAt al i 0) al.length) n then 8 else 0 by rw [hE.out, if_neg (by simp), if_neg (by simp), anyTo_false.2 hp.out, if_neg (by simp)])
          go_upto_region 26 with fail
          obtain ⟨W1, rfl⟩ : ∃ W1 : World, W1 = wr := ⟨_, rfl⟩
          go_loopw [14, 67] (fun s i wx => ∃ (j y : Nat), j ≤ n ∧ i = .int .i64 (j : Int) ∧ s = .int .i64 (y : Int) ∧ y ≤ j ∧ Hid (y = manyTo f j) ∧ Hid (∀ i, i < j → offT f (fun i => rowsAt al i 0) al.length i = false) ∧ Ext W1 wx) (fun _ i _ => n - (intOf i).toNat)
          case atStart => exact ⟨0, 0, Nat.zero_le _, rfl, rfl, Nat.zero_le _, hid rfl, hid fun _ h => absurd h (by omega), Ext.refl _⟩
          case round =>
            obtain ⟨j, y, hj, rfl, rfl, hyj, hy, ho, he2⟩ := hrel
            by_cases hlj : j < n
            · obtain ⟨x, hx⟩ : ∃ x, Hid (f j = x) := ⟨_, hid rfl⟩
              have hN2 := HN.out.cell hlj
              have hN3 := (he.trans he2).some_ hN2
              have hNl := Nat.lt_of_lt_of_le HN.out.lt (he.trans he2).size
              rw [hx.out] at hN3
              have hmst := hid (show manyTo f (j + 1) = manyTo f j + if x = 0 then 0 else 1 by rw [← hx.out]; rfl)
              have hof := hid (show offT f (fun i => rowsAt al i 0) al.length j = (!(x == 0) && !(timesTo (fun i => rowsAt al i 0) (j : Int) al.length == 1)) by rw [← hx.out]; rfl)
              clear hN2
              by_cases hx0 : x = 0
              · have tx : (x == 0) = true := by simpa using hx0
                go_wp2_with fail
                go_roundw
                case rel => exact ⟨j + 1, y, by omega, by go_num, rfl, by omega, hid (by rw [hmst.out, if_pos hx0, hy.out, Nat.add_zero]), hid (anyTo_step ho.out (by rw [hof.out, tx]; rfl)), he2⟩
                case measure => simp [intOf]; omega
              · have tx : (x == 0) = false := by simpa using hx0
                go_upto_region 31 with fail
                obtain ⟨W2, rfl⟩ : ∃ W2 : World, W2 = wr := ⟨_, rfl⟩
                go_loopw [17, 76] (fun s i wy => ∃ (p v : Nat), p ≤ al.length ∧ i = .int .i64 (p : Int) ∧ s = .int .i64 (v : Int) ∧ v ≤ p ∧ Hid (v = timesTo (fun i => rowsAt al i 0) (j : Int) p) ∧ Ext W2 wy) (fun _ i _ => al.length - (intOf i).toNat)
                case atStart => exact ⟨0, 0, Nat.zero_le _, rfl, rfl, Nat.zero_le _, hid rfl, Ext.refl _⟩
                case round =>
                  obtain ⟨p, v, hp2, rfl, rfl, hvp, hvt, he3⟩ := hrel
                  by_cases hlp : p < al.length
                  · obtain ⟨b1, o1, rfl, hb1, hc1⟩ := (HA6.out.ext ((he.trans he2).trans he3)).at1 hlp
                    obtain ⟨r, hr⟩ : ∃ r, Hid (rowsAt al p 0 = r) := ⟨_, hid rfl⟩
                    rw [hr.out] at hc1
                    have hts := hid (show timesTo (fun i => rowsAt al i 0) (j : Int) (p + 1) = v + if r = (j : Int) then 1 else 0 by rw [← hr.out, hvt.out]; rfl)
                    by_cases hrj : r = (j : Int)
                    · have tr : (r == (j : Int)) = true := by simpa using hrj
                      rw [if_pos hrj] at hts
                      clear hrj
                      go_wp2_with fail
                      go_roundw
                      case rel => exact ⟨p + 1, v + 1, by omega, by go_num, by go_num, by omega, hid hts.out.symm, he3⟩
                      case measure => simp [intOf]; omega
                    · have tr : (r == (j : Int)) = false := by simpa using hrj
                      rw [if_neg hrj] at hts
                      clear hrj
                      go_wp2_with fail
                      go_roundw
                      case rel => exact ⟨p + 1, v, by omega, by go_num, rfl, by omega, hid (by rw [hts.out, Nat.add_zero]), he3⟩
                      case measure => simp [intOf]; omega
                  · have hpe : p = al.length := by omega
                    subst hpe
                    have hof2 := hid (show offT f (fun i => rowsAt al i 0) al.length j = !(v == 1) by rw [hof.out, tx, hvt.out]; rfl)
                    by_cases hv1 : v = 1
                    · subst hv1
                      go_wp2_with fail
                      go_roundw
                      case rel => exact ⟨j + 1, y + 1, by omega, by go_num, by go_num, by omega, hid (by rw [hmst.out, if_neg hx0, hy.out]), hid (anyTo_step ho.out (by rw [hof2.out]; rfl)), he2.trans he3⟩
                      case measure => simp [intOf]; omega
                    · have tv : ((v : Int) != 1) = true := by simp; omega
                      have hbk := hid (show er = 8 by
                        rw [hE2.out, if_pos (anyTo_true.2 ⟨j, hlj, by rw [hof2.out]; simpa using hv1⟩)])
                      clear hv1
                      go_wp2_with fail
                      go_ret2
                      exact ⟨ret_two (hv0.out (by rw [hbk.out]; simp)).symm hbk.out.symm, E6.out.trans ((he.trans he2).trans he3)⟩
            · have hjn : j = n := by omega
              subst hjn
              have hbk := hid (show er = 0 by rw [hE2.out, anyTo_false.2 ho.out]; rfl)
              have hvk := hid (show vr = (y : Int) - k by rw [hv.out, if_pos hbk.out, hy.out])
              go_wp2_with fail
              go_ret2
              exact ⟨ret_two (by first | exact hvk.out.symm | (rw [hvk.out]; go_num)) hbk.out.symm, E6.out.trans (he.trans he2)⟩
end Go.Proofs.YtbceepjjdfpfmaaGreat
