/- Walk of the law LoanCircles (10): for all debts and lists it returns true. No condition but that lists are no longer than there can be, and no longer than their capacity. -/
import Derived.Test.YtbceepjjdfpfmaaGreatAwk
import Derived.Test.YtbceepjjdfpfmaaGreatCanT
import Derived.Test.YtbceepjjdfpfmaaGreatRefS
namespace Go.Proofs.YtbceepjjdfpfmaaGreat
open Go.RowKit HandSpec LoanSpec
set_option maxHeartbeats 4000000
set_option maxRecDepth 100000
theorem chk_dok10 {n : Nat} {g : Nat → Nat → Int} (h : DOk n g) : chkD n (fun _ => n) g = 0 := by
  have hn := h.hn
  unfold chkD
  rw [if_neg, if_neg, if_neg]
  · rw [Bool.not_eq_true]
    exact anyTo_false.2 fun k hk => by rw [h.h0 k hk]; rfl
  · have : entB n (fun _ => n) g = true := by
      unfold entB
      rw [anyTo_false.2 fun i hi => anyTo_false.2 fun j hj => ?_]
      · rfl
      · rw [show inB (g i j) 0 1000000 = true from decide_eq_true (h.hd i j hi hj)]
        rfl
    rw [this]
    simp
  · rintro (e | e)
    · rw [show inB (n : Int) 1 7 = true from decide_eq_true (by omega)] at e
      cases e
    · unfold sqB at e
      rw [anyTo_false.2 fun k _ => by simp] at e
      cases e
theorem eqRB_me (n : Nat) (m : Nat → Nat) (g : Nat → Nat → Int) : eqRB n n m m g g = true := by
  unfold eqRB
  rw [decide_eq_true rfl, anyTo_false.2 fun k _ => by rw [eqB_same]; rfl]
  rfl
theorem errC_chk {n : Nat} {m : Nat → Nat} {g : Nat → Nat → Int} {L : Nat} {f : Nat → Int} (h : chkD n m g ≠ 0) : errC n m g L f = chkD n m g := by unfold errC; rw [if_pos h]
theorem errC_sq {n : Nat} {m : Nat → Nat} {g : Nat → Nat → Int} {L : Nat} {f : Nat → Int} (h : chkD n m g = 0) (h2 : chkD n (fun _ => n) g = 0) : errC n m g L f = errC n (fun _ => n) g L f := by unfold errC; rw [h, h2]
/-- A circle is one for the reference. -/
theorem circB_circ {n : Nat} {g : Nat → Nat → Int} {c : List Nat} (h : Circ n g c) : circB n g (fun k => ((c.getD k 0 : Nat) : Int)) c.length = true := by
  have h2 := h.two
  unfold circB
  rw [anyTo_false.2 fun k hk => ?_, anyTo_false.2 fun k hk => ?_, decide_eq_true (show 1 < c.length by omega)]
  · rfl
  · have := h.on k hk
    simp only [Int.toNat_natCast]
    rw [beq_eq_false_iff_ne]
    omega
  · unfold badC
    have := h.lt _ (getD_mem hk)
    rw [show offB ((c.getD k 0 : Nat) : Int) 0 ((n : Int) - 1) = false from decide_eq_false (by omega), has_prev, anyTo_false.2 fun j hj => ?_]
    · rfl
    · rw [beq_eq_false_iff_ne]
      intro e
      have e : ((c.getD k 0 : Nat) : Int) = ((c.getD j 0 : Nat) : Int) := e
      have := h.inj hk (show j < c.length by omega) (by omega)
      omega
/-- A table whose rows can be cleared. -/
structure Clr (W : World) (lo hi : Nat) (AT : Option Addr) (N T : Nat) (r c : Nat → Nat) (n : Nat) : Prop where
  at_ : 0 < N → AT = some ⟨T, 0, none⟩ ∧ lo ≤ T ∧ T < hi
  cell : ∀ k, k < N → W.cell? ⟨T, k, none⟩ = some (.slice (some ⟨r k, 0, none⟩) n (c k))
  row : ∀ k, k < N → ∃ h, Arr W (r k) n h
  lo_ : ∀ k, k < N → lo ≤ r k ∧ r k < hi ∧ r k ≠ T
  le : 0 < N → hi ≤ W.heap.size
namespace Clr
variable {W W' : World} {lo hi : Nat} {AT : Option Addr} {N T : Nat} {r c : Nat → Nat} {n : Nat}
theorem nil : Clr W lo hi AT 0 T r c n := ⟨fun h => absurd h (by omega), fun _ h => absurd h (by omega), fun _ h => absurd h (by omega), fun _ h => absurd h (by omega), fun h => absurd h (by omega)⟩
theorem ext (h : Clr W lo hi AT N T r c n) (e : Ext W W') : Clr W' lo hi AT N T r c n := ⟨h.at_, fun k hk => e.some_ (h.cell k hk), fun k hk => by obtain ⟨f, a⟩ := h.row k hk; exact ⟨f, a.ext e⟩, h.lo_, fun h0 => Nat.le_trans (h.le h0) e.size⟩
theorem far (h : Clr W lo hi AT N T r c n) {b : Nat} (ch : Ch (fun q => q = b) W W') (hb : b < lo ∨ hi ≤ b) : Clr W' lo hi AT N T r c n :=
  ⟨h.at_, fun k hk => by
    have h0 := h.at_ (by omega)
    have h1 := h.le (by omega)
    rw [World.cell?_of_block (a := ⟨T, k, none⟩) (ch.block T (by omega) (by omega))]
    exact h.cell k hk, fun k hk => by
    obtain ⟨f, a⟩ := h.row k hk
    have h2 := h.lo_ k hk
    exact ⟨f, arr_same a (ch.block _ a.1 (by omega))⟩, h.lo_, fun h0 => Nat.le_trans (h.le h0) ch.size⟩
theorem own (h : Clr W lo hi AT N T r c n) {i : Nat} (hi' : i < N) {f : Nat → Int} (ch : Ch (fun q => q = r i) W W') (ha : Arr W' (r i) n f) : Clr W' lo hi AT N T r c n :=
  ⟨h.at_, fun k hk => by
    have h0 := h.at_ (by omega)
    have h1 := h.le (by omega)
    have h2 := h.lo_ i hi'
    rw [World.cell?_of_block (a := ⟨T, k, none⟩) (ch.block T (by omega) (fun e => h2.2.2 e.symm))]
    exact h.cell k hk, fun k hk => by
    by_cases e : r k = r i
    · rw [e]; exact ⟨f, ha⟩
    · obtain ⟨f', a⟩ := h.row k hk
      exact ⟨f', arr_same a (ch.block _ a.1 e)⟩, h.lo_, fun h0 => Nat.le_trans (h.le h0) ch.size⟩
theorem ofMt {B g : Nat} {m : Nat → Nat → Int} (M : Mt W B g n n r c m) : Clr W B W.heap.size (some ⟨g, 0, none⟩) n g r c n :=
  ⟨fun _ => ⟨rfl, M.hB, M.lt⟩, fun _ hk => M.atRow hk, fun k hk => ⟨_, M.row k hk⟩, fun k hk => ⟨(M.lo k hk).1, (M.row k hk).1, (M.lo k hk).2⟩, fun _ => Nat.le_refl _⟩
end Clr
theorem z3 : ∀ w : World, (zeroValue 3).run Tryz.prog w = .ok (.int .i64 0) w := fun _ => by kernel_rfl
theorem law10 {w : World} {A Ac : Option Addr} {n cap L capc : Nat} {m : Nat → Nat} {g : Nat → Nat → Int} {gz : Nat → Nat → Int} (hr : RdN w A n m g) (hn : n ≤ maxLen) (hc : Rd w Ac L 1 gz) (hcap : L ≤ capc) :
    Calls Tryz.prog 10 #[.slice A n cap, .slice Ac L capc] w fun e w' => e = .returned (.bool true) ∧ Ext w w' := by
  obtain ⟨f, hf⟩ : ∃ f : Nat → Int, ∀ k, gz k 0 = f k := ⟨fun k => gz k 0, fun _ => rfl⟩
  have hc' : Rd w Ac L 1 (fun k _ => f k) := hc.congr fun k hk j hj => by
    obtain rfl : j = 0 := by omega
    exact hf k
  have HR := hid hr
  have HC := hid hc'
  have HN := hid hn
  have E := hid (Ext.refl w)
  clear hr hc hc' hn hf
  obtain ⟨t1, ht1⟩ : ∃ t, Hid (longB n m = t) := ⟨_, hid rfl⟩
  cases t1
  case true =>
    go_enter Tryz.func10, Tryz.ntmps10
    go_wp2_with (first
      | (go_at_call 48; (with_reducible refine (long48 (HR.out.ext E.out) HN.out).mono ?_); rintro e wz ⟨rfl, he⟩; rw [ht1.out]; have E := hid (E.out.trans he); clear he)
      | (go_at_call 18; refine (awake_any _).mono ?_; rintro e wz ⟨rfl, he⟩; have E := hid (E.out.trans he); clear he))
    go_ret
    exact ⟨rfl, E.out⟩
  case false =>
  by_cases hL : 10 < L
  · have tL : (10 : Int) < (L : Int) := by omega
    have tL' : (L : Int) > 10 := tL
    clear hL
    go_enter Tryz.func10, Tryz.ntmps10
    go_wp2_with (first
      | (go_at_call 48; (with_reducible refine (long48 (HR.out.ext E.out) HN.out).mono ?_); rintro e wz ⟨rfl, he⟩; rw [ht1.out]; have E := hid (E.out.trans he); clear he)
      | (go_at_call 18; refine (awake_any _).mono ?_; rintro e wz ⟨rfl, he⟩; have E := hid (E.out.trans he); clear he))
    go_ret
    exact ⟨rfl, E.out⟩
  have tL : ¬ (10 : Int) < (L : Int) := by omega
  have tL' : ¬ (L : Int) > 10 := by omega
  obtain ⟨hn, hm⟩ := longB_no ht1.out
  have HM1 := hid (show ∀ k, k < n → m k ≤ 1000 from fun k hk => by have := hm k hk; omega)
  have hL10 : L ≤ 10 := by omega
  clear hm hL
  go_enter Tryz.func10, Tryz.ntmps10
  go_upto_region 3 with (go_at_call 48; (with_reducible refine (long48 (HR.out.ext E.out) HN.out).mono ?_); rintro e wz ⟨rfl, he⟩; rw [ht1.out]; have E := hid (E.out.trans he); clear he)
  clear tL tL'
  go_upto_region 4 with (first
    | (go_at_call 49; (with_reducible refine (dupRows49 (HR.out.ext E.out) hn HM1.out).mono ?_); rintro e wz ⟨A1, rfl, he, ho⟩; have HO := hid ho; have E := hid (E.out.trans he); clear he ho)
    | (go_at_call 66; (with_reducible refine (dup66 (HC.out.ext E.out) (by omega)).mono ?_); rintro e wz ⟨u, rfl, he, ho⟩; obtain ⟨A2, c2, rfl, ho2⟩ := ho.slR; have hc2 := own_cap ho; rw [rowsG_length] at ho2 hc2 ⊢; have HY := hid (ho2.congr (g' := fun k _ => f k) fun i hi j hj => rowsG_at hi hj); have E := hid (E.out.trans he); have HO := hid (HO.out.ext he); clear he ho ho2))
  obtain ⟨s, hs⟩ : ∃ s, Hid (chkD n m g = s) := ⟨_, hid rfl⟩
  rcases (Decidable.em (s = 0)).symm with h0 | h0
  · have tne : (s == 0) = false := by simpa using h0
    have tss : (s != s) = false := by simp
    have tn0 : (s != 0) = true := by simpa using h0
    have H0 := hid (show chkD n m g ≠ 0 by rw [hs.out]; exact h0)
    have hE := hid (show ∀ L f, errC n m g L f = s from fun L f => by rw [errC_chk H0.out, hs.out])
    clear h0
    go_upto_region 16 with (first
      | (go_at_call 51; (with_reducible refine (check51 (HR.out.ext E.out) (by omega)).mono ?_); rintro e wz ⟨rfl, he⟩; rw [hs.out]; have E := hid (E.out.trans he); have HO := hid (HO.out.ext he); have HY := hid (HY.out.ext he); clear he)
      | (go_at_call 33; (with_reducible refine (checkDebts33 HO.out (by omega) HM1.out).mono ?_); rintro e wz ⟨rfl, he⟩; rw [hs.out]; have E := hid (E.out.trans he); have HO := hid (HO.out.ext he); have HY := hid (HY.out.ext he); clear he))
    obtain ⟨wB, rfl⟩ : ∃ W : World, W = wz := ⟨_, rfl⟩
    have HRb := hid (HR.out.ext E.out)
    have HCb := hid (HC.out.ext E.out)
    have EB := hid E.out
    have E := hid (Ext.refl wB)
    go_upto_region 17 with (go_at_call 32; (with_reducible refine (net32e (HO.out.ext E.out) (by omega) HM1.out).mono ?_); rintro e wz ⟨u, rfl, he, hu, -⟩; rw [hs.out]; obtain rfl := hu H0.out; have E := hid (E.out.trans he); clear he hu)
    go_upto_region 18 with (go_at_call 76; (with_reducible refine (circle76 (HO.out.ext E.out) (by omega) HM1.out).mono ?_); rintro e wz ⟨u, er, rfl, he, hu, -⟩; obtain ⟨rfl, rfl⟩ := hu H0.out; rw [hs.out]; have E := hid (E.out.trans he); clear he hu)
    go_upto_region 19 with (go_at_call 77; (with_reducible refine (cancel77e (HO.out.ext E.out) (by omega) HM1.out (HY.out.ext E.out) (by omega) hc2).mono ?_); rintro e wz ⟨u, rfl, he, hu, -⟩; obtain rfl := hu (by rw [hE.out, ← hs.out]; exact H0.out); rw [hE.out]; have E := hid (E.out.trans he); clear he hu)
    go_upto_region 20 with (go_at_call 78; (with_reducible refine (straight78 (HO.out.ext E.out) (by omega) HM1.out).mono ?_); rintro e wz ⟨u, rfl, he, hu, -⟩; obtain rfl := hu H0.out; rw [hs.out]; have E := hid (E.out.trans he); clear he hu)
    have heq := hid (eqB_same 1 0 (fun _ _ => 0))
    have heR := hid (eqRB_me 0 (fun _ => 0) (fun _ _ => 0))
    go_upto_region 35 with (first
      | (go_at_call 34; (with_reducible refine (eq34 (g := fun _ _ => 0) (h := fun _ _ => 0) Rd.nil Rd.nil (by omega) (by omega)).mono ?_); rintro e wz ⟨rfl, he⟩; rw [heq.out]; have E := hid (E.out.trans he); clear he)
      | (go_at_call 28; (with_reducible refine (eqRows28 (m := fun _ => 0) (m' := fun _ => 0) (g := fun _ _ => 0) (h := fun _ _ => 0) RdN.nil RdN.nil (by omega) (by omega) (fun _ _ => by omega) (fun _ _ => by omega)).mono ?_); rintro e wz ⟨rfl, he⟩; rw [heR.out]; have E := hid (E.out.trans he); clear he))
    obtain ⟨ATc, Nc, hATc, hNc, Tc, rc, cc, HCl⟩ : ∃ (ATc : Option Addr) (Nc : Nat), ATc = none ∧ Nc = 0 ∧ ∃ (Tc : Nat) (rc cc : Nat → Nat), Hid (Clr wz wz.heap.size wz.heap.size ATc Nc Tc rc cc n) := ⟨_, _, rfl, rfl, 0, fun _ => 0, fun _ => 0, hid Clr.nil⟩
    obtain ⟨ATs, Ns, hATs, hNs, Ts, rs, cs, HSl⟩ : ∃ (ATs : Option Addr) (Ns : Nat), ATs = none ∧ Ns = 0 ∧ ∃ (Ts : Nat) (rs cs : Nat → Nat), Hid (Clr wz wz.heap.size wz.heap.size ATs Ns Ts rs cs n) := ⟨_, _, rfl, rfl, 0, fun _ => 0, fun _ => 0, hid Clr.nil⟩
    subst hATc hNc hATs hNs
    go_upto_region 35 with fail
    have hb35 := Blk.new wz 48 #[.slice none 0 0, .slice none 0 0]
    have e35 : Ext wz (wz.alloc (.cells #[.slice none 0 0, .slice none 0 0] 48)) := (Ext.refl _).alloc _
    obtain ⟨b35, hb35e⟩ : ∃ q, Hid (wz.heap.size = q) := ⟨_, hid rfl⟩
    have hbb : wz.heap.size ≤ b35 ∧ wz.heap.size ≤ b35 := by have := hb35e.out; omega
    have hbw : wB.heap.size ≤ wz.heap.size ∧ wB.heap.size ≤ wz.heap.size := by have := E.out.size; omega
    have HCl := hid (HCl.out.ext e35)
    have HSl := hid (HSl.out.ext e35)
    have D := hid (E.out.trans e35)
    rw [hb35e.out] at hb35
    have B35 := hid hb35
    obtain ⟨w35, hw35⟩ : ∃ W : World, Hid (W = wz.alloc (.cells #[.slice none 0 0, .slice none 0 0] 48)) := ⟨_, hid rfl⟩
    rw [← hw35.out] at HCl HSl D B35
    clear hb35 e35
    go_upto_region 36 with fail
    rw [hb35e.out, ← hw35.out]
    clear hw35 hb35e
    go_loopw [183] (fun i W => ∃ k : Nat, k ≤ 2 ∧ i = .int .i64 (k : Int) ∧ Hid (Clr W wz.heap.size wz.heap.size none 0 Tc rc cc n) ∧ Hid (Clr W wz.heap.size wz.heap.size none 0 Ts rs cs n) ∧ Hid (Blk W b35 48 #[.slice none 0 0, .slice none 0 0]) ∧ Hid (Ext wB W)) (fun i _ => 2 - (intOf i).toNat)
    case atStart => exact ⟨0, by omega, rfl, HCl, HSl, B35, D⟩
    case round =>
        clear HCl HSl B35 D
        obtain ⟨k, hk, rfl, HCl, HSl, B35, D⟩ := hrel
        rcases (show k = 0 ∨ k = 1 ∨ k = 2 by omega) with rfl | rfl | rfl
        · rw [show ((0 : Nat) : Int) = 0 from rfl]
          have k35 := B35.out.cell
          have k35l := B35.out.lt
          go_upto_region 39 with fail
          obtain ⟨W5, hW5⟩ : ∃ W : World, Hid (W = wr) := ⟨_, hid rfl⟩
          rw [← hW5.out] at HCl HSl B35 D
          clear k35 k35l
          go_loopw [189] (fun i W => ∃ j : Nat, j ≤ 0 ∧ i = .int .i64 (j : Int) ∧ Hid (Clr W wz.heap.size wz.heap.size none 0 Tc rc cc n) ∧ Hid (Clr W wz.heap.size wz.heap.size none 0 Ts rs cs n) ∧ Hid (Blk W b35 48 #[.slice none 0 0, .slice none 0 0]) ∧ Hid (Ext wB W)) (fun i _ => 0 - (intOf i).toNat)
          case atStart => exact ⟨0, Nat.zero_le _, rfl, hid (by rw [← hW5.out]; exact HCl.out), hid (by rw [← hW5.out]; exact HSl.out), hid (by rw [← hW5.out]; exact B35.out), hid (by rw [← hW5.out]; exact D.out)⟩
          case round =>
            clear HCl HSl B35 D
            obtain ⟨j, hj, rfl, HCl, HSl, B35, D⟩ := hrel
            by_cases hlj : j < 0
            · exact absurd hlj (Nat.not_lt_zero _)
            · go_wp2_with fail
              go_roundw
              case rel => exact ⟨1, by omega, by go_num, HCl, HSl, B35, D⟩
              case measure => simp [intOf]
        · rw [show ((1 : Nat) : Int) = 1 from rfl]
          have k35 := B35.out.cell
          have k35l := B35.out.lt
          go_upto_region 39 with fail
          obtain ⟨W5, hW5⟩ : ∃ W : World, Hid (W = wr) := ⟨_, hid rfl⟩
          rw [← hW5.out] at HCl HSl B35 D
          clear k35 k35l
          go_loopw [189] (fun i W => ∃ j : Nat, j ≤ 0 ∧ i = .int .i64 (j : Int) ∧ Hid (Clr W wz.heap.size wz.heap.size none 0 Tc rc cc n) ∧ Hid (Clr W wz.heap.size wz.heap.size none 0 Ts rs cs n) ∧ Hid (Blk W b35 48 #[.slice none 0 0, .slice none 0 0]) ∧ Hid (Ext wB W)) (fun i _ => 0 - (intOf i).toNat)
          case atStart => exact ⟨0, Nat.zero_le _, rfl, hid (by rw [← hW5.out]; exact HCl.out), hid (by rw [← hW5.out]; exact HSl.out), hid (by rw [← hW5.out]; exact B35.out), hid (by rw [← hW5.out]; exact D.out)⟩
          case round =>
            clear HCl HSl B35 D
            obtain ⟨j, hj, rfl, HCl, HSl, B35, D⟩ := hrel
            by_cases hlj : j < 0
            · exact absurd hlj (Nat.not_lt_zero _)
            · go_wp2_with fail
              go_roundw
              case rel => exact ⟨2, by omega, by go_num, HCl, HSl, B35, D⟩
              case measure => simp [intOf]
        · have heR := hid (eqRB_me n m g)
          have heq := hid (eqB_same 1 L (fun k _ => f k))
          go_wp2_with (first
            | (go_at_call 28; (with_reducible refine (eqRows28 (HO.out.ext D.out) (HRb.out.ext D.out) (by omega) (by omega) HM1.out HM1.out).mono ?_); rintro e wy ⟨rfl, he⟩; rw [heR.out]; have D := hid (D.out.trans he); clear he)
            | (go_at_call 34; (with_reducible refine (eq34 (HY.out.ext D.out) (HCb.out.ext D.out) (by omega) (by omega)).mono ?_); rintro e wy ⟨rfl, he⟩; rw [heq.out]; have D := hid (D.out.trans he); clear he)
            | (go_at_call 18; refine (awake_any _).mono ?_; rintro e wy ⟨rfl, he⟩; have D := hid (D.out.trans he); clear he))
          go_ret
          exact ⟨rfl, EB.out.trans D.out⟩
  · subst h0
    obtain ⟨hd, hsq⟩ := chkD_zero hs.out
    have HD := hid hd
    have hn7 := hd.hn
    have HR2 := hid (HR.out.congr (m' := fun _ => n) (g' := g) fun k hk => ⟨hsq k hk, fun _ _ => rfl⟩)
    have hc0 := hid (chk_dok10 hd)
    obtain ⟨ec, hec⟩ : ∃ z, Hid (errC n (fun _ => n) g L f = z) := ⟨_, hid rfl⟩
    have hem := hid ((errC_sq (L := L) (f := f) hs.out hc0.out).trans hec.out)
    have hsq := hid hsq
    clear hd
    obtain ⟨cz, hcz⟩ : ∃ z, Hid (decide ((strike g n n).length < n) = z) := ⟨_, hid rfl⟩
    obtain ⟨ue, hue⟩ : ∃ z, Hid ((if cz = true then (0 : Int) else 6) = z) := ⟨_, hid rfl⟩
    obtain ⟨nf, hnf⟩ : ∃ z, Hid (netTo g n n = z) := ⟨_, hid rfl⟩
    go_upto_region 10 with (first
      | (go_at_call 51; (with_reducible refine (check51 (HR.out.ext E.out) (by omega)).mono ?_); rintro e wz ⟨rfl, he⟩; rw [hs.out]; have E := hid (E.out.trans he); have HO := hid (HO.out.ext he); have HY := hid (HY.out.ext he); clear he)
      | (go_at_call 33; (with_reducible refine (checkDebts33 HO.out (by omega) HM1.out).mono ?_); rintro e wz ⟨rfl, he⟩; rw [hs.out]; have E := hid (E.out.trans he); have HO := hid (HO.out.ext he); have HY := hid (HY.out.ext he); clear he))
    go_upto_region 13 with (go_at_call 56; (with_reducible refine (net56_rd (HR2.out.ext E.out) HD.out).mono ?_); rintro e wz ⟨A5, c5, rfl, he, ho⟩; rw [hnf.out] at ho; have HNt := hid ho; have E := hid (E.out.trans he); have HO := hid (HO.out.ext he); have HY := hid (HY.out.ext he); clear he ho)
    go_upto_if 54 with (go_at_call 74; (with_reducible refine (circles74 (HR2.out.ext E.out) HD.out).mono ?_); rintro e wz ⟨rfl, he⟩; rw [hcz.out]; have E := hid (E.out.trans he); have HO := hid (HO.out.ext he); have HY := hid (HY.out.ext he); have HNt := hid (HNt.out.ext he); clear he)
    obtain ⟨w13, hw13⟩ : ∃ W : World, Hid (W = wz) := ⟨_, hid rfl⟩
    rw [← hw13.out] at E HO HY HNt
    go_cut [8] (fun s W => s = .int .i64 ue ∧ Hid (W = w13))
    case first =>
      as_aux_lemma =>
        have h := hue.out
        cases cz
        · rw [if_neg (by simp)] at h
          subst h
          go_wp2_with fail
          go_meet
          exact ⟨rfl, hid hw13.out.symm⟩
        · rw [if_pos rfl] at h
          subst h
          go_wp2_with fail
          go_meet
          exact ⟨rfl, hid hw13.out.symm⟩
    case rest =>
      obtain ⟨rfl, h1⟩ := hcut
      have h1 := h1.out
      subst h1
      clear hw13
      go_upto_region 15 with fail
      go_upto_region 16 with (go_at_call 75; (with_reducible refine (cancel75 (HR2.out.ext E.out) HD.out hc0.out (HC.out.ext E.out) (by omega) hcap).mono ?_); rintro e wz ⟨u, rfl, he, hu1, hu2⟩; rw [hec.out] at hu1 hu2 ⊢; have HU1 := hid hu1; have HU2 := hid hu2; have E := hid (E.out.trans he); have HO := hid (HO.out.ext he); have HY := hid (HY.out.ext he); have HNt := hid (HNt.out.ext he); clear he hu1 hu2)
      obtain ⟨mc, hmc⟩ : ∃ z, Hid (cutC g (fun k => (f k).toNat) L (lowC g (fun k => (f k).toNat) L L) L = z) := ⟨_, hid rfl⟩
      rw [hmc.out] at HU2
      obtain ⟨A3, N3, c3, rfl, hN3, hR3⟩ : ∃ A3 N3 c3, u = .slice A3 N3 c3 ∧ N3 = (if ec = 0 then n else 0) ∧ RdN wz A3 N3 (fun _ => n) mc := by
        by_cases h : ec = 0
        · obtain ⟨A', c', e, hN⟩ := HU2.out h
          exact ⟨A', n, c', e, by rw [if_pos h], hN⟩
        · exact ⟨none, 0, 0, HU1.out h, by rw [if_neg h], RdN.nil⟩
      have HL3 := hid hR3
      have hN37 : N3 ≤ 7 := by rw [hN3]; split <;> omega
      have hN3h := hid hN3
      clear hN3
      clear HU1 HU2 hR3
      obtain ⟨wB, rfl⟩ : ∃ W : World, W = wz := ⟨_, rfl⟩
      have HRb := hid (HR.out.ext E.out)
      have HR2b := hid (HR2.out.ext E.out)
      have HCb := hid (HC.out.ext E.out)
      have EB := hid E.out
      have E := hid (Ext.refl wB)
      go_upto_region 17 with (go_at_call 32; (with_reducible refine (net32e (HO.out.ext E.out) (by omega) HM1.out).mono ?_); rintro e wz ⟨u, rfl, he, -, hu⟩; rw [hs.out]; obtain ⟨Ga, rfl, -, hA⟩ := hu hs.out; rw [hnf.out] at hA; have HNa := hid (hA.rd (A := some ⟨Ga, 0, none⟩) fun _ => rfl); have E := hid (E.out.trans he); clear he hu hA)
      go_upto_region 18 with (go_at_call 76; (with_reducible refine (circle76 (HO.out.ext E.out) (by omega) HM1.out).mono ?_); rintro e wz ⟨u, er, rfl, he, -, hu⟩; have HU := hid (hu hs.out); have E := hid (E.out.trans he); have HNa := hid (HNa.out.ext he); clear he hu)
      obtain ⟨Ab, Lb, cb, rfl, hcir⟩ : ∃ Ab Lb cb, u = .slice Ab Lb cb ∧ Hid ((er = 0 ∧ Lb ≤ cb ∧ ∃ c, Circ n g c ∧ Lb = c.length ∧ Rd wz Ab Lb 1 (fun k _ => ((c.getD k 0 : Nat) : Int))) ∨ (er = 6 ∧ Lb = 0 ∧ ∀ k, k < n → Dead n g k)) := by
        rcases HU.out with ⟨h, c, hc, ho⟩ | ⟨h, hu, hdd⟩
        · obtain ⟨Ab, cb, e, r⟩ := ho.slR
          rw [e] at ho
          have hcc := own_cap ho
          rw [rows1_length] at e r hcc
          exact ⟨Ab, _, cb, e, hid (.inl ⟨h, hcc, c, hc, rfl, rd_list r⟩)⟩
        · exact ⟨none, 0, 0, hu, hid (.inr ⟨h, rfl, hdd⟩)⟩
      clear HU
      obtain ⟨l1, hl1⟩ : ∃ q, Hid (wz.heap.size = q) := ⟨_, hid rfl⟩
      have hb1 : wB.heap.size ≤ l1 := by have := E.out.size; have := hl1.out; omega
      obtain ⟨w17, hw17⟩ : ∃ W : World, Hid (W = wz) := ⟨_, hid rfl⟩
      have E17 := hid (Ext.refl w17)
      rw [hw17.out] at E17
      go_upto_region 19 with (go_at_call 77; (with_reducible refine (cancel77e (HO.out.ext E.out) (by omega) HM1.out (HY.out.ext E.out) (by omega) hc2).mono ?_); rintro e wy ⟨u, rfl, he, hu1, hu2⟩; rw [hem.out] at hu1 hu2 ⊢; have HU1 := hid hu1; have HU2 := hid hu2; have E := hid (E.out.trans he); have HNa := hid (HNa.out.ext he); have E17 := hid he; clear he hu1 hu2)
      rw [hmc.out, hl1.out] at HU2
      obtain ⟨ATc, cpc, Tc, rc, cc, rfl, hcl, hcr⟩ : ∃ (ATc : Option Addr) (cpc Tc : Nat) (rc cc : Nat → Nat), u = .slice ATc N3 cpc ∧ Clr wy l1 wy.heap.size ATc N3 Tc rc cc n ∧ RdN wy ATc N3 (fun _ => n) mc := by
        by_cases h : ec = 0
        · obtain ⟨g1, r1, c1, cp1, e, M⟩ := HU2.out h
          rw [hN3h.out, if_pos h]
          exact ⟨_, cp1, g1, r1, c1, e, Clr.ofMt M, M.rdN⟩
        · rw [hN3h.out, if_neg h]
          exact ⟨none, 0, 0, fun _ => 0, fun _ => 0, HU1.out h, Clr.nil, RdN.nil⟩
      have HCl := hid hcl
      have HCr := hid hcr
      clear HU1 HU2 hcl hcr
      obtain ⟨l2, hl2⟩ : ∃ q, Hid (wy.heap.size = q) := ⟨_, hid rfl⟩
      have hb2 : l1 ≤ l2 := by have := E17.out.size; have := hl1.out; have := hl2.out; omega
      rw [hl2.out] at HCl
      obtain ⟨w18, hw18⟩ : ∃ W : World, Hid (W = wy) := ⟨_, hid rfl⟩
      go_upto_region 20 with (go_at_call 78; (with_reducible refine (straight78 (HO.out.ext E.out) (by omega) HM1.out).mono ?_); rintro e wv ⟨u, rfl, he, -, hu⟩; rw [hs.out]; have HU := hid (hu hs.out); have E := hid (E.out.trans he); have HNa := hid (HNa.out.ext he); have HCl := hid (HCl.out.ext he); have HCr := hid (HCr.out.ext he); have E18 := hid (E17.out.trans he); have hsz := he.size; clear he hu)
      obtain ⟨ms, hV, hS, hDd⟩ := HU.out
      rw [hl2.out] at hV
      have HS := hid hS
      have HDd := hid hDd
      obtain ⟨Ts, rs, cs, cps, rfl, M⟩ := hV
      have HSl := hid (Clr.ofMt M)
      have HSr := hid M.rdN
      have hcs := hid (chk_dok10 hS.ok)
      have hnS := hid (hS.net.trans hnf.out)
      have hzS := hid (show decide ((strike ms n n).length < n) = false from decide_eq_false fun h => no_trap HDd.out (strike_iff.1 h))
      clear M hS hDd HU
      obtain ⟨l3, hl3⟩ : ∃ q, Hid (wv.heap.size = q) := ⟨_, hid rfl⟩
      have hb3 : l2 ≤ l3 := by have := hl2.out; have := hl3.out; omega
      rw [hl3.out] at HSl
      clear hw17 hw18 hl1 hl2 hsz
      have HNt := hid (HNt.out.ext E.out)
      have HL3 := hid (HL3.out.ext E.out)
      obtain ⟨w20, hw20⟩ : ∃ W : World, Hid (W = wv) := ⟨_, hid rfl⟩
      have E18 := E18
      rw [← hw20.out] at HNt HL3 HNa HCl HCr HSl HSr E hl3
      have hcir := hid (show (er = 0 ∧ Lb ≤ cb ∧ ∃ c, Circ n g c ∧ Lb = c.length ∧ Rd w20 Ab Lb 1 (fun k _ => ((c.getD k 0 : Nat) : Int))) ∨ (er = 6 ∧ Lb = 0 ∧ ∀ k, k < n → Dead n g k) from by
        rcases hcir.out with ⟨h1, h2, c, h3, h4, h5⟩ | h
        · exact .inl ⟨h1, h2, c, h3, h4, h5.ext (by rw [hw20.out]; exact E18.out)⟩
        · exact .inr h)
      clear E17 E18
      have heq := hid (eqB_same 1 n (fun k _ => nf k))
      have heR := hid (eqRB_me N3 (fun _ => n) mc)
      have tnn : ((n : Int) != (n : Int)) = false := by simp
      have tcc : (ec != ec) = false := by simp
      go_cut [137] (fun s W => s = .bool false ∧ Hid (Ext w20 W))
      case first =>
        as_aux_lemma =>
          rw [← hw20.out]
          have F := hid (Ext.refl w20)
          rcases hcir.out with ⟨rfl, h2, c, hc, h4, h5⟩ | ⟨rfl, rfl, hdd⟩
          · have h := hue.out
            rw [if_pos (by rw [← hcz.out]; exact decide_eq_true (strike_iff.2 ⟨_, hc.trap⟩))] at h
            subst h
            have hL7 := nodup_len n c hc.nd hc.lt
            have hcB := hid (show circB n g (fun k => ((c.getD k 0 : Nat) : Int)) Lb = true by rw [h4]; exact circB_circ hc)
            have HRb5 := hid h5
            have hLb : Lb ≤ 1000 := by omega
            clear h5 h4 hc
            go_wp2_with (first
              | (go_at_call 34; (with_reducible refine (eq34 (HNa.out.ext F.out) (HNt.out.ext F.out) (by omega) (by omega)).mono ?_); rintro e wx ⟨rfl, he⟩; rw [heq.out]; have F := hid (F.out.trans he); clear he)
              | (go_at_call 28; (with_reducible refine (eqRows28 (HCr.out.ext F.out) (HL3.out.ext F.out) (by omega) (by omega) (fun _ _ => by omega) (fun _ _ => by omega)).mono ?_); rintro e wx ⟨rfl, he⟩; rw [heR.out]; have F := hid (F.out.trans he); clear he)
              | (go_at_call 79; (with_reducible refine (circle79 (HR2b.out.ext (E.out.trans F.out)) (by omega) (HRb5.out.ext F.out) hLb h2).mono ?_); rintro e wx ⟨rfl, he⟩; rw [hcB.out]; have F := hid (F.out.trans he); clear he))
            go_meet
            exact ⟨rfl, F⟩
          · have h := hue.out
            rw [if_neg (by rw [← hcz.out, decide_eq_false (fun h => no_trap hdd (strike_iff.1 h))]; simp)] at h
            subst h
            clear hdd
            go_wp2_with (first
              | (go_at_call 34; (with_reducible refine (eq34 (HNa.out.ext F.out) (HNt.out.ext F.out) (by omega) (by omega)).mono ?_); rintro e wx ⟨rfl, he⟩; rw [heq.out]; have F := hid (F.out.trans he); clear he)
              | (go_at_call 28; (with_reducible refine (eqRows28 (HCr.out.ext F.out) (HL3.out.ext F.out) (by omega) (by omega) (fun _ _ => by omega) (fun _ _ => by omega)).mono ?_); rintro e wx ⟨rfl, he⟩; rw [heR.out]; have F := hid (F.out.trans he); clear he))
            go_meet
            exact ⟨rfl, F⟩
      case rest =>
        obtain ⟨rfl, hF⟩ := hcut
        have E := hid (E.out.trans hF.out)
        have HNt := hid (HNt.out.ext hF.out)
        have HCl := hid (HCl.out.ext hF.out)
        have HSl := hid (HSl.out.ext hF.out)
        have HSr := hid (HSr.out.ext hF.out)
        have hb4 : l3 ≤ wc.heap.size := by have := hF.out.size; have := hl3.out; omega
        clear hcir HNa HCr HL3 tcc hF hw20 hl3
        go_upto_region 25 with (first
          | (go_at_call 51; (with_reducible refine (check51 (HSr.out.ext (Ext.refl _)) (by omega)).mono ?_); rintro e wx ⟨rfl, he⟩; rw [hcs.out]; have E := hid (E.out.trans he); have HNt := hid (HNt.out.ext he); have HCl := hid (HCl.out.ext he); have HSl := hid (HSl.out.ext he); have HSr := hid (HSr.out.ext he); have hb4 := Nat.le_trans hb4 he.size; clear he)
          | (go_at_call 74; (with_reducible refine (circles74 HSr.out HS.out.ok).mono ?_); rintro e wx ⟨rfl, he⟩; rw [hzS.out]; have E := hid (E.out.trans he); have HNt := hid (HNt.out.ext he); have HCl := hid (HCl.out.ext he); have HSl := hid (HSl.out.ext he); have HSr := hid (HSr.out.ext he); have hb4 := Nat.le_trans hb4 he.size; clear he)
          | (go_at_call 56; (with_reducible refine (net56_rd HSr.out HS.out.ok).mono ?_); rintro e wx ⟨A6, c6, rfl, he, ho⟩; rw [hnS.out] at ho; have HN6 := hid ho; have E := hid (E.out.trans he); have HNt := hid (HNt.out.ext he); have HCl := hid (HCl.out.ext he); have HSl := hid (HSl.out.ext he); have HSr := hid (HSr.out.ext he); have hb4 := Nat.le_trans hb4 he.size; clear he ho)
          | (go_at_call 34; (with_reducible refine (eq34 HN6.out HNt.out (by omega) (by omega)).mono ?_); rintro e wx ⟨rfl, he⟩; rw [heq.out]; have E := hid (E.out.trans he); have HCl := hid (HCl.out.ext he); have HSl := hid (HSl.out.ext he); have HSr := hid (HSr.out.ext he); have hb4 := Nat.le_trans hb4 he.size; clear he HN6))
        clear HNt
        obtain ⟨w25, hw25⟩ : ∃ W : World, Hid (W = wx) := ⟨_, hid rfl⟩
        rw [← hw25.out] at E HCl HSl HSr hb4
        go_upto_region 26 with fail
        go_loopw [156] (fun i W => ∃ k : Nat, k ≤ n ∧ i = .int .i64 (k : Int) ∧ Hid (Ext w25 W)) (fun i _ => n - (intOf i).toNat)
        case atStart => exact ⟨0, Nat.zero_le _, rfl, hid (by rw [hw25.out]; exact Ext.refl _)⟩
        case round =>
          obtain ⟨k, hk, rfl, D⟩ := hrel
          by_cases hlk : k < n
          · as_aux_lemma =>
              obtain ⟨b1, o1, B1, C1, hA1, hb1', hc1, hr1⟩ := (HSr.out.ext D.out).at_ hlk
              cases hA1
              rw [Nat.zero_add] at hc1
              have R1 := hid hr1
              obtain ⟨b2', o2, B2, C2, hA2, hb2', hc2', hr2⟩ := (HRb.out.ext (E.out.trans D.out)).at_ hlk
              have R2 := hid hr2
              have hmk := hsq.out k hlk
              rw [hmk] at hc2' R2
              clear hr1 hr2 hmk
              subst hA2
              go_upto_region 29 with fail
              obtain ⟨wE, hwE⟩ : ∃ W : World, Hid (W = wr) := ⟨_, hid rfl⟩
              rw [← hwE.out] at D
              clear hb1' hc1
              go_loopw [163] (fun i W => ∃ j : Nat, j ≤ n ∧ i = .int .i64 (j : Int) ∧ Hid (Ext w25 W) ∧ Hid (Ext wE W)) (fun i _ => n - (intOf i).toNat)
              case atStart => exact ⟨0, Nat.zero_le _, rfl, hid (by rw [← hwE.out]; exact D.out), hid (by rw [← hwE.out]; exact Ext.refl _)⟩
              case round =>
                clear D
                obtain ⟨j, hj, rfl, D, D2⟩ := hrel
                by_cases hlj : j < n
                · obtain ⟨bx, ox, rfl, hbx, hx⟩ := (R1.out.ext (by rw [← hwE.out]; exact D2.out)).at1 hlj
                  obtain ⟨by_, oy, rfl, hby, hy⟩ := (R2.out.ext (by rw [← hwE.out]; exact D2.out)).at1 hlj
                  have hle := HS.out.le k j hlk hlj
                  have c2 := D2.out.some_ (by rw [hwE.out]; exact hc2')
                  have c2l : b2' < wr.heap.size := by have := D2.out.size; rw [hwE.out] at this; omega
                  obtain ⟨x, hxv⟩ : ∃ x, Hid (ms k j = x) := ⟨_, hid rfl⟩
                  obtain ⟨y, hyv⟩ : ∃ y, Hid (g k j = y) := ⟨_, hid rfl⟩
                  rw [hxv.out] at hx hle
                  rw [hyv.out] at hy hle
                  have tle : ¬ x > y := by omega
                  clear hle
                  go_wp2_with fail
                  go_roundw
                  case rel => exact ⟨j + 1, by omega, by go_num, D, D2⟩
                  case measure => simp [intOf]; omega
                · have hjn : j = n := by omega
                  subst hjn
                  go_wp2_with fail
                  go_roundw
                  case rel => exact ⟨k + 1, by omega, by go_num, D⟩
                  case measure => simp [intOf]; omega
          · as_aux_lemma =>
            have HCl := hid (HCl.out.ext D.out)
            have HSl := hid (HSl.out.ext D.out)
            have E := hid (E.out.trans D.out)
            have hb4 := Nat.le_trans hb4 D.out.size
            obtain ⟨wz, hwz⟩ : ∃ W : World, Hid (wr = W) := ⟨_, hid rfl⟩
            rw [hwz.out] at HCl HSl E hb4
            clear HSr D hk
            rw [hwz.out]
            go_upto_region 35 with fail
            have hb35 := Blk.new wz 48 #[.slice ATc N3 cpc, .slice (some ⟨Ts, 0, none⟩) n cps]
            have e35 : Ext wz (wz.alloc (.cells #[.slice ATc N3 cpc, .slice (some ⟨Ts, 0, none⟩) n cps] 48)) := (Ext.refl _).alloc _
            obtain ⟨b35, hb35e⟩ : ∃ q, Hid (wz.heap.size = q) := ⟨_, hid rfl⟩
            have hbb : l2 ≤ b35 ∧ l3 ≤ b35 := by have := hb35e.out; omega
            have hbw : wB.heap.size ≤ l1 ∧ wB.heap.size ≤ l2 := by have := E.out.size; omega
            have HCl := hid (HCl.out.ext e35)
            have HSl := hid (HSl.out.ext e35)
            have D := hid (E.out.trans e35)
            rw [hb35e.out] at hb35
            have B35 := hid hb35
            obtain ⟨w35, hw35⟩ : ∃ W : World, Hid (W = wz.alloc (.cells #[.slice ATc N3 cpc, .slice (some ⟨Ts, 0, none⟩) n cps] 48)) := ⟨_, hid rfl⟩
            rw [← hw35.out] at HCl HSl D B35
            clear hb35 e35
            go_upto_region 36 with fail
            rw [hb35e.out, ← hw35.out]
            clear hw35 hb35e
            go_loopw [183] (fun i W => ∃ k : Nat, k ≤ 2 ∧ i = .int .i64 (k : Int) ∧ Hid (Clr W l1 l2 ATc N3 Tc rc cc n) ∧ Hid (Clr W l2 l3 (some ⟨Ts, 0, none⟩) n Ts rs cs n) ∧ Hid (Blk W b35 48 #[.slice ATc N3 cpc, .slice (some ⟨Ts, 0, none⟩) n cps]) ∧ Hid (Ext wB W)) (fun i _ => 2 - (intOf i).toNat)
            case atStart => exact ⟨0, by omega, rfl, HCl, HSl, B35, D⟩
            case round =>
                clear HCl HSl B35 D
                obtain ⟨k, hk, rfl, HCl, HSl, B35, D⟩ := hrel
                rcases (show k = 0 ∨ k = 1 ∨ k = 2 by omega) with rfl | rfl | rfl
                · rw [show ((0 : Nat) : Int) = 0 from rfl]
                  have k35 := B35.out.cell
                  have k35l := B35.out.lt
                  go_upto_region 39 with fail
                  obtain ⟨W5, hW5⟩ : ∃ W : World, Hid (W = wr) := ⟨_, hid rfl⟩
                  rw [← hW5.out] at HCl HSl B35 D
                  clear k35 k35l
                  go_loopw [189] (fun i W => ∃ j : Nat, j ≤ N3 ∧ i = .int .i64 (j : Int) ∧ Hid (Clr W l1 l2 ATc N3 Tc rc cc n) ∧ Hid (Clr W l2 l3 (some ⟨Ts, 0, none⟩) n Ts rs cs n) ∧ Hid (Blk W b35 48 #[.slice ATc N3 cpc, .slice (some ⟨Ts, 0, none⟩) n cps]) ∧ Hid (Ext wB W)) (fun i _ => N3 - (intOf i).toNat)
                  case atStart => exact ⟨0, Nat.zero_le _, rfl, hid (by rw [← hW5.out]; exact HCl.out), hid (by rw [← hW5.out]; exact HSl.out), hid (by rw [← hW5.out]; exact B35.out), hid (by rw [← hW5.out]; exact D.out)⟩
                  case round =>
                    clear HCl HSl B35 D
                    obtain ⟨j, hj, rfl, HCl, HSl, B35, D⟩ := hrel
                    by_cases hlj : j < N3
                    · have hat := (HCl.out.at_ (by omega))
                      have hce := HCl.out.cell j hlj
                      have hlo := HCl.out.lo_ j hlj
                      have hle := HCl.out.le (by omega)
                      obtain ⟨hh, hAr⟩ := HCl.out.row j hlj
                      have hTl : Tc < wr.heap.size := by omega
                      obtain ⟨rj, hrj⟩ : ∃ q, Hid (rc j = q) := ⟨_, hid rfl⟩
                      rw [hrj.out] at hce hlo hAr
                      have hA1 := hat.1
                      clear hat
                      subst hA1
                      go_wp2_with (refine wpList_here { dst := none, op := .call { callee := .builtin .clear, args := #[.tmp 193], argTypes := #[22] }, type := _, pos := _, after := _, guard := none } ?_; refine wpList_clear_ch (n := n) (cap := cc j) (s := 0) (N := n) rfl _ 22 rfl el22 z3 rfl (by first | rfl | simp) hAr (by omega) ?_; intro w2 ha2 hb2 hc2; have HA2 := hid ha2; have HB2 := hid hb2; have HC2 := hid hc2; clear ha2 hb2 hc2 hAr hce)
                      have HCl2 := hid (HCl.out.own hlj (show Ch (fun q => q = rc j) wr w2 by rw [hrj.out]; exact HC2.out) (show Arr w2 (rc j) n _ by rw [hrj.out]; exact HA2.out))
                      have HSl2 := hid (HSl.out.far HC2.out (.inl (show rj < l2 by omega)))
                      have B352 := hid (HC2.out.blk B35.out (show ¬ b35 = rj by omega))
                      have D2 := hid (HB2.out _ D.out (show wB.heap.size ≤ rj by omega))
                      clear hlo hle hTl HA2 HB2 HC2 HCl HSl B35 D
                      go_roundw
                      case rel => exact ⟨j + 1, by omega, by go_num, HCl2, HSl2, B352, D2⟩
                      case measure => simp [intOf]; omega
                    · go_wp2_with fail
                      go_roundw
                      case rel => exact ⟨1, by omega, by go_num, HCl, HSl, B35, D⟩
                      case measure => simp [intOf]
                · rw [show ((1 : Nat) : Int) = 1 from rfl]
                  have k35 := B35.out.cell
                  have k35l := B35.out.lt
                  go_upto_region 39 with fail
                  obtain ⟨W5, hW5⟩ : ∃ W : World, Hid (W = wr) := ⟨_, hid rfl⟩
                  rw [← hW5.out] at HCl HSl B35 D
                  clear k35 k35l
                  go_loopw [189] (fun i W => ∃ j : Nat, j ≤ n ∧ i = .int .i64 (j : Int) ∧ Hid (Clr W l1 l2 ATc N3 Tc rc cc n) ∧ Hid (Clr W l2 l3 (some ⟨Ts, 0, none⟩) n Ts rs cs n) ∧ Hid (Blk W b35 48 #[.slice ATc N3 cpc, .slice (some ⟨Ts, 0, none⟩) n cps]) ∧ Hid (Ext wB W)) (fun i _ => n - (intOf i).toNat)
                  case atStart => exact ⟨0, Nat.zero_le _, rfl, hid (by rw [← hW5.out]; exact HCl.out), hid (by rw [← hW5.out]; exact HSl.out), hid (by rw [← hW5.out]; exact B35.out), hid (by rw [← hW5.out]; exact D.out)⟩
                  case round =>
                    clear HCl HSl B35 D
                    obtain ⟨j, hj, rfl, HCl, HSl, B35, D⟩ := hrel
                    by_cases hlj : j < n
                    · have hat := (HSl.out.at_ (by omega))
                      have hce := HSl.out.cell j hlj
                      have hlo := HSl.out.lo_ j hlj
                      have hle := HSl.out.le (by omega)
                      obtain ⟨hh, hAr⟩ := HSl.out.row j hlj
                      have hTl : Ts < wr.heap.size := by omega
                      obtain ⟨rj, hrj⟩ : ∃ q, Hid (rs j = q) := ⟨_, hid rfl⟩
                      rw [hrj.out] at hce hlo hAr
                      have hA1 := hat.1
                      clear hat
                      go_wp2_with (refine wpList_here { dst := none, op := .call { callee := .builtin .clear, args := #[.tmp 193], argTypes := #[22] }, type := _, pos := _, after := _, guard := none } ?_; refine wpList_clear_ch (n := n) (cap := cs j) (s := 0) (N := n) rfl _ 22 rfl el22 z3 rfl (by first | rfl | simp) hAr (by omega) ?_; intro w2 ha2 hb2 hc2; have HA2 := hid ha2; have HB2 := hid hb2; have HC2 := hid hc2; clear ha2 hb2 hc2 hAr hce)
                      have HCl2 := hid (HCl.out.far HC2.out (.inr (show l2 ≤ rj by omega)))
                      have HSl2 := hid (HSl.out.own hlj (show Ch (fun q => q = rs j) wr w2 by rw [hrj.out]; exact HC2.out) (show Arr w2 (rs j) n _ by rw [hrj.out]; exact HA2.out))
                      have B352 := hid (HC2.out.blk B35.out (show ¬ b35 = rj by omega))
                      have D2 := hid (HB2.out _ D.out (show wB.heap.size ≤ rj by omega))
                      clear hlo hle hTl HA2 HB2 HC2 HCl HSl B35 D
                      go_roundw
                      case rel => exact ⟨j + 1, by omega, by go_num, HCl2, HSl2, B352, D2⟩
                      case measure => simp [intOf]; omega
                    · go_wp2_with fail
                      go_roundw
                      case rel => exact ⟨2, by omega, by go_num, HCl, HSl, B35, D⟩
                      case measure => simp [intOf]
                · have heR := hid (eqRB_me n m g)
                  have heq := hid (eqB_same 1 L (fun k _ => f k))
                  go_wp2_with (first
                    | (go_at_call 28; (with_reducible refine (eqRows28 (HO.out.ext D.out) (HRb.out.ext D.out) (by omega) (by omega) HM1.out HM1.out).mono ?_); rintro e wy ⟨rfl, he⟩; rw [heR.out]; have D := hid (D.out.trans he); clear he)
                    | (go_at_call 34; (with_reducible refine (eq34 (HY.out.ext D.out) (HCb.out.ext D.out) (by omega) (by omega)).mono ?_); rintro e wy ⟨rfl, he⟩; rw [heq.out]; have D := hid (D.out.trans he); clear he)
                    | (go_at_call 18; refine (awake_any _).mono ?_; rintro e wy ⟨rfl, he⟩; have D := hid (D.out.trans he); clear he))
                  go_ret
                  exact ⟨rfl, EB.out.trans D.out⟩
end Go.Proofs.YtbceepjjdfpfmaaGreat
