/- Walk of the law LoanOnce (5): for every sack it returns true. No condition. -/
import Derived.Test.YtbceepjjdfpfmaaGreatAwk
import Derived.Test.YtbceepjjdfpfmaaGreatMk
import Derived.Test.YtbceepjjdfpfmaaGreatByt
import Derived.Test.YtbceepjjdfpfmaaGreatOncW
namespace Go.Proofs.YtbceepjjdfpfmaaGreat
open Go.RowKit HandSpec LoanSpec
set_option maxHeartbeats 4000000
set_option maxRecDepth 100000
theorem _root_.Go.Ch.rd {S : Nat → Prop} {w w' : World} (h : Ch S w w') {A : Option Addr} {n c : Nat} {g : Nat → Nat → Int} (hr : Rd w A n c g) (hA : ∀ a, A = some a → ¬ S a.block) : Rd w' A n c g := fun h0 => by
  obtain ⟨b, o, e, hc⟩ := hr h0
  refine ⟨b, o, e, fun k hk j hj => ?_⟩
  have h1 := hc k hk j hj
  rw [← h1]
  exact World.cell?_of_block (a := ⟨b, _, none⟩) (h.block b (World.block_lt_of_cell? w _ h1) (hA _ e))
theorem own_at {w : World} {B n cap : Nat} {e : TypeId} {c : Nat} {A : Option Addr} {l : List (List Int)} (h : OwnR w B e c (.slice A n cap) l) : ∀ a, A = some a → B ≤ a.block := fun a ha => by
  subst ha
  rcases h.2.2 with ⟨q, _⟩ | ⟨g', cap', cur, q, hb, _⟩
  · cases q
  · cases q
    exact hb
theorem sum_part {f : Nat → Int} {n : Nat} (h : ∀ i, i < n → 0 ≤ f i) : ∀ d j, j + d = n → 0 ≤ sumTo f j ∧ sumTo f j ≤ sumTo f n
  | 0, j, e => by
    obtain rfl : j = n := by omega
    have : ∀ k, k ≤ j → 0 ≤ sumTo f k := fun k => by
      induction k with
      | zero => exact fun _ => Int.le_refl _
      | succ k ih => intro hk; have := ih (by omega); have := h k (by omega); rw [sumTo_succ]; omega
    exact ⟨this j (Nat.le_refl _), Int.le_refl _⟩
  | d + 1, j, e => by
    have ih := sum_part h d (j + 1) (by omega)
    have := h j (by omega)
    have h0 : ∀ k, k ≤ j → 0 ≤ sumTo f k := fun k => by
      induction k with
      | zero => exact fun _ => Int.le_refl _
      | succ k ih => intro hk; have := ih (by omega); have := h k (by omega); rw [sumTo_succ]; omega
    have := h0 j (Nat.le_refl _)
    rw [sumTo_succ] at ih
    omega
theorem sum_len {f : Nat → Int} : ∀ n : Nat, (∀ i, i < n → 1 ≤ f i) → (n : Int) ≤ sumTo f n
  | 0, _ => Int.le_refl _
  | n + 1, h => by
    have ih := sum_len n fun i hi => h i (by omega)
    have := h n (by omega)
    rw [sumTo_succ]
    push_cast
    omega
/-- The loan to which the part ahead of j went. -/
def lastV (ps : List (Nat × Int)) (j : Nat) : Int := if j = 0 then -1 else (pl ps (j - 1) : Int)
/-- Where the law's boxes are, behind the first k payments. -/
structure OnS (wC : World) (x : LD) (b4 b5 Gb : Nat) (y : Int) (bk : Nat → Int) (W : World) : Prop where
  e : Ext wC W
  b5 : Blk W b5 3 #[.int .i64 y]
  b4 : Blk W b4 22 #[.slice (some ⟨Gb, 0, none⟩) x.ln x.ln]
  a : ArrB W Gb 3 x.ln bk
theorem OnS.ext {wC W W' : World} {x : LD} {b4 b5 Gb : Nat} {y : Int} {bk : Nat → Int} (h : OnS wC x b4 b5 Gb y bk W) (e : Ext W W') : OnS wC x b4 b5 Gb y bk W' := ⟨h.e.trans e, h.b5.ext e, h.b4.ext e, h.a.ext e⟩
theorem law5 {A : Option Addr} {n0 cap : Nat} {w : World} (hb : ByteS w A n0) :
    Calls Tryz.prog 5 #[.slice A n0 cap] w fun e w' => e = .returned (.bool true) ∧ Ext w w' := by
  have hmf : ∀ (fn : Fn) (first cap : Array Value) (w : World), (Instr.makeFunc fn first cap).run Tryz.prog w = .ok (.func fn first cap) w := fun _ _ _ _ => rfl
  have HB := hid hb
  clear hb
  go_enter Tryz.func5, Tryz.ntmps5
  go_upto_region 2 with (first
    | (go_at_call 31; refine (fill31 _).mono ?_; rintro e wa ⟨rfl, hea, hsa⟩; have ST := hid (start_of HB.out hea hsa); have EA := hid hea; clear hsa hea)
    | (go_at_call 30; (with_reducible refine (made30 ST.out (fk := 7) (ys := 9) (lm := 10) (pm := 12) (mm := 12) (by omega) (by omega) (by omega) (by omega) (by omega)).mono ?_); rintro e wb ⟨x, ⟨A1, c1, A2, c2, A3, c3, A4, c4, A5, c5⟩, rfl, hsx, hla, hok, hsm, hcap, hf2, -⟩; have HSX := hid hsx; have HL0 := hid hla; have hx := hid hok; have HSM := hid hsm; have HCP := hid hcap; unfold ledV; clear hsx hla hok hsm hcap))
  refine wp_later fun w1 hw1 => ?_
  obtain ⟨e1, b3⟩ := hw1.newB
  obtain ⟨N3, hN3⟩ : ∃ N, Hid (N = wb.heap.size) := ⟨_, hid rfl⟩
  rw [← hN3.out] at b3 ⊢
  have B3 : Hid (Blk w1 N3 27 (ledC x ⟨A1, c1, A2, c2, A3, c3, A4, c4, A5, c5⟩)) := hid b3
  have HL := hid (HL0.out.ext e1)
  have EW := hid ((HSX.out.ext EA.out (Nat.le_refl _)).trans e1)
  have k3 : ∀ i, w1.cell? ⟨N3, i, none⟩ = #[.int .i64 x.folk, .int .i64 x.years, .slice A1 x.bn c1, .slice A2 x.fn c2, .slice A3 x.ln c3, .slice A4 x.pn c4, .slice A5 x.mn c5][i]? := b3.cell
  have k3l := b3.lt
  clear hw1 e1 b3 HL0 HSX ST EA
  have hfk := hx.out.folk
  have hyr := hx.out.years
  have hlnb := hx.out.ln
  have hpnb := hx.out.pn
  have hc0 := hid (chk_of_ok hx.out)
  go_upto_region 4 with (go_at_call 37; refine (check37 HL.out.isL HSM.out.b HSM.out.f HSM.out.l HSM.out.p HSM.out.m).mono ?_; rintro e wC ⟨rfl, he⟩; rw [hc0.out]; have EW := hid (EW.out.trans he); have B3 := hid (B3.out.ext he); have HL := hid (HL.out.ext he); have k3 : ∀ i, wC.cell? ⟨N3, i, none⟩ = #[.int .i64 x.folk, .int .i64 x.years, .slice A1 x.bn c1, .slice A2 x.fn c2, .slice A3 x.ln c3, .slice A4 x.pn c4, .slice A5 x.mn c5][i]? := B3.out.cell; have k3l := B3.out.lt; clear he)
  have hmk2 : ∀ w, (Instr.makeSlice 22 (.int .i64 (x.ln : Int)) (.int .i64 (x.ln : Int))).run Tryz.prog w = .ok (.slice (some ⟨w.heap.size, 0, none⟩) x.ln x.ln) (w.alloc (.cells (Array.replicate x.ln (.int .i64 0)) 3)) := fun w => make22_run w x.ln (by omega)
  go_upto_region 5 with fail
  refine wp_later fun w2 hw2 => ?_
  obtain ⟨e2, bG, b4⟩ := hw2.newB2
  obtain ⟨Gb, hGb⟩ : ∃ N, Hid (wC.heap.size = N) := ⟨_, hid rfl⟩
  rw [hGb.out] at bG b4 ⊢
  have hA0 := hid (show ArrB w2 Gb 3 x.ln (bkd x 0) from ⟨_, bG, fun i hi => by simp [hi]; rfl⟩)
  have B4 := hid b4
  have hlt4 := b4.lt
  have E2 := hid e2
  clear hw2 bG b4 hmk2 e2 k3 k3l
  go_upto_region 6 with fail
  refine wp_later fun w3 hw3 => ?_
  obtain ⟨e3, b5⟩ := hw3.newB
  obtain ⟨n5, hn5⟩ : ∃ N, Hid (w2.heap.size = N) := ⟨_, hid rfl⟩
  rw [hn5.out] at b5 hlt4 ⊢
  have ON := hid (show OnS wC x (Gb + 1) n5 Gb 0 (bkd x 0) w3 from ⟨E2.out.trans e3, b5, B4.out.ext e3, hA0.out.ext e3⟩)
  have k3 : ∀ i, w3.cell? ⟨N3, i, none⟩ = #[.int .i64 x.folk, .int .i64 x.years, .slice A1 x.bn c1, .slice A2 x.fn c2, .slice A3 x.ln c3, .slice A4 x.pn c4, .slice A5 x.mn c5][i]? := (B3.out.ext (E2.out.trans e3)).cell
  have k3l := (B3.out.ext (E2.out.trans e3)).lt
  clear hw3 e3 b5 E2 hA0 B4
  go_upto_region 8 with fail
  clear k3 k3l
  go_loopw [35] (fun i W => ∃ (k : Nat) (y : Int), k ≤ x.pn ∧ i = .int .i64 (k : Int) ∧ 0 ≤ y ∧ y ≤ x.years ∧ Hid (∀ j, j < k → x.pa j 1 ≤ y) ∧ (k < x.pn → y ≤ x.pa k 1) ∧ Hid (OnS wC x (Gb + 1) n5 Gb y (bkd x k) W)) (fun i _ => x.pn - (intOf i).toNat)
  case atStart => exact ⟨0, 0, Nat.zero_le _, rfl, Int.le_refl _, by omega, hid fun _ h => absurd h (by omega), fun h => (hx.out.pyear 0 h).1, ON⟩
  case round =>
    clear ON
    obtain ⟨k, y, hk, rfl, hy0, hyy, hP1, hP2, ON⟩ := hrel
    by_cases hlk : k < x.pn
    · obtain ⟨bl, ol, rfl, hbl, q0, q1, q2⟩ := ((HL.out.ext ON.out.e).r4).at3 hlk
      have PL := hid (pay_law hx.out hlk)
      have hpy := hx.out.pyear k hlk
      have hps := hx.out.psack k hlk
      have hP2 := hP2 hlk
      obtain ⟨v0, hv0⟩ : ∃ z, Hid (x.pa k 0 = z) := ⟨_, hid rfl⟩
      obtain ⟨v1, hv1⟩ : ∃ z, Hid (x.pa k 1 = z) := ⟨_, hid rfl⟩
      obtain ⟨v2, hv2⟩ : ∃ z, Hid (x.pa k 2 = z) := ⟨_, hid rfl⟩
      have hnx := hid (show ∀ j, k ≤ j → j < x.pn → v1 ≤ x.pa j 1 from fun j h1 h2 => by
        rw [← hv1.out]
        exact R.pyear_mono hx.out h1 h2)
      have eB := hid (show P.errB x (k : Int) = 0 by
        unfold P.errB
        rw [if_pos hc0.out, show inB (k : Int) 0 ((x.pn : Int) - 1) = true from decide_eq_true (by omega)]
        rfl)
      rw [hv0.out] at q0
      rw [hv1.out] at q1 hpy hP2
      rw [hv2.out] at q2 hps
      go_upto_region 10 with fail
      refine wp_later fun w4 hw4 => ?_
      obtain ⟨e4, b8⟩ := hw4.newB
      obtain ⟨n8, hn8⟩ : ∃ N, Hid (wr.heap.size = N) := ⟨_, hid rfl⟩
      have h58 := ON.out.b5.lt
      have hG8 := ON.out.a.lt
      rw [hn8.out] at b8 h58 hG8 ⊢
      have B8 := hid b8
      have ON := hid (ON.out.ext e4)
      have k8 := b8.cell
      have k8l := b8.lt
      clear hw4 e4 b8 hbl q0 q1 q2
      go_upto_region 12 with (go_at_call 38; refine (once38 hx.out HSM.out HL.out B3.out ON.out.e ON.out.b5 ON.out.b4 ON.out.a (by have := hGb.out; omega) (by omega) (by omega) hy0 (by omega) hk hP1.out hnx.out).mono ?_; rintro e wz ⟨rfl, he, hc, hb⟩; have ON := hid (show OnS wC x (Gb + 1) n5 Gb v1 (bkd x k) wz from ⟨he, by rwa [show max y v1 = v1 by omega] at hb, hc.blk ON.out.b4 (by show ¬ Gb + 1 = n5; omega), ON.out.a.same (hc.block Gb ON.out.a.lt (by show ¬ Gb = n5; omega))⟩); have B8 := hid (hc.blk B8.out (by show ¬ n8 = n5; omega)); have k8 := B8.out.cell; have k8l := B8.out.lt; have k3 : ∀ i, wz.cell? ⟨N3, i, none⟩ = #[.int .i64 x.folk, .int .i64 x.years, .slice A1 x.bn c1, .slice A2 x.fn c2, .slice A3 x.ln c3, .slice (some ⟨bl, ol, none⟩) x.pn c4, .slice A5 x.mn c5][i]? := (B3.out.ext ON.out.e).cell; have k3l := (B3.out.ext ON.out.e).lt; clear he hc hb)
      obtain ⟨ps, hps'⟩ : ∃ q, Hid (P.partsOf x k = q) := ⟨_, hid rfl⟩
      obtain ⟨ov, hov⟩ : ∃ q, Hid (P.overOf x k = q) := ⟨_, hid rfl⟩
      rw [hps'.out, hov.out] at PL
      have hob := PL.out.ob
      have hplen : ps.length ≤ 500 := by
        have h1 := sum_len (f := pv ps) ps.length fun i hi => (PL.out.pr i hi).2.1
        have h2 := PL.out.tt
        rw [hv2.out] at h2
        omega
      rw [hv2.out] at hob
      go_upto_region 13 with (go_at_call 40; refine (booked_ok (HL.out.ext ON.out.e) HSM.out HCP.out eB.out).mono ?_; rintro e wz ⟨u, rfl, he, ho⟩; rw [hps'.out] at ho; rw [hov.out]; obtain ⟨Ap, cp, rfl, ho2⟩ := ho.slR; rw [rowsP_length] at ho2 ⊢; have hap := hid (show ∀ a, Ap = some a → ¬ a.block = Gb from fun a ha => by have := own_at ho a ha; omega); have HPs := hid ho2; have ON := hid (ON.out.ext he); have B8 := hid (B8.out.ext he); have k8 := B8.out.cell; have k8l := B8.out.lt; clear he ho ho2)
      go_upto_region 17 with fail
      obtain ⟨W2, hW2⟩ : ∃ W : World, Hid (W = wz) := ⟨_, hid rfl⟩
      rw [← hW2.out] at HPs ON B8
      clear k8 k8l k3 k3l
      go_loopw [12, 13, 67] (fun s l i W => ∃ (j : Nat) (S Lv : Int), j ≤ ps.length ∧ i = .int .i64 (j : Int) ∧ s = .int .i64 S ∧ l = .int .i64 Lv ∧ Hid (S = ov + sumTo (pv ps) j) ∧ Hid (Lv = lastV ps j) ∧ Hid (Ext wC W) ∧ Hid (Ch (fun b => b = Gb) W2 W) ∧ Hid (ArrB W Gb 3 x.ln (bp (bkd x k) ps j))) (fun _ _ i _ => ps.length - (intOf i).toNat)
      case atStart => exact ⟨0, ov, -1, Nat.zero_le _, rfl, rfl, rfl, hid (by show ov = ov + 0; omega), hid rfl, hid (by rw [← hW2.out]; exact ON.out.e), hid (by rw [← hW2.out]; exact Ch.refl _ _), hid (by rw [← hW2.out]; exact ON.out.a)⟩
      case round =>
        obtain ⟨j, S, Lv, hj, rfl, rfl, rfl, hS, hLv, E, C, HA⟩ := hrel
        by_cases hlj : j < ps.length
        · as_aux_lemma =>
          obtain ⟨t1, t2, t3, t4, t5⟩ := PL.out.pr j hlj
          obtain ⟨bo, oo, rfl, hbo, p0, p1⟩ := (C.out.rd HPs.out hap.out).at2 hlj
          rw [(rowsP_at hlj).1] at p0
          rw [(rowsP_at hlj).2] at p1
          obtain ⟨bq, oq, rfl, hbq, l0, l1, -⟩ := ((HL.out.ext E.out).r3).at3 t1
          have hstp := hid (bp_step (bkd x k) hlj)
          have hbef := hid (fun h0 : 0 < j => show LoanSpec.Before x (pl ps (j - 1)) (pl ps j) by
            have := PL.out.so (j - 1) (by omega)
            rwa [show j - 1 + 1 = j by omega] at this)
          have hpv0 := hid (fun h0 : 0 < j => (PL.out.pr (j - 1) (by omega)).1)
          have hbd := PL.out.bd _ t1 j (by omega)
          have hab := R.asked_nonneg hx.out t1
          have hSb2 : 0 ≤ S ∧ S ≤ 500 := by
            have h1 := sum_part (f := pv ps) (n := ps.length) (fun i hi => by have := (PL.out.pr i hi).2.1; omega) (ps.length - j) j (by omega)
            have h2 := PL.out.tt
            rw [hv2.out] at h2
            rw [hS.out]
            omega
          obtain ⟨t, ht⟩ : ∃ q, Hid (pl ps j = q) := ⟨_, hid rfl⟩
          obtain ⟨v, hv⟩ : ∃ q, Hid (pv ps j = q) := ⟨_, hid rfl⟩
          obtain ⟨z, hz⟩ : ∃ q, Hid (bp (bkd x k) ps j (pl ps j) = q) := ⟨_, hid rfl⟩
          obtain ⟨y1, hy1⟩ : ∃ q, Hid (x.lo (pl ps j) 1 = q) := ⟨_, hid rfl⟩
          have hsx := hid (show ov + sumTo (pv ps) (j + 1) = S + v by rw [sumTo_succ, hv.out, hS.out]; omega)
          rw [t4, hv0.out] at l0
          rw [hy1.out, hv1.out] at t5
          rw [hy1.out] at l1
          rw [hz.out] at hbd hstp
          rw [hv.out] at p1 t2 t3 hstp
          rw [ht.out] at p0 t1 l0 l1 hstp
          clear t4
          go_upto_region 19 with fail
          refine wp_later fun w5 hw5 => ?_
          obtain ⟨e5, b15⟩ := hw5.newB
          obtain ⟨n15, hn15⟩ : ∃ N, Hid (wr.heap.size = N) := ⟨_, hid rfl⟩
          rw [hn15.out] at b15 ⊢
          have B15 := hid b15
          have hGn : Gb < n15 := by have := HA.out.lt; have := hn15.out; omega
          have E := hid (E.out.trans e5)
          have C := hid ((C.out.step (Ch.ofExt e5) (fun _ _ h => h.elim) : Ch (fun b => b = Gb) W2 w5))
          have HA := hid (HA.out.ext e5)
          have B8w := hid (C.out.blk B8.out (by show ¬ n8 = Gb; omega))
          have B4w := hid (C.out.blk ON.out.b4 (by show ¬ Gb + 1 = Gb; omega))
          have k3 : ∀ i, w5.cell? ⟨N3, i, none⟩ = #[.int .i64 x.folk, .int .i64 x.years, .slice A1 x.bn c1, .slice A2 x.fn c2, .slice (some ⟨bq, oq, none⟩) x.ln c3, .slice (some ⟨bl, ol, none⟩) x.pn c4, .slice A5 x.mn c5][i]? := (B3.out.ext E.out).cell
          have k3l := (B3.out.ext E.out).lt
          have k8 := B8w.out.cell
          have k8l := B8w.out.lt
          have k15 := b15.cell
          have k15l := b15.lt
          have L0 := hid (e5.some_ l0)
          have L1 := hid (e5.some_ l1)
          have l0 := L0.out
          have l1 := L1.out
          have hbq := Nat.lt_of_lt_of_le hbq e5.size
          clear hw5 b15 hbo p0 p1 e5
          have hzt : ¬ (x.ln : Int) ≤ (t : Int) := by omega
          have hzt0 : ¬ (t : Int) < 0 := by omega
          have hv10 : ¬ v < 1 := by omega
          have hvy : ¬ v1 < y1 := by omega
          have hvv : (v0 != v0) = false := by simp
          refine wp_region_later (by kernel_rfl) (by kernel_rfl) ?_
          repeat (go_big_quiet_step (fail))
          refine wpQuiet_nil ?_
          rintro w6 ⟨⟨_, he6⟩, rfl⟩
          have E := hid (E.out.trans he6)
          have C := hid ((C.out.step (Ch.ofExt he6) (fun _ _ h => h.elim) : Ch (fun b => b = Gb) W2 w6))
          have HA := hid (HA.out.ext he6)
          have B8w := hid (B8w.out.ext he6)
          have B4w := hid (B4w.out.ext he6)
          have B15 := hid (B15.out.ext he6)
          have k3 : ∀ i, w6.cell? ⟨N3, i, none⟩ = #[.int .i64 x.folk, .int .i64 x.years, .slice A1 x.bn c1, .slice A2 x.fn c2, .slice (some ⟨bq, oq, none⟩) x.ln c3, .slice (some ⟨bl, ol, none⟩) x.pn c4, .slice A5 x.mn c5][i]? := (B3.out.ext E.out).cell
          have k3l := (B3.out.ext E.out).lt
          have k15 := B15.out.cell
          have k15l := B15.out.lt
          have L1 := hid (he6.some_ L1.out)
          have l1 := L1.out
          have hbq := Nat.lt_of_lt_of_le hbq he6.size
          clear k8 k8l L0 l0 he6
          go_upto_region 21 with fail
          go_cut [150] (fun s W => s = .bool false ∧ Hid (Ext w6 W))
          case first =>
            as_aux_lemma =>
              by_cases hj0 : j = 0
              · have hL0 : ¬ (0 : Int) ≤ Lv := by rw [hLv.out, hj0]; unfold lastV; simp
                clear hj0
                refine wp_region_later (by kernel_rfl) (by kernel_rfl) ?_
                repeat (go_big_quiet_step (fail))
                refine wpQuiet_nil ?_
                rintro w7 ⟨⟨_, he7⟩, rfl⟩
                go_wp2_with fail
                go_meet
                exact ⟨rfl, hid he7⟩
              · have hL0 : Lv = (pl ps (j - 1) : Int) := by rw [hLv.out]; unfold lastV; rw [if_neg hj0]
                have hq := hpv0.out (by omega)
                have hbe := hbef.out (by omega)
                unfold LoanSpec.Before at hbe
                rw [hy1.out, ht.out] at hbe
                obtain ⟨bq2, oq2, hA2, hbq2, -, m1, -⟩ := ((HL.out.ext E.out).r3).at3 hq
                cases hA2
                obtain ⟨u, hu⟩ : ∃ q, Hid (pl ps (j - 1) = q) := ⟨_, hid rfl⟩
                obtain ⟨z1, hz1⟩ : ∃ q, Hid (x.lo (pl ps (j - 1)) 1 = q) := ⟨_, hid rfl⟩
                rw [hz1.out] at m1 hbe
                rw [hu.out] at hL0 hq hbe m1
                subst hL0
                rcases hbe with hbe | ⟨hbe, hut⟩
                · have g1 : ¬ y1 < z1 := by omega
                  have g2 : (z1 == y1) = false := by simp; omega
                  refine wp_region_later (by kernel_rfl) (by kernel_rfl) ?_
                  repeat (go_big_quiet_step (fail))
                  refine wpQuiet_nil ?_
                  rintro w7 ⟨⟨_, he7⟩, rfl⟩
                  go_wp2_with fail
                  go_meet
                  exact ⟨rfl, hid he7⟩
                · subst hbe
                  have g3 : ¬ (t : Int) ≤ (u : Int) := by omega
                  refine wp_region_later (by kernel_rfl) (by kernel_rfl) ?_
                  repeat (go_big_quiet_step (fail))
                  refine wpQuiet_nil ?_
                  rintro w7 ⟨⟨_, he7⟩, rfl⟩
                  go_wp2_with fail
                  go_meet
                  exact ⟨rfl, hid he7⟩
          case rest =>
            obtain ⟨rfl, he7⟩ := hcut
            have he7 := he7.out
            have E := hid (E.out.trans he7)
            have C := hid ((C.out.step (Ch.ofExt he7) (fun _ _ h => h.elim) : Ch (fun b => b = Gb) W2 wc))
            have HA := hid (HA.out.ext he7)
            have B4w := hid (B4w.out.ext he7)
            have B15 := hid (B15.out.ext he7)
            have k15 := B15.out.cell
            have k15l := B15.out.lt
            have k4 := B4w.out.cell
            have k4l := B4w.out.lt
            have hzt' : bp (bkd x k) ps j t = z := by rw [← ht.out]; exact hz.out
            have kb := HA.out.cell t1
            have kbl := HA.out.lt
            rw [hzt'] at kb
            clear k3 k3l L1 l1 hbq he7 hzt'
            go_upto_region 24 with fail
            refine wp_region_tail 9 (by kernel_rfl) (by kernel_rfl) ?_
            simp only [List.take_succ_cons, List.take_zero, List.drop_succ_cons, List.drop_zero]
            repeat (go_big_quiet_step (fail))
            refine wpQuiet_nil ?_
            rintro w8 ⟨⟨_, he8⟩, rfl⟩
            have HA8 := hid (HA.out.ext he8)
            have kb := (HA8.out.cell t1)
            rw [show bp (bkd x k) ps j t = z by rw [← ht.out]; exact hz.out] at kb
            have kf := HA8.out.frozen t
            have kbl := HA8.out.lt
            have B15 := hid (B15.out.ext he8)
            clear k15 k15l k4 k4l
            go_upto_region 25 with fail
            have B15 := hid (B15.out.far (p := ⟨Gb, t, none⟩) (by show n15 ≠ Gb; omega) (.int .i64 (z + v)))
            have k15 := B15.out.cell
            have k15l := B15.out.lt
            have E := hid ((E.out.trans he8).setCell (p := ⟨Gb, t, none⟩) (.int .i64 (z + v)) (by have := hGb.out; show wC.heap.size ≤ Gb; omega))
            have C := hid ((C.out.step (Ch.ofExt he8) (fun _ _ h => h.elim) : Ch (fun b => b = Gb) W2 w8).step (Ch.ofSet w8 Gb t (.int .i64 (z + v))) (fun _ _ h => h) : Ch (fun b => b = Gb) W2 _)
            have HA := hid ((HA8.out.set_ t (z + v)).congr (h' := bp (bkd x k) ps (j + 1)) fun i hi => by rw [hstp.out])
            clear kb kf kbl HA8
            go_wp2_with fail
            go_roundw
            case rel => exact ⟨j + 1, S + v, (t : Int), by omega, by go_num, by go_num, rfl, hid hsx.out.symm, hid (by unfold lastV; rw [if_neg (by omega), Nat.add_sub_cancel, ht.out]), E, C, HA⟩
            case measure => simp [intOf]; omega
        · as_aux_lemma =>
          have hjl : j = ps.length := by omega
          have HK := hid (HA.out.congr (h' := bkd x (k + 1)) fun i hi => by rw [hjl, PL.out.en])
          have hSv : S = v2 := by
            have := PL.out.tt
            rw [hv2.out] at this
            rw [hS.out, hjl]
            exact this
          have hLv := hid (show Lv = lastV ps ps.length by rw [hLv.out, hjl])
          subst hSv
          clear HA hS hjl
          have B8w := hid (C.out.blk B8.out (by show ¬ n8 = Gb; omega))
          have B4w := hid (C.out.blk ON.out.b4 (by show ¬ Gb + 1 = Gb; omega))
          have B5w := hid (C.out.blk ON.out.b5 (by show ¬ n5 = Gb; omega))
          have k3 : ∀ i, wr.cell? ⟨N3, i, none⟩ = #[.int .i64 x.folk, .int .i64 x.years, .slice A1 x.bn c1, .slice A2 x.fn c2, .slice A3 x.ln c3, .slice (some ⟨bl, ol, none⟩) x.pn c4, .slice A5 x.mn c5][i]? := (B3.out.ext E.out).cell
          have k3l := (B3.out.ext E.out).lt
          have k8 := B8w.out.cell
          have k8l := B8w.out.lt
          have tS : (S != S) = false := by simp
          go_upto_region 30 with fail
          obtain ⟨W3, hW3⟩ : ∃ W : World, Hid (W = wr) := ⟨_, hid rfl⟩
          rw [← hW3.out] at B8w B4w B5w E HK
          clear k3 k3l k8 k8l tS C
          go_loopw [174] (fun i W => ∃ a : Nat, a ≤ x.ln ∧ i = .int .i64 (a : Int) ∧ Hid (Ext W3 W)) (fun i _ => x.ln - (intOf i).toNat)
          case atStart => exact ⟨0, Nat.zero_le _, rfl, hid (by rw [← hW3.out]; exact Ext.refl _)⟩
          case round =>
            obtain ⟨a, ha, rfl, D⟩ := hrel
            by_cases hla : a < x.ln
            · as_aux_lemma =>
              obtain ⟨bq, oq, rfl, hbq, l0, l1, l2⟩ := ((HL.out.ext (E.out.trans D.out)).r3).at3 hla
              have eL := hid (eL_at hx.out hla)
              have hab := R.asked_nonneg hx.out hla
              have hbb : 0 ≤ bkd x (k + 1) a ∧ bkd x (k + 1) a ≤ P.asked x a := P.until_bd hx.out x.years (k + 1) hlk a hla
              have hfu := hid (PL.out.fu a hla)
              obtain ⟨y0, hy0'⟩ : ∃ q, Hid (x.lo a 0 = q) := ⟨_, hid rfl⟩
              obtain ⟨y1, hy1⟩ : ∃ q, Hid (x.lo a 1 = q) := ⟨_, hid rfl⟩
              obtain ⟨y2, hy2⟩ : ∃ q, Hid (x.lo a 2 = q) := ⟨_, hid rfl⟩
              obtain ⟨va, hva⟩ : ∃ q, Hid (P.asked x a = q) := ⟨_, hid rfl⟩
              obtain ⟨vb, hvb⟩ : ∃ q, Hid (bkd x (k + 1) a = q) := ⟨_, hid rfl⟩
              rw [hy0'.out, hy1.out, hv0.out, hv1.out, hva.out, hvb.out] at hfu
              rw [hva.out, hvb.out] at hbb
              rw [hva.out] at hab
              rw [hy0'.out] at l0
              rw [hy1.out] at l1
              rw [hy2.out] at l2
              obtain ⟨lt, hlt⟩ : ∃ b, Hid (decide (0 < ov ∨ (0 < ps.length ∧ (y1 < x.lo (pl ps (ps.length - 1)) 1 ∨ (x.lo (pl ps (ps.length - 1)) 1 = y1 ∧ a < pl ps (ps.length - 1))))) = b) := ⟨_, hid rfl⟩
              go_upto_region 32 with fail
              refine wp_later fun w5 hw5 => ?_
              obtain ⟨e5, b17⟩ := hw5.newB
              have B17 := hid b17
              have D := hid (D.out.trans e5)
              clear hw5 e5 b17 hbq l0 l1 l2
              have k3 : ∀ i, w5.cell? ⟨N3, i, none⟩ = #[.int .i64 x.folk, .int .i64 x.years, .slice A1 x.bn c1, .slice A2 x.fn c2, .slice (some ⟨bq, oq, none⟩) x.ln c3, .slice (some ⟨bl, ol, none⟩) x.pn c4, .slice A5 x.mn c5][i]? := (B3.out.ext (E.out.trans D.out)).cell
              have k3l := (B3.out.ext (E.out.trans D.out)).lt
              go_upto_region 33 with (go_at_call 39; refine (asked_ok (HL.out.ext (E.out.trans D.out)) HSM.out eL.out).mono ?_; rintro e wz ⟨rfl, he⟩; rw [hva.out]; have D := hid (D.out.trans he); have B17 := hid (B17.out.ext he); have k3 : ∀ i, wz.cell? ⟨N3, i, none⟩ = #[.int .i64 x.folk, .int .i64 x.years, .slice A1 x.bn c1, .slice A2 x.fn c2, .slice (some ⟨bq, oq, none⟩) x.ln c3, .slice (some ⟨bl, ol, none⟩) x.pn c4, .slice A5 x.mn c5][i]? := (B3.out.ext (E.out.trans D.out)).cell; have k3l := (B3.out.ext (E.out.trans D.out)).lt; have k17 := B17.out.cell; have k17l := B17.out.lt; clear he)
              obtain ⟨w6, rfl⟩ : ∃ W : World, W = wz := ⟨_, rfl⟩
              go_cut [20] (fun s W => s = .bool lt ∧ Hid (Ext w6 W))
              case first =>
                as_aux_lemma =>
                  by_cases o0 : 0 < ov
                  · have hl1 : lt = true := by rw [← hlt.out]; exact decide_eq_true (.inl o0)
                    subst hl1
                    refine wp_region_later (by kernel_rfl) (by kernel_rfl) ?_
                    repeat (go_big_quiet_step (fail))
                    refine wpQuiet_nil ?_
                    rintro w7 ⟨⟨_, he7⟩, rfl⟩
                    go_wp2_with fail
                    go_meet
                    exact ⟨rfl, hid he7⟩
                  · by_cases hl0 : ps.length = 0
                    · have hL0 : ¬ (0 : Int) ≤ Lv := by rw [hLv.out, hl0]; unfold lastV; simp
                      have hl1 : lt = false := by
                        rw [← hlt.out]
                        exact decide_eq_false (fun h => by omega)
                      subst hl1
                      clear hl0
                      refine wp_region_later (by kernel_rfl) (by kernel_rfl) ?_
                      repeat (go_big_quiet_step (fail))
                      refine wpQuiet_nil ?_
                      rintro w7 ⟨⟨_, he7⟩, rfl⟩
                      go_wp2_with fail
                      go_meet
                      exact ⟨rfl, hid he7⟩
                    · have hL0 : Lv = (pl ps (ps.length - 1) : Int) := by rw [hLv.out]; unfold lastV; rw [if_neg hl0]
                      have hq := (PL.out.pr (ps.length - 1) (by omega)).1
                      obtain ⟨bq2, oq2, hA2, hbq2, -, m1, -⟩ := ((HL.out.ext (E.out.trans D.out)).r3).at3 hq
                      cases hA2
                      have hlt2 := hid hlt.out
                      obtain ⟨u, hu⟩ : ∃ q, Hid (pl ps (ps.length - 1) = q) := ⟨_, hid rfl⟩
                      obtain ⟨z1, hz1⟩ : ∃ q, Hid (x.lo (pl ps (ps.length - 1)) 1 = q) := ⟨_, hid rfl⟩
                      have hlt3 := hlt2.out
                      rw [hz1.out, hu.out] at hlt3
                      rw [hz1.out] at m1
                      rw [hu.out] at hL0 hq m1
                      subst hL0
                      have hl00 : 0 < ps.length := by omega
                      rcases Int.lt_trichotomy y1 z1 with g | g | g
                      · have hl1 : lt = true := by rw [← hlt3]; exact decide_eq_true (.inr ⟨hl00, .inl g⟩)
                        subst hl1
                        clear hl0
                        refine wp_region_later (by kernel_rfl) (by kernel_rfl) ?_
                        repeat (go_big_quiet_step (fail))
                        refine wpQuiet_nil ?_
                        rintro w7 ⟨⟨_, he7⟩, rfl⟩
                        go_wp2_with fail
                        go_meet
                        exact ⟨rfl, hid he7⟩
                      · by_cases hau : a < u
                        · have hl1 : lt = true := by rw [← hlt3]; exact decide_eq_true (.inr ⟨hl00, .inr ⟨g.symm, hau⟩⟩)
                          subst hl1
                          have g1 : ¬ y1 < z1 := by omega
                          have g2 : (z1 == y1) = true := by simp [g]
                          have g3 : (a : Int) < (u : Int) := by omega
                          clear hl0 g
                          refine wp_region_later (by kernel_rfl) (by kernel_rfl) ?_
                          repeat (go_big_quiet_step (fail))
                          refine wpQuiet_nil ?_
                          rintro w7 ⟨⟨_, he7⟩, rfl⟩
                          go_wp2_with fail
                          go_meet
                          exact ⟨rfl, hid he7⟩
                        · have hl1 : lt = false := by rw [← hlt3]; exact decide_eq_false (fun h => by omega)
                          subst hl1
                          have g1 : ¬ y1 < z1 := by omega
                          have g2 : (z1 == y1) = true := by simp [g]
                          have g3 : ¬ (a : Int) < (u : Int) := by omega
                          clear hl0 g
                          refine wp_region_later (by kernel_rfl) (by kernel_rfl) ?_
                          repeat (go_big_quiet_step (fail))
                          refine wpQuiet_nil ?_
                          rintro w7 ⟨⟨_, he7⟩, rfl⟩
                          go_wp2_with fail
                          go_meet
                          exact ⟨rfl, hid he7⟩
                      · have hl1 : lt = false := by rw [← hlt3]; exact decide_eq_false (fun h => by omega)
                        subst hl1
                        have g1 : ¬ y1 < z1 := by omega
                        have g2 : (z1 == y1) = false := by simp; omega
                        clear hl0
                        refine wp_region_later (by kernel_rfl) (by kernel_rfl) ?_
                        repeat (go_big_quiet_step (fail))
                        refine wpQuiet_nil ?_
                        rintro w7 ⟨⟨_, he7⟩, rfl⟩
                        go_wp2_with fail
                        go_meet
                        exact ⟨rfl, hid he7⟩
              case rest =>
                obtain ⟨rfl, he7⟩ := hcut
                have he7 := he7.out
                have D := hid (D.out.trans he7)
                have B17 := hid (B17.out.ext he7)
                have B8x := hid (B8w.out.ext D.out)
                have B4x := hid (B4w.out.ext D.out)
                have k17 := B17.out.cell
                have k17l := B17.out.lt
                have k8 := B8x.out.cell
                have k8l := B8x.out.lt
                have k4 := B4x.out.cell
                have k4l := B4x.out.lt
                have kb := (HK.out.ext D.out).cell hla
                have kbl := (HK.out.ext D.out).lt
                rw [hvb.out] at kb
                have hvn : ¬ va < vb := by omega
                clear k3 k3l he7
                by_cases c0 : y0 = v0
                · have t0 : (y0 == v0) = true := by simpa using c0
                  by_cases c1 : y1 ≤ v1
                  · cases lt
                    · clear c0
                      go_wp2_with fail
                      go_roundw
                      case rel => exact ⟨a + 1, by omega, by go_num, D⟩
                      case measure => simp [intOf]; omega
                    · have hbe := hfu.out c0 c1 (of_decide_eq_true hlt.out)
                      have tb : (vb != va) = false := by rw [hbe]; simp
                      clear c0
                      go_wp2_with fail
                      go_roundw
                      case rel => exact ⟨a + 1, by omega, by go_num, D⟩
                      case measure => simp [intOf]; omega
                  · clear c0
                    go_wp2_with fail
                    go_roundw
                    case rel => exact ⟨a + 1, by omega, by go_num, D⟩
                    case measure => simp [intOf]; omega
                · have t0 : (y0 == v0) = false := by simpa using c0
                  clear c0
                  go_wp2_with fail
                  go_roundw
                  case rel => exact ⟨a + 1, by omega, by go_num, D⟩
                  case measure => simp [intOf]; omega
            · go_wp2_with fail
              go_roundw
              case rel =>
                refine ⟨k + 1, v1, by omega, by go_num, by omega, by omega, hid fun j hj => ?_, fun h => ?_, hid ⟨E.out.trans D.out, B5w.out.ext D.out, B4w.out.ext D.out, HK.out.ext D.out⟩⟩
                · by_cases e : j = k
                  · rw [e, hv1.out]; exact Int.le_refl _
                  · have := hP1.out j (by omega)
                    omega
                · exact hnx.out (k + 1) (by omega) h
              case measure => simp [intOf]; omega
    · have hkn : k = x.pn := by omega
      have k3 : ∀ i, wr.cell? ⟨N3, i, none⟩ = #[.int .i64 x.folk, .int .i64 x.years, .slice A1 x.bn c1, .slice A2 x.fn c2, .slice A3 x.ln c3, .slice A4 x.pn c4, .slice A5 x.mn c5][i]? := (B3.out.ext ON.out.e).cell
      have k3l := (B3.out.ext ON.out.e).lt
      have h58 := ON.out.b5.lt
      have hG8 := ON.out.a.lt
      go_wp2_with (first
        | (go_at_call 38; refine (once38 hx.out HSM.out HL.out B3.out ON.out.e ON.out.b5 ON.out.b4 ON.out.a (by have := hGb.out; omega) (by omega) (by omega) hy0 (Int.le_refl _) hk hP1.out (fun j h1 h2 => absurd h2 (by omega))).mono ?_; rintro e wz ⟨rfl, he, hc, hb⟩; have EZ := hid he; clear he hc hb)
        | (go_at_call 18; refine (awake_any _).mono ?_; rintro e wz ⟨rfl, he⟩; have EZ := hid (EZ.out.trans he); clear he))
      go_ret
      exact ⟨rfl, EW.out.trans EZ.out⟩
end Go.Proofs.YtbceepjjdfpfmaaGreat
