/- Walks of the law's own helpers: great (17). No condition. -/
import Derived.Test.YtbceepjjdfpfmaaGreatDesk
import Derived.Test.YtbceepjjdfpfmaaGreatGenC
import Derived.Test.YtbceepjjdfpfmaaGreatNest
import Derived.Test.YtbceepjjdfpfmaaGreatGenB
namespace Go.Proofs.YtbceepjjdfpfmaaGreat
open Go.RowKit HandSpec LoanSpec
set_option maxHeartbeats 2000000
set_option maxRecDepth 100000
/-- Is a list of the ledger too long for the law? -/
def greatL (x : LD) : Bool := decide (14 < x.bn) || decide (14 < x.fn) || decide (14 < x.ln) || decide (16 < x.pn) || decide (16 < x.mn)
theorem great17 {x : LD} {w : World} {v : Value} (hv : IsL w v x) : Calls Tryz.prog 17 #[v] w fun e w' => e = .returned (.bool (greatL x)) ∧ Ext w w' := by
  obtain ⟨A1, c1, A2, c2, A3, c3, A4, c4, A5, c5, rfl, r1, r2, r3, r4, r5⟩ := hv
  clear r1 r2 r3 r4 r5
  have d1 : decide ((14 : Int) < (x.bn : Int)) = decide (14 < x.bn) := by rw [Bool.eq_iff_iff]; simp only [decide_eq_true_eq]; omega
  have d2 : decide ((14 : Int) < (x.fn : Int)) = decide (14 < x.fn) := by rw [Bool.eq_iff_iff]; simp only [decide_eq_true_eq]; omega
  have d3 : decide ((14 : Int) < (x.ln : Int)) = decide (14 < x.ln) := by rw [Bool.eq_iff_iff]; simp only [decide_eq_true_eq]; omega
  have d4 : decide ((16 : Int) < (x.pn : Int)) = decide (16 < x.pn) := by rw [Bool.eq_iff_iff]; simp only [decide_eq_true_eq]; omega
  have d5 : decide ((16 : Int) < (x.mn : Int)) = decide (16 < x.mn) := by rw [Bool.eq_iff_iff]; simp only [decide_eq_true_eq]; omega
  obtain ⟨q1, h1⟩ : ∃ q, decide (14 < x.bn) = q := ⟨_, rfl⟩
  obtain ⟨q2, h2⟩ : ∃ q, decide (14 < x.fn) = q := ⟨_, rfl⟩
  obtain ⟨q3, h3⟩ : ∃ q, decide (14 < x.ln) = q := ⟨_, rfl⟩
  obtain ⟨q4, h4⟩ : ∃ q, decide (16 < x.pn) = q := ⟨_, rfl⟩
  obtain ⟨q5, h5⟩ : ∃ q, decide (16 < x.mn) = q := ⟨_, rfl⟩
  have hG : Hid (greatL x = (q1 || q2 || q3 || q4 || q5)) := hid (by unfold greatL; rw [h1, h2, h3, h4, h5])
  rw [hG.out]
  rw [h1] at d1
  rw [h2] at d2
  rw [h3] at d3
  rw [h4] at d4
  rw [h5] at d5
  cases q1
  case true =>
    go_enter Tryz.func17, Tryz.ntmps17
    go_wp2_with fail
    go_ret
    exact ⟨rfl, (Ext.refl _).alloc _⟩
  cases q2
  case true =>
    go_enter Tryz.func17, Tryz.ntmps17
    go_wp2_with fail
    go_ret
    exact ⟨rfl, (Ext.refl _).alloc _⟩
  cases q3
  case true =>
    go_enter Tryz.func17, Tryz.ntmps17
    go_wp2_with fail
    go_ret
    exact ⟨rfl, (Ext.refl _).alloc _⟩
  cases q4
  case true =>
    go_enter Tryz.func17, Tryz.ntmps17
    go_wp2_with fail
    go_ret
    exact ⟨rfl, (Ext.refl _).alloc _⟩
  cases q5
  all_goals
    go_enter Tryz.func17, Tryz.ntmps17
    go_wp2_with fail
    go_ret
    exact ⟨rfl, (Ext.refl _).alloc _⟩
/-- Are two tables alike? -/
def eqRB (n n' : Nat) (m m' : Nat → Nat) (g h : Nat → Nat → Int) : Bool := decide (n = n') && !anyTo (fun k => !eqB 1 (m k) (m' k) (fun j _ => g k j) (fun j _ => h k j)) n
theorem eqRows28 {w : World} {A A' : Option Addr} {n cap n' cap' : Nat} {m m' : Nat → Nat} {g h : Nat → Nat → Int} (hr : RdN w A n m g) (hr' : RdN w A' n' m' h) (hn : n ≤ 1000) (hn' : n' ≤ 1000) (hm : ∀ k, k < n → m k ≤ 1000) (hm' : ∀ k, k < n' → m' k ≤ 1000) :
    Calls Tryz.prog 28 #[.slice A n cap, .slice A' n' cap'] w fun e w' => e = .returned (.bool (eqRB n n' m m' g h)) ∧ Ext w w' := by
  by_cases hl : n = n'
  · subst hl
    have hG := hid (show eqRB n n m m' g h = !anyTo (fun k => !eqB 1 (m k) (m' k) (fun j _ => g k j) (fun j _ => h k j)) n by unfold eqRB; simp)
    have HR := hid hr
    have HR' := hid hr'
    have HM := hid hm
    have HM' := hid hm'
    clear hr hr' hm hm'
    go_enter Tryz.func28, Tryz.ntmps28
    go_upto_region 4 with fail
    go_loopw [14] (fun i wr => ∃ k : Nat, k ≤ n ∧ i = .int .i64 (k : Int) ∧ Hid (∀ j, j < k → (!eqB 1 (m j) (m' j) (fun i _ => g j i) (fun i _ => h j i)) = false) ∧ Ext w wr) (fun i _ => n - (intOf i).toNat)
    case atStart => exact ⟨0, Nat.zero_le _, rfl, hid fun _ h => absurd h (by omega), Ext.refl _⟩
    case round =>
      obtain ⟨k, hk, rfl, hp, he⟩ := hrel
      by_cases hlt : k < n
      · obtain ⟨b, o, B, C, rfl, hb, hc, hR⟩ := (HR.out.ext he).at_ hlt
        obtain ⟨b', o', B', C', rfl, hb', hc', hR'⟩ := (HR'.out.ext he).at_ hlt
        have R1 := hid hR
        have R2 := hid hR'
        clear hR hR'
        obtain ⟨q, hq⟩ : ∃ q, Hid (eqB 1 (m k) (m' k) (fun j _ => g k j) (fun j _ => h k j) = q) := ⟨_, hid rfl⟩
        cases q
        · go_wp2_with (go_at_call 104; refine (equal104 R1.out R2.out (HM.out k hlt) (HM'.out k hlt)).mono ?_; rintro e w1 ⟨rfl, he1⟩; rw [hq.out])
          go_ret
          exact ⟨ret_bool (by rw [hG.out, (anyTo_true (p := fun k => !eqB 1 (m k) (m' k) (fun j _ => g k j) (fun j _ => h k j))).2 ⟨k, hlt, by rw [hq.out]; rfl⟩]; rfl), he.trans he1⟩
        · go_wp2_with (go_at_call 104; refine (equal104 R1.out R2.out (HM.out k hlt) (HM'.out k hlt)).mono ?_; rintro e w1 ⟨rfl, he1⟩; rw [hq.out])
          go_roundw
          case rel => exact ⟨k+1, by omega, by go_num, anyTo_step hp.out (by rw [hq.out]; rfl), he.trans he1⟩
          case measure => simp [intOf]; omega
      · go_wp2_with fail
        go_ret
        have : k = n := by omega
        subst this
        exact ⟨ret_bool (by rw [hG.out, anyTo_false.2 hp.out]; rfl), he⟩
  · have hG := hid (show eqRB n n' m m' g h = false by unfold eqRB; rw [decide_eq_false hl]; rfl)
    have hne : ((n : Int) != (n' : Int)) = true := by simp; omega
    clear hr hr' hm hm'
    go_enter Tryz.func28, Tryz.ntmps28
    go_wp2_with fail
    go_ret
    exact ⟨ret_bool hG.out.symm, Ext.refl _⟩
/-- A copy of a list, in a block from B on. -/
def CpS (B c n : Nat) (g : Nat → Nat → Int) : MSpec := fun v _ _ w => ∃ A cap, v = .slice A n cap ∧ n ≤ cap ∧ Rd w A n c g ∧ ∀ b o, A = some ⟨b, o, none⟩ → B ≤ b ∧ b < w.heap.size
theorem CpS.ext {B c n : Nat} {g : Nat → Nat → Int} {v : Value} {lo hi : Nat} {w w' : World} (h : CpS B c n g v lo hi w) (e : Ext w w') : CpS B c n g v lo hi w' := by
  obtain ⟨A, cap, h1, h2, h3, h4⟩ := h
  exact ⟨A, cap, h1, h2, h3.ext e, fun b o hA => ⟨(h4 b o hA).1, Nat.lt_of_lt_of_le (h4 b o hA).2 e.size⟩⟩
theorem CpS.fix {B c n q lo hi : Nat} {A : Option Addr} {g : Nat → Nat → Int} {w : World} (h : CpS B c n g (.slice A n q) lo hi w) : n ≤ q ∧ Rd w A n c g ∧ ∀ b o, A = some ⟨b, o, none⟩ → B ≤ b ∧ b < w.heap.size := by
  obtain ⟨A', q', e, h1, h2, h3⟩ := h
  cases e
  exact ⟨h1, h2, h3⟩
theorem CpS.of {B B' c n lo hi : Nat} {e : TypeId} {g : Nat → Nat → Int} {w : World} {u : Value} (h : OwnR w B' e c u (rowsG c n g)) (hB : B ≤ B') : CpS B c n g u lo hi w := by
  rcases h.2.2 with ⟨rfl, h0⟩ | ⟨k, cap, cur, rfl, hb, hh, hn, -⟩
  · rw [rowsG_length] at h0
    subst h0
    exact ⟨none, 0, rfl, Nat.le_refl _, Rd.nil, fun b o hA => by cases hA⟩
  · have hr := h.rd
    rw [rowsG_length] at hn hr ⊢
    refine ⟨some ⟨k, 0, none⟩, cap, rfl, hn, hr.congr fun i hi j hj => rowsG_at hi hj, fun b o hA => ?_⟩
    cases hA
    exact ⟨by omega, (Blk.lt (w := w) (g := k) hh)⟩
theorem rd_kp {N H : Nat} {w w' : World} {A : Option Addr} {n c : Nat} {g : Nat → Nat → Int} (h : Rd w A n c g) (k : KpM N (fun k => k = H) w w') (hA : ∀ b o, A = some ⟨b, o, none⟩ → b ≠ H ∧ b < N) : Rd w' A n c g := fun hn => by
  obtain ⟨b, o, e, hc⟩ := h hn
  obtain ⟨h1, h2⟩ := hA b o e
  refine ⟨b, o, e, fun i hi j hj => ?_⟩
  rw [← hc i hi j hj]
  simp only [World.cell?, k.2 b h2 h1]
theorem set7 {n H : Nat} (W : World) (a b c d e f g : Value) : KpM n (fun k => k = H) W (((((((W.setCell ⟨H, 0, none⟩ a).setCell ⟨H, 1, none⟩ b).setCell ⟨H, 2, none⟩ c).setCell ⟨H, 3, none⟩ d).setCell ⟨H, 4, none⟩ e).setCell ⟨H, 5, none⟩ f).setCell ⟨H, 6, none⟩ g) :=
  ((((((KpM.setCell (n := n) (M := fun k => k = H) W a (p := ⟨H, 0, none⟩) (.inr rfl)).trans (KpM.setCell (n := n) (M := fun k => k = H) _ b (p := ⟨H, 1, none⟩) (.inr rfl))).trans (KpM.setCell (n := n) (M := fun k => k = H) _ c (p := ⟨H, 2, none⟩) (.inr rfl))).trans (KpM.setCell (n := n) (M := fun k => k = H) _ d (p := ⟨H, 3, none⟩) (.inr rfl))).trans (KpM.setCell (n := n) (M := fun k => k = H) _ e (p := ⟨H, 4, none⟩) (.inr rfl))).trans (KpM.setCell (n := n) (M := fun k => k = H) _ f (p := ⟨H, 5, none⟩) (.inr rfl))).trans (KpM.setCell (n := n) (M := fun k => k = H) _ g (p := ⟨H, 6, none⟩) (.inr rfl))
theorem ext7 {w W : World} (hw : Ext w W) (a b c d e f g : Value) : Ext w (((((((W.setCell ⟨w.heap.size + 1, 0, none⟩ a).setCell ⟨w.heap.size + 1, 1, none⟩ b).setCell ⟨w.heap.size + 1, 2, none⟩ c).setCell ⟨w.heap.size + 1, 3, none⟩ d).setCell ⟨w.heap.size + 1, 4, none⟩ e).setCell ⟨w.heap.size + 1, 5, none⟩ f).setCell ⟨w.heap.size + 1, 6, none⟩ g) :=
  ((((((hw.setCell a (p := ⟨w.heap.size + 1, 0, none⟩) (Nat.le_succ _)).setCell b (p := ⟨w.heap.size + 1, 1, none⟩) (Nat.le_succ _)).setCell c (p := ⟨w.heap.size + 1, 2, none⟩) (Nat.le_succ _)).setCell d (p := ⟨w.heap.size + 1, 3, none⟩) (Nat.le_succ _)).setCell e (p := ⟨w.heap.size + 1, 4, none⟩) (Nat.le_succ _)).setCell f (p := ⟨w.heap.size + 1, 5, none⟩) (Nat.le_succ _)).setCell g (p := ⟨w.heap.size + 1, 6, none⟩) (Nat.le_succ _)
/-- The lists of a ledger lie in these blocks. -/
structure InA (lo hi : Nat) (p : LA) : Prop where
  a1 : ∀ b o, p.A1 = some ⟨b, o, none⟩ → lo ≤ b ∧ b < hi
  a2 : ∀ b o, p.A2 = some ⟨b, o, none⟩ → lo ≤ b ∧ b < hi
  a3 : ∀ b o, p.A3 = some ⟨b, o, none⟩ → lo ≤ b ∧ b < hi
  a4 : ∀ b o, p.A4 = some ⟨b, o, none⟩ → lo ≤ b ∧ b < hi
  a5 : ∀ b o, p.A5 = some ⟨b, o, none⟩ → lo ≤ b ∧ b < hi
theorem own_end {x : LD} {p : LA} {w w6 W : World} (_ : Ext w w6) (k : KpM w6.heap.size (fun k => k = w.heap.size + 1) w6 W) (e : Ext w W)
    (h1 : x.bn ≤ p.c1 ∧ Rd w6 p.A1 x.bn 1 (fun k _ => x.bad k) ∧ ∀ b o, p.A1 = some ⟨b, o, none⟩ → w.heap.size + 2 ≤ b ∧ b < w6.heap.size)
    (h2 : x.fn ≤ p.c2 ∧ Rd w6 p.A2 x.fn 1 (fun k _ => x.fo k) ∧ ∀ b o, p.A2 = some ⟨b, o, none⟩ → w.heap.size + 2 ≤ b ∧ b < w6.heap.size)
    (h3 : x.ln ≤ p.c3 ∧ Rd w6 p.A3 x.ln 3 x.lo ∧ ∀ b o, p.A3 = some ⟨b, o, none⟩ → w.heap.size + 2 ≤ b ∧ b < w6.heap.size)
    (h4 : x.pn ≤ p.c4 ∧ Rd w6 p.A4 x.pn 3 x.pa ∧ ∀ b o, p.A4 = some ⟨b, o, none⟩ → w.heap.size + 2 ≤ b ∧ b < w6.heap.size)
    (h5 : x.mn ≤ p.c5 ∧ Rd w6 p.A5 x.mn 3 x.pr ∧ ∀ b o, p.A5 = some ⟨b, o, none⟩ → w.heap.size + 2 ≤ b ∧ b < w6.heap.size) :
    ∃ p', Ending.returned (ledV x p) = .returned (ledV x p') ∧ Ext w W ∧ IsLA W x p' ∧ x.pn ≤ p'.c4 ∧ InA w.heap.size W.heap.size p' := by
  have hf : ∀ {A : Option Addr}, (∀ b o, A = some ⟨b, o, none⟩ → w.heap.size + 2 ≤ b ∧ b < w6.heap.size) → ∀ b o, A = some ⟨b, o, none⟩ → b ≠ w.heap.size + 1 ∧ b < w6.heap.size := fun h b o hA => ⟨by have := (h b o hA).1; omega, (h b o hA).2⟩
  have hg : ∀ {A : Option Addr}, (∀ b o, A = some ⟨b, o, none⟩ → w.heap.size + 2 ≤ b ∧ b < w6.heap.size) → ∀ b o, A = some ⟨b, o, none⟩ → w.heap.size ≤ b ∧ b < W.heap.size := fun h b o hA => by
    have := h b o hA
    have := k.1
    omega
  exact ⟨p, rfl, e, ⟨rd_kp h1.2.1 k (hf h1.2.2), rd_kp h2.2.1 k (hf h2.2.2), rd_kp h3.2.1 k (hf h3.2.2), rd_kp h4.2.1 k (hf h4.2.2), rd_kp h5.2.1 k (hf h5.2.2)⟩, h4.1, hg h1.2.2, hg h2.2.2, hg h3.2.2, hg h4.2.2, hg h5.2.2⟩
theorem own19 {x : LD} {w : World} {v : Value} (hv : IsL w v x) (h1 : x.bn ≤ 1000) (h2 : x.fn ≤ 1000) (h3 : x.ln ≤ 1000) (h4 : x.pn ≤ 1000) (h5 : x.mn ≤ 1000) :
    Calls Tryz.prog 19 #[v] w fun e w' => ∃ p, e = .returned (ledV x p) ∧ Ext w w' ∧ IsLA w' x p ∧ x.pn ≤ p.c4 ∧ InA w.heap.size w'.heap.size p := by
  obtain ⟨A1, c1, A2, c2, A3, c3, A4, c4, A5, c5, rfl, r1, r2, r3, r4, r5⟩ := hv
  have R1 := hid r1
  have R2 := hid r2
  have R3 := hid r3
  have R4 := hid r4
  have R5 := hid r5
  clear r1 r2 r3 r4 r5
  go_enter Tryz.func19, Tryz.ntmps19
  go_upto_region 1 with fail
  refine wp_later fun w1 hw1 => ?_
  obtain ⟨E0, b1, b2⟩ := hw1.newB2
  have B2 := hid b2
  have k1 := b1.cell
  have k1l := b1.lt
  have hz1 := b2.lt
  clear hw1 b1 b2
  refine wp_region_mono 19 [(6, CpS (w.heap.size + 2) 1 x.bn (fun k _ => x.bad k)), (9, CpS (w.heap.size + 2) 1 x.fn (fun k _ => x.fo k)), (12, CpS (w.heap.size + 2) 3 x.ln x.lo), (15, CpS (w.heap.size + 2) 3 x.pn x.pa), (18, CpS (w.heap.size + 2) 3 x.mn x.pr)] (by kernel_rfl) (by kernel_rfl) (by kernel_rfl) ?hS ?_
  case hS =>
    simp only [List.forall_mem_cons]
    exact ⟨fun _ _ _ _ _ e h => CpS.ext h e, fun _ _ _ _ _ e h => CpS.ext h e, fun _ _ _ _ _ e h => CpS.ext h e, fun _ _ _ _ _ e h => CpS.ext h e, fun _ _ _ _ _ e h => CpS.ext h e, fun _ h => by simp at h⟩
  simp only [List.take_succ_cons, List.take_zero, List.drop_succ_cons, List.drop_zero]
  iterate 6
    refine wpM_plain rfl ?_
    go_big_quiet_step (fail)
    refine wpQuiet_nil ?_
  refine wpM_spec _ rfl rfl (fun w4 hw4 _ => ?_) (fun va la ha ga1 ga2 _ hva => ?_)
  · go_wp2_with (go_at_call 66; refine (dup66 (R1.out.ext (E0.trans hw4)) h1).mono ?_; rintro e w5 ⟨u, rfl, he5, ho⟩)
    exact ⟨_, _, _, rfl, he5, Nat.le_refl _, he5.size, Nat.le_refl _, CpS.of ho (by have := hw4.size; omega)⟩
  simp only [Act.put, List.setIfInBounds_toArray, List.set_cons_succ, List.set_cons_zero]
  obtain ⟨_, D1, q1, rfl, hq1, -, -⟩ := hva
  iterate 2
    refine wpM_plain rfl ?_
    go_big_quiet_step (fail)
    refine wpQuiet_nil ?_
  refine wpM_spec _ rfl rfl (fun w4 hw4 _ => ?_) (fun va la ha ga1 ga2 _ hva => ?_)
  · go_wp2_with (go_at_call 66; refine (dup66 (R2.out.ext (E0.trans hw4)) h2).mono ?_; rintro e w5 ⟨u, rfl, he5, ho⟩)
    exact ⟨_, _, _, rfl, he5, Nat.le_refl _, he5.size, Nat.le_refl _, CpS.of ho (by have := hw4.size; omega)⟩
  simp only [Act.put, List.setIfInBounds_toArray, List.set_cons_succ, List.set_cons_zero]
  obtain ⟨_, D2, q2, rfl, hq2, -, -⟩ := hva
  iterate 2
    refine wpM_plain rfl ?_
    go_big_quiet_step (fail)
    refine wpQuiet_nil ?_
  refine wpM_spec _ rfl rfl (fun w4 hw4 _ => ?_) (fun va la ha ga1 ga2 _ hva => ?_)
  · go_wp2_with (go_at_call 92; refine (dup92 (R3.out.ext (E0.trans hw4)) h3).mono ?_; rintro e w5 ⟨u, rfl, he5, ho⟩)
    exact ⟨_, _, _, rfl, he5, Nat.le_refl _, he5.size, Nat.le_refl _, CpS.of ho (by have := hw4.size; omega)⟩
  simp only [Act.put, List.setIfInBounds_toArray, List.set_cons_succ, List.set_cons_zero]
  obtain ⟨_, D3, q3, rfl, hq3, -, -⟩ := hva
  iterate 2
    refine wpM_plain rfl ?_
    go_big_quiet_step (fail)
    refine wpQuiet_nil ?_
  refine wpM_spec _ rfl rfl (fun w4 hw4 _ => ?_) (fun va la ha ga1 ga2 _ hva => ?_)
  · go_wp2_with (go_at_call 93; refine (dup93 (R4.out.ext (E0.trans hw4)) h4).mono ?_; rintro e w5 ⟨u, rfl, he5, ho⟩)
    exact ⟨_, _, _, rfl, he5, Nat.le_refl _, he5.size, Nat.le_refl _, CpS.of ho (by have := hw4.size; omega)⟩
  simp only [Act.put, List.setIfInBounds_toArray, List.set_cons_succ, List.set_cons_zero]
  obtain ⟨_, D4, q4, rfl, hq4, -, -⟩ := hva
  iterate 2
    refine wpM_plain rfl ?_
    go_big_quiet_step (fail)
    refine wpQuiet_nil ?_
  refine wpM_spec _ rfl rfl (fun w4 hw4 _ => ?_) (fun va la ha ga1 ga2 _ hva => ?_)
  · go_wp2_with (go_at_call 50; refine (dup50 (R5.out.ext (E0.trans hw4)) h5).mono ?_; rintro e w5 ⟨u, rfl, he5, ho⟩)
    exact ⟨_, _, _, rfl, he5, Nat.le_refl _, he5.size, Nat.le_refl _, CpS.of ho (by have := hw4.size; omega)⟩
  simp only [Act.put, List.setIfInBounds_toArray, List.set_cons_succ, List.set_cons_zero]
  obtain ⟨_, D5, q5, rfl, hq5, -, -⟩ := hva
  refine wpM_nil fun w6 hw6 hF => ?_
  simp only [List.forall_mem_cons] at hF
  obtain ⟨f5, f4, f3, f2, f1, -⟩ := hF
  have F1 := hid f1.2.fix
  have F2 := hid f2.2.fix
  have F3 := hid f3.2.fix
  have F4 := hid f4.2.fix
  have F5 := hid f5.2.fix
  have k8 := (B2.out.ext hw6).cell
  have l8 := (B2.out.ext hw6).lt
  have g8 := (B2.out.ext hw6).frozen
  have HW := hid (E0.trans hw6)
  clear f1 f2 f3 f4 f5 k1 k1l hw6
  go_wp2_with fail
  refine bodyPost_ret (v := .agg #[.int .i64 x.folk, .int .i64 x.years, .slice D1 x.bn q1, .slice D2 x.fn q2, .slice D3 x.ln q3, .slice D4 x.pn q4, .slice D5 x.mn q5]) (by simp [results, Tryz.results19, go_sem, k8]) rfl ?_
  exact own_end (p := ⟨D1, q1, D2, q2, D3, q3, D4, q4, D5, q5⟩) HW.out (set7 w6 _ _ _ _ _ _ _) (ext7 HW.out _ _ _ _ _ _ _) F1.out F2.out F3.out F4.out F5.out
theorem eqB_same (c n : Nat) (g : Nat → Nat → Int) : eqB c n n g g = true := by
  unfold eqB
  rw [decide_eq_true rfl, anyTo_false.2 fun k _ => ?_]
  · rfl
  · unfold neB
    exact anyTo_false.2 fun j _ => by simp
/-- Two values of one ledger are the same. -/
theorem same29 {x : LD} {w : World} {v v' : Value} (hv : IsL w v x) (hv' : IsL w v' x) (h1 : x.bn ≤ 1000) (h2 : x.fn ≤ 1000) (h3 : x.ln ≤ 1000) (h4 : x.pn ≤ 1000) (h5 : x.mn ≤ 1000) :
    Calls Tryz.prog 29 #[v, v'] w fun e w' => e = .returned (.bool true) ∧ Ext w w' := by
  obtain ⟨A1, c1, A2, c2, A3, c3, A4, c4, A5, c5, rfl, r1, r2, r3, r4, r5⟩ := hv
  obtain ⟨D1, d1, D2, d2, D3, d3, D4, d4, D5, d5, rfl, s1, s2, s3, s4, s5⟩ := hv'
  have R1 := hid r1
  have R2 := hid r2
  have R3 := hid r3
  have R4 := hid r4
  have R5 := hid r5
  have S1 := hid s1
  have S2 := hid s2
  have S3 := hid s3
  have S4 := hid s4
  have S5 := hid s5
  clear r1 r2 r3 r4 r5 s1 s2 s3 s4 s5
  go_enter Tryz.func29, Tryz.ntmps29
  go_upto_region 1 with fail
  refine wp_later fun w1 hw1 => ?_
  obtain ⟨e0, b1, b2⟩ := hw1.newB2
  have E0 := hid e0
  have B1 := hid b1
  have B2 := hid b2
  have k1 := b1.cell
  have k1l := b1.lt
  have k2 := b2.cell
  have k2l := b2.lt
  have E := hid (Ext.refl w1)
  clear hw1 b1 b2 e0
  go_wp2_with (first | (go_at_call 34; (fail_if_success (have := M1)); refine (eq34 (R1.out.ext (E0.out.trans E.out)) (S1.out.ext (E0.out.trans E.out)) h1 h1).mono ?_; rintro e wx ⟨rfl, hex⟩; rw [eqB_same]; have M1 := hid hex; have E := hid (E.out.trans hex); have k1 := (B1.out.ext E.out).cell; have k1l := (B1.out.ext E.out).lt; have k2 := (B2.out.ext E.out).cell; have k2l := (B2.out.ext E.out).lt; clear hex) | (go_at_call 34; refine (eq34 (R2.out.ext (E0.out.trans E.out)) (S2.out.ext (E0.out.trans E.out)) h2 h2).mono ?_; rintro e wx ⟨rfl, hex⟩; rw [eqB_same]; have M2 := hid hex; have E := hid (E.out.trans hex); have k1 := (B1.out.ext E.out).cell; have k1l := (B1.out.ext E.out).lt; have k2 := (B2.out.ext E.out).cell; have k2l := (B2.out.ext E.out).lt; clear hex) | (go_at_call 105; refine (eq105 (R3.out.ext (E0.out.trans E.out)) (S3.out.ext (E0.out.trans E.out)) h3 h3).mono ?_; rintro e wx ⟨rfl, hex⟩; rw [eqB_same]; have M3 := hid hex; have E := hid (E.out.trans hex); have k1 := (B1.out.ext E.out).cell; have k1l := (B1.out.ext E.out).lt; have k2 := (B2.out.ext E.out).cell; have k2l := (B2.out.ext E.out).lt; clear hex) | (go_at_call 106; refine (eq106 (R4.out.ext (E0.out.trans E.out)) (S4.out.ext (E0.out.trans E.out)) h4 h4).mono ?_; rintro e wx ⟨rfl, hex⟩; rw [eqB_same]; have M4 := hid hex; have E := hid (E.out.trans hex); have k1 := (B1.out.ext E.out).cell; have k1l := (B1.out.ext E.out).lt; have k2 := (B2.out.ext E.out).cell; have k2l := (B2.out.ext E.out).lt; clear hex) | (go_at_call 63; refine (eq63 (R5.out.ext (E0.out.trans E.out)) (S5.out.ext (E0.out.trans E.out)) h5 h5).mono ?_; rintro e wx ⟨rfl, hex⟩; rw [eqB_same]; have M5 := hid hex; have E := hid (E.out.trans hex); have k1 := (B1.out.ext E.out).cell; have k1l := (B1.out.ext E.out).lt; have k2 := (B2.out.ext E.out).cell; have k2l := (B2.out.ext E.out).lt; clear hex))
  go_ret
  exact ⟨rfl, E0.out.trans E.out⟩
theorem el33 : ElemOk Tryz.prog 33 146 3 24 := ⟨Tryz.underlying33, by
 obtain ⟨i, hi, h1, h2, h3⟩ := info_parts (show (Tryz.prog.info? 146).map (fun i => (i.zero, i.size, i.bytes)) = some (some (.agg #[.int .i64 0, .int .i64 0, .int .i64 0]), 3, 24) by kernel_rfl)
 exact ⟨i, _, hi, h1, h2, h3, rfl⟩, by omega, by omega⟩
theorem rowsG3_succ (k : Nat) (g : Nat → Nat → Int) : rowsG 3 (k+1) g = rowsG 3 k g ++ [[g k 0, g k 1, g k 2]] := by unfold rowsG; rw [List.range_succ (n := k), List.map_append]; rfl
/-- The reference's copies of the payments between farmers. -/
theorem kept53 {w : World} {A : Option Addr} {n cap : Nat} {g : Nat → Nat → Int} (hr : Rd w A n 3 g) (hn : n ≤ 1000) :
    Calls Tryz.prog 53 #[.slice A n cap] w fun e w' => ∃ u, e = .returned u ∧ Ext w w' ∧ OwnR w' w.heap.size 146 3 u (rowsG 3 n g) := by
  have HR := hid hr
  clear hr
  go_enter Tryz.func53, Tryz.ntmps53
  go_upto_region 3 with fail
  go_loopw [3, 8] (fun a i wr => ∃ k : Nat, k ≤ n ∧ i = .int .i64 (k : Int) ∧ Hid (OwnR wr w.heap.size 146 3 a (rowsG 3 k g)) ∧ Ext w wr) (fun _ i _ => n - (intOf i).toNat)
  case atStart => exact ⟨0, Nat.zero_le _, rfl, hid OwnR.nil, Ext.refl _⟩
  case round =>
    obtain ⟨k, hk, rfl, hO, he⟩ := hrel
    by_cases hlt : k < n
    · obtain ⟨b, o, rfl, hb, q0, q1, q2⟩ := (HR.out.ext he).at3 hlt
      have hsz := he.size
      have hO4 := hid (hO.out.ext ((Ext.refl wr).alloc (.cells #[.int .i64 (g k 0), .int .i64 (g k 1), .int .i64 (g k 2)] 64)))
      go_upto_region 5 with fail
      refine wp_later fun w4 hw4 => ?_
      obtain ⟨E4, b4⟩ := hw4.newB
      have k4 := b4.cell
      have k4l := b4.lt
      have hs4 := E4.size
      have HO4 := hid (hO.out.ext E4)
      have E04 := hid (he.trans E4)
      clear hw4 b4 q0 q1 q2 hb
      go_wp2_with (at_builtin; refine wpList_append_rows rfl _ _ 33 rfl el33 rfl (HO4.out.ext (Ext.alloc (Ext.refl _) _)) _ 1 1 [[g k 0, g k 1, g k 2]] rfl rfl (by simp) (by intro j; simp [cellsOf]) (by rw [rowsG_length]; simp; omega) (by simp; omega) ?_; intro v' w8 hown8 hg8)
      go_roundw
      case rel => exact ⟨k + 1, by omega, by go_num, by rw [rowsG3_succ]; exact hid hown8, (E04.out.alloc _).grown hg8 fun q hq => HO4.out.block hq⟩
      case measure => simp [intOf]; omega
    · go_wp2_with fail
      go_ret
      have : k = n := by omega
      subst this
      exact ⟨_, rfl, he, hO.out⟩
end Go.Proofs.YtbceepjjdfpfmaaGreat
