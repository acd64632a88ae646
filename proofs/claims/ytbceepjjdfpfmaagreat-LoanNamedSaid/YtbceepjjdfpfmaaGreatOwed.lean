/- The debts of a ledger, as the program tells. -/
import Derived.Test.YtbceepjjdfpfmaaGreatOwes
import Derived.Test.YtbceepjjdfpfmaaGreatMat
namespace Go.Proofs.YtbceepjjdfpfmaaGreat
open Go.RowKit HandSpec LoanSpec
set_option maxHeartbeats 4000000
set_option maxRecDepth 100000
theorem owed_err {x : LD} {p : LA} {w : World} (hl : IsLA w x p) (hm : Sm x) {s : Int} (hs : x.chk = s) (h0 : (s == 0) = false) :
    Calls Tryz.prog 27 #[ledV x p] w fun e w' => e = .returned (.tuple #[.slice none 0 0, .int .i64 s]) ∧ Ext w w' := by
  have HL := hid hl
  have HS := hid hs
  unfold ledV
  have E0 : Ext w (w.alloc (.cells (ledC x p) 27)) := (Ext.refl _).alloc _
  unfold ledC at E0
  have h0n : (s != 0) = true := by simp [bne, h0]
  have hc : ∀ W, Ext w W → Calls Tryz.prog 37 #[.agg #[.int .i64 x.folk, .int .i64 x.years, .slice p.A1 x.bn p.c1, .slice p.A2 x.fn p.c2, .slice p.A3 x.ln p.c3, .slice p.A4 x.pn p.c4, .slice p.A5 x.mn p.c5]] W fun e w' => e = .returned (.int .i64 s) ∧ Ext W w' := fun W e => by
    rw [← HS.out]; exact check37 (HL.out.ext e).isL hm.b hm.f hm.l hm.p hm.m
  have HC := hid hc
  clear hl hs hc
  go_enter Tryz.func27, Tryz.ntmps27
  go_wp2_with (go_at_call 37; refine (HC.out _ E0).mono ?_; rintro e w2 ⟨rfl, he2⟩)
  go_ret2
  exact ⟨rfl, E0.trans he2⟩
theorem owed_ok {x : LD} {p : LA} {w : World} (hl : IsLA w x p) (hm : Sm x) (hs : x.chk = 0) :
    Calls Tryz.prog 27 #[ledV x p] w fun e w' => ∃ u, e = .returned (.tuple #[u, .int .i64 0]) ∧ Ext w w' ∧ MtV w' w.heap.size u x.folk.toNat (P.owed x) := by
  have HL := hid hl
  have HS := hid hs
  have hx := Ok.of_chk hs
  obtain ⟨A1, c1, A2, c2, A3, c3, A4, c4, A5, c5⟩ := p
  unfold ledV
  have E0 : Ext w (w.alloc (.cells (ledC x ⟨A1, c1, A2, c2, A3, c3, A4, c4, A5, c5⟩) 27)) := (Ext.refl _).alloc _
  have B0 := hid (Blk.new w 27 (ledC x ⟨A1, c1, A2, c2, A3, c3, A4, c4, A5, c5⟩))
  unfold ledC at E0 B0
  have hfo := hx.folk
  have hyr := hx.years
  have hmn := hx.mn
  obtain ⟨n, hn⟩ : ∃ n, Hid (n = x.folk.toNat) := ⟨_, hid rfl⟩
  have hnf : Hid (x.folk = (n : Int)) := hid (by have := hn.out; omega)
  have hn1 : 1 ≤ n ∧ n ≤ 7 := by have := hn.out; omega
  have hmk : ∀ w, (Instr.makeSlice 48 (.int .i64 x.folk) (.int .i64 x.folk)).run Tryz.prog w = .ok (.slice (some ⟨w.heap.size, 0, none⟩) n n) (w.alloc (.cells (Array.replicate n (.slice none 0 0)) 22)) := fun w => by rw [hnf.out]; exact make48_run w n (by omega)
  have hmk2 : ∀ w, (Instr.makeSlice 22 (.int .i64 x.folk) (.int .i64 x.folk)).run Tryz.prog w = .ok (.slice (some ⟨w.heap.size, 0, none⟩) n n) (w.alloc (.cells (Array.replicate n (.int .i64 0)) 3)) := fun w => by rw [hnf.out]; exact make22_run w n (by omega)
  have hc : ∀ W, Ext w W → Calls Tryz.prog 37 #[.agg #[.int .i64 x.folk, .int .i64 x.years, .slice A1 x.bn c1, .slice A2 x.fn c2, .slice A3 x.ln c3, .slice A4 x.pn c4, .slice A5 x.mn c5]] W fun e w' => e = .returned (.int .i64 0) ∧ Ext W w' := fun W e => by
    rw [← HS.out]; exact check37 (HL.out.ext e).isL hm.b hm.f hm.l hm.p hm.m
  have HC := hid hc
  rw [← hn.out]
  clear hl hs hc
  go_enter Tryz.func27, Tryz.ntmps27
  go_upto_region 4 with (go_at_call 37; refine (HC.out _ E0).mono ?_; rintro e w2 ⟨rfl, he2⟩; have HE := hid he2; have k0 := (B0.out.ext he2).cell; have k0l := (B0.out.ext he2).lt; clear he2)
  have B2 := hid (B0.out.ext HE.out)
  have E2 := hid (E0.trans HE.out)
  go_upto_region 5 with fail
  have hM0 := Mt.new w2 n 22 (fun _ => 0) (fun _ => 0) (P.owedTo x 0)
  have e3 : Ext w2 (w2.alloc (.cells (Array.replicate n (.slice none 0 0)) 22)) := (Ext.refl _).alloc _
  obtain ⟨w3, hw3⟩ : ∃ w3, w3 = w2.alloc (.cells (Array.replicate n (.slice none 0 0)) 22) := ⟨_, rfl⟩
  rw [← hw3] at hM0 e3 ⊢
  clear hw3 k0 k0l hmk
  obtain ⟨g, hg⟩ : ∃ g, Hid (g = w2.heap.size) := ⟨_, hid rfl⟩
  rw [← hg.out] at hM0 ⊢
  have hg2 : w2.heap.size ≤ g := by have := hg.out; omega
  go_upto_region 6 with fail
  go_loopw [19] (fun i wr => ∃ (k : Nat) (r c : Nat → Nat), i = .int .i64 (k : Int) ∧ Mt wr g g n k r c (P.owedTo x 0) ∧ Ext w2 wr) (fun i _ => n - (intOf i).toNat)
  case atStart => exact ⟨0, _, _, rfl, hM0, e3⟩
  case round =>
    obtain ⟨k, r, c, rfl, hM, he⟩ := hrel
    have k0 := (B2.out.ext he).cell
    have k0l := (B2.out.ext he).lt
    by_cases hlt : k < n
    · have hki : (k : Int) < (n : Int) := by omega
      have HM := hid hM
      have kg := hM.a.cell hlt
      have kgf := hM.a.frozen hlt
      have kgl := hM.lt
      clear hM
      go_upto_region 9 with fail
      have hM1 := (HM.out.ext ((Ext.refl _).alloc (.cells (Array.replicate n (.int .i64 0)) 3))).addRow hlt (arr_new wr n 0 3) (Nat.le_of_lt kgl) (by omega) (fun i hi => by have := (HM.out.row i hi).1; omega) (Nat.le_refl n)
      have e4 : Ext w2 ((wr.alloc (.cells (Array.replicate n (.int .i64 0)) 3)).setCell ⟨g, k, none⟩ (.slice (some ⟨wr.heap.size, 0, none⟩) n n)) := (he.alloc _).setCell _ hg2
      have hsw : (wr.alloc (.cells (Array.replicate n (.int .i64 0)) 3)).setCell ⟨g, k, none⟩ (.slice (some ⟨wr.heap.size, 0, none⟩) n n) = (wr.setCell ⟨g, k, none⟩ (.slice (some ⟨wr.heap.size, 0, none⟩) n n)).alloc (.cells (Array.replicate n (.int .i64 0)) 3) := World.setCell_alloc_past _ _ _ _ kgl
      rw [hsw] at hM1 e4
      obtain ⟨w4, hw4⟩ : ∃ w4, w4 = (wr.setCell ⟨g, k, none⟩ (.slice (some ⟨wr.heap.size, 0, none⟩) n n)).alloc (.cells (Array.replicate n (.int .i64 0)) 3) := ⟨_, rfl⟩
      rw [← hw4] at hM1 e4 ⊢
      clear hw4 k0 k0l kg kgf kgl hsw
      obtain ⟨q, hq⟩ : ∃ q, Hid (q = wr.heap.size) := ⟨_, hid rfl⟩
      rw [← hq.out] at hM1 ⊢
      have hM4 := hid (show Mt w4 g g n (k+1) (updR r k q) (updR c k n) (updR (P.owedTo x 0) k fun _ => 0) from hM1)
      have hqr : updR r k q k = q := updR_same _ _ _
      have k0 := (B2.out.ext e4).cell
      have k0l := (B2.out.ext e4).lt
      clear hM1
      have hrest : ∀ a, a < k + 1 → ∀ b, b < n → (a = k → b ≠ 0 ∨ k = 0) → updR (P.owedTo x 0) k (fun _ => 0) a b = P.owedTo x 0 a b := by
        intro a ha b hb h
        by_cases e : a = k
        · subst e
          rw [updR_same]
          unfold P.owedTo
          rw [if_neg]
          rintro ⟨h1, h2⟩
          rcases h rfl with h3 | h3
          · exact h3 h2
          · omega
        · rw [updR_other _ _ e]
      have HR := hid hrest
      clear hrest
      have HLr := hid ((HL.out.ext (E2.out.trans e4)).isL)
      by_cases hk0 : k = 0
      · have HB := hid (show inB (k : Int) 1 (x.folk - 1) = false from decide_eq_false (by omega))
        have HK0 := hid hk0
        clear hk0
        go_wp2_with (go_at_call 103; refine (farmer103 HLr.out (by omega) _).mono ?_; rintro e w5 ⟨rfl, he5⟩; rw [HB.out])
        go_roundw
        case rel => exact ⟨k + 1, _, _, by go_num, (hM4.out.ext he5).congr fun a ha b hb => HR.out a ha b hb fun _ => .inr HK0.out, e4.trans he5⟩
        case measure => simp [intOf]; omega
      · have HB := hid (show inB (k : Int) 1 (x.folk - 1) = true from decide_eq_true (by have := hnf.out; omega))
        have hE := hid (show P.errW x (k : Int) (x.years - 1) = 0 by unfold P.errW; rw [if_pos HS.out, if_pos]; simp [inB]; have := hnf.out; omega)
        go_upto_region 10 with (go_at_call 103; refine (farmer103 HLr.out (by omega) _).mono ?_; rintro e w5 ⟨rfl, he5⟩; rw [HB.out]; have hM5 := hid (hM4.out.ext he5); have k0 := (B2.out.ext (e4.trans he5)).cell; have k0l := (B2.out.ext (e4.trans he5)).lt; have e5 := e4.trans he5)
        have kg := hM5.out.atRow (Nat.lt_succ_self k)
        rw [hqr, updR_same] at kg
        have kgl := hM5.out.lt
        have hq5 := hM5.out.row k (Nat.lt_succ_self k)
        rw [hqr, updR_same] at hq5
        have hn0 : 0 < n := by omega
        obtain ⟨o, ho⟩ : ∃ o, Hid (o = P.owes x (k : Int) (x.years - 1)) := ⟨_, hid rfl⟩
        have HO : ∀ W', Ext w W' → Calls Tryz.prog 25 #[.agg #[.int .i64 x.folk, .int .i64 x.years, .slice A1 x.bn c1, .slice A2 x.fn c2, .slice A3 x.ln c3, .slice A4 x.pn c4, .slice A5 x.mn c5], .int .i64 (k : Int), .int .i64 (x.years - 1)] W' fun e w' => e = .returned (.tuple #[.int .i64 o, .int .i64 0]) ∧ Ext W' w' := fun W' e => by
          rw [ho.out]; exact owes_ok (HL.out.ext e) hm hE.out
        have HO := hid HO
        have hqs : q ≤ w5.heap.size := by have := hM5.out.row k (Nat.lt_succ_self k); rw [hqr] at this; exact Nat.le_of_lt this.1
        have hgq : g < q := by have := hq.out; have := HM.out.lt; omega
        have hrq : ∀ i, i < k → updR r k q i < q := fun i hi => by rw [updR_other _ _ (by omega)]; have := (HM.out.row i hi).1; have := hq.out; omega
        have hwq : w.heap.size < q := by have := hq.out; have := he.size; have := HE.out.size; simp only [World.size_alloc] at this; omega
        have hF : ∀ W, Ext (cutW w5 q) W → W.cell? ⟨g, k, none⟩ = some (.slice (some ⟨q, 0, none⟩) n n) ∧ (∀ i, W.cell? ⟨w.heap.size, i, none⟩ = #[.int .i64 x.folk, .int .i64 x.years, .slice A1 x.bn c1, .slice A2 x.fn c2, .slice A3 x.ln c3, .slice A4 x.pn c4, .slice A5 x.mn c5][i]?) ∧ w.heap.size < W.heap.size ∧ g < W.heap.size := fun W e => by
          have hsz := e.size
          rw [cutW_size hqs] at hsz
          exact ⟨(cut_cell e hqs hgq).trans kg, fun i => (cut_cell e hqs hwq).trans (k0 i), by omega, by omega⟩
        have hF := hid hF
        clear k0 k0l kg kgl
        refine wp_region_allE (fun W => Ext (cutW w5 q) W ∧ ∃ z, Arr W q n (upd (fun _ => 0) 0 z)) (fun W W' => Arr W q n (upd (fun _ => 0) 0 o) → Arr W' q n (upd (fun _ => 0) 0 o)) (by kernel_rfl) (by kernel_rfl) (fun _ h => h) ⟨(cutW_ext hqs).drew, 0, (hq5.congr fun i _ => by unfold upd; split <;> rfl).ext (Ext.refl _).drew⟩ ?_
        refine wpE_val (.slice (some ⟨g, 0, none⟩) n n) rfl (fun _ h => h) (fun W hW => by simp [execOp, go_sem]) ?_
        refine wpE_val (.int .i64 (k : Int)) rfl (fun _ h => h) (fun W hW => by simp [execOp, go_sem]) ?_
        refine wpE_val (.pointer (some ⟨g, k, none⟩)) rfl (fun _ h => h) (fun W hW => by simp [execOp, go_sem, hki]) ?_
        refine wpE_val (.slice (some ⟨q, 0, none⟩) n n) rfl (fun _ h => h) (fun W hW => by obtain ⟨f1, f2, f3, f4⟩ := hF.out W hW.1; simp [execOp, go_sem, f1]) ?_
        refine wpE_val (.agg #[.int .i64 x.folk, .int .i64 x.years, .slice A1 x.bn c1, .slice A2 x.fn c2, .slice A3 x.ln c3, .slice A4 x.pn c4, .slice A5 x.mn c5]) rfl (fun _ h => h) (fun W hW => by obtain ⟨f1, f2, f3, f4⟩ := hF.out W hW.1; simp [execOp, go_sem, f2]) ?_
        refine wpE_val (.int .i64 (k : Int)) rfl (fun _ h => h) (fun W hW => by simp [execOp, go_sem]) ?_
        refine wpE_val (.pointer (some ⟨w.heap.size, 1, none⟩)) rfl (fun _ h => h) (fun W hW => by simp [execOp, go_sem]) ?_
        refine wpE_val (.int .i64 x.years) rfl (fun _ h => h) (fun W hW => by obtain ⟨f1, f2, f3, f4⟩ := hF.out W hW.1; simp [execOp, go_sem, f2]) ?_
        refine wpE_val (.int .i64 (x.years - 1)) rfl (fun _ h => h) (fun W hW => by simp [execOp, go_sem, IntWalk.i64_in (x.years - 1) (by omega)]) ?_
        refine wpE_call (.tuple #[.int .i64 o, .int .i64 0]) 25 #[.agg #[.int .i64 x.folk, .int .i64 x.years, .slice A1 x.bn c1, .slice A2 x.fn c2, .slice A3 x.ln c3, .slice A4 x.pn c4, .slice A5 x.mn c5], .int .i64 (k : Int), .int .i64 (x.years - 1)] rfl (fun W hW => by simp [go_sem]) (fun W hW => (HO.out W (((E2.out.trans e5).cut_ (Nat.le_of_lt hwq) hqs).trans hW.1)).mono fun e w' ⟨h1, h2⟩ => ⟨h1, ⟨hW.1.trans h2, by obtain ⟨z, hz⟩ := hW.2; exact ⟨z, hz.ext h2⟩⟩, fun h => h.ext h2⟩) ?_
        refine wpE_val (.tuple #[.int .i64 o, .int .i64 0]) rfl (fun _ h => h) (fun W hW => by simp [execOp, go_sem]) ?_
        refine wpE_val (.int .i64 o) rfl (fun _ h => h) (fun W hW => by simp [execOp, go_sem]) ?_
        refine wpE_val (.int .i64 0) rfl (fun _ h => h) (fun W hW => by simp [execOp, go_sem]) ?_
        refine wpE_val (.pointer (some ⟨q, 0, none⟩)) rfl (fun _ h => h) (fun W hW => by simp [execOp, go_sem, hn0]) ?_
        refine wpE_store (fun W => Arr W q n (upd (fun _ => 0) 0 o)) rfl (fun W W' hT h => hT h) (fun W hW => ?_) ?_
        · obtain ⟨z, hz⟩ := hW.2
          have c6 := hz.cell (show 0 < n by omega)
          have f6 := hz.frozen (show 0 < n by omega)
          have l6 := hz.1
          have hA : Arr (W.setCell ⟨q, 0, none⟩ (.int .i64 o)) q n (upd (fun _ => 0) 0 o) := (hz.set_ 0 o (by omega)).congr fun i _ => by unfold upd; split <;> rfl
          refine ⟨W.setCell ⟨q, 0, none⟩ (.int .i64 o), by simp [execOp, go_sem, c6, f6], ⟨hW.1.setCell _ (by rw [cutW_size hqs]; exact Nat.le_refl _), o, hA⟩, fun _ => hA, hA⟩
        intro w6 hC6 hE6
        have hq6 : Arr w6 q n (upd (fun _ => 0) 0 o) := hE6.2
        have e6 : Ext w2 w6 := (e5.cut_ (by have := hq.out; have := he.size; omega) hqs).trans hC6.1
        have hM7 := hM5.out.last (fun b hb => cut_block hC6.1 hqs hb) hgq hrq (by rw [hqr]; exact hq6)
        simp only [Act.put, List.setIfInBounds_toArray, List.set_cons_succ, List.set_cons_zero]
        clear hE6 hC6
        go_wp2_with fail
        have HM7 := hid hM7
        clear hM7
        go_roundw
        case rel =>
          refine ⟨k + 1, _, _, by go_num, HM7.out.congr fun a ha b hb => ?_, e6⟩
          by_cases e : a = k
          · subst e
            rw [updR_same]
            by_cases e2 : b = 0
            · subst e2
              rw [upd_same]
              unfold P.owedTo
              rw [if_pos ⟨by omega, rfl⟩, ho.out]
            · rw [upd_other _ _ e2, ← HR.out a ha b hb fun _ => .inl e2, updR_same]
          · rw [updR_other _ _ e]
            exact HR.out a ha b hb fun h => absurd h e
        case measure => simp [intOf]; omega
    · obtain rfl : k = n := by have := hM.hk; omega
      have HM := hid hM
      have HEr := hid he
      clear hM
      obtain ⟨A5', hA5⟩ : ∃ A, A = A5 := ⟨_, rfl⟩
      go_upto_region 13 with fail
      clear k0 k0l
      go_loopw [49] (fun i ws => ∃ j : Nat, j ≤ x.mn ∧ i = .int .i64 (j : Int) ∧ Hid (Mt ws g g k k r c (P.owedTo x j)) ∧ Ext w2 ws) (fun i _ => x.mn - (intOf i).toNat)
      case atStart => exact ⟨0, by omega, rfl, HM, HEr.out⟩
      case round =>
        obtain ⟨j, hj, rfl, hM, he⟩ := hrel
        by_cases hjm : j < x.mn
        · obtain ⟨ga, oa, hA, hga, q0, q1, q2⟩ := (HL.out.r5.ext (E2.out.trans he)).at3 hjm
          dsimp only at hA
          subst hA
          clear hA5
          have hji : (j : Int) < (x.mn : Int) := by omega
          have hfr := hx.mfrom j hjm
          have hto := hx.mto j hjm
          have hsk := hx.msack j hjm
          obtain ⟨f, hf⟩ : ∃ f : Nat, Hid (x.pr j 0 = (f : Int)) := ⟨(x.pr j 0).toNat, hid (by omega)⟩
          obtain ⟨t, ht⟩ : ∃ f : Nat, Hid (x.pr j 1 = (f : Int)) := ⟨(x.pr j 1).toNat, hid (by omega)⟩
          obtain ⟨s, hs⟩ : ∃ f : Int, Hid (x.pr j 2 = f) := ⟨_, hid rfl⟩
          rw [hf.out] at q0 hfr
          rw [ht.out] at q1 hto
          rw [hs.out] at q2 hsk
          have hfn : f < k := by have := hnf.out; omega
          have htn : t < k := by have := hnf.out; omega
          have hfi : (f : Int) < (k : Int) := by omega
          have hti : (t : Int) < (k : Int) := by omega
          have hbd := P.owedTo_bd hx j (by omega) f t
          obtain ⟨z, hz⟩ : ∃ z, Hid (z = P.owedTo x j f t) := ⟨_, hid rfl⟩
          rw [← hz.out] at hbd
          have hzb : 0 ≤ z ∧ z ≤ 60000 := by omega
          clear hbd
          have kg := hM.out.atRow hfn
          have kgl := hM.out.lt
          have hrow := hM.out.row f hfn
          have kr := hrow.cell htn
          have krl := hrow.1
          rw [← hz.out] at kr
          clear hrow
          go_upto_region 15 with fail
          refine wp_later fun w5 hw5 => ?_
          obtain ⟨E5, b8⟩ := hw5.newB
          have k8 := b8.cell
          have k8l := b8.lt
          have kg := E5.some_ kg
          have kgl := Nat.lt_of_lt_of_le kgl E5.size
          have kr := E5.some_ kr
          have krl := Nat.lt_of_lt_of_le krl E5.size
          clear hw5 q0 q1 q2 b8
          refine wp_region_tail 13 (by kernel_rfl) (by kernel_rfl) ?_
          simp only [List.take_succ_cons, List.take_zero, List.drop_succ_cons, List.drop_zero]
          repeat (go_big_quiet_step (fail))
          refine wpQuiet_nil ?_
          rintro w6 ⟨⟨_, he6⟩, rfl⟩
          have hM6 := hid (hM.out.ext (E5.trans he6))
          have hrow := hM6.out.row f hfn
          have kr := hrow.cell htn
          have krl := hrow.1
          have krf := hrow.frozen htn
          rw [← hz.out] at kr
          clear hrow
          go_wp2_with fail
          have hrl := hM6.out.lo f hfn
          have HM7 := hid (hM6.out.put hfn htn (z + s))
          go_roundw
          case rel =>
            refine ⟨j + 1, by omega, by go_num, hid (HM7.out.congr fun a ha b hb => ?_), (he.trans (E5.trans he6)).setCell _ (by show w2.heap.size ≤ r f; omega)⟩
            show upd2 _ f t (z + s) a b = P.owedTo x j a b + if x.pr j 0 = (a : Int) ∧ x.pr j 1 = (b : Int) then x.pr j 2 else 0
            unfold upd2
            by_cases e : a = f
            · subst e
              rw [updR_same]
              by_cases e2 : b = t
              · subst e2
                rw [upd_same, if_pos ⟨hf.out, ht.out⟩, hs.out, hz.out]
              · rw [upd_other _ _ e2, if_neg (by rw [ht.out]; omega)]; omega
            · rw [updR_other _ _ e, if_neg (by rw [hf.out]; omega)]; omega
          case measure => simp [intOf]; omega
        · obtain rfl : j = x.mn := by omega
          go_wp2_with fail
          go_ret2
          exact ⟨_, rfl, E2.out.trans he, g, r, c, _, rfl, hM.out.base (by have := E2.out.size; omega)⟩
end Go.Proofs.YtbceepjjdfpfmaaGreat
