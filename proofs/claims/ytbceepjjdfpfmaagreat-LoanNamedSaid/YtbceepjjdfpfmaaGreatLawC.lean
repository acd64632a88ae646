/- Walk of the law's theirs (20): the reference's ledger. No condition. -/
import Derived.Test.YtbceepjjdfpfmaaGreatLawA
import Derived.Test.YtbceepjjdfpfmaaGreatBook
namespace Go.Proofs.YtbceepjjdfpfmaaGreat
open Go.RowKit HandSpec LoanSpec
set_option maxHeartbeats 2000000
set_option maxRecDepth 100000
theorem el31 : ElemOk Tryz.prog 31 143 3 24 := ⟨Tryz.underlying31, by
 obtain ⟨i, hi, h1, h2, h3⟩ := info_parts (show (Tryz.prog.info? 143).map (fun i => (i.zero, i.size, i.bytes)) = some (some (.agg #[.int .i64 0, .int .i64 0, .int .i64 0]), 3, 24) by kernel_rfl)
 exact ⟨i, _, hi, h1, h2, h3, rfl⟩, by omega, by omega⟩
theorem el32 : ElemOk Tryz.prog 32 144 3 24 := ⟨Tryz.underlying32, by
 obtain ⟨i, hi, h1, h2, h3⟩ := info_parts (show (Tryz.prog.info? 144).map (fun i => (i.zero, i.size, i.bytes)) = some (some (.agg #[.int .i64 0, .int .i64 0, .int .i64 0]), 3, 24) by kernel_rfl)
 exact ⟨i, _, hi, h1, h2, h3, rfl⟩, by omega, by omega⟩
/-- A list in blocks of its own. -/
def CpI (c n : Nat) (g : Nat → Nat → Int) : MSpec := fun v lo hi w => ∃ A cap, v = .slice A n cap ∧ Rd w A n c g ∧ ∀ b o, A = some ⟨b, o, none⟩ → lo ≤ b ∧ b < hi
theorem CpI.ext {c n : Nat} {g : Nat → Nat → Int} {v : Value} {lo hi : Nat} {w w' : World} (h : CpI c n g v lo hi w) (e : Ext w w') : CpI c n g v lo hi w' := by
  obtain ⟨A, cap, h1, h2, h3⟩ := h
  exact ⟨A, cap, h1, h2.ext e, h3⟩
theorem CpI.of {B c n : Nat} {e : TypeId} {g : Nat → Nat → Int} {w : World} {u : Value} (h : OwnR w B e c u (rowsG c n g)) : CpI c n g u B w.heap.size w := by
  obtain ⟨A, cap, h1, -, h2, h3⟩ := CpS.of (lo := 0) (hi := 0) h (Nat.le_refl B)
  exact ⟨A, cap, h1, h2, h3⟩
theorem CpI.fix {c n q lo hi : Nat} {A : Option Addr} {g : Nat → Nat → Int} {w : World} (h : CpI c n g (.slice A n q) lo hi w) : Rd w A n c g ∧ ∀ b o, A = some ⟨b, o, none⟩ → lo ≤ b ∧ b < hi := by
  obtain ⟨A', q', e, h1, h2⟩ := h
  cases e
  exact ⟨h1, h2⟩
theorem _root_.Go.Rd.ch {S : Nat → Prop} {w w' : World} {A : Option Addr} {n c : Nat} {g : Nat → Nat → Int} (h : Rd w A n c g) (k : Ch S w w') (hA : ∀ b o, A = some ⟨b, o, none⟩ → b < w.heap.size ∧ ¬ S b) : Rd w' A n c g := fun hn => by
  obtain ⟨b, o, e, hc⟩ := h hn
  obtain ⟨h1, h2⟩ := hA b o e
  refine ⟨b, o, e, fun i hi j hj => ?_⟩
  rw [← hc i hi j hj]
  simp only [World.cell?, k.block b h1 h2]
theorem _root_.Go.Ch.ofKpM {M : Nat → Prop} {w w' : World} (k : KpM w.heap.size M w w') : Ch M w w' := ⟨k.1, fun b hb h => k.2 b hb h⟩
/-- The boxes of the function. -/
structure TB (x : LD) (w W : World) (G : Nat) (p : LA) (s4 s5 s6 : Value) : Prop where
  e : Ext w W
  g : w.heap.size + 2 ≤ G
  b0 : Blk W w.heap.size 27 #[.int .i64 x.folk, .int .i64 x.years, .slice p.A1 x.bn p.c1, .slice p.A2 x.fn p.c2, .slice p.A3 x.ln p.c3, .slice p.A4 x.pn p.c4, .slice p.A5 x.mn p.c5]
  b1 : Blk W (w.heap.size + 1) 35 #[.int .i64 0, .int .i64 0, .slice none 0 0, .slice none 0 0, .slice none 0 0, .slice none 0 0, .slice none 0 0]
  b2 : Blk W G 35 #[.int .i64 x.folk, .int .i64 x.years, .slice p.A1 x.bn p.c1, .slice p.A2 x.fn p.c2, s4, s5, s6]
namespace TB
variable {x : LD} {w W W' : World} {G : Nat} {p : LA} {s4 s5 s6 : Value}
theorem ext (h : TB x w W G p s4 s5 s6) (e : Ext W W') : TB x w W' G p s4 s5 s6 := ⟨h.e.trans e, h.g, h.b0.ext e, h.b1.ext e, h.b2.ext e⟩
theorem grown (h : TB x w W G p s4 s5 s6) {row : Option Nat} (hg : W.grownBy W' row) (hr : ∀ k, row = some k → G < k) : TB x w W' G p s4 s5 s6 := by
  have := h.g
  exact ⟨h.e.grown hg fun k hk => by have := hr k hk; omega, h.g, h.b0.grown hg fun e => by have := hr _ e.symm; omega, h.b1.grown hg fun e => by have := hr _ e.symm; omega, h.b2.grown hg fun e => by have := hr _ e.symm; omega⟩
theorem set4 (h : TB x w W G p s4 s5 s6) (v : Value) : TB x w (W.setCell ⟨G, 4, none⟩ v) G p v s5 s6 := by
  have := h.g
  exact ⟨h.e.setCell _ (by show w.heap.size ≤ G; omega), h.g, h.b0.far (by show w.heap.size ≠ G; omega) _, h.b1.far (by show w.heap.size + 1 ≠ G; omega) _, h.b2.set_ 4 v⟩
theorem set5 (h : TB x w W G p s4 s5 s6) (v : Value) : TB x w (W.setCell ⟨G, 5, none⟩ v) G p s4 v s6 := by
  have := h.g
  exact ⟨h.e.setCell _ (by show w.heap.size ≤ G; omega), h.g, h.b0.far (by show w.heap.size ≠ G; omega) _, h.b1.far (by show w.heap.size + 1 ≠ G; omega) _, h.b2.set_ 5 v⟩
end TB
theorem _root_.Go.OwnR.ch_rd {S : Nat → Prop} {w w' : World} {B c n : Nat} {e : TypeId} {g : Nat → Nat → Int} {A : Option Addr} {q : Nat} (h : OwnR w B e c (.slice A n q) (rowsG c n g)) (k : Ch S w w') (hS : ∀ b, S b → b < B) : Rd w' A n c g := by
  obtain ⟨h1, h2⟩ := (CpI.of h).fix
  exact h1.ch k fun b o e => ⟨(h2 b o e).2, fun hb => by have := hS b hb; have := (h2 b o e).1; omega⟩
theorem theirs20 {x : LD} {w : World} {p : LA} (hv : IsLA w x p) (h3 : x.ln ≤ 1000) (h4 : x.pn ≤ 1000) (h5 : x.mn ≤ 1000) :
    Calls Tryz.prog 20 #[ledV x p] w fun e w' => ∃ A3 c3 A4 c4 A5 c5, e = .returned (ledV x ⟨p.A1, p.c1, p.A2, p.c2, A3, c3, A4, c4, A5, c5⟩) ∧ Ext w w' ∧ IsLA w' x ⟨p.A1, p.c1, p.A2, p.c2, A3, c3, A4, c4, A5, c5⟩ ∧
      (∀ b o, A3 = some ⟨b, o, none⟩ → w.heap.size ≤ b ∧ b < w'.heap.size) ∧ (∀ b o, A4 = some ⟨b, o, none⟩ → w.heap.size ≤ b ∧ b < w'.heap.size) ∧ (∀ b o, A5 = some ⟨b, o, none⟩ → w.heap.size ≤ b ∧ b < w'.heap.size) := by
  obtain ⟨A1, c1, A2, c2, A3, c3, A4, c4, A5, c5⟩ := p
  obtain ⟨r1, r2, r3, r4, r5⟩ := hv
  unfold ledV
  dsimp only at r1 r2 r3 r4 r5 ⊢
  have R1 := hid r1
  have R2 := hid r2
  have R3 := hid r3
  have R4 := hid r4
  have R5 := hid r5
  clear r1 r2 r3 r4 r5
  go_enter Tryz.func20, Tryz.ntmps20
  go_upto_region 1 with fail
  refine wp_later fun w1 hw1 => ?_
  obtain ⟨E0, b1, b2⟩ := hw1.newB2
  have B1 := hid b1
  have B2 := hid b2
  have k1 := b1.cell
  have k1l := b1.lt
  have hz1 := b2.lt
  clear hw1 b1 b2
  refine wp_region_mono 13 [(10, CpI 3 x.mn x.pr), (12, PtI 35 #[.int .i64 0, .int .i64 0, .slice none 0 0, .slice none 0 0, .slice none 0 0, .slice none 0 0, .slice none 0 0])] (by kernel_rfl) (by kernel_rfl) (by kernel_rfl) ?hS ?_
  case hS =>
    simp only [List.forall_mem_cons]
    exact ⟨fun _ _ _ _ _ e h => CpI.ext h e, fun _ _ _ _ _ e h => PtI.ext h e, fun _ h => by simp at h⟩
  simp only [List.take_succ_cons, List.take_zero, List.drop_succ_cons, List.drop_zero]
  iterate 10
    refine wpM_plain rfl ?_
    go_big_quiet_step (fail)
    refine wpQuiet_nil ?_
  refine wpM_spec _ rfl rfl (fun w4 hw4 _ => ?_) (fun va la ha ga1 ga2 _ hva => ?_)
  · go_wp2_with (go_at_call 53; refine (kept53 (R5.out.ext (E0.trans hw4)) h5).mono ?_; rintro e w5 ⟨u, rfl, he5, ho⟩)
    exact ⟨_, _, _, rfl, he5, Nat.le_refl _, he5.size, Nat.le_refl _, CpI.of ho⟩
  simp only [Act.put, List.setIfInBounds_toArray, List.set_cons_succ, List.set_cons_zero]
  obtain ⟨_, D5, q5, rfl, -⟩ := hva
  iterate 1
    refine wpM_plain rfl ?_
    go_big_quiet_step (fail)
    refine wpQuiet_nil ?_
  refine wpM_spec _ rfl rfl (fun w4 hw4 _ => ?_) (fun vb G hb gb1 gb2 dg hvb => ?_)
  · go_wp2
    exact ⟨_, w4.heap.size, w4.heap.size + 1, rfl, (Ext.refl _).alloc _, Nat.le_refl _, Nat.le_succ _, by simp, rfl, by omega, Blk.new _ _ _⟩
  obtain ⟨_, rfl, hlt, -⟩ := hvb
  simp only [Act.put, List.setIfInBounds_toArray, List.set_cons_succ, List.set_cons_zero]
  refine wpM_nil fun w6 hw6 hF => ?_
  simp only [List.forall_mem_cons] at hF dg
  obtain ⟨f2, f1, -⟩ := hF
  have F1 := hid f1.2.fix
  have hq2 := f2.2.2.2
  have hz6 := hid f1.1
  have DG := hid dg.1
  clear f1 f2 dg
  have kG := hq2.cell
  have kGl := hq2.lt
  have kGf := hq2.frozen
  have hGz : w.heap.size + 2 ≤ G := by have := E0.size; omega
  have l1 := (B1.out.ext hw6).cell
  have l1l := (B1.out.ext hw6).lt
  go_upto_region 2 with fail
  refine wp_later fun w7 hw7 => ?_
  have HT : Hid (TB x w w7 G ⟨A1, c1, A2, c2, A3, c3, A4, c4, A5, c5⟩ (.slice none 0 0) (.slice none 0 0) (.slice D5 x.mn q5)) := by
    refine hid ⟨?_, hGz, ?_, ?_, ?_⟩
    · refine Ext.trans ?_ hw7
      iterate 7 refine Ext.setCell ?_ _ (show w.heap.size ≤ G by omega)
      exact E0.trans hw6
    · refine Blk.ext ?_ hw7
      have h := B1.out.ext hw6
      iterate 7 refine Blk.far ?_ (show w.heap.size ≠ G by omega) _
      exact h
    · refine Blk.ext ?_ hw7
      have h := B2.out.ext hw6
      iterate 7 refine Blk.far ?_ (show w.heap.size + 1 ≠ G by omega) _
      exact h
    · exact (((((((hq2.set_ 0 _).set_ 1 _).set_ 2 _).set_ 3 _).set_ 4 _).set_ 5 _).set_ 6 _).ext hw7
  have R5' : Hid (Rd w7 D5 x.mn 3 x.pr ∧ ∀ b o, D5 = some ⟨b, o, none⟩ → w.heap.size + 2 ≤ b ∧ b < w7.heap.size ∧ b ≠ G) := by
    obtain ⟨g1, g2⟩ := F1.out
    have hz := hz6.out
    have hd := DG.out
    have hs : w6.heap.size ≤ w7.heap.size := by have := hw7.size; simpa using this
    have hp : ∀ b o, D5 = some ⟨b, o, none⟩ → w.heap.size + 2 ≤ b ∧ b < w7.heap.size ∧ b ≠ G := fun b o e => by
      have := g2 b o e
      omega
    refine hid ⟨Rd.ext ?_ hw7, hp⟩
    exact rd_kp (N := w6.heap.size) (H := G) g1 (set7 _ _ _ _ _ _ _ _) fun b o e => ⟨(hp b o e).2.2, by have := g2 b o e; omega⟩
  clear hw7 hq2 kG kGl kGf l1 l1l F1 DG hz6 hw6 hlt
  have k0 := HT.out.b0.cell
  have k0l := HT.out.b0.lt
  go_upto_region 3 with fail
  clear k0 k0l
  obtain ⟨W0, rfl⟩ : ∃ W : World, W = w7 := ⟨_, rfl⟩
  have hGW : G < W0.heap.size := HT.out.b2.lt
  go_loopw [23] (fun i wr => ∃ (k : Nat) (s : Value), k ≤ x.ln ∧ i = .int .i64 (k : Int) ∧ Hid (TB x w wr G ⟨A1, c1, A2, c2, A3, c3, A4, c4, A5, c5⟩ s (.slice none 0 0) (.slice D5 x.mn q5) ∧ OwnR wr W0.heap.size 143 3 s (rowsG 3 k x.lo) ∧ Ch (fun b => b = G) W0 wr)) (fun i _ => x.ln - (intOf i).toNat)
  case atStart => exact ⟨0, _, Nat.zero_le _, rfl, hid ⟨HT.out, by simpa [rowsG] using OwnR.nil, Ch.refl _ _⟩⟩
  case round =>
    obtain ⟨k, s, hk, rfl, HI⟩ := hrel
    by_cases hlt : k < x.ln
    · obtain ⟨b, o, rfl, hb, a0, a1, a2⟩ := (R3.out.ext HI.out.1.e).at3 hlt
      have HOWN := hid HI.out.2.1
      obtain ⟨D, q, rfl, -⟩ := HI.out.2.1.slR
      rw [rowsG_length] at *
      have hsw : W0.heap.size ≤ wr.heap.size := HI.out.2.2.size
      have e2 : Ext wr ((wr.alloc (.cells #[.int .i64 (x.lo k 0), .int .i64 (x.lo k 1), .int .i64 (x.lo k 2)] 68)).alloc (.cells #[.int .i64 (x.lo k 0), .int .i64 (x.lo k 1), .int .i64 (x.lo k 2)] 143)) := ((Ext.refl _).alloc _).alloc _
      have k2 := HI.out.1.b2.cell
      have k2l := HI.out.1.b2.lt
      go_wp2_with (at_builtin; refine wpList_append_rows rfl _ _ 31 rfl el31 rfl (HOWN.out.ext e2) _ 1 1 [[x.lo k 0, x.lo k 1, x.lo k 2]] rfl rfl (by simp) (by intro j; simp [cellsOf]) (by rw [rowsG_length]; omega) (by simp; omega) ?_; intro v' w2 hown2 hg2; have T2 := hid ((HI.out.1.ext e2).grown hg2 (fun g hg => Nat.lt_of_lt_of_le hGW (HOWN.out.block hg))); have K2 := hid ((HI.out.2.2.step (Ch.ofExt e2) (T := fun b => b = G) (fun _ _ h => h.elim)).step (Ch.ofGrown hg2) (T := fun b => b = G) (fun b hb h => absurd (HOWN.out.block h.symm) (by omega))); have HO2 := hid hown2; obtain ⟨D2, q2, rfl, -⟩ := hown2.slR; clear hown2; have k3 := T2.out.b2.cell; have f3 := T2.out.b2.frozen; have k3l := T2.out.b2.lt)
      go_roundw
      case rel => exact ⟨k + 1, _, by omega, by go_num, hid ⟨T2.out.set4 _, by rw [rowsG3_succ]; refine OwnR.far' ?_ (show G < W0.heap.size from hGW) _; have h := HO2.out; simpa using h, K2.out.step (Ch.ofSet _ _ _ _) (fun _ _ h => h)⟩⟩
      case measure => simp [intOf]; omega
    · obtain rfl : k = x.ln := by omega
      obtain ⟨wa, rfl⟩ : ∃ wa : World, wa = wr := ⟨_, rfl⟩
      have HO1 := hid HI.out.2.1
      have T1 := hid HI.out.1
      have K1 := hid HI.out.2.2
      obtain ⟨D1, q1, rfl, -⟩ := HI.out.2.1.slR
      rw [rowsG_length] at *
      have k0 := T1.out.b0.cell
      have k0l := T1.out.b0.lt
      have hsa := K1.out.size
      clear HI
      go_upto_region 8 with fail
      clear k0 k0l
      go_loopw [37] (fun i wr => ∃ (k : Nat) (s : Value), k ≤ x.pn ∧ i = .int .i64 (k : Int) ∧ Hid (TB x w wr G ⟨A1, c1, A2, c2, A3, c3, A4, c4, A5, c5⟩ (.slice D1 x.ln q1) s (.slice D5 x.mn q5) ∧ OwnR wr wa.heap.size 144 3 s (rowsG 3 k x.pa) ∧ Ch (fun b => b = G) wa wr)) (fun i _ => x.pn - (intOf i).toNat)
      case atStart => exact ⟨0, _, Nat.zero_le _, rfl, hid ⟨T1.out, by simpa [rowsG] using OwnR.nil, Ch.refl _ _⟩⟩
      case round =>
        obtain ⟨k, s, hk, rfl, HI⟩ := hrel
        by_cases hlt : k < x.pn
        · obtain ⟨b, o, rfl, hb, a0, a1, a2⟩ := (R4.out.ext HI.out.1.e).at3 hlt
          have HOWN := hid HI.out.2.1
          obtain ⟨D, q, rfl, -⟩ := HI.out.2.1.slR
          rw [rowsG_length] at *
          have hsw : wa.heap.size ≤ wr.heap.size := HI.out.2.2.size
          have e2 : Ext wr ((wr.alloc (.cells #[.int .i64 (x.pa k 0), .int .i64 (x.pa k 1), .int .i64 (x.pa k 2)] 71)).alloc (.cells #[.int .i64 (x.pa k 0), .int .i64 (x.pa k 1), .int .i64 (x.pa k 2)] 144)) := ((Ext.refl _).alloc _).alloc _
          have k2 := HI.out.1.b2.cell
          have k2l := HI.out.1.b2.lt
          go_wp2_with (at_builtin; refine wpList_append_rows rfl _ _ 32 rfl el32 rfl (HOWN.out.ext e2) _ 1 1 [[x.pa k 0, x.pa k 1, x.pa k 2]] rfl rfl (by simp) (by intro j; simp [cellsOf]) (by rw [rowsG_length]; omega) (by simp; omega) ?_; intro v' w2 hown2 hg2; have T2 := hid ((HI.out.1.ext e2).grown hg2 (fun g hg => Nat.lt_of_lt_of_le (Nat.lt_of_lt_of_le hGW hsa) (HOWN.out.block hg))); have K2 := hid ((HI.out.2.2.step (Ch.ofExt e2) (T := fun b => b = G) (fun _ _ h => h.elim)).step (Ch.ofGrown hg2) (T := fun b => b = G) (fun b hb h => absurd (HOWN.out.block h.symm) (by omega))); have HO2 := hid hown2; obtain ⟨D2, q2, rfl, -⟩ := hown2.slR; clear hown2; have k3 := T2.out.b2.cell; have f3 := T2.out.b2.frozen; have k3l := T2.out.b2.lt)
          go_roundw
          case rel => exact ⟨k + 1, _, by omega, by go_num, hid ⟨T2.out.set5 _, by rw [rowsG3_succ]; refine OwnR.far' ?_ (show G < wa.heap.size by omega) _; have h := HO2.out; simpa using h, K2.out.step (Ch.ofSet _ _ _ _) (fun _ _ h => h)⟩⟩
          case measure => simp [intOf]; omega
        · obtain rfl : k = x.pn := by omega
          have HO2 := hid HI.out.2.1
          have T2 := hid HI.out.1
          have K2 := hid HI.out.2.2
          obtain ⟨D4, q4, rfl, -⟩ := HI.out.2.1.slR
          rw [rowsG_length] at *
          have k2 := T2.out.b2.cell
          have k2l := T2.out.b2.lt
          have k1 := T2.out.b1.cell
          have f1 := T2.out.b1.frozen
          have k1l := T2.out.b1.lt
          clear HI
          go_wp2_with fail
          have K4 := fun a b c d e f g => Ch.ofKpM (set7 (n := wr.heap.size) (H := w.heap.size + 1) wr a b c d e f g)
          have X4 := fun a b c d e f g => ext7 T2.out.e a b c d e f g
          refine bodyPost_ret (v := .agg #[.int .i64 x.folk, .int .i64 x.years, .slice A1 x.bn c1, .slice A2 x.fn c2, .slice D1 x.ln q1, .slice D4 x.pn q4, .slice D5 x.mn q5]) (by simp [results, Tryz.results20, go_sem, k1]) rfl ⟨D1, q1, D4, q4, D5, q5, rfl, X4 _ _ _ _ _ _ _, ⟨R1.out.ext (X4 _ _ _ _ _ _ _), R2.out.ext (X4 _ _ _ _ _ _ _), ?_, ?_, ?_⟩, ?_, ?_, ?_⟩
          · exact HO1.out.ch_rd ((K2.out.step (K4 _ _ _ _ _ _ _) (T := fun b => b = G ∨ b = w.heap.size + 1) (fun _ _ h => .inr h) (fun _ h => .inl h))) (by rintro b (rfl | rfl) <;> omega)
          · exact HO2.out.ch_rd (K4 _ _ _ _ _ _ _) (by rintro b rfl; omega)
          · exact R5'.out.1.ch (((K1.out.step K2.out (T := fun b => b = G) (fun _ _ h => h)).step (K4 _ _ _ _ _ _ _) (T := fun b => b = G ∨ b = w.heap.size + 1) (fun _ _ h => .inr h) (fun _ h => .inl h))) fun b o e => ⟨(R5'.out.2 b o e).2.1, fun h => by have := R5'.out.2 b o e; omega⟩
          · intro b o e
            obtain ⟨-, hp⟩ := (CpI.of HO1.out).fix
            have := hp b o e
            have := HT.out.b2.lt
            have := (K4 (.int .i64 x.folk) (.int .i64 x.years) (.slice A1 x.bn c1) (.slice A2 x.fn c2) (.slice D1 x.ln q1) (.slice D4 x.pn q4) (.slice D5 x.mn q5)).size
            have := K2.out.size
            omega
          · intro b o e
            obtain ⟨-, hp⟩ := (CpI.of HO2.out).fix
            have := hp b o e
            have := HT.out.b2.lt
            have := (K4 (.int .i64 x.folk) (.int .i64 x.years) (.slice A1 x.bn c1) (.slice A2 x.fn c2) (.slice D1 x.ln q1) (.slice D4 x.pn q4) (.slice D5 x.mn q5)).size
            omega
          · intro b o e
            have := R5'.out.2 b o e
            have := (K4 (.int .i64 x.folk) (.int .i64 x.years) (.slice A1 x.bn c1) (.slice A2 x.fn c2) (.slice D1 x.ln q1) (.slice D4 x.pn q4) (.slice D5 x.mn q5)).size
            have := K2.out.size
            have := K1.out.size
            omega
end Go.Proofs.YtbceepjjdfpfmaaGreat
