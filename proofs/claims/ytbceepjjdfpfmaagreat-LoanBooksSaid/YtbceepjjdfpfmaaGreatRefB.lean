/- Walk of the reference's booking of all payments. The ledger is right. -/
import Derived.Test.YtbceepjjdfpfmaaGreatRefA
import Derived.Test.YtbceepjjdfpfmaaGreatMat
import Derived.Test.YtbceepjjdfpfmaaGreatApp
import Derived.Test.YtbceepjjdfpfmaaGreatMathB
namespace Go.Proofs.YtbceepjjdfpfmaaGreat
open Go.RowKit HandSpec LoanSpec
set_option maxHeartbeats 4000000
set_option maxRecDepth 100000
theorem el39 : ElemOk Tryz.prog 39 22 1 24 := ⟨Tryz.underlying39, by
  obtain ⟨i, hi, h1, h2, h3⟩ := info_parts (show (Tryz.prog.info? 22).map (fun i => (i.zero, i.size, i.bytes)) = some (some (.slice none 0 0), 1, 24) by kernel_rfl)
  exact ⟨i, _, hi, h1, h2, h3, rfl⟩, by omega, by omega⟩
/-- What is over of the first payments. -/
def rowsO (x : LD) (k : Nat) : List (List Int) := (List.range k).map fun i => [R.over x i]
theorem rowsO_succ (x : LD) (k : Nat) : rowsO x (k+1) = rowsO x k ++ [[R.over x k]] := by simp [rowsO, List.range_succ]
theorem rowsO_length (x : LD) (k : Nat) : (rowsO x k).length = k := by simp [rowsO]
/-- What is asked for the first loans. -/
def rowsA (x : LD) (k : Nat) : List (List Int) := (List.range k).map fun i => [P.asked x i]
theorem rowsA_succ (x : LD) (k : Nat) : rowsA x (k+1) = rowsA x k ++ [[P.asked x k]] := by simp [rowsA, List.range_succ]
theorem rowsA_length (x : LD) (k : Nat) : (rowsA x k).length = k := by simp [rowsA]
theorem rowsA_at (x : LD) {k i : Nat} (h : i < k) : rowsAt (rowsA x k) i 0 = P.asked x i := by simp [rowsAt, rowsA, h]
theorem rowsO_at (x : LD) {k i : Nat} (h : i < k) : rowsAt (rowsO x k) i 0 = R.over x i := by simp [rowsAt, rowsO, h]
/-- What stands behind k payments. -/
structure Bs (x : LD) (w : World) (C1 : Array Value) (gl k : Nat) (vP vO : Value) (LP : List Value) (r : Nat → Nat) (W : World) : Prop where
  e : Ext w W
  b1 : Blk W w.heap.size 35 C1
  b2 : Blk W (w.heap.size + 1) 44 #[.slice none 0 0, .slice none 0 0]
  b3 : Blk W (w.heap.size + 2) 44 #[vP, vO]
  p : OwnV W (w.heap.size + 3) 22 vP LP
  o : OwnR W (w.heap.size + 3) 3 1 vO (rowsO x k)
  ll : LP.length = k
  rr : ∀ i, i < k → LP[i]? = some (.slice (some ⟨r i, 0, none⟩) x.ln x.ln) ∧ ArrB W (r i) 3 x.ln (fun j => R.part x i j) ∧ w.heap.size + 3 ≤ r i ∧ (0 < x.ln → r i ≠ gl) ∧ vO.ownBlock ≠ some (r i)
  dl : 0 < x.ln → vO.ownBlock ≠ some gl ∧ vP.ownBlock ≠ some gl ∧ w.heap.size + 3 ≤ gl
namespace Bs
variable {x : LD} {w W W' : World} {C1 : Array Value} {gl k : Nat} {vP vO : Value} {LP : List Value} {r : Nat → Nat}
theorem ch (h : Bs x w C1 gl k vP vO LP r W) (e : Ext w W') (c : Ch (fun b => 0 < x.ln ∧ b = gl) W W') : Bs x w C1 gl k vP vO LP r W' := by
  have hd := h.dl
  refine ⟨e, c.blk h.b1 (fun q => by have := hd q.1; omega), c.blk h.b2 (fun q => by have := hd q.1; omega), c.blk h.b3 (fun q => by have := hd q.1; omega), h.p.same fun g hg => ?_, h.o.same fun g hg => ?_, h.ll, fun i hi => ?_, hd⟩
  · refine c.block g (h.p.lt hg) fun q => ?_
    rw [q.2] at hg
    exact (hd q.1).2.1 hg
  · refine c.block g (h.o.lt hg) fun q => ?_
    rw [q.2] at hg
    exact (hd q.1).1 hg
  · obtain ⟨h1, h2, h3, h4, h5⟩ := h.rr i hi
    exact ⟨h1, h2.same (c.block _ h2.lt fun q => h4 q.1 q.2), h3, h4, h5⟩
theorem ext (h : Bs x w C1 gl k vP vO LP r W) (e : Ext W W') : Bs x w C1 gl k vP vO LP r W' := h.ch (h.e.trans e) ⟨e.size, fun _ hb _ => e.block hb⟩
/-- One payment more. -/
theorem fin (h : Bs x w C1 gl k vP vO LP r W) {go : Nat} (hgo : ArrB W go 3 x.ln fun j => R.part x k j) (g1 : w.heap.size + 3 ≤ go) (g2 : 0 < x.ln → go ≠ gl) (g3 : vO.ownBlock ≠ some go) {vP' vO' : Value}
    (c : Ch (fun b => some b = vP.ownBlock ∨ some b = vO.ownBlock) W W') (e : Ext w W') (hp : OwnV W' (w.heap.size + 3) 22 vP' (LP ++ [.slice (some ⟨go, 0, none⟩) x.ln x.ln])) (ho : OwnR W' (w.heap.size + 3) 3 1 vO' (rowsO x (k+1)))
    (ap : vP'.ownBlock = vP.ownBlock ∨ ∃ q, vP'.ownBlock = some q ∧ W.heap.size ≤ q) (ao : vO'.ownBlock = vO.ownBlock ∨ ∃ q, vO'.ownBlock = some q ∧ W.heap.size ≤ q) (hgl : 0 < x.ln → gl < W.heap.size) :
    Bs x w C1 gl (k+1) vP' vO' (LP ++ [.slice (some ⟨go, 0, none⟩) x.ln x.ln]) (updR r k go) ((W'.setCell ⟨w.heap.size + 2, 0, none⟩ vP').setCell ⟨w.heap.size + 2, 1, none⟩ vO') := by
  have hlow : ∀ b, b < w.heap.size + 3 → ¬ (some b = vP.ownBlock ∨ some b = vO.ownBlock) := by
    rintro b hb (q | q)
    · have := h.p.block q.symm; omega
    · have := h.o.block q.symm; omega
  have hrow : ∀ g, ArrB W g 3 x.ln (fun _ => 0) ∨ (∃ f, ArrB W g 3 x.ln f) → vO.ownBlock ≠ some g → ¬ (some g = vP.ownBlock ∨ some g = vO.ownBlock) := by
    rintro g hg h1 (q | q)
    · rcases hg with hg | ⟨f, hg⟩ <;> exact hg.ne h.p (by decide) q.symm
    · exact h1 q.symm
  have hnew : ∀ g, g < W.heap.size → vO.ownBlock ≠ some g → vO'.ownBlock ≠ some g := by
    intro g hg h1 h2
    rcases ao with q | ⟨q, q1, q2⟩
    · exact h1 (q ▸ h2)
    · rw [q1] at h2; cases h2; omega
  refine ⟨(e.setCell _ (by simp)).setCell _ (by simp), ((c.blk h.b1 (hlow _ (by omega))).far (by simp) _).far (by simp) _, ((c.blk h.b2 (hlow _ (by omega))).far (by simp) _).far (by simp) _, ((c.blk h.b3 (hlow _ (by omega))).set_ 0 vP').set_ 1 vO',
    (hp.same fun g hg => Below.heap_setCell _ _ _ _ (by have := hp.block hg; simp; omega)).same fun g hg => Below.heap_setCell _ _ _ _ (by have := hp.block hg; simp; omega), (ho.far' (by simp) _).far' (by simp) _, by rw [List.length_append, h.ll]; rfl, fun i hi => ?_, fun h0 => ⟨hnew _ (hgl h0) (h.dl h0).1, ?_, (h.dl h0).2.2⟩⟩
  · by_cases ek : i = k
    · subst ek
      rw [updR_same]
      refine ⟨by rw [List.getElem?_append_right (by rw [h.ll]; exact Nat.le_refl _), h.ll]; simp, ((hgo.same (c.block _ hgo.lt (hrow _ (.inr ⟨_, hgo⟩) g3))).far (by simp <;> omega) _).far (by simp <;> omega) _, g1, g2, hnew _ hgo.lt g3⟩
    · obtain ⟨h1, h2, h3, h4, h5⟩ := h.rr i (by omega)
      rw [updR_other _ _ ek]
      exact ⟨by rw [List.getElem?_append_left (by rw [h.ll]; omega)]; exact h1, ((h2.same (c.block _ h2.lt (hrow _ (.inr ⟨_, h2⟩) h5))).far (by simp <;> omega) _).far (by simp <;> omega) _, h3, h4, hnew _ h2.lt h5⟩
  · intro q
    rcases ap with p | ⟨p, p1, p2⟩
    · exact (h.dl h0).2.1 (p ▸ q)
    · rw [p1] at q
      cases q
      have := hgl h0
      omega
theorem out {Ap Ao : Option Addr} {cp co : Nat} (h : Bs x w C1 gl k (.slice Ap k cp) (.slice Ao k co) LP r W) (c : Ch (fun b => b = w.heap.size + 1) W W') : RdN W' Ap k (fun _ => x.ln) (fun i j => R.part x i j) ∧ Rd W' Ao k 1 (fun i _ => R.over x i) := by
  have hp := h.p.same (w' := W') fun g hg => c.block g (h.p.lt hg) (by have := h.p.block hg; omega)
  have ho := h.o.same (w' := W') fun g hg => c.block g (h.o.lt hg) (by have := h.o.block hg; omega)
  constructor
  · obtain ⟨A, cap, hv, -, hr⟩ := hp.rd
    obtain ⟨rfl, -, -⟩ : Ap = A ∧ k = LP.length ∧ cp = cap := by simpa using hv
    rw [h.ll] at hr
    refine ⟨fun i => some ⟨r i, 0, none⟩, fun _ => x.ln, hr.congr fun i hi => ?_, fun i hi => ?_⟩
    · have := (h.rr i hi).1
      rw [List.getD_eq_getElem?_getD, this]; rfl
    · obtain ⟨-, h2, h3, -, -⟩ := h.rr i hi
      exact (h2.same (c.block _ h2.lt (by omega))).rd fun _ => rfl
  · obtain ⟨A, cap, hv, hr⟩ := ho.slR
    obtain ⟨rfl, -, -⟩ : Ao = A ∧ k = (rowsO x k).length ∧ co = cap := by simpa using hv
    rw [rowsO_length] at hr
    exact hr.congr fun i hi j hj => by
      obtain rfl : j = 0 := by omega
      exact rowsO_at x hi
end Bs
theorem booked24 {x : LD} (hx : Ok x) {w : World} {v : Value} (hv : IsL w v x) (hf : x.fn ≤ 1000) :
    Calls Tryz.prog 24 #[v] w fun e w' => ∃ A c B d, e = .returned (.agg #[.slice A x.pn c, .slice B x.pn d]) ∧ Ext w w' ∧ RdN w' A x.pn (fun _ => x.ln) (fun k i => R.part x k i) ∧ Rd w' B x.pn 1 (fun k _ => R.over x k) := by
  have HV := hid hv
  obtain ⟨A1, c1, A2, c2, A3, c3, A4, c4, A5, c5, rfl, r1, r2, r3, r4, r5⟩ := hv
  have R4 := hid r4
  have hln := hx.ln
  have hpn := hx.pn
  clear r1 r2 r3 r4 r5
  go_enter Tryz.func24, Tryz.ntmps24
  go_upto_region 4 with fail
  refine wp_later fun w1 hw1 => ?_
  obtain ⟨E1, b3⟩ := hw1.newB
  obtain ⟨E1, b2⟩ := E1.newB
  obtain ⟨E1, b1⟩ := E1.newB
  simp only [World.size_alloc, Nat.add_assoc, Nat.reduceAdd] at b2 b3
  have B1 := hid b1
  have hs1 : w.heap.size + 3 ≤ w1.heap.size := by have := b3.lt; omega
  clear hw1 b1
  go_loopw [4, 5] (fun a c wr => ∃ k : Nat, k ≤ x.ln ∧ c = .int .i64 (k : Int) ∧ Hid (OwnR wr w1.heap.size 3 1 a (rowsA x k)) ∧ Ext w1 wr) (fun _ c _ => x.ln - (intOf c).toNat)
  case atStart => exact ⟨0, by omega, rfl, hid (by simpa [rowsA] using OwnR.nil), Ext.refl _⟩
  case round =>
    obtain ⟨k, hk, rfl, ho, he⟩ := hrel
    have k1 := (B1.out.ext he).cell
    have k1l := (B1.out.ext he).lt
    by_cases hlt : k < x.ln
    · have hki : (k : Int) < (x.ln : Int) := by omega
      obtain ⟨a, ha⟩ : ∃ z, Hid (z = P.asked x k) := ⟨_, hid rfl⟩
      go_wp2_with (first
        | (go_at_call 41; refine (asked41 hx (HV.out.ext (E1.trans he)) hf hlt).mono ?_; rintro e w2 ⟨rfl, he2⟩; rw [← ha.out]; have ho2 := hid (ho.out.ext he2))
        | (at_builtin; refine wpList_append_rows rfl _ _ 22 rfl el22 rfl (ho2.out.ext (Ext.alloc (Ext.refl _) _)) _ 1 1 [[a]] rfl rfl (by simp) (by intro j; simp [cellsOf]) (by rw [rowsA_length]; omega) (by have := he.size; have := he2.size; simp; omega) ?_; intro v' w3 hown3 hg3))
      go_roundw
      case rel => exact ⟨k + 1, by omega, by go_num, hid (by rw [rowsA_succ, ← ha.out]; exact hown3), ((he.trans he2).alloc _).grown hg3 (fun q hq => by have := ho2.out.block hq; omega)⟩
      case measure => simp [intOf]; omega
    · obtain rfl : k = x.ln := by omega
      go_upto_region 7 with fail
      have hleft : ∃ (AL : Option Addr) (gl cap : Nat), u4 = .slice AL x.ln cap ∧ (0 < x.ln → AL = some ⟨gl, 0, none⟩ ∧ w.heap.size + 3 ≤ gl ∧ ArrB wr gl 3 x.ln (R.leftTo x 0)) := by
        rcases ho.out.arrB with ⟨h1, h2⟩ | ⟨g, cap, h1, h2, -, h4⟩
        · have h3 : x.ln = 0 := by have := congrArg List.length h2; rw [rowsA_length] at this; exact this
          exact ⟨none, 0, 0, by rw [h1, h3], fun h => by omega⟩
        · rw [rowsA_length] at h1 h4
          exact ⟨some ⟨g, 0, none⟩, g, cap, h1, fun _ => ⟨rfl, by omega, h4.congr fun i hi => rowsA_at x hi⟩⟩
      obtain ⟨AL, gl, capL, rfl, hAL⟩ := hleft
      have HAL := hid fun h => (hAL h).1
      have HGL := hid fun h => (hAL h).2.1
      have HA0 := hid fun h => (hAL h).2.2
      have hB0 : Bs x w #[.int .i64 x.folk, .int .i64 x.years, .slice A1 x.bn c1, .slice A2 x.fn c2, .slice A3 x.ln c3, .slice A4 x.pn c4, .slice A5 x.mn c5] gl 0 (.slice none 0 0) (.slice none 0 0) [] (fun _ => 0) wr :=
        ⟨E1.trans he, B1.out.ext he, b2.ext he, b3.ext he, OwnV.nil, by simpa [rowsO] using OwnR.nil, rfl, fun i hi => absurd hi (by omega), fun h => ⟨by simp [Value.ownBlock], by simp [Value.ownBlock], HGL.out h⟩⟩
      have HB0 := hid hB0
      clear hB0 hAL k1 k1l b2 b3 ho
      simp only [Nat.add_assoc, Nat.reduceAdd]
      go_upto_region 8 with fail
      go_loopw [6] (fun c wr => ∃ (k : Nat) (vP vO : Value) (LP : List Value) (r : Nat → Nat), k ≤ x.pn ∧ c = .int .i64 (k : Int) ∧ Hid (Bs x w #[.int .i64 x.folk, .int .i64 x.years, .slice A1 x.bn c1, .slice A2 x.fn c2, .slice A3 x.ln c3, .slice A4 x.pn c4, .slice A5 x.mn c5] gl k vP vO LP r wr) ∧ Hid (0 < x.ln → ArrB wr gl 3 x.ln (R.leftTo x k))) (fun c _ => x.pn - (intOf c).toNat)
      case atStart => exact ⟨0, _, _, _, _, by omega, rfl, HB0, HA0⟩
      case round =>
        obtain ⟨k, vP, vO, LP, r, hk, rfl, hB, hL⟩ := hrel
        have k1 := hB.out.b1.cell
        have k1l := hB.out.b1.lt
        by_cases hlt : k < x.pn
        · obtain ⟨ga, oa, hA4, hga, q0, q1, q2⟩ := (R4.out.ext hB.out.e).at3 hlt
          subst hA4
          have hki : (k : Int) < (x.pn : Int) := by omega
          have hsk := hx.psack k hlt
          obtain ⟨who, hwho⟩ : ∃ z, Hid (z = x.pa k 0) := ⟨_, hid rfl⟩
          obtain ⟨year, hyear⟩ : ∃ z, Hid (z = x.pa k 1) := ⟨_, hid rfl⟩
          obtain ⟨n, hn⟩ : ∃ z, Hid (z = x.pa k 2) := ⟨_, hid rfl⟩
          rw [← hwho.out] at q0
          rw [← hyear.out] at q1
          rw [← hn.out] at q2 hsk
          have hmk : ∀ w, (Instr.makeSlice 22 (.int .i64 (x.ln : Int)) (.int .i64 (x.ln : Int))).run Tryz.prog w = .ok (.slice (some ⟨w.heap.size, 0, none⟩) x.ln x.ln) (w.alloc (.cells (Array.replicate x.ln (.int .i64 0)) 3)) := fun w => make22_run w x.ln (by omega)
          go_upto_region 12 with fail
          clear hmk
          refine wp_later fun w5 hw5 => ?_
          obtain ⟨E5, b7, bo⟩ := hw5.newB2
          have B7 := hid b7
          have hO5 : ArrB w5 (wr.heap.size + 1) 3 x.ln (fun _ => 0) := ⟨_, bo, fun i hi => by simp [hi]⟩
          have HO5 := hid hO5
          have hL5 : Hid (0 < x.ln → ArrB w5 gl 3 x.ln (R.leftTo x k)) := hid fun h => (hL.out h).ext E5
          have hglw : Hid (0 < x.ln → gl < wr.heap.size) := hid fun h => (hL.out h).lt
          clear hw5 b7 bo hO5 q0 q1 q2 k1 k1l
          obtain ⟨go, hgo⟩ : ∃ g, Hid (g = wr.heap.size + 1) := ⟨_, hid rfl⟩
          obtain ⟨g7, hg7⟩ : ∃ g, Hid (g = wr.heap.size) := ⟨_, hid rfl⟩
          rw [← hgo.out] at HO5 ⊢
          rw [← hg7.out] at B7 ⊢
          go_upto_region 13 with fail
          obtain ⟨W0, rfl⟩ : ∃ W0 : World, W0 = wr := ⟨_, rfl⟩
          go_loopw [9, 10] (fun a c ws => ∃ m : Nat, (m : Int) ≤ n ∧ a = .int .i64 (R.bush x who year m (R.leftTo x k)).2.2 ∧ c = .int .i64 (m : Int) ∧ Hid (0 < x.ln → ArrB ws gl 3 x.ln (R.bush x who year m (R.leftTo x k)).1) ∧ Hid (ArrB ws go 3 x.ln (R.bush x who year m (R.leftTo x k)).2.1) ∧ Ext w ws ∧ Hid (Ch (fun b => 0 < x.ln ∧ b = gl) W0 ws) ∧ Hid (Blk ws g7 144 #[.int .i64 who, .int .i64 year, .int .i64 n])) (fun _ c _ => 600 - (intOf c).toNat)
          case atStart => exact ⟨0, by omega, rfl, rfl, hL5, HO5, hB.out.e.trans E5, hid ((Ch.ofExt E5).mono fun _ h => h.elim), B7⟩
          case round =>
            obtain ⟨m, hm, rfl, rfl, hLm, hOm, hem, hcm, h7⟩ := hrel
            have k7 := h7.out.cell
            have k7l := h7.out.lt
            have k1 := ((hB.out.ch hem hcm.out).b1).cell
            have k1l := ((hB.out.ch hem hcm.out).b1).lt
            have hov := R.bush_over x who year (R.leftTo x k) m
            have hbd : ∀ i, i < x.ln → (0 ≤ (R.bush x who year m (R.leftTo x k)).1 i ∧ (R.bush x who year m (R.leftTo x k)).1 i ≤ 550) ∧ 0 ≤ (R.bush x who year m (R.leftTo x k)).2.1 i ∧ (R.bush x who year m (R.leftTo x k)).2.1 i ≤ 550 := fun i hi => by
              rw [hwho.out, hyear.out]; exact R.bush_bd hx hlt m hi
            have hst : R.bush x who year (m+1) (R.leftTo x k) = R.bushel x who year (R.bush x who year m (R.leftTo x k)) := rfl
            obtain ⟨s, hs⟩ : ∃ s, s = R.bush x who year m (R.leftTo x k) := ⟨_, rfl⟩
            rw [← hs] at hLm hOm hov hbd hst ⊢
            have HST := hid hst
            have HBD := hid hbd
            have HSS := hid hs
            clear hst hbd hs
            by_cases hmn : (m : Int) < n
            · have hov2 : 0 ≤ s.2.2 ∧ s.2.2 ≤ 600 := by omega
              clear hov
              obtain ⟨o, ho⟩ : ∃ o, Hid (o = R.oldest x s.1 who year) := ⟨_, hid rfl⟩
              have hc96 : ∀ W, Ext wr W → Calls Tryz.prog 96 #[.agg #[.int .i64 x.folk, .int .i64 x.years, .slice A1 x.bn c1, .slice A2 x.fn c2, .slice A3 x.ln c3, .slice (some ⟨ga, oa, none⟩) x.pn c4, .slice A5 x.mn c5], .slice AL x.ln capL, .int .i64 who, .int .i64 year] W fun e w' => e = .returned (.int .i64 (encO o)) ∧ Ext W w' := fun W e => by
                rw [ho.out]
                exact oldest96 (HV.out.ext (hem.trans e)) (by omega) (fun hn => ((hLm.out hn).ext e).rd (fun h => HAL.out h) hn) who year
              have HC := hid hc96
              clear hc96
              cases o with
              | none =>
                have hen : encO none = -1 := rfl
                rw [hen] at HC
                have HN := hid (show R.bushel x who year s = (s.1, s.2.1, s.2.2 + 1) by unfold R.bushel; rw [← ho.out])
                clear hen
                go_wp2_with (go_at_call 96; refine (HC.out _ (Ext.refl _)).mono ?_; rintro e w6 ⟨rfl, he6⟩)
                go_roundw
                case rel => exact ⟨m + 1, by omega, by rw [HST.out, HN.out], by go_num, hid fun h => by rw [HST.out, HN.out]; exact (hLm.out h).ext he6, hid (by rw [HST.out, HN.out]; exact hOm.out.ext he6), hem.trans he6, hid (hcm.out.trans (Ch.ofExt he6) fun _ _ h => h.elim), hid (h7.out.ext he6)⟩
                case measure => simp [intOf]; omega
              | some i =>
                have hil : i < x.ln := R.oldest_lt ho.out.symm
                have hen : encO (some i) = (i : Int) := rfl
                rw [hen] at HC
                have HN := hid (show R.bushel x who year s = (upd s.1 i (s.1 i - 1), upd s.2.1 i (s.2.1 i + 1), s.2.2) by unfold R.bushel; rw [← ho.out])
                clear hen
                have hii : (i : Int) < (x.ln : Int) := by omega
                have hAe := HAL.out (by omega)
                subst hAe
                have hbi := HBD.out i hil
                obtain ⟨z, hz⟩ : ∃ z, Hid (z = s.1 i) := ⟨_, hid rfl⟩
                obtain ⟨y, hy⟩ : ∃ z, Hid (z = s.2.1 i) := ⟨_, hid rfl⟩
                rw [← hz.out, ← hy.out] at hbi
                go_upto_region 18 with (go_at_call 96; refine (HC.out _ (Ext.refl _)).mono ?_; rintro e w6 ⟨rfl, he6⟩)
                have a6 := (hLm.out (by omega)).ext he6
                have kl := a6.cell hil
                have kll := a6.lt
                have klf := a6.frozen i
                rw [← hz.out] at kl
                have A7 := hid (a6.set_ i (z - 1))
                clear a6
                go_upto_region 19 with fail
                obtain ⟨w7, hw7⟩ : ∃ w7, w7 = w6.setCell ⟨gl, i, none⟩ (.int .i64 (z - 1)) := ⟨_, rfl⟩
                have hng : go ≠ gl := by have := hgo.out; have := hglw.out (by omega); omega
                have hgg := HGL.out (by omega)
                have O7 := hid ((hOm.out.ext he6).far (p := ⟨gl, i, none⟩) hng (.int .i64 (z - 1)))
                have e7 : Ext w (w6.setCell ⟨gl, i, none⟩ (.int .i64 (z - 1))) := (hem.trans he6).setCell _ (by show w.heap.size ≤ gl; omega)
                have c7 := hid ((hcm.out.trans (Ch.ofExt he6) fun _ _ h => h.elim).trans (Ch.ofSet w6 gl i (.int .i64 (z - 1))) fun b _ h => ⟨by omega, h⟩)
                have b7 := hid ((h7.out.ext he6).far (p := ⟨gl, i, none⟩) (show g7 ≠ gl by have := hg7.out; have := hglw.out (by omega); omega) (.int .i64 (z - 1)))
                rw [← hw7] at A7 O7 e7 c7 b7 ⊢
                clear hw7 kl kll klf k1 k1l k7 k7l
                have ko := O7.out.cell hil
                have kol := O7.out.lt
                have kof := O7.out.frozen i
                rw [← hy.out] at ko
                go_wp2_with fail
                have O8 := hid (O7.out.set_ i (y + 1))
                have A8 := hid (A7.out.far (p := ⟨go, i, none⟩) (fun e => hng e.symm) (.int .i64 (y + 1)))
                have hgw : W0.heap.size < go := by have := hgo.out; omega
                have hww := hB.out.e.size
                go_roundw
                case rel => exact ⟨m + 1, by omega, by rw [HST.out, HN.out], by go_num, hid fun h => by rw [HST.out, HN.out]; show ArrB _ gl 3 x.ln (upd s.1 i (s.1 i - 1)); rw [← hz.out]; exact A8.out, hid (by rw [HST.out, HN.out]; show ArrB _ go 3 x.ln (upd s.2.1 i (s.2.1 i + 1)); rw [← hy.out]; exact O8.out), e7.setCell _ (by show w.heap.size ≤ go; omega), hid (c7.out.trans (Ch.ofSet _ go i _) fun b hb h => by omega), hid (b7.out.far (show g7 ≠ go by have := hgo.out; have := hg7.out; omega) _)⟩
                case measure => simp [intOf]; omega
            · have hmm : m = n.toNat := by omega
              have hBk := hid (hB.out.ch hem hcm.out)
              have hov3 : 0 ≤ s.2.2 ∧ s.2.2 ≤ 600 := by omega
              have hpart : Hid ((fun j => R.part x k j) = s.2.1 ∧ R.over x k = s.2.2 ∧ R.leftTo x (k+1) = s.1) := hid (by
                rw [HSS.out, hmm, hwho.out, hyear.out, hn.out]
                exact ⟨rfl, rfl, rfl⟩)
              obtain ⟨ov, hovv⟩ : ∃ z, Hid (z = s.2.2) := ⟨_, hid rfl⟩
              rw [← hovv.out]
              clear hmm hov hov3 k1 k1l
              go_upto_region 20 with fail
              have HP := hid hBk.out.p
              have HNG : Hid (0 < x.ln → go ≠ gl) := hid fun h => by have := hgo.out; have := hglw.out h; omega
              have HVO : Hid (vO.ownBlock ≠ some go) := hid fun q => by have := hB.out.o.lt q; have := hgo.out; omega
              have HO := hid hBk.out.o
              have HLL := hid hBk.out.ll
              have k3 := hBk.out.b3.cell
              have k3l := hBk.out.b3.lt
              have k3f := hBk.out.b3.frozen
              obtain ⟨W1, rfl⟩ : ∃ W1 : World, W1 = wr := ⟨_, rfl⟩
              have hcs : w.heap.size + 3 ≤ W1.heap.size := by omega
              obtain ⟨wc, hwc, hwz, kc⟩ : ∃ wc, Ext wc W1 ∧ wc.heap.size = w.heap.size + 3 ∧ ∀ i, wc.cell? ⟨w.heap.size + 2, i, none⟩ = #[vP, vO][i]? :=
                ⟨cutW W1 (w.heap.size + 3), cutW_ext hcs, cutW_size hcs, fun i => by rw [← k3 i]; exact World.cell?_of_block (a := ⟨w.heap.size + 2, i, none⟩) (cutW_block (show w.heap.size + 2 < w.heap.size + 3 by omega))⟩
              have HWC := hid hwc
              have HWZ := hid hwz
              have k3w : w.heap.size + 2 < wc.heap.size := by omega
              clear hwc hwz
              go_region_law (first
                  | (refine step_append_val_at (by rfl) _ _ 39 (by rfl) el39 (by rfl) (HP.out.ext (by repeat (first | exact Ext.refl _ | assumption | refine Ext.drew ?_ | refine Ext.alloc ?_ _))) _ 1 1 [.slice (some ⟨go, 0, none⟩) x.ln x.ln] (by rfl) (by simp) (by simp [Value.oneCell']) (by intro j; simp) (by have := HLL.out; omega) (by simp; omega) ?_; intro vp w8 hp8 hg8 at8; have c8 : Ch (fun b => some b = vP.ownBlock ∨ some b = vO.ownBlock) W1 w8 := (Ch.ofExt (by repeat (first | exact Ext.refl _ | assumption | refine Ext.drew ?_ | refine Ext.alloc ?_ _))).step (Ch.ofGrown hg8) (fun _ _ h => .inl h); have E8 : Ext w w8 := Ext.grown (hBk.out.e.trans (by repeat (first | exact Ext.refl _ | assumption | refine Ext.drew ?_ | refine Ext.alloc ?_ _))) hg8 (fun q hq => by have := HP.out.block hq; omega); have a8 : vp.ownBlock = vP.ownBlock ∨ ∃ q, vp.ownBlock = some q ∧ W1.heap.size ≤ q := at8.imp id (fun h => ⟨_, h, by simp <;> omega⟩); have ho8 := (HO.out.ext (by repeat (first | exact Ext.refl _ | assumption | refine Ext.drew ?_ | refine Ext.alloc ?_ _))).grownBy_other hg8 (fun g hg e => HP.out.apart' HO.out (by decide) g e.symm hg.symm); have b38 := (hBk.out.b3.ext (by repeat (first | exact Ext.refl _ | assumption | refine Ext.drew ?_ | refine Ext.alloc ?_ _))).grown hg8 (fun e => by have := HP.out.block e.symm; omega); have k8 := b38.cell; have l8 := b38.lt; have f8 := b38.frozen; clear at8; obtain ⟨Ap, np, cp, rfl⟩ : ∃ A n c, vp = .slice A n c := (by obtain ⟨A, c, h, -, -⟩ := hp8.rd; exact ⟨_, _, _, h⟩))
                  | (refine step_append_rows_at (by rfl) _ _ 22 (by rfl) el22 (by rfl) (ho8.ext (Ext.alloc (Ext.refl _) _)) _ 1 1 [[ov]] (by rfl) (by simp) (by simp) (by intro j; simp [cellsOf]) (by rw [rowsO_length]; omega) (by have := c8.size; simp <;> omega) ?_; intro vo w9 ho9 hg9 at9; have e89 : Ext w8 (w8.alloc (.cells #[.int .i64 ov] 3)) := Ext.alloc (Ext.refl _) _; have s8 := c8.size; have c9 : Ch (fun b => some b = vP.ownBlock ∨ some b = vO.ownBlock) W1 w9 := (c8.step (Ch.ofExt e89) (fun _ _ h => h.elim)).step (Ch.ofGrown hg9) (fun _ _ h => .inr h); have E9 : Ext w w9 := Ext.grown (E8.trans e89) hg9 (fun q hq => by have := HO.out.block hq; omega); have a9 : vo.ownBlock = vO.ownBlock ∨ ∃ q, vo.ownBlock = some q ∧ W1.heap.size ≤ q := at9.imp id (fun h => ⟨_, h, by simp <;> omega⟩); have hp9 := (hp8.ext e89).grownBy_other hg9 (fun g hg e => (hp8.apart' ho8 (by decide) g hg) e); have b39 := (b38.ext e89).grown hg9 (fun e => by have := HO.out.block e.symm; omega); have k9 := b39.cell; have l9 := b39.lt; have f9 := b39.frozen; clear k8 l8 f8 at9; obtain ⟨Ao, no, co, rfl⟩ : ∃ A n c, vo = .slice A n c := (by obtain ⟨A, c, h, -⟩ := ho9.slR; exact ⟨_, _, _, h⟩))
                  | (refine step_append_rows_at (by rfl) _ _ 22 (by rfl) el22 (by rfl) (ho8) _ 1 1 [[ov]] (by rfl) (by simp) (by simp) (by intro j; refine (World.cell?_of_block (a := ⟨_, j, none⟩) (hg8.block _ (by first | omega | (simp <;> omega)) (fun e => by have h := HP.out.lt e.symm; first | omega | (simp at h; done) | (simp at h; omega)))).trans ?_; simp [cellsOf]) (by rw [rowsO_length]; omega) (by have := c8.size; simp <;> omega) ?_; intro vo w9 ho9 hg9 at9; have e89 : Ext w8 (w8) := Ext.refl _; have s8 := c8.size; have c9 : Ch (fun b => some b = vP.ownBlock ∨ some b = vO.ownBlock) W1 w9 := (c8.step (Ch.ofExt e89) (fun _ _ h => h.elim)).step (Ch.ofGrown hg9) (fun _ _ h => .inr h); have E9 : Ext w w9 := Ext.grown (E8.trans e89) hg9 (fun q hq => by have := HO.out.block hq; omega); have a9 : vo.ownBlock = vO.ownBlock ∨ ∃ q, vo.ownBlock = some q ∧ W1.heap.size ≤ q := at9.imp id (fun h => ⟨_, h, by first | omega | (simp <;> omega)⟩); have hp9 := (hp8.ext e89).grownBy_other hg9 (fun g hg e => (hp8.apart' ho8 (by decide) g hg) e); have b39 := (b38.ext e89).grown hg9 (fun e => by have := HO.out.block e.symm; omega); have k9 := b39.cell; have l9 := b39.lt; have f9 := b39.frozen; clear k8 l8 f8 at9; obtain ⟨Ao, no, co, rfl⟩ : ∃ A n c, vo = .slice A n c := (by obtain ⟨A, c, h, -⟩ := ho9.slR; exact ⟨_, _, _, h⟩)))
              all_goals
                have hgo7 : go < W1.heap.size := hOm.out.lt
                have BF := hid (hBk.out.fin (go := go) (by rw [hpart.out.1]; exact hOm.out) (by have := hgo.out; have := hB.out.b3.lt; omega) HNG.out HVO.out c9 E9 hp9 (by rw [rowsO_succ, hpart.out.2.1, ← hovv.out]; exact ho9) a8 a9 (fun h => (hLm.out h).lt))
                have LF := hid (fun h0 : 0 < x.ln => (((hLm.out h0).same (c9.block gl (hLm.out h0).lt (by rintro (q | q); exact (hBk.out.dl h0).2.1 q.symm; exact (hBk.out.dl h0).1 q.symm))).far (p := ⟨w.heap.size + 2, 0, none⟩) (show gl ≠ w.heap.size + 2 by have := (hBk.out.dl h0).2.2; omega) (.slice Ap np cp)).far (p := ⟨w.heap.size + 2, 1, none⟩) (show gl ≠ w.heap.size + 2 by have := (hBk.out.dl h0).2.2; omega) (.slice Ao no co))
                clear c8 E8 a8 c9 E9 a9 hp8 hp9 ho8 ho9 b38 b39 hg8 hg9 e89 s8
                go_wp2_with fail
                go_roundw
                case rel => exact ⟨k + 1, _, _, _, _, by omega, by go_num, BF, hid (by rw [hpart.out.2.2]; exact LF.out)⟩
                case measure => simp [intOf]; omega
        · obtain rfl : k = x.pn := by omega
          obtain ⟨Ap, cp, hvp, -, -⟩ := hB.out.p.rd
          obtain ⟨Ao, co, hvo, -⟩ := hB.out.o.slR
          rw [hB.out.ll] at hvp
          rw [rowsO_length] at hvo
          subst hvp hvo
          have k2 := hB.out.b2.cell
          have k2l := hB.out.b2.lt
          have k2f := hB.out.b2.frozen
          have k3 := hB.out.b3.cell
          have k3l := hB.out.b3.lt
          go_wp2_with fail
          have c : Ch (fun b => b = w.heap.size + 1) wr ((wr.setCell ⟨w.heap.size + 1, 0, none⟩ (.slice Ap x.pn cp)).setCell ⟨w.heap.size + 1, 1, none⟩ (.slice Ao x.pn co)) := (Ch.ofSet wr _ 0 _).step (Ch.ofSet _ _ 1 _) (fun _ _ h => h)
          obtain ⟨h1, h2⟩ := hB.out.out c
          exact bodyPost_ret (v := .agg #[.slice Ap x.pn cp, .slice Ao x.pn co]) (by simp [results, Tryz.results24, go_sem, k2]) rfl ⟨_, _, _, _, rfl, (hB.out.e.setCell _ (by simp)).setCell _ (by simp), h1, h2⟩
end Go.Proofs.YtbceepjjdfpfmaaGreat
