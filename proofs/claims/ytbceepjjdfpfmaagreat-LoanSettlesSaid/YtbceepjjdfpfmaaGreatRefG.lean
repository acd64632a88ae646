/- Walk of the reference's Most (55): all ways to put people into groups. At most seven people, whose nets are no greater than 6000000. -/
import Derived.Test.YtbceepjjdfpfmaaGreatRefF
import Derived.Test.YtbceepjjdfpfmaaGreatWay
import Derived.RegionTactic
namespace Go
open Go.RowKit
theorem step_append_rd_at {P : Program} {w : World} {ops : Array Oper} {o : Oper} {a : Act} {K : Act → World → Prop} {Q : Exit → Act → World → Prop} {E : Prop} (hgd : o.guard = none) (s x : Operand) (T : TypeId)
    (ho : o.op = .call { callee := .builtin .append, args := #[s, x], argTypes := #[T, T] }) {e : TypeId} {c bytes : Nat} (hE : ElemOk P T e c bytes)
    {B : Nat} {v : Value} {l : List (List Int)} (hs : a.eval s = v) (hown : OwnR w B e c v l) {A : Option Addr} {m cap : Nat} {g : Nat → Nat → Int} (hx : a.eval x = .slice A m cap) (hr : Rd w A m c g)
    (hlen : l.length + m ≤ 1000000) (hB : B ≤ w.heap.size)
    (h : ∀ v' w', OwnR w' B e c v' (l ++ rowsG c m g) → w.grownBy w' v.ownBlock → (v'.ownBlock = v.ownBlock ∨ v'.ownBlock = some w.heap.size) → K (a.put o.dst v') w') :
    if Region.wanted o (yielded ops a.tmps) = true then Oper.wp P o a w K Q else E := by
  have hw : Region.wanted o (yielded ops a.tmps) = true := by simp [Region.wanted, hgd]
  rw [if_pos hw]
  obtain ⟨i, z, hi, hz, h1, h2, h3⟩ := hE.i
  have hb0 := hE.b
  have fin : ∀ ad : Addr, A = some ad → (∀ j u, (cellsOf (rowsG c m g))[j]? = some u → w.cell? (ad.add j) = some u) → Oper.wp P o a w K Q := by
    rintro ad rfl hc
    obtain ⟨v', w', hr, h4, h5, -, h6⟩ := run_append_own_at (P := P) w B T o.type e i z c bytes hE.u hi hz h1 h2 h3 hE.c0 v l.length (cellsOf l) hown.2 ad m cap (cellsOf (rowsG c m g)) (by rw [cellsOf_length rowsG_row, rowsG_length]) hc cellsOf_one (by unfold maxLen; omega) (by have := Nat.mul_le_mul hlen hb0; omega) hB
    unfold Oper.wp execOp
    simp only [ho, resolve, invoke, builtin, Sem.run_bind, Sem.run_pure, Result.andThen_ok, List.map_toArray, List.map_cons, List.map_nil, hs, hx, hr]
    exact h v' w' ⟨fun q hq => (List.mem_append.1 hq).elim (hown.1 q) (rowsG_row q), by rw [List.length_append, rowsG_length, cellsOf_append]; exact h4⟩ h5 h6
  rcases Nat.eq_zero_or_pos m with h0 | h0
  · subst h0
    cases A with
    | some ad => exact fin ad rfl (fun j u hu => by simp [rowsG, cellsOf] at hu)
    | none =>
      unfold Oper.wp execOp
      have hrn := run_append_nothing (P := P) (w := w) B T o.type e i c hE.u hi v l.length (cellsOf l) hown.2 cap
      simp only [ho, resolve, invoke, builtin, Sem.run_bind, Sem.run_pure, Result.andThen_ok, List.map_toArray, List.map_cons, List.map_nil, hs, hx, hrn]
      exact h v w (by simpa [rowsG] using hown) (World.grownBy.refl w _) (.inl rfl)
  · obtain ⟨b, o', hA, hc⟩ := hr h0
    refine fin _ hA fun j u hu => ?_
    obtain ⟨k, q, hk, hq, rfl, rfl⟩ := cellsOf_rowsG hu
    have := hc k hk q hq
    rw [Go.WideShapes.add_plain, ← Nat.add_assoc]
    exact this
theorem OwnR.empty {w : World} {B g : Nat} {e : TypeId} (h : w.heap[g]? = some (.cells #[] e (0, 0))) (hB : B ≤ g) : OwnR w B e 1 (.slice (some ⟨g, 0, none⟩) 0 0) [] :=
  ⟨by simp, by simp [cellsOf], .inr ⟨g, 0, #[], rfl, hB, h, Nat.le_refl _, by unfold maxLen; simp, by simp, by simp [cellsOf]⟩⟩
theorem empty_now {w W : World} {g : Nat} {t : TypeId} (e : Ext (w.alloc (.cells #[] t)) W) (hg : g = w.heap.size) : W.heap[g]? = some (.cells #[] t (0, 0)) := by
  subst hg
  exact (Blk.new w t #[]).ext e
theorem empty_next {w W : World} {g : Nat} {t : TypeId} {o : Obj} (e : Ext ((w.alloc o).alloc (.cells #[] t)) W) (hg : g = w.heap.size + 1) : W.heap[g]? = some (.cells #[] t (0, 0)) := by
  subst hg
  have h := (Blk.new (w.alloc o) t #[]).ext e
  unfold Blk at h
  simpa using h
end Go
namespace Go.Proofs.YtbceepjjdfpfmaaGreat
open Go.RowKit HandSpec LoanSpec
set_option maxHeartbeats 4000000
set_option maxRecDepth 100000
/-- Sums of groups, in a block that may be written and is not that of the nets. -/
def SumsV (w : World) (A S : Option Addr) (s : List Int) : Prop := 0 < s.length → ∃ G C, S = some ⟨G, 0, none⟩ ∧ Blk w G 3 C ∧ (∀ i, i < s.length → C[i]? = some (.int .i64 (s.getD i 0))) ∧ ∀ a, A = some a → a.block ≠ G
theorem SumsV.rd {w : World} {A S : Option Addr} {s : List Int} (h : SumsV w A S s) : Rd w S s.length 1 (fun i _ => s.getD i 0) := fun h0 => by
  obtain ⟨G, C, hS, hb, hc, _⟩ := h h0
  refine ⟨G, 0, hS, fun k hk j hj => ?_⟩
  obtain rfl : j = 0 := by omega
  rw [hb.cell]
  simpa using hc k hk
theorem SumsV.ext {w w' : World} {A S : Option Addr} {s : List Int} (h : SumsV w A S s) (e : Ext w w') : SumsV w' A S s := fun h0 => by
  obtain ⟨G, C, hS, hb, hc, hn⟩ := h h0
  exact ⟨G, C, hS, hb.ext e, hc, hn⟩
theorem getD_app_end (s : List Int) (v : Int) : (s ++ [v]).getD s.length 0 = v := by simp
theorem getD_app_old {s : List Int} {v : Int} {i : Nat} (h : i < s.length) : (s ++ [v]).getD i 0 = s.getD i 0 := by
  rw [List.getD_eq_getElem?_getD, List.getElem?_append_left h, ← List.getD_eq_getElem?_getD]
theorem sumsV_of {w : World} {B : Nat} {A : Option Addr} {v : Value} {s : List Int} {x : Int} {g : Nat → Nat → Int} (h : OwnR w B 3 1 v (rowsG 1 s.length g ++ [[x]])) (hg : ∀ i, i < s.length → g i 0 = s.getD i 0) (hA : ∀ a, A = some a → a.block < B) :
    ∃ S cap, v = .slice S (s.length + 1) cap ∧ SumsV w A S (s ++ [x]) := by
  rcases h.arrB with ⟨-, q⟩ | ⟨G, cap, rfl, hB, hcp, C, hb, hc⟩
  · simp at q
  · refine ⟨_, cap, by rw [List.length_append, rowsG_length]; rfl, fun _ => ⟨G, C, rfl, hb, fun i hi => ?_, fun a ha => by have := hA a ha; omega⟩⟩
    rw [List.length_append, rowsG_length] at hc
    rw [List.length_append] at hi
    rw [hc i hi]
    have hlen := rowsG_length 1 s.length g
    by_cases e : i < s.length
    · rw [getD_app_old e]
      have : rowsAt (rowsG 1 s.length g ++ [[x]]) i 0 = g i 0 := by
        unfold rowsAt
        rw [List.getD_eq_getElem?_getD (l := rowsG 1 s.length g ++ [[x]]), List.getElem?_append_left (by omega), ← List.getD_eq_getElem?_getD]
        exact rowsG_at e (by omega)
      exact congrArg (fun z => some (Value.int .i64 z)) (this.trans (hg i e))
    · have ei : i = s.length := by simp at hi; omega
      subst ei
      rw [getD_app_end]
      have : rowsAt (rowsG 1 s.length g ++ [[x]]) s.length 0 = x := by
        unfold rowsAt
        rw [List.getD_eq_getElem?_getD (l := rowsG 1 s.length g ++ [[x]]), List.getElem?_append_right (by omega), hlen, Nat.sub_self]
        rfl
      exact congrArg (fun z => some (Value.int .i64 z)) this
theorem set_getD (s : List Int) (j i : Nat) (u : Int) (hj : j < s.length) : (s.set j u).getD i 0 = if i = j then u else s.getD i 0 := by
  rw [List.getD_eq_getElem?_getD, List.getElem?_set]
  by_cases e : j = i
  · subst e
    rw [if_pos rfl, if_pos hj, if_pos rfl]
    rfl
  · rw [if_neg e, if_neg (fun q => e q.symm), ← List.getD_eq_getElem?_getD]
/-- A sum is written and written back. -/
theorem Ext.there_back {w w1 w2 : World} {G j : Nat} {C : Array Value} {u z : Value} (hb : Blk w G 3 C) (hz : C[j]? = some z) (e1 : Ext w w1) (e2 : Ext (w1.setCell ⟨G, j, none⟩ u) w2) : Ext w (w2.setCell ⟨G, j, none⟩ z) := by
  have b2 : Blk w2 G 3 (C.setIfInBounds j u) := (((hb.ext e1).set_ j u)).ext e2
  have b3 : Blk (w2.setCell ⟨G, j, none⟩ z) G 3 ((C.setIfInBounds j u).setIfInBounds j z) := b2.set_ j z
  have hC : (C.setIfInBounds j u).setIfInBounds j z = C := by
    obtain ⟨hj, hv⟩ := Array.getElem?_eq_some_iff.1 hz
    refine Array.ext_getElem? fun i => ?_
    by_cases e : i = j
    · subst e
      simp [hj, hv]
    · rw [Array.getElem?_setIfInBounds_ne (fun q => e q.symm), Array.getElem?_setIfInBounds_ne (fun q => e q.symm)]
  rw [hC] at b3
  have hGl := hb.lt
  have s1 := e1.size
  have s2 := e2.size
  simp only [World.size_setCell] at s2
  refine ⟨?_, ?_, ?_, by simp; omega, fun b hbl => ?_⟩
  · exact (show (w2.setCell ⟨G, j, none⟩ z).os = w2.os from rfl).trans ((Below.os e2).trans ((show (w1.setCell ⟨G, j, none⟩ u).os = w1.os from rfl).trans (Below.os e1)))
  · exact (show (w2.setCell ⟨G, j, none⟩ z).tape = w2.tape from rfl).trans ((Below.tape e2).trans ((show (w1.setCell ⟨G, j, none⟩ u).tape = w1.tape from rfl).trans (Below.tape e1)))
  · exact (show (w2.setCell ⟨G, j, none⟩ z).output = w2.output from rfl).trans ((Below.output e2).trans ((show (w1.setCell ⟨G, j, none⟩ u).output = w1.output from rfl).trans (Below.output e1)))
  · by_cases e : b = G
    · subst e
      exact b3.trans hb.symm
    · rw [Below.heap_setCell _ _ _ b e, e2.block (by simp; omega), Below.heap_setCell _ _ _ b e]
      exact e1.block hbl
theorem rd_far {w : World} {A : Option Addr} {n c : Nat} {g : Nat → Nat → Int} (h : Rd w A n c g) {p : Addr} {u : Value} (hp : ∀ a, A = some a → a.block ≠ p.block) : Rd (w.setCell p u) A n c g := fun h0 => by
  obtain ⟨b, o, hA, hc⟩ := h h0
  refine ⟨b, o, hA, fun k hk j hj => ?_⟩
  rw [World.cell?_setCell_other _ _ _ _ (by
    have := hp _ hA
    intro e
    exact this (congrArg Addr.block e).symm)]
  exact hc k hk j hj
theorem most55 {f : Nat → Int} {n capA : Nat} {A : Option Addr} (hn : n ≤ 7) (hf : ∀ i, i < n → -6000000 ≤ f i ∧ f i ≤ 6000000) : ∀ (k : Nat) (s : List Int) (w : World) (S : Option Addr) (M cs : Nat) (q : Int), k ≤ n → q = ((n - k : Nat) : Int) → s.length = M → M + k ≤ n →
    Rd w A n 1 (fun i _ => f i) → SumsV w A S s → (∀ i, i < s.length → -6000000 * (n - k : Nat) ≤ s.getD i 0 ∧ s.getD i 0 ≤ 6000000 * (n - k : Nat)) →
    Calls Tryz.prog 55 #[.slice A n capA, .slice S M cs, .int .i64 q] w fun e w' => e = .returned (.int .i64 (mostM f n k s)) ∧ Ext w w'
  | 0, s, w, S, M, cs, q, hk, hq, hM, hMk, hA, hS, hb => by
    have HS := hid hS.rd
    rw [hM] at HS
    obtain ⟨r, hr⟩ : ∃ r, Hid (mostM f n 0 s = r) := ⟨_, hid rfl⟩
    have hR := hid (show r = if anyTo (fun i => s.getD i 0 != 0) M then -1 else (M : Int) by rw [← hr.out, ← hM]; rfl)
    rw [hr.out]
    rw [Nat.sub_zero] at hq
    subst hq
    clear hA hS hb hf hr hM
    go_enter Tryz.func55, Tryz.ntmps55
    go_upto_region 3 with fail
    go_loopw [7] (fun i wr => ∃ j : Nat, j ≤ M ∧ i = .int .i64 (j : Int) ∧ Hid (∀ i, i < j → (s.getD i 0 != 0) = false) ∧ Ext w wr) (fun i _ => M - (intOf i).toNat)
    case atStart => exact ⟨0, Nat.zero_le _, rfl, hid fun _ h => absurd h (by omega), Ext.refl _⟩
    case round =>
      obtain ⟨j, hj, rfl, hp, he⟩ := hrel
      by_cases hlt : j < M
      · obtain ⟨b, o, rfl, hb, hc⟩ := (HS.out.ext he).at1 hlt
        obtain ⟨x, hx⟩ : ∃ x, Hid (s.getD j 0 = x) := ⟨_, hid rfl⟩
        rw [hx.out] at hc
        by_cases hx0 : x = 0
        · have tx : (x != 0) = false := by simpa using hx0
          go_wp2_with fail
          go_roundw
          case rel => exact ⟨j + 1, by omega, by go_num, hid (anyTo_step hp.out (by rw [hx.out]; exact tx)), he⟩
          case measure => simp [intOf]; omega
        · have tx : (x != 0) = true := by simpa using hx0
          have hr1 := hid (show r = -1 by
            have e : anyTo (fun i => s.getD i 0 != 0) M = true := anyTo_true.2 ⟨j, hlt, by rw [hx.out]; exact tx⟩
            rw [hR.out, e]; rfl)
          go_wp2_with fail
          go_ret
          exact ⟨ret_int hr1.out.symm, he⟩
      · have hjM : j = M := by omega
        have hr1 := hid (show r = (M : Int) by
          have e : anyTo (fun i => s.getD i 0 != 0) M = false := anyTo_false.2 (by rw [← hjM]; exact hp.out)
          rw [hR.out, e]; rfl)
        go_wp2_with fail
        go_ret
        exact ⟨ret_int hr1.out.symm, he⟩
  | k + 1, s, w, S, M, cs, q, hk, hq, hM, hMk, hA, hS, hb => by
    have IH := hid (fun s w S M cs q => most55 (capA := capA) (A := A) hn hf k s w S M cs q (by omega))
    have HA := hid hA
    have HS := hid hS
    have HR := hid hS.rd
    rw [hM] at HR
    obtain ⟨p, hp⟩ : ∃ p, Hid (n - (k + 1) = p) := ⟨_, hid rfl⟩
    have hpk := hid (show n - k = p + 1 by have := hp.out; omega)
    rw [hp.out] at hq hb
    rw [hpk.out] at IH
    have hpn : p < n := by have := hp.out; omega
    subst hq
    have hb2 := hid hb
    obtain ⟨r, hr⟩ : ∃ r, Hid (mostM f n (k + 1) s = r) := ⟨_, hid rfl⟩
    have hstep := hid (show r = if f p = 0 then mostM f n k s else maxTo (fun j => mostM f n k (s.set j (s.getD j 0 + f p))) (mostM f n k (s ++ [f p])) M by rw [← hr.out, ← hM, ← hp.out]; rfl)
    rw [hr.out]
    obtain ⟨v, hv⟩ : ∃ v, Hid (f p = v) := ⟨_, hid rfl⟩
    have hvb := hf p hpn
    rw [hv.out] at hvb hstep
    obtain ⟨b0, o0, hA0, hbl0, hc0⟩ := hA.at1 hpn
    subst hA0
    rw [hv.out] at hc0
    have hne : ((p : Int) == (n : Int)) = false := by simp; omega
    have hp8 : (p : Int) < 7 := by omega
    clear hA hS hb hf hr hp
    by_cases hv0 : v = 0
    · have hr1 := hid (show r = mostM f n k s by rw [hstep.out, if_pos hv0])
      have tv : (v == 0) = true := by simpa using hv0
      clear hv0
      go_enter Tryz.func55, Tryz.ntmps55
      go_wp2_with (go_at_call 55; refine (IH.out s w S M cs _ (by push_cast; rfl) hM (by omega) HA.out HS.out (fun i hi => by have := hb2.out i hi; push_cast; omega)).mono ?_; rintro e w1 ⟨rfl, he1⟩)
      go_ret
      exact ⟨ret_int hr1.out.symm, he1⟩
    · have hr1 := hid (show r = maxTo (fun j => mostM f n k (s.set j (s.getD j 0 + v))) (mostM f n k (s ++ [v])) M by rw [hstep.out, if_neg hv0])
      have tv : (v == 0) = false := by simpa using hv0
      clear hstep hv0
      obtain ⟨r0, hr0⟩ : ∃ r, Hid (mostM f n k (s ++ [v]) = r) := ⟨_, hid rfl⟩
      rw [hr0.out] at hr1
      go_enter Tryz.func55, Tryz.ntmps55
      go_upto_region 10 with fail
      have hbn := hid (show ∀ i, i < (s ++ [v]).length → -6000000 * ((p + 1 : Nat) : Int) ≤ (s ++ [v]).getD i 0 ∧ (s ++ [v]).getD i 0 ≤ 6000000 * ((p + 1 : Nat) : Int) from fun i hi => by
        push_cast
        by_cases e : i < s.length
        · rw [getD_app_old e]
          have := hb2.out i e
          omega
        · have ei : i = s.length := by simp at hi; omega
          subst ei
          rw [getD_app_end]
          omega)
      have hwr : IntKind.i64.wrap ((p : Int) + 1) = (p : Int) + 1 := IntWalk.i64_in _ (by omega)
      go_region_law (first
        | (refine step_append_rows_at (by rfl) _ _ 22 (by rfl) el22 (by rfl) (hp8.ext (Ext.alloc (Ext.refl _) _)) _ 1 1 [[v]] (by rfl) (by simp) (by simp) (by intro j; simp [cellsOf]) (by simp [rowsG_length]; omega) (by first | omega | (simp <;> omega)) ?_; intro vo w9 ho9 hg9 at9; have E9 : Ext w w9 := Ext.grown (by repeat (first | exact Ext.refl _ | assumption | refine Ext.drew ?_ | refine Ext.alloc ?_ _)) hg9 (fun q hq => hp8.block hq); rw [List.nil_append, ← hM] at ho9; obtain ⟨S', cap', rfl, hS'⟩ := sumsV_of (A := some ⟨b0, o0, none⟩) (s := s) ho9 (fun _ _ => rfl) (fun a ha => by cases ha; exact hbl0); rw [hM]; have HS' := hid hS'; clear hS' ho9)
        | (refine step_append_rows_at (by rfl) _ _ 22 (by rfl) el22 (by rfl) hp8 _ 1 1 [[v]] (by rfl) (by simp) (by simp) (by intro j; refine (World.cell?_of_block (a := ⟨_, j, none⟩) (hg8.block _ (by first | omega | (simp <;> omega)) (fun e => by first | (simp [Value.ownBlock] at e; done) | (simp [Value.ownBlock] at e; omega)))).trans ?_; simp [cellsOf]) (by simp [rowsG_length]; omega) (by first | omega | (simp <;> omega)) ?_; intro vo w9 ho9 hg9 at9; have E9 : Ext w w9 := Ext.grown (by repeat (first | exact Ext.refl _ | assumption | refine Ext.drew ?_ | refine Ext.alloc ?_ _)) hg9 (fun q hq => hp8.block hq); rw [List.nil_append, ← hM] at ho9; obtain ⟨S', cap', rfl, hS'⟩ := sumsV_of (A := some ⟨b0, o0, none⟩) (s := s) ho9 (fun _ _ => rfl) (fun a ha => by cases ha; exact hbl0); rw [hM]; have HS' := hid hS'; clear hS' ho9)
        | (go_simp; go_at_call 55; (refine (IH.out (s ++ [v]) _ S' (M + 1) cap' _ (by push_cast; rfl) (by rw [List.length_append, hM]; rfl) (by omega) (HA.out.ext (by repeat (first | exact Ext.refl _ | assumption | refine Ext.drew ?_ | refine Ext.alloc ?_ _))) (HS'.out.ext (by repeat (first | exact Ext.refl _ | assumption | refine Ext.drew ?_ | refine Ext.alloc ?_ _))) hbn.out).mono ?_); rintro e w10 ⟨rfl, he10⟩; rw [hr0.out]; have E10 : Hid (Ext w w10) := hid (Ext.trans (by repeat (first | exact Ext.refl _ | assumption | refine Ext.drew ?_ | refine Ext.alloc ?_ _)) he10))
        | (refine step_append_rd_at (by rfl) _ _ 22 (by rfl) el22 (by rfl) (B := w.heap.size) (OwnR.empty (by first | exact empty_now (by repeat (first | exact Ext.refl _ | assumption | refine Ext.drew ?_ | refine Ext.alloc ?_ _)) rfl | exact empty_next (by repeat (first | exact Ext.refl _ | assumption | refine Ext.drew ?_ | refine Ext.alloc ?_ _)) rfl) (by simp <;> omega)) (by rfl) (HR.out.ext (by repeat (first | exact Ext.refl _ | assumption | refine Ext.drew ?_ | refine Ext.alloc ?_ _))) (by simp; omega) (by simp <;> omega) ?_; intro vp w8 hp8 hg8 at8; have E8 : Ext w w8 := Ext.grown (by repeat (first | exact Ext.refl _ | assumption | refine Ext.drew ?_ | refine Ext.alloc ?_ _)) hg8 (fun q hq => by simp only [Value.ownBlock, Option.some.injEq] at hq; first | omega | (simp at hq; omega) | (rw [← hq]; simp)); have s8 := E8.size; have c8 := E8.some_ hc0; have l8 := Nat.lt_of_lt_of_le hbl0 E8.size))
      all_goals
        as_aux_lemma =>
          have HF := hid (show ∀ (m : Nat), maxTo (fun j => mostM f n k (s.set j (s.getD j 0 + v))) r0 (m + 1) = max (maxTo (fun j => mostM f n k (s.set j (s.getD j 0 + v))) r0 m) (mostM f n k (s.set m (s.getD m 0 + v))) from fun _ => rfl)
          obtain ⟨F, hF⟩ : ∃ F : Nat → Int, Hid ((fun m => maxTo (fun j => mostM f n k (s.set j (s.getD j 0 + v))) r0 m) = F) := ⟨_, hid rfl⟩
          have HF := hid (show ∀ (m : Nat), F (m + 1) = max (F m) (mostM f n k (s.set m (s.getD m 0 + v))) from fun m => by rw [← hF.out]; exact HF.out m)
          have hF0 := hid (show F 0 = r0 by rw [← hF.out]; rfl)
          have hr2 := hid (show r = F M by rw [hr1.out, ← hF.out])
          go_upto_region 12 with fail
          clear hc0
          go_loopw [8, 9] (fun b i wr => ∃ j : Nat, j ≤ M ∧ i = .int .i64 (j : Int) ∧ b = .int .i64 (F j) ∧ Ext w wr) (fun _ i _ => M - (intOf i).toNat)
          case atStart => exact ⟨0, Nat.zero_le _, rfl, by rw [hF0.out], E10.out⟩
          case round =>
            obtain ⟨j, hj, rfl, rfl, he⟩ := hrel
            by_cases hlt : j < M
            · obtain ⟨G, C, hS, hbG, hcG, hnG⟩ := (HS.out.ext he) (by omega)
              subst hS
              obtain ⟨x, hx⟩ : ∃ x, Hid (s.getD j 0 = x) := ⟨_, hid rfl⟩
              have hxc := hcG j (by omega)
              have hxb := hb2.out j (by omega)
              rw [hx.out] at hxc hxb
              have BG := hid hbG
              have CG := hid hxc
              have hbG0 : b0 ≠ G := hnG _ rfl
              have kx : wr.cell? ⟨G, j, none⟩ = some (.int .i64 x) := by rw [hbG.cell]; exact hxc
              have kf := hbG.frozen j
              have kl := hbG.lt
              obtain ⟨b1, o1, hA1, hbl1, hc1⟩ := (HA.out.ext he).at1 hpn
              cases hA1
              rw [hv.out] at hc1
              have hst := hid (HF.out j)
              rw [hx.out] at hst
              obtain ⟨t, ht⟩ : ∃ t, Hid (mostM f n k (s.set j (x + v)) = t) := ⟨_, hid rfl⟩
              rw [ht.out] at hst
              obtain ⟨z, hz⟩ : ∃ z, Hid (F j = z) := ⟨_, hid rfl⟩
              rw [hz.out] at hst ⊢
              have hmx : (if z < t then t else z) = max z t := by omega
              have hcG' := hid hcG
              have hbs := hid (show ∀ i, i < (s.set j (x + v)).length → -6000000 * ((p + 1 : Nat) : Int) ≤ (s.set j (x + v)).getD i 0 ∧ (s.set j (x + v)).getD i 0 ≤ 6000000 * ((p + 1 : Nat) : Int) from fun i hi => by
                push_cast
                rw [List.length_set] at hi
                rw [set_getD s j i _ (by omega)]
                have := hb2.out i hi
                split <;> omega)
              have hxv : -100000000 ≤ x ∧ x ≤ 100000000 := by omega
              clear hbG hcG hnG hxc hxb
              go_upto_region 14 with fail
              refine wp_region_tail 12 (by kernel_rfl) (by kernel_rfl) ?_
              simp only [List.take_succ_cons, List.take_zero, List.drop_succ_cons, List.drop_zero]
              repeat (go_big_quiet_step (fail))
              refine wpQuiet_nil ?_
              rintro w7 ⟨⟨_, he7⟩, rfl⟩
              have b7 := BG.out.ext he7
              have kf := b7.frozen j
              have kl := b7.lt
              have kx := (b7.cell j).trans CG.out
              have kn := he7.some_ hc1
              have knl := Nat.lt_of_lt_of_le hbl1 he7.size
              go_upto_region 15 with fail
              have SV := hid (show SumsV (w7.setCell ⟨G, j, none⟩ (.int .i64 (x + v))) (some ⟨b0, o0, none⟩) (some ⟨G, 0, none⟩) (s.set j (x + v)) from fun _ => ⟨G, _, rfl, b7.set_ j _, fun i hi => by
                rw [List.length_set] at hi
                rw [set_getD s j i _ (by omega)]
                by_cases e : i = j
                · subst e
                  rw [if_pos rfl]
                  have := hcG'.out i hi
                  obtain ⟨hlt2, _⟩ := Array.getElem?_eq_some_iff.1 this
                  simp [hlt2]
                · rw [if_neg e, Array.getElem?_setIfInBounds_ne (fun q => e q.symm)]
                  exact hcG'.out i hi, fun a ha => by cases ha; exact hbG0⟩)
              have HA8 := hid (rd_far ((HA.out.ext he).ext he7) (p := ⟨G, j, none⟩) (u := .int .i64 (x + v)) (fun a ha => by cases ha; exact hbG0))
              have B7 := hid (b7.set_ j (.int .i64 (x + v)))
              have hCj : (C.setIfInBounds j (.int .i64 (x + v)))[j]? = some (.int .i64 (x + v)) := by
                obtain ⟨hlt2, _⟩ := Array.getElem?_eq_some_iff.1 CG.out
                simp [hlt2]
              have HCj := hid hCj
              obtain ⟨w8, hw8⟩ : ∃ W : World, Hid (W = w7.setCell ⟨G, j, none⟩ (.int .i64 (x + v))) := ⟨_, hid rfl⟩
              rw [← hw8.out] at SV HA8 B7 ⊢
              clear kx kf kl kn knl b7 hCj hc1
              go_upto_region 16 with (go_at_call 55; refine (IH.out (s.set j (x + v)) w8 _ M cs _ (by push_cast; rfl) (by rw [List.length_set]; exact hM) (by omega) HA8.out SV.out hbs.out).mono ?_; rintro e w9 ⟨rfl, he9⟩; rw [ht.out])
              have b9 := B7.out.ext he9
              have kx := (b9.cell j).trans HCj.out
              have kf := b9.frozen j
              have kl := b9.lt
              obtain ⟨b2, o2, hA2, hbl2, hc2⟩ := (HA8.out.ext he9).at1 hpn
              cases hA2
              rw [hv.out] at hc2
              refine wp_region_tail 12 (by kernel_rfl) (by kernel_rfl) ?_
              simp only [List.take_succ_cons, List.take_zero, List.drop_succ_cons, List.drop_zero]
              repeat (go_big_quiet_step (fail))
              refine wpQuiet_nil ?_
              rintro w10 ⟨⟨_, he10⟩, rfl⟩
              have b10 := b9.ext he10
              have kf := b10.frozen j
              have kl := b10.lt
              have kx := (b10.cell j).trans HCj.out
              go_wp2_with fail
              go_roundw
              case rel => exact ⟨j + 1, by omega, by go_num, by rw [hst.out], he.trans (Ext.there_back BG.out CG.out he7 (by rw [hw8.out] at he9; exact he9.trans he10))⟩
              case measure => simp [intOf]; omega
            · have hjM : j = M := by omega
              have hr3 := hid (show r = F j by rw [hr2.out, hjM])
              go_wp2_with fail
              go_ret
              exact ⟨ret_int hr3.out.symm, he⟩
end Go.Proofs.YtbceepjjdfpfmaaGreat
