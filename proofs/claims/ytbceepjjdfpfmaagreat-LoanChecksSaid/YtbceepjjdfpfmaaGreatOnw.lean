/- Walk of Own (19) whose lists are one's own; Lend, Pay and Forgive for every argument; 'clear' of an own list. Lists are no longer than 1000. -/
import Derived.Test.YtbceepjjdfpfmaaGreatFrg
namespace Go.Proofs.YtbceepjjdfpfmaaGreat
open Go.RowKit HandSpec LoanSpec
set_option maxHeartbeats 4000000
set_option maxRecDepth 100000
/-- A ledger whose lists lie there, each its own. -/
def OwnQ (w : World) (B : Nat) (x : LD) (q : LA) : Prop := OwnLg w B x (.slice q.A1 x.bn q.c1) (.slice q.A2 x.fn q.c2) (.slice q.A3 x.ln q.c3) (.slice q.A4 x.pn q.c4) (.slice q.A5 x.mn q.c5)
theorem OwnQ.la {w : World} {B : Nat} {x : LD} {q : LA} (h : OwnQ w B x q) : IsLA w x q := OwnLg.la (D1 := q.A1) (D2 := q.A2) (D3 := q.A3) (D4 := q.A4) (D5 := q.A5) h
theorem OwnQ.ext {w w' : World} {B : Nat} {x : LD} {q : LA} (h : OwnQ w B x q) (e : Ext w w') : OwnQ w' B x q := OwnLg.ext h e
theorem OwnQ.base {w : World} {B B' : Nat} {x : LD} {q : LA} (h : OwnQ w B x q) (hB : B' ≤ B) : OwnQ w B' x q := OwnLg.base h hB
theorem OwnQ.of {w : World} {B : Nat} {x : LD} {u1 u2 u3 u4 u5 : Value} (h : OwnLg w B x u1 u2 u3 u4 u5) : ∃ q : LA, u1 = .slice q.A1 x.bn q.c1 ∧ u2 = .slice q.A2 x.fn q.c2 ∧ u3 = .slice q.A3 x.ln q.c3 ∧ u4 = .slice q.A4 x.pn q.c4 ∧ u5 = .slice q.A5 x.mn q.c5 ∧ OwnQ w B x q := by
  obtain ⟨D1, q1, rfl, -⟩ := h.o1.slR
  obtain ⟨D2, q2, rfl, -⟩ := h.o2.slR
  obtain ⟨D3, q3, rfl, -⟩ := h.o3.slR
  obtain ⟨D4, q4, rfl, -⟩ := h.o4.slR
  obtain ⟨D5, q5, rfl, -⟩ := h.o5.slR
  simp only [rowsG_length] at h ⊢
  exact ⟨⟨D1, q1, D2, q2, D3, q3, D4, q4, D5, q5⟩, rfl, rfl, rfl, rfl, rfl, h⟩
/-- No ledger. -/
def Z0 : LD := ⟨0, 0, 0, 0, 0, 0, 0, fun _ => 0, fun _ => 0, fun _ _ => 0, fun _ _ => 0, fun _ _ => 0⟩
def nilA : LA := ⟨none, 0, none, 0, none, 0, none, 0, none, 0⟩
theorem zeroL_eq : ZeroL = ledV Z0 nilA := rfl
theorem OwnQ.zero {w : World} {B : Nat} : OwnQ w B Z0 nilA := ⟨OwnR.nil, OwnR.nil, OwnR.nil, OwnR.nil, OwnR.nil, fun q hq => by cases hq⟩
theorem Sm.zero : Sm Z0 := ⟨Nat.zero_le _, Nat.zero_le _, Nat.zero_le _, Nat.zero_le _, Nat.zero_le _⟩
/-- The ledger that is handed back. -/
def newLD (er : Int) (y : LD) : LD := if er = 0 then y else Z0
theorem lend_any {x : LD} {w : World} {p : LA} (hv : IsLA w x p) (hm : Sm x) (a y n : Int) :
    Calls Tryz.prog 82 #[ledV x p, .agg #[.int .i64 a, .int .i64 y, .int .i64 n]] w fun e w' => ∃ q, e = .returned (.tuple #[ledV (newLD (lendEr x a y n) (lendD x a y n)) q, .int .i64 (lendEr x a y n)]) ∧ Ext w w' ∧ OwnQ w' w.heap.size (newLD (lendEr x a y n) (lendD x a y n)) q := by
  refine (lend82 hv hm a y n).mono ?_
  rintro e w' ⟨v, rfl, he, h0, hok⟩
  by_cases h : lendEr x a y n = 0
  · obtain ⟨u1, u2, u3, u4, u5, rfl, hO⟩ := hok h
    obtain ⟨q, rfl, rfl, rfl, rfl, rfl, hq⟩ := OwnQ.of hO
    unfold newLD
    rw [if_pos h]
    exact ⟨q, rfl, he, hq⟩
  · rw [h0 h]
    unfold newLD
    rw [if_neg h]
    exact ⟨nilA, rfl, he, OwnQ.zero⟩
theorem pay_any {x : LD} {w : World} {p : LA} (hv : IsLA w x p) (hm : Sm x) (a y n : Int) :
    Calls Tryz.prog 83 #[ledV x p, .agg #[.int .i64 a, .int .i64 y, .int .i64 n]] w fun e w' => ∃ q, e = .returned (.tuple #[ledV (newLD (payEr x a y n) (payD x a y n)) q, .int .i64 (payEr x a y n)]) ∧ Ext w w' ∧ OwnQ w' w.heap.size (newLD (payEr x a y n) (payD x a y n)) q := by
  refine (pay83 hv hm a y n).mono ?_
  rintro e w' ⟨v, rfl, he, h0, hok⟩
  by_cases h : payEr x a y n = 0
  · obtain ⟨u1, u2, u3, u4, u5, rfl, hO⟩ := hok h
    obtain ⟨q, rfl, rfl, rfl, rfl, rfl, hq⟩ := OwnQ.of hO
    unfold newLD
    rw [if_pos h]
    exact ⟨q, rfl, he, hq⟩
  · rw [h0 h]
    unfold newLD
    rw [if_neg h]
    exact ⟨nilA, rfl, he, OwnQ.zero⟩
/-- The loans below j that are forgiven then. -/
def forgTo (x : LD) (i : Int) (j : Nat) : List Int := ((List.range j).filter fun k : Nat => ((k : Int) == i) || hasB x.fo x.fn (k : Int)).map fun k : Nat => (k : Int)
theorem forgTo_succ (x : LD) (i : Int) (j : Nat) : forgTo x i (j + 1) = forgTo x i j ++ (if ((j : Int) == i || hasB x.fo x.fn (j : Int)) then [(j : Int)] else []) := by
  unfold forgTo
  rw [List.range_succ, List.filter_append, List.map_append]
  congr 1
  cases hb : ((j : Int) == i || hasB x.fo x.fn (j : Int)) <;> simp [hb]
theorem forgTo_len (x : LD) (i : Int) (j : Nat) : (forgTo x i j).length ≤ j := by
  unfold forgTo
  rw [List.length_map]
  exact Nat.le_trans (List.length_filter_le _ _) (by simp)
theorem fgL_mem {x : LD} {i z : Int} : z ∈ forgL x i ↔ (∃ k, k < x.fn ∧ x.fo k = z) ∨ z = i := by
  unfold forgL
  simp
theorem hasB_is {f : Nat → Int} {n : Nat} {z : Int} : hasB f n z = true ↔ ∃ k, k < n ∧ f k = z := by
  unfold hasB
  rw [anyTo_true]
  simp
theorem fgL_nodup {x : LD} (hx : Ok x) {i : Int} (hi : hasB x.fo x.fn i = false) : (forgL x i).Nodup := by
  have hr : ∀ a b, a < b → b < x.fn → x.fo a < x.fo b := fun a b hab => by
    induction b with
    | zero => omega
    | succ b ih =>
      intro hb
      have h1 := hx.finc b hb
      rcases Nat.lt_or_ge a b with h | h
      · have := ih h (by omega); omega
      · obtain rfl : a = b := by omega
        exact h1
  unfold forgL
  rw [List.nodup_append]
  refine ⟨?_, by simp, ?_⟩
  · show List.Pairwise (· ≠ ·) ((List.range x.fn).map x.fo)
    rw [List.pairwise_map]
    exact (List.pairwise_lt_range).imp_of_mem fun {a b} _ hb h => by
      have := hr a b h (List.mem_range.1 hb)
      omega
  · intro a ha b hb
    simp at hb
    subst hb
    rintro rfl
    simp at ha
    have := hasB_is.2 ha
    rw [hi] at this
    cases this
theorem forgTo_is {x : LD} (hx : Ok x) {i : Nat} (hi : i < x.ln) (hno : hasB x.fo x.fn (i : Int) = false) {l : List Int} (hp : l.Perm (forgL x (i : Int))) (hs : SortedI l l.length) : l = forgTo x (i : Int) x.ln := by
  have hm : ∀ z, z ∈ l ↔ (∃ k, k < x.fn ∧ x.fo k = z) ∨ z = (i : Int) := fun z => by rw [hp.mem_iff, fgL_mem]
  have hnd : l.Nodup := (hp.nodup_iff).2 (fgL_nodup hx hno)
  have p1 : l.Pairwise (· ≤ ·) := by
    rw [List.pairwise_iff_getElem]
    intro a b ha hb hab
    have := hs a b hab hb
    rwa [ni_get l ha, ni_get l hb] at this
  have p2 : (forgTo x (i : Int) x.ln).Pairwise (· < ·) := by
    unfold forgTo
    rw [List.pairwise_map]
    exact ((List.pairwise_lt_range).filter _).imp fun h => by omega
  have hn2 : (forgTo x (i : Int) x.ln).Nodup := p2.imp fun h => by omega
  have hpm : l.Perm (forgTo x (i : Int) x.ln) := (List.perm_ext_iff_of_nodup hnd hn2).2 fun z => by
    rw [hm]
    unfold forgTo
    simp only [List.mem_map, List.mem_filter, List.mem_range, Bool.or_eq_true, beq_iff_eq, hasB_is]
    constructor
    · rintro (⟨k, hk, rfl⟩ | rfl)
      · have := hx.fo k hk
        exact ⟨(x.fo k).toNat, ⟨by omega, .inr ⟨k, hk, by omega⟩⟩, by omega⟩
      · exact ⟨i, ⟨hi, .inl rfl⟩, rfl⟩
    · rintro ⟨k, ⟨hk, h | ⟨j, hj, h⟩⟩, rfl⟩
      · exact .inr h
      · exact .inl ⟨j, hj, h⟩
  exact hpm.eq_of_pairwise (le := (· ≤ ·)) (fun a b _ _ h1 h2 => by omega) p1 (p2.imp fun h => by omega)
theorem forgE_ok {x : LD} {i : Int} (h : forgE x i = 0) : Ok x ∧ ∃ j : Nat, i = (j : Int) ∧ j < x.ln ∧ hasB x.fo x.fn (j : Int) = false := by
  unfold forgE at h
  by_cases h0 : P.errL x i = 0
  · rw [if_neg (by rw [h0]; simp)] at h
    obtain ⟨hx, -, j, rfl, hj⟩ := P.ok_of_errL h0
    cases hb : hasB x.fo x.fn (j : Int)
    · exact ⟨hx, j, rfl, hj, hb⟩
    · rw [hb] at h
      cases h
  · rw [if_pos h0] at h
    exact absurd h h0
theorem forg_any {x : LD} {w : World} {p : LA} (hv : IsLA w x p) (hm : Sm x) (i : Int) :
    Calls Tryz.prog 84 #[ledV x p, .int .i64 i] w fun e w' => ∃ q, e = .returned (.tuple #[ledV (newLD (forgE x i) (forgD x (forgTo x i x.ln))) q, .int .i64 (forgE x i)]) ∧ Ext w w' ∧ OwnQ w' w.heap.size (newLD (forgE x i) (forgD x (forgTo x i x.ln))) q := by
  refine (forgive84 hv hm i).mono ?_
  rintro e w' ⟨v, rfl, he, h0, hok⟩
  by_cases h : forgE x i = 0
  · obtain ⟨l, u1, u2, u3, u4, u5, hp, hs, rfl, hO⟩ := hok h
    obtain ⟨hx, j, rfl, hj, hno⟩ := forgE_ok h
    obtain rfl := forgTo_is hx hj hno hp hs
    obtain ⟨q, rfl, rfl, rfl, rfl, rfl, hq⟩ := OwnQ.of hO
    unfold newLD
    rw [if_pos h]
    exact ⟨q, rfl, he, hq⟩
  · rw [h0 h]
    unfold newLD
    rw [if_neg h]
    exact ⟨nilA, rfl, he, OwnQ.zero⟩
theorem own19O {x : LD} {w : World} {v : Value} (hv : IsL w v x) (hm : Sm x) :
    Calls Tryz.prog 19 #[v] w fun e w' => ∃ q, e = .returned (ledV x q) ∧ Ext w w' ∧ OwnQ w' w.heap.size x q := by
  obtain ⟨h1, h2, h3, h4, h5⟩ := hm
  obtain ⟨A1, c1, A2, c2, A3, c3, A4, c4, A5, c5, rfl, r1, r2, r3, r4, r5⟩ := hv
  have R1 := hid r1
  have R2 := hid r2
  have R3 := hid r3
  have R4 := hid r4
  have R5 := hid r5
  clear r1 r2 r3 r4 r5
  go_enter Tryz.func19, Tryz.ntmps19
  go_upto_region 1 with fail
  refine wp_later fun w1 hw1 => ?_
  obtain ⟨E0, b1, b2⟩ := hw1.newB2
  have B2 := hid b2
  have k1 := b1.cell
  have k1l := b1.lt
  have hz1 := b2.lt
  clear hw1 b1 b2
  refine wp_region_mono 19 [(6, OwI 3 1 x.bn (fun k _ => x.bad k)), (9, OwI 3 1 x.fn (fun k _ => x.fo k)), (12, OwI 68 3 x.ln x.lo), (15, OwI 71 3 x.pn x.pa), (18, OwI 64 3 x.mn x.pr)] (by kernel_rfl) (by kernel_rfl) (by kernel_rfl) ?hS ?_
  case hS =>
    simp only [List.forall_mem_cons]
    exact ⟨fun _ _ _ _ _ e h => OwI.ext h e, fun _ _ _ _ _ e h => OwI.ext h e, fun _ _ _ _ _ e h => OwI.ext h e, fun _ _ _ _ _ e h => OwI.ext h e, fun _ _ _ _ _ e h => OwI.ext h e, fun _ h => by simp at h⟩
  simp only [List.take_succ_cons, List.take_zero, List.drop_succ_cons, List.drop_zero]
  iterate 6
    refine wpM_plain rfl ?_
    go_big_quiet_step (fail)
    refine wpQuiet_nil ?_
  refine wpM_spec _ rfl rfl (fun w4 hw4 _ => ?_) (fun va la ha ga1 ga2 da hva => ?_)
  · go_wp2_with (go_at_call 66; refine (dup66 (R1.out.ext (E0.trans hw4)) h1).mono ?_; rintro e w5 ⟨u, rfl, he5, ho⟩)
    exact ⟨_, _, _, rfl, he5, Nat.le_refl _, he5.size, Nat.le_refl _, ho, fun q hq => ho.lt hq⟩
  simp only [Act.put, List.setIfInBounds_toArray, List.set_cons_succ, List.set_cons_zero]
  obtain ⟨wa, hva⟩ := hva
  obtain ⟨D1, q1, rfl, -⟩ := OwnR.slR hva.1
  clear hva
  rw [rowsG_length]
  iterate 2
    refine wpM_plain rfl ?_
    go_big_quiet_step (fail)
    refine wpQuiet_nil ?_
  refine wpM_spec _ rfl rfl (fun w4 hw4 _ => ?_) (fun vb lb hb gb1 gb2 db hvb => ?_)
  · go_wp2_with (go_at_call 66; refine (dup66 (R2.out.ext (E0.trans hw4)) h2).mono ?_; rintro e w5 ⟨u, rfl, he5, ho⟩)
    exact ⟨_, _, _, rfl, he5, Nat.le_refl _, he5.size, Nat.le_refl _, ho, fun q hq => ho.lt hq⟩
  simp only [Act.put, List.setIfInBounds_toArray, List.set_cons_succ, List.set_cons_zero]
  obtain ⟨wb, hvb⟩ := hvb
  obtain ⟨D2, q2, rfl, -⟩ := OwnR.slR hvb.1
  clear hvb
  rw [rowsG_length]
  iterate 2
    refine wpM_plain rfl ?_
    go_big_quiet_step (fail)
    refine wpQuiet_nil ?_
  refine wpM_spec _ rfl rfl (fun w4 hw4 _ => ?_) (fun vc lc hc gc1 gc2 dc hvc => ?_)
  · go_wp2_with (go_at_call 92; refine (dup92 (R3.out.ext (E0.trans hw4)) h3).mono ?_; rintro e w5 ⟨u, rfl, he5, ho⟩)
    exact ⟨_, _, _, rfl, he5, Nat.le_refl _, he5.size, Nat.le_refl _, ho, fun q hq => ho.lt hq⟩
  simp only [Act.put, List.setIfInBounds_toArray, List.set_cons_succ, List.set_cons_zero]
  obtain ⟨wc, hvc⟩ := hvc
  obtain ⟨D3, q3, rfl, -⟩ := OwnR.slR hvc.1
  clear hvc
  rw [rowsG_length]
  iterate 2
    refine wpM_plain rfl ?_
    go_big_quiet_step (fail)
    refine wpQuiet_nil ?_
  refine wpM_spec _ rfl rfl (fun w4 hw4 _ => ?_) (fun vd ld hd gd1 gd2 dd hvd => ?_)
  · go_wp2_with (go_at_call 93; refine (dup93 (R4.out.ext (E0.trans hw4)) h4).mono ?_; rintro e w5 ⟨u, rfl, he5, ho⟩)
    exact ⟨_, _, _, rfl, he5, Nat.le_refl _, he5.size, Nat.le_refl _, ho, fun q hq => ho.lt hq⟩
  simp only [Act.put, List.setIfInBounds_toArray, List.set_cons_succ, List.set_cons_zero]
  obtain ⟨wd, hvd⟩ := hvd
  obtain ⟨D4, q4, rfl, -⟩ := OwnR.slR hvd.1
  clear hvd
  rw [rowsG_length]
  iterate 2
    refine wpM_plain rfl ?_
    go_big_quiet_step (fail)
    refine wpQuiet_nil ?_
  refine wpM_spec _ rfl rfl (fun w4 hw4 _ => ?_) (fun ve le he ge1 ge2 de hve => ?_)
  · go_wp2_with (go_at_call 50; refine (dup50 (R5.out.ext (E0.trans hw4)) h5).mono ?_; rintro e w5 ⟨u, rfl, he5, ho⟩)
    exact ⟨_, _, _, rfl, he5, Nat.le_refl _, he5.size, Nat.le_refl _, ho, fun q hq => ho.lt hq⟩
  simp only [Act.put, List.setIfInBounds_toArray, List.set_cons_succ, List.set_cons_zero]
  obtain ⟨we, hve⟩ := hve
  obtain ⟨D5, q5, rfl, -⟩ := OwnR.slR hve.1
  clear hve
  rw [rowsG_length]
  refine wpM_nil fun w6 hw6 hF => ?_
  simp only [List.forall_mem_cons] at hF db
  obtain ⟨f5, f4, f3, f2, f1, -⟩ := hF
  have k8 := (B2.out.ext hw6).cell
  have l8 := (B2.out.ext hw6).lt
  have g8 := (B2.out.ext hw6).frozen
  have HF := hid (show OwnLg w6 (w.heap.size + 2) x (.slice D1 x.bn q1) (.slice D2 x.fn q2) (.slice D3 x.ln q3) (.slice D4 x.pn q4) (.slice D5 x.mn q5) from
    ⟨f1.2.1.base (by omega), f2.2.1.base (by omega), f3.2.1.base (by omega), f4.2.1.base (by omega), f5.2.1.base (by omega), fun q hq hq2 => by
      have a1 := f1.2.1.block hq
      have a2 := f1.2.2 q hq
      have a3 := f2.2.1.block hq2
      have a4 := f2.2.2 q hq2
      rcases db.1 with h | h <;> omega⟩)
  have HW := hid (E0.trans hw6)
  clear f1 f2 f3 f4 f5 k1 k1l hw6 da db dc dd de
  go_wp2_with fail
  refine bodyPost_ret (v := .agg #[.int .i64 x.folk, .int .i64 x.years, .slice D1 x.bn q1, .slice D2 x.fn q2, .slice D3 x.ln q3, .slice D4 x.pn q4, .slice D5 x.mn q5]) (by simp [results, Tryz.results19, go_sem, k8]) rfl ?_
  exact ⟨⟨D1, q1, D2, q2, D3, q3, D4, q4, D5, q5⟩, rfl, ext7 HW.out _ _ _ _ _ _ _, OwnQ.base (B := w.heap.size + 2) (HF.out.far7 (H := w.heap.size + 1) (by omega) _ _ _ _ _ _ _) (by omega)⟩
end Go.Proofs.YtbceepjjdfpfmaaGreat
