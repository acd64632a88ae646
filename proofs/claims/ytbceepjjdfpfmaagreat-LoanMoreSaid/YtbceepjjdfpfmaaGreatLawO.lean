/- Walk of the law LoanMore (14): for all sacks and numbers it returns true. No condition. -/
import Derived.Test.YtbceepjjdfpfmaaGreatAwk
import Derived.Test.YtbceepjjdfpfmaaGreatMk
import Derived.Test.YtbceepjjdfpfmaaGreatByt
import Derived.Test.YtbceepjjdfpfmaaGreatFrg
namespace Go.Proofs.YtbceepjjdfpfmaaGreat
open Go.RowKit HandSpec LoanSpec
set_option maxHeartbeats 4000000
set_option maxRecDepth 100000
theorem lend_okD {x : LD} (hx : Ok x) (hl : x.ln < 10) {a n : Int} (ha : 1 ≤ a ∧ a ≤ x.folk - 1) (hn : 1 ≤ n ∧ n ≤ 500) : Ok (lendD x a (x.years - 1) n) := by
  have hy := hx.years
  have key : ∀ (P : Int → Int → Int → Prop), (∀ i, i < x.ln → P (x.lo i 0) (x.lo i 1) (x.lo i 2)) → P a (x.years - 1) n → ∀ i, i < x.ln + 1 → P ((lendD x a (x.years - 1) n).lo i 0) ((lendD x a (x.years - 1) n).lo i 1) ((lendD x a (x.years - 1) n).lo i 2) := fun P h1 h2 i hi => by
    unfold lendD
    dsimp only
    by_cases e : i = x.ln
    · rw [if_pos e, if_pos e, if_pos e]; exact h2
    · rw [if_neg e, if_neg e, if_neg e]; exact h1 i (by omega)
  exact {
    folk := hx.folk, years := hy, ln := (by show x.ln + 1 ≤ 10; omega), pn := hx.pn, mn := hx.mn,
    lwho := key (fun p _ _ => 1 ≤ p ∧ p ≤ x.folk - 1) hx.lwho ha, lyear := key (fun _ p _ => 0 ≤ p ∧ p ≤ x.years - 1) hx.lyear (by omega), lsack := key (fun _ _ p => 1 ≤ p ∧ p ≤ 500) hx.lsack hn,
    pwho := hx.pwho, pyear := hx.pyear, psack := hx.psack, mfrom := hx.mfrom, mto := hx.mto, msack := hx.msack, mne := hx.mne, bad := hx.bad,
    fo := (fun i hi => ⟨(hx.fo i hi).1, by show x.fo i ≤ ((x.ln + 1 : Nat) : Int) - 1; have := (hx.fo i hi).2; omega⟩), binc := hx.binc, finc := hx.finc, pinc := hx.pinc }
theorem pay_okD {x : LD} (hx : Ok x) (hl : x.pn < 12) {a n : Int} (ha : 1 ≤ a ∧ a ≤ x.folk - 1) (hn : 1 ≤ n ∧ n ≤ 500) : Ok (payD x a (x.years - 1) n) := by
  have hy := hx.years
  have key : ∀ (P : Int → Int → Int → Prop), (∀ i, i < x.pn → P (x.pa i 0) (x.pa i 1) (x.pa i 2)) → P a (x.years - 1) n → ∀ i, i < x.pn + 1 → P ((payD x a (x.years - 1) n).pa i 0) ((payD x a (x.years - 1) n).pa i 1) ((payD x a (x.years - 1) n).pa i 2) := fun P h1 h2 i hi => by
    unfold payD
    dsimp only
    by_cases e : i = x.pn
    · rw [if_pos e, if_pos e, if_pos e]; exact h2
    · rw [if_neg e, if_neg e, if_neg e]; exact h1 i (by omega)
  exact {
    folk := hx.folk, years := hy, ln := hx.ln, pn := (by show x.pn + 1 ≤ 12; omega), mn := hx.mn,
    lwho := hx.lwho, lyear := hx.lyear, lsack := hx.lsack,
    pwho := key (fun p _ _ => 1 ≤ p ∧ p ≤ x.folk - 1) hx.pwho ha, pyear := key (fun _ p _ => 0 ≤ p ∧ p ≤ x.years - 1) hx.pyear (by omega), psack := key (fun _ _ p => 1 ≤ p ∧ p ≤ 500) hx.psack hn,
    mfrom := hx.mfrom, mto := hx.mto, msack := hx.msack, mne := hx.mne, bad := hx.bad, fo := hx.fo, binc := hx.binc, finc := hx.finc,
    pinc := fun i hi => by
      have hi : i + 1 < x.pn + 1 := hi
      unfold payD
      dsimp only
      rw [if_neg (show ¬ i = x.pn by omega)]
      by_cases e : i + 1 = x.pn
      · rw [if_pos e]; have := (hx.pyear i (by omega)).2; simp; omega
      · rw [if_neg e]; exact hx.pinc i (by omega) }
theorem forgL_mem {x : LD} {i z : Int} : z ∈ forgL x i ↔ (∃ k, k < x.fn ∧ x.fo k = z) ∨ z = i := by
  unfold forgL
  simp
theorem ni_mem {l : List Int} {z : Int} : (∃ k, k < l.length ∧ ni l k = z) ↔ z ∈ l := by
  constructor
  · rintro ⟨k, hk, rfl⟩
    rw [ni_get l hk]
    exact List.getElem_mem _
  · intro h
    obtain ⟨k, hk, e⟩ := List.mem_iff_getElem.1 h
    exact ⟨k, hk, by rw [ni_get l hk]; exact e⟩
theorem hasB_ni {l : List Int} {z : Int} : hasB (ni l) l.length z = true ↔ z ∈ l := by
  rw [← ni_mem]
  unfold hasB
  rw [anyTo_true]
  simp
theorem hasB_fo {f : Nat → Int} {n : Nat} {z : Int} : hasB f n z = true ↔ ∃ k, k < n ∧ f k = z := by
  unfold hasB
  rw [anyTo_true]
  simp
theorem forgL_nodup {x : LD} (hx : Ok x) {i : Int} (hi : hasB x.fo x.fn i = false) : (forgL x i).Nodup := by
  have hr : ∀ a b, a < b → b < x.fn → x.fo a < x.fo b := fun a b hab => by
    induction b with
    | zero => omega
    | succ b ih =>
      intro hb
      have h1 := hx.finc b hb
      rcases Nat.lt_or_ge a b with h | h
      · have := ih h (by omega); omega
      · obtain rfl : a = b := by omega
        exact h1
  unfold forgL
  rw [List.nodup_append]
  refine ⟨?_, by simp, ?_⟩
  · show List.Pairwise (· ≠ ·) ((List.range x.fn).map x.fo)
    rw [List.pairwise_map]
    exact (List.pairwise_lt_range).imp_of_mem fun {a b} _ hb h => by
      have := hr a b h (List.mem_range.1 hb)
      omega
  · intro a ha b hb
    simp at hb
    subst hb
    rintro rfl
    simp at ha
    have := hasB_fo.2 ha
    rw [hi] at this
    cases this
theorem forg_of {x : LD} (hx : Ok x) {i : Nat} (hi : i < x.ln) (hno : hasB x.fo x.fn (i : Int) = false) {l : List Int} (hp : l.Perm (forgL x (i : Int))) (hs : SortedI l l.length) : Forg x (forgD x l) i ∧ Ok (forgD x l) := by
  have hm : ∀ z, z ∈ l ↔ (∃ k, k < x.fn ∧ x.fo k = z) ∨ z = (i : Int) := fun z => by rw [hp.mem_iff, forgL_mem]
  have hnd : l.Nodup := (hp.nodup_iff).2 (forgL_nodup hx hno)
  refine ⟨⟨rfl, rfl, rfl, rfl, fun _ _ _ _ => rfl, fun _ _ _ _ => rfl, fun k hk => ?_⟩, ?_⟩
  · show hasB (ni l) l.length (k : Int) = _
    rw [Bool.eq_iff_iff, hasB_ni, hm, Bool.or_eq_true, hasB_fo, decide_eq_true_iff]
    constructor
    · rintro (h | h)
      · exact .inl h
      · exact .inr (by omega)
    · rintro (h | h)
      · exact .inl h
      · exact .inr (by omega)
  · have hfo : ∀ k, k < l.length → 0 ≤ ni l k ∧ ni l k ≤ (x.ln : Int) - 1 := fun k hk => by
      have h1 := (hm (ni l k)).1 (ni_mem.1 ⟨k, hk, rfl⟩)
      rcases h1 with ⟨j, hj, e⟩ | e
      · rw [← e]; exact hx.fo j hj
      · rw [e]; omega
    have hfi : ∀ k, k + 1 < l.length → ni l k < ni l (k + 1) := fun k hk => by
      have h1 := hs k (k + 1) (by omega) hk
      have h2 : ni l k ≠ ni l (k + 1) := by
        rw [ni_get l (by omega), ni_get l hk]
        intro e
        have := (List.getElem_inj hnd).1 e
        omega
      omega
    exact {
      folk := hx.folk, years := hx.years, ln := hx.ln, pn := hx.pn, mn := hx.mn, lwho := hx.lwho, lyear := hx.lyear, lsack := hx.lsack, pwho := hx.pwho, pyear := hx.pyear, psack := hx.psack, mfrom := hx.mfrom, mto := hx.mto, msack := hx.msack, mne := hx.mne, bad := hx.bad,
      fo := hfo,
      binc := hx.binc,
      finc := hfi,
      pinc := hx.pinc }
/-- What is left of the ledger in which a loan may be forgiven, too. -/
def GoneP (x y : LD) : Prop := y = x ∨ ∃ i, i < x.ln ∧ hasB x.fo x.fn (i : Int) = false ∧ Forg x y i
/-- Whose loan is newly forgiven. -/
def newB (x y : LD) (w : Int) (j : Nat) : Bool := !hasB x.fo x.fn (y.fo j) && (x.lo (y.fo j).toNat 0 == w)
theorem gone_new {x y : LD} (hx : Ok x) (hy : Ok y) (h : GoneP x y) {w : Int} (hne : P.owes y w (x.years - 1) ≠ P.owes x w (x.years - 1)) : anyTo (newB x y w) y.fn = true := by
  rcases h with rfl | ⟨i, hi, hno, hf⟩
  · exact absurd rfl hne
  · have h2 := (forg_law hx hy hf hi w).2
    have hw : x.lo i 0 = w := Classical.byContradiction fun q => hne (h2 q)
    have h3 := hf.fo i hi
    rw [hno, decide_eq_true rfl] at h3
    obtain ⟨j, hj, e⟩ := hasB_fo.1 h3
    refine anyTo_true.2 ⟨j, hj, ?_⟩
    unfold newB
    rw [e, hno, Int.toNat_natCast, hw]
    simp
theorem gone_le {x y : LD} (hx : Ok x) (hy : Ok y) (h : GoneP x y) (w : Int) : P.owes y w (x.years - 1) ≤ P.owes x w (x.years - 1) := by
  rcases h with rfl | ⟨i, hi, -, hf⟩
  · exact Int.le_refl _
  · exact (forg_law hx hy hf hi w).1
theorem lend_new {x y : LD} {w : World} {p : LA} {a yr n : Int} (hv : IsLA w x p) (hm : Sm x) (h0 : lendEr x a yr n = 0) (hy : lendD x a yr n = y) :
    Calls Tryz.prog 82 #[ledV x p, .agg #[.int .i64 a, .int .i64 yr, .int .i64 n]] w fun e w' => ∃ q, e = .returned (.tuple #[ledV y q, .int .i64 0]) ∧ Ext w w' ∧ IsLA w' y q := by
  refine (lend82 hv hm a yr n).mono ?_
  rintro e w' ⟨v, rfl, he, -, hok⟩
  rw [h0, hy] at *
  obtain ⟨u1, u2, u3, u4, u5, rfl, hO⟩ := hok rfl
  obtain ⟨D1, q1, rfl, -⟩ := hO.o1.slR
  obtain ⟨D2, q2, rfl, -⟩ := hO.o2.slR
  obtain ⟨D3, q3, rfl, -⟩ := hO.o3.slR
  obtain ⟨D4, q4, rfl, -⟩ := hO.o4.slR
  obtain ⟨D5, q5, rfl, -⟩ := hO.o5.slR
  simp only [rowsG_length] at hO ⊢
  exact ⟨⟨D1, q1, D2, q2, D3, q3, D4, q4, D5, q5⟩, rfl, he, hO.la⟩
theorem pay_new {x y : LD} {w : World} {p : LA} {a yr n : Int} (hv : IsLA w x p) (hm : Sm x) (h0 : payEr x a yr n = 0) (hy : payD x a yr n = y) :
    Calls Tryz.prog 83 #[ledV x p, .agg #[.int .i64 a, .int .i64 yr, .int .i64 n]] w fun e w' => ∃ q, e = .returned (.tuple #[ledV y q, .int .i64 0]) ∧ Ext w w' ∧ IsLA w' y q ∧ y.pn ≤ q.c4 := by
  refine (pay83 hv hm a yr n).mono ?_
  rintro e w' ⟨v, rfl, he, -, hok⟩
  rw [h0, hy] at *
  obtain ⟨u1, u2, u3, u4, u5, rfl, hO⟩ := hok rfl
  obtain ⟨D1, q1, rfl, -⟩ := hO.o1.slR
  obtain ⟨D2, q2, rfl, -⟩ := hO.o2.slR
  obtain ⟨D3, q3, rfl, -⟩ := hO.o3.slR
  obtain ⟨D4, q4, rfl, -⟩ := hO.o4.slR
  obtain ⟨D5, q5, rfl, -⟩ := hO.o5.slR
  simp only [rowsG_length] at hO ⊢
  exact ⟨⟨D1, q1, D2, q2, D3, q3, D4, q4, D5, q5⟩, rfl, he, hO.la, hO.o4.cap_le⟩
theorem forg_yes {x : LD} {w : World} {p : LA} (hv : IsLA w x p) (hm : Sm x) (hx : Ok x) {i : Nat} (hi : i < x.ln) (hb : hasB x.fo x.fn (i : Int) = true) :
    Calls Tryz.prog 84 #[ledV x p, .int .i64 (i : Int)] w fun e w' => e = .returned (.tuple #[.agg #[.int .i64 0, .int .i64 0, .slice none 0 0, .slice none 0 0, .slice none 0 0, .slice none 0 0, .slice none 0 0], .int .i64 5]) ∧ Ext w w' := by
  refine (forgive84 hv hm (i : Int)).mono ?_
  rintro e w' ⟨v, rfl, he, h0, -⟩
  have e5 : forgE x (i : Int) = 5 := by
    unfold forgE
    rw [if_neg (by rw [eL_at hx hi]; simp), hb]
    rfl
  rw [e5] at h0 ⊢
  rw [h0 (by decide)]
  exact ⟨rfl, he⟩
theorem forg_no {x : LD} {w : World} {p : LA} (hv : IsLA w x p) (hm : Sm x) (hx : Ok x) {i : Nat} (hi : i < x.ln) (hb : hasB x.fo x.fn (i : Int) = false) :
    Calls Tryz.prog 84 #[ledV x p, .int .i64 (i : Int)] w fun e w' => ∃ y q, e = .returned (.tuple #[ledV y q, .int .i64 0]) ∧ Ext w w' ∧ OwnLg w' w.heap.size y (.slice q.A1 y.bn q.c1) (.slice q.A2 y.fn q.c2) (.slice q.A3 y.ln q.c3) (.slice q.A4 y.pn q.c4) (.slice q.A5 y.mn q.c5) ∧ Forg x y i ∧ Ok y ∧ Sm y := by
  refine (forgive84 hv hm (i : Int)).mono ?_
  rintro e w' ⟨v, rfl, he, -, hok⟩
  have e5 : forgE x (i : Int) = 0 := by
    unfold forgE
    rw [if_neg (by rw [eL_at hx hi]; simp), hb]
    rfl
  obtain ⟨l, u1, u2, u3, u4, u5, hp, hs, rfl, hO⟩ := hok e5
  obtain ⟨hf, hy⟩ := forg_of hx hi hb hp hs
  rw [e5]
  obtain ⟨D1, q1, rfl, -⟩ := hO.o1.slR
  obtain ⟨D2, q2, rfl, -⟩ := hO.o2.slR
  obtain ⟨D3, q3, rfl, -⟩ := hO.o3.slR
  obtain ⟨D4, q4, rfl, -⟩ := hO.o4.slR
  obtain ⟨D5, q5, rfl, -⟩ := hO.o5.slR
  simp only [rowsG_length] at hO ⊢
  exact ⟨forgD x l, ⟨D1, q1, D2, q2, D3, q3, D4, q4, D5, q5⟩, rfl, he, hO, hf, hy, ⟨hm.b, by have := fo_le hy; omega, hm.l, hm.p, hm.m⟩⟩
theorem asks86 {x y : LD} {p : LA} {w : World} {N3 N23 : Nat} {k : Int} (hm : Sm x) (hl : IsLA w x p) (hb3 : Blk w N3 27 #[.int .i64 x.folk, .int .i64 x.years, .slice p.A1 x.bn p.c1, .slice p.A2 x.fn p.c2, .slice p.A3 x.ln p.c3, .slice p.A4 x.pn p.c4, .slice p.A5 x.mn p.c5]) (hb : Blk w N23 3 #[.int .i64 k]) (hy : Ok y) (hln : y.ln = x.ln) :
    Asks w (.func (.func 86) #[] #[.pointer (some ⟨N3, 0, none⟩), .pointer (some ⟨N23, 0, none⟩)]) y.fn (enc1 fun j _ => y.fo j) (newB x y k) := by
  refine ⟨86, _, rfl, enters_ Tryz.func86 (by kernel_rfl) rfl, fun j hj w' he => ?_⟩
  have HL := hid (hl.ext he)
  have B3 := hid (hb3.ext he)
  have B23 := hid (hb.ext he)
  have hf := hy.fo j hj
  rw [hln] at hf
  clear hl hb3 hb he
  obtain ⟨t, ht⟩ : ∃ t : Nat, y.fo j = (t : Int) := ⟨(y.fo j).toNat, by omega⟩
  have htl : t < x.ln := by omega
  have hnb : newB x y k j = (!hasB x.fo x.fn (t : Int) && (x.lo t 0 == k)) := by unfold newB; rw [ht, Int.toNat_natCast]
  rw [hnb]
  clear hnb hf
  dsimp only [enc1]
  rw [ht]
  clear ht
  obtain ⟨b, hb⟩ : ∃ b, Hid (hasB x.fo x.fn (t : Int) = b) := ⟨_, hid rfl⟩
  rw [hb.out]
  obtain ⟨bl, ol, hAl, hbl, l0, -, -⟩ := HL.out.r3.at3 htl
  have k3 := B3.out.cell
  have k3l := B3.out.lt
  have k23 := B23.out.cell
  have k23l := B23.out.lt
  rw [hAl] at k3
  have HC : Hid (∀ W, Ext w' W → Calls Tryz.prog 47 #[.slice p.A2 x.fn p.c2, .int .i64 (t : Int)] W fun e w2 => e = .returned (.bool b) ∧ Ext W w2) := hid fun W hW => by
    have h := has47 (cap := p.c2) (HL.out.ext hW).r2 hm.f (t : Int)
    rw [hb.out] at h
    exact h
  have H3 := hid (show (t : Int) < x.ln by omega)
  have h3' := H3.out
  have h3'' : (0 : Int) ≤ (t : Int) := by omega
  clear hb HL B3 B23
  go_enter Tryz.func86, Tryz.ntmps86
  go_upto_region 1 with fail
  cases b
  · refine wp_region_later (by kernel_rfl) (by kernel_rfl) ?_
    repeat (go_big_quiet_step ((go_at_call 47; exact Calls.later (HC.out _ (Later.ext _)))))
    refine wpQuiet_nil ?_
    rintro _ ⟨⟨w6, he6⟩, rfl⟩
    go_wp2
    go_ret
    exact ⟨rfl, he6⟩
  · refine wp_region_later (by kernel_rfl) (by kernel_rfl) ?_
    repeat (go_big_quiet_step ((go_at_call 47; exact Calls.later (HC.out _ (Later.ext _)))))
    refine wpQuiet_nil ?_
    rintro _ ⟨⟨w6, he6⟩, rfl⟩
    go_wp2
    go_ret
    exact ⟨rfl, he6⟩
theorem law14 {A : Option Addr} {n0 cap : Nat} {w : World} (hb : ByteS w A n0) {a1 a2 a3 : Nat} (hj1 : a1 < 256) (hj2 : a2 < 256) (hj3 : a3 < 256) :
    Calls Tryz.prog 14 #[.slice A n0 cap, .int .u8 (a1 : Int), .int .u8 (a2 : Int), .int .u8 (a3 : Int)] w fun e w' => e = .returned (.bool true) ∧ Ext w w' := by
  have HB := hid hb
  clear hb
  go_enter Tryz.func14, Tryz.ntmps14
  go_upto_region 2 with (first
    | (go_at_call 31; refine (fill31 _).mono ?_; rintro e wa ⟨rfl, hea, hsa⟩; have ST := hid (start_of HB.out hea hsa); have EA := hid hea; clear hsa hea)
    | (go_at_call 30; (with_reducible refine (made30 ST.out (fk := 5) (ys := 6) (lm := 8) (pm := 10) (mm := 0) (by omega) (by omega) (by omega) (by omega) (by omega)).mono ?_); rintro e wb ⟨x, p, rfl, hsx, hla, hok, hsm, hcap, hf2, -, -, hln, hpn, -⟩; have HSX := hid hsx; have HL0 := hid hla; have hx := hid hok; have HSM := hid hsm; have HLN := hid hln; have HPN := hid hpn; unfold ledV; clear hsx hla hok hsm hln hpn))
  refine wp_later fun w1 hw1 => ?_
  obtain ⟨e1, b3⟩ := hw1.newB
  obtain ⟨N3, hN3⟩ : ∃ N, Hid (N = wb.heap.size) := ⟨_, hid rfl⟩
  rw [← hN3.out] at b3 ⊢
  have B3 : Hid (Blk w1 N3 27 #[.int .i64 x.folk, .int .i64 x.years, .slice p.A1 x.bn p.c1, .slice p.A2 x.fn p.c2, .slice p.A3 x.ln p.c3, .slice p.A4 x.pn p.c4, .slice p.A5 x.mn p.c5]) := hid b3
  have HL := hid (HL0.out.ext e1)
  have EW := hid ((HSX.out.ext EA.out (Nat.le_refl _)).trans e1)
  clear hw1 e1 b3 HL0 HSX ST EA
  have k3 := B3.out.cell
  have k3l := B3.out.lt
  have hfk := hx.out.folk
  have hyr := hx.out.years
  have nf : x.folk - 1 ≠ 0 := by omega
  have hw0 := Int.emod_nonneg (a1 : Int) nf
  have hw1 := Int.emod_lt_of_pos (a1 : Int) (show (0 : Int) < x.folk - 1 by omega)
  refine wp_region_later (by kernel_rfl) (by kernel_rfl) ?_
  repeat (go_big_quiet_step (fail))
  refine wpQuiet_nil ?_
  rintro w2 ⟨⟨_, he2⟩, rfl⟩
  obtain ⟨z1, hz1⟩ : ∃ z, Hid ((a1 : Int) % (x.folk - 1) = z) := ⟨_, hid rfl⟩
  rw [hz1.out] at hw0 hw1
  rw [hz1.out]
  obtain ⟨a, ha⟩ : ∃ a, Hid (1 + z1 = a) := ⟨_, hid rfl⟩
  have ha1 : 1 ≤ a ∧ a ≤ x.folk - 1 := by have := ha.out; omega
  rw [ha.out]
  clear nf k3 k3l hw0 hw1 hz1
  have EW := hid (EW.out.trans he2)
  have B3 := hid (B3.out.ext he2)
  have HL := hid (HL.out.ext he2)
  clear he2
  obtain ⟨yl, hyl⟩ : ∃ y, Hid (lendD x a (x.years - 1) (1 + (a2 : Int)) = y) := ⟨_, hid rfl⟩
  obtain ⟨yp, hyp⟩ : ∃ y, Hid (payD x a (x.years - 1) (1 + (a2 : Int)) = y) := ⟨_, hid rfl⟩
  have hlb : x.ln < 10 := by have := HLN.out; omega
  have hpb : x.pn < 12 := by have := HPN.out; omega
  have hol := hid (show Ok yl by rw [← hyl.out]; exact lend_okD hx.out hlb ha1 (by omega))
  have hop := hid (show Ok yp by rw [← hyp.out]; exact pay_okD hx.out hpb ha1 (by omega))
  have hel := hid (show lendEr x a (x.years - 1) (1 + (a2 : Int)) = 0 by
    unfold lendEr
    rw [if_neg (by rw [chk_of_ok hx.out]; simp), if_neg (by omega), hyl.out]
    exact chk_of_ok hol.out)
  have hep := hid (show payEr x a (x.years - 1) (1 + (a2 : Int)) = 0 by
    unfold payEr
    rw [if_neg (by rw [chk_of_ok hx.out]; simp), if_neg (by omega), hyp.out]
    exact chk_of_ok hop.out)
  have hll : Hid (∀ k : Int, P.owes x k (x.years - 1) ≤ P.owes yl k (x.years - 1) ∧ (k ≠ a → P.owes yl k (x.years - 1) = P.owes x k (x.years - 1))) := hid fun k => by
    rw [← hyl.out]; exact lend_law hx.out (by rw [hyl.out]; exact hol.out) k
  have hpl : Hid (∀ k : Int, P.owes yp k (x.years - 1) ≤ P.owes x k (x.years - 1) ∧ (k ≠ a → P.owes yp k (x.years - 1) = P.owes x k (x.years - 1)) ∧ (k = a → P.owes x k (x.years - 1) - P.owes yp k (x.years - 1) = (1 + (a2 : Int)) - P.overOf yp x.pn)) := hid fun k => by
    rw [← hyp.out]; exact pay_law_more hx.out (by rw [hyp.out]; exact hop.out) k
  have hsl := hid (show Sm yl by rw [← hyl.out]; exact ⟨HSM.out.b, HSM.out.f, by show x.ln + 1 ≤ 1000; omega, HSM.out.p, HSM.out.m⟩)
  have hsp := hid (show Sm yp by rw [← hyp.out]; exact ⟨HSM.out.b, HSM.out.f, HSM.out.l, by show x.pn + 1 ≤ 1000; omega, HSM.out.m⟩)
  have hyfl := hid (show yl.folk = x.folk ∧ yl.years = x.years by rw [← hyl.out]; exact ⟨rfl, rfl⟩)
  have hyfp := hid (show yp.folk = x.folk ∧ yp.years = x.years ∧ yp.pn = x.pn + 1 by rw [← hyp.out]; exact ⟨rfl, rfl, rfl⟩)
  obtain ⟨ov, hov⟩ : ∃ z, Hid (P.overOf yp x.pn = z) := ⟨_, hid rfl⟩
  have hovb : 0 ≤ ov ∧ ov ≤ 500 := by
    have h1 := (pay_law hop.out (k := x.pn) (by have := hyfp.out.2.2; omega)).ob
    have h2 := (hop.out.psack x.pn (by have := hyfp.out.2.2; omega)).2
    rw [hov.out] at h1
    omega
  have heb := hid (show P.errB yp (x.pn : Int) = 0 by
    unfold P.errB
    rw [if_pos (chk_of_ok hop.out), if_pos (show inB (x.pn : Int) 0 ((yp.pn : Int) - 1) = true from decide_eq_true (by have := hyfp.out.2.2; omega))])
  clear hlb
  have k3 := B3.out.cell
  have k3l := B3.out.lt
  go_upto_region 4 with (go_at_call 82; refine (lend_new (p := p) HL.out HSM.out hel.out hyl.out).mono ?_; rintro e wz ⟨ql, rfl, he, hla⟩; have HLL := hid hla; have EW := hid (EW.out.trans he); have B3 := hid (B3.out.ext he); have HL := hid (HL.out.ext he); unfold ledV; clear hla he k3 k3l)
  refine wp_later fun w4 hw4 => ?_
  obtain ⟨e4, b12⟩ := hw4.newB
  obtain ⟨N12, hN12⟩ : ∃ N, Hid (N = wz.heap.size) := ⟨_, hid rfl⟩
  rw [← hN12.out] at b12 ⊢
  have B12 : Hid (Blk w4 N12 27 #[.int .i64 yl.folk, .int .i64 yl.years, .slice ql.A1 yl.bn ql.c1, .slice ql.A2 yl.fn ql.c2, .slice ql.A3 yl.ln ql.c3, .slice ql.A4 yl.pn ql.c4, .slice ql.A5 yl.mn ql.c5]) := hid b12
  have HLL := hid (HLL.out.ext e4)
  have EW := hid (EW.out.trans e4)
  have B3 := hid (B3.out.ext e4)
  have HL := hid (HL.out.ext e4)
  clear hw4 e4 b12
  have k3 := B3.out.cell
  have k3l := B3.out.lt
  go_upto_region 5 with (go_at_call 83; refine (pay_new (p := p) HL.out HSM.out hep.out hyp.out).mono ?_; rintro e wz ⟨qp, rfl, he, hla, hcc⟩; have HCC := hid hcc; have HPP := hid hla; have EW := hid (EW.out.trans he); have B3 := hid (B3.out.ext he); have B12 := hid (B12.out.ext he); have HL := hid (HL.out.ext he); have HLL := hid (HLL.out.ext he); unfold ledV; clear hla he hcc k3 k3l)
  refine wp_later fun w5 hw5 => ?_
  obtain ⟨e5, b14⟩ := hw5.newB
  obtain ⟨N14, hN14⟩ : ∃ N, Hid (N = wz.heap.size) := ⟨_, hid rfl⟩
  rw [← hN14.out] at b14 ⊢
  have B14 : Hid (Blk w5 N14 27 #[.int .i64 yp.folk, .int .i64 yp.years, .slice qp.A1 yp.bn qp.c1, .slice qp.A2 yp.fn qp.c2, .slice qp.A3 yp.ln qp.c3, .slice qp.A4 yp.pn qp.c4, .slice qp.A5 yp.mn qp.c5]) := hid b14
  have HPP := hid (HPP.out.ext e5)
  have HLL := hid (HLL.out.ext e5)
  have EW := hid (EW.out.trans e5)
  have B3 := hid (B3.out.ext e5)
  have B12 := hid (B12.out.ext e5)
  have HL := hid (HL.out.ext e5)
  clear hw5 e5 b14
  have k3 := B3.out.cell
  have k3l := B3.out.lt
  have k14 := B14.out.cell
  have k14l := B14.out.lt
  go_upto_region 6 with (go_at_call 40; refine (booked_ok (p := qp) HPP.out hsp.out HCC.out heb.out).mono ?_; rintro e wz ⟨u, rfl, he, -⟩; rw [hov.out]; have EW := hid (EW.out.trans he); have B3 := hid (B3.out.ext he); have B12 := hid (B12.out.ext he); have B14 := hid (B14.out.ext he); have HL := hid (HL.out.ext he); have HLL := hid (HLL.out.ext he); have HPP := hid (HPP.out.ext he); clear he k3 k3l k14 k14l)
  have k3 := B3.out.cell
  have k3l := B3.out.lt
  go_upto_region 9 with fail
  obtain ⟨w8, hw8⟩ : ∃ W : World, Hid (wz = W) := ⟨_, hid rfl⟩
  refine wp_later fun w9 hw9 => ?_
  obtain ⟨e9, b19⟩ := hw9.newB
  obtain ⟨N19, hN19⟩ : ∃ N, Hid (N = wz.heap.size) := ⟨_, hid rfl⟩
  rw [← hN19.out] at b19 ⊢
  rw [hw8.out] at e9 EW B3 B12 B14 HL HLL HPP hN19
  have B19 := hid b19
  have E9 := hid e9
  clear hw9 e9 b19 hw8 k3 k3l
  have k3 := (B3.out.ext E9.out).cell
  have k3l := (B3.out.ext E9.out).lt
  have hln8 := HLN.out
  go_upto_if 90 with fail
  go_cut [] (fun W => Hid (Ext w8 W ∧ ∃ y q, Blk W N19 27 #[.int .i64 y.folk, .int .i64 y.years, .slice q.A1 y.bn q.c1, .slice q.A2 y.fn q.c2, .slice q.A3 y.ln q.c3, .slice q.A4 y.pn q.c4, .slice q.A5 y.mn q.c5] ∧ IsLA W y q ∧ Ok y ∧ Sm y ∧ GoneP x y ∧ y.folk = x.folk ∧ y.years = x.years ∧ y.ln = x.ln))
  case first =>
    by_cases h0 : 0 < x.ln
    · obtain ⟨i, hi⟩ : ∃ i : Nat, Hid ((a3 : Int) % (x.ln : Int) = (i : Int)) := ⟨a3 % x.ln, hid (by push_cast; rfl)⟩
      have hil : i < x.ln := by
        have h1 := Int.emod_lt_of_pos (a3 : Int) (show (0 : Int) < (x.ln : Int) by omega)
        rw [hi.out] at h1
        omega
      have nl : (x.ln : Int) ≠ 0 := by omega
      have t0 : (0 : Int) < (x.ln : Int) := by omega
      go_upto_region 11 with fail
      rw [hi.out]
      obtain ⟨b, hb⟩ : ∃ b, Hid (hasB x.fo x.fn (i : Int) = b) := ⟨_, hid rfl⟩
      clear nl t0
      cases b
      · go_upto_region 12 with (go_at_call 84; refine (forg_no (p := p) (HL.out.ext E9.out) HSM.out hx.out hil hb.out).mono ?_; rintro e wz ⟨y, q, rfl, he, hO, hF, hok, hsm⟩; have HO := hid hO; have HF := hid hF; have hyo := hid hok; have hys := hid hsm; have F := hid he; unfold ledV; clear hO hF hok hsm he k3 k3l)
        refine wp_later fun w21 hw21 => ?_
        obtain ⟨e21, b21⟩ := hw21.newB
        obtain ⟨N21, hN21⟩ : ∃ N, Hid (N = wz.heap.size) := ⟨_, hid rfl⟩
        rw [← hN21.out] at b21 ⊢
        have B21 : Hid (Blk w21 N21 27 #[.int .i64 y.folk, .int .i64 y.years, .slice q.A1 y.bn q.c1, .slice q.A2 y.fn q.c2, .slice q.A3 y.ln q.c3, .slice q.A4 y.pn q.c4, .slice q.A5 y.mn q.c5]) := hid b21
        have HO := hid (HO.out.ext e21)
        have F := hid (F.out.trans e21)
        clear hw21 e21 b21
        have k3 := (B3.out.ext (E9.out.trans F.out)).cell
        have k3l := (B3.out.ext (E9.out.trans F.out)).lt
        go_upto_region 14 with (go_at_call 47; refine (has47 (HL.out.ext (E9.out.trans F.out)).r2 HSM.out.f (i : Int)).mono ?_; rintro e wz ⟨rfl, he⟩; rw [hb.out]; have HO := hid (HO.out.ext he); have B21 := hid (B21.out.ext he); have F := hid (F.out.trans he); clear he k3 k3l)
        have k21 := B21.out.cell
        have k21l := B21.out.lt
        have k19 := (B19.out.ext F.out).cell
        have k19l := (B19.out.ext F.out).lt
        have k19f := (B19.out.ext F.out).frozen
        have hN19l := B19.out.lt
        have hN98 : w8.heap.size ≤ N19 := by have := hN19.out; omega
        go_wp2_with fail
        go_meet
        have hb7 := blk7L (B19.out.ext F.out) (.int .i64 y.folk) (.int .i64 y.years) (.slice q.A1 y.bn q.c1) (.slice q.A2 y.fn q.c2) (.slice q.A3 y.ln q.c3) (.slice q.A4 y.pn q.c4) (.slice q.A5 y.mn q.c5)
        exact hid ⟨ext7L (E9.out.trans F.out) hN98 _ _ _ _ _ _ _, y, q, hb7, (HO.out.far7 hN19l _ _ _ _ _ _ _).la, hyo.out, hys.out, .inr ⟨i, hil, hb.out, HF.out⟩, HF.out.folk, HF.out.years, HF.out.ln⟩
      · go_upto_region 12 with (go_at_call 84; refine (forg_yes (p := p) (HL.out.ext E9.out) HSM.out hx.out hil hb.out).mono ?_; rintro e wz ⟨rfl, he⟩; have F := hid he; clear he k3 k3l)
        refine wp_later fun w21 hw21 => ?_
        obtain ⟨e21, b21⟩ := hw21.newB
        have F := hid (F.out.trans e21)
        clear hw21 e21 b21
        have k3 := (B3.out.ext (E9.out.trans F.out)).cell
        have k3l := (B3.out.ext (E9.out.trans F.out)).lt
        go_wp2_with (go_at_call 47; refine (has47 (HL.out.ext (E9.out.trans F.out)).r2 HSM.out.f (i : Int)).mono ?_; rintro e wz ⟨rfl, he⟩; rw [hb.out]; have F := hid (F.out.trans he); clear he k3 k3l)
        go_meet
        exact hid ⟨E9.out.trans F.out, x, p, B19.out.ext F.out, (HL.out.ext (E9.out.trans F.out)), hx.out, HSM.out, .inl rfl, rfl, rfl, rfl⟩
    · have t0 : ¬ (0 : Int) < (x.ln : Int) := by omega
      go_wp2_with fail
      go_meet
      exact hid ⟨E9.out, x, p, B19.out, HL.out.ext E9.out, hx.out, HSM.out, .inl rfl, rfl, rfl, rfl⟩
  case rest =>
    obtain ⟨hEc, y, q, b19, hly, hyo', hys', hgo', hyf', hyy', hyln'⟩ := hcut.out
    have hyo := hid hyo'
    have hys := hid hys'
    have hgo := hid hgo'
    have hyln := hid hyln'
    have hyf := hid hyf'
    have hyy := hid hyy'
    clear hyo' hys' hgo' hyf' hyy' hyln'
    have HY := hid hly
    have B19 := hid b19
    have B3 := hid (B3.out.ext hEc)
    have B12 := hid (B12.out.ext hEc)
    have B14 := hid (B14.out.ext hEc)
    have HL := hid (HL.out.ext hEc)
    have HLL := hid (HLL.out.ext hEc)
    have HPP := hid (HPP.out.ext hEc)
    have EW := hid (EW.out.trans hEc)
    clear hcut hEc hly b19 E9 hN19 k3 k3l
    have k3 := B3.out.cell
    have k3l := B3.out.lt
    go_upto_region 17 with fail
    clear k3 k3l
    go_loopw [123] (fun i W => ∃ k : Nat, (k : Int) ≤ x.folk ∧ i = .int .i64 (k : Int) ∧ Hid (Ext wc W)) (fun i _ => x.folk.toNat - (intOf i).toNat)
    case atStart => exact ⟨0, by omega, rfl, hid (Ext.refl _)⟩
    case round =>
      obtain ⟨k, hk, rfl, E⟩ := hrel
      by_cases hlk : (k : Int) < x.folk
      · go_upto_region 19 with fail
        refine wp_later fun w4 hw4 => ?_
        obtain ⟨e4, b23⟩ := hw4.newB
        obtain ⟨N23, hN23⟩ : ∃ N, Hid (N = wr.heap.size) := ⟨_, hid rfl⟩
        rw [← hN23.out] at b23 ⊢
        have B23 : Hid (Blk w4 N23 3 #[.int .i64 (k : Int)]) := hid b23
        have E4 := hid (E.out.trans e4)
        have G := hid (Ext.refl w4)
        clear hw4 e4 b23
        have hwx := hid (eW_at hx.out (a := (k : Int)) (y := x.years - 1) (by omega) hlk (by omega) (by omega))
        have hwl := hid (eW_at hol.out (a := (k : Int)) (y := x.years - 1) (by omega) (by have := hyfl.out.1; omega) (by omega) (by have := hyfl.out.2; omega))
        have hwp := hid (eW_at hop.out (a := (k : Int)) (y := x.years - 1) (by omega) (by have := hyfp.out.1; omega) (by omega) (by have := hyfp.out.2.1; omega))
        have hwy := hid (eW_at hyo.out (a := (k : Int)) (y := x.years - 1) (by omega) (by have := hyf.out; omega) (by omega) (by have := hyy.out; omega))
        obtain ⟨c1, c2⟩ := hll.out (k : Int)
        obtain ⟨d1, d2, d3⟩ := hpl.out (k : Int)
        have g1 := gone_le hx.out hyo.out hgo.out (k : Int)
        have g2' : Hid (P.owes y (k : Int) (x.years - 1) ≠ P.owes x (k : Int) (x.years - 1) → anyTo (newB x y (k : Int)) y.fn = true) := hid fun h => gone_new hx.out hyo.out hgo.out h
        have bx : 0 ≤ P.owes x (k : Int) (x.years - 1) ∧ P.owes x (k : Int) (x.years - 1) ≤ 49500 := by exact LoanSpec.P.owes_bd hx.out _ _
        have bp : 0 ≤ P.owes yp (k : Int) (x.years - 1) ∧ P.owes yp (k : Int) (x.years - 1) ≤ 49500 := by exact LoanSpec.P.owes_bd hop.out _ _
        obtain ⟨vn, hvn⟩ : ∃ z, Hid (P.owes x (k : Int) (x.years - 1) = z) := ⟨_, hid rfl⟩
        obtain ⟨vl, hvl⟩ : ∃ z, Hid (P.owes yl (k : Int) (x.years - 1) = z) := ⟨_, hid rfl⟩
        obtain ⟨vp, hvp⟩ : ∃ z, Hid (P.owes yp (k : Int) (x.years - 1) = z) := ⟨_, hid rfl⟩
        obtain ⟨vg, hvg⟩ : ∃ z, Hid (P.owes y (k : Int) (x.years - 1) = z) := ⟨_, hid rfl⟩
        rw [hvn.out, hvl.out] at c1 c2
        rw [hvn.out, hvp.out, hov.out] at d3
        rw [hvn.out, hvp.out] at d1 d2
        rw [hvn.out, hvg.out] at g1
        have g2 : Hid (vg ≠ vn → anyTo (newB x y (k : Int)) y.fn = true) := hid (by rw [← hvn.out, ← hvg.out]; exact g2'.out)
        rw [hvn.out] at bx
        rw [hvp.out] at bp
        have l1 : ¬ vl < vn := by omega
        have l2 : ¬ vn < vp := by omega
        have l3 : ¬ vn < vg := by omega
        have k3 := (B3.out.ext (E4.out.trans G.out)).cell; have k3l := (B3.out.ext (E4.out.trans G.out)).lt; have k12 := (B12.out.ext (E4.out.trans G.out)).cell; have k12l := (B12.out.ext (E4.out.trans G.out)).lt; have k14 := (B14.out.ext (E4.out.trans G.out)).cell; have k14l := (B14.out.ext (E4.out.trans G.out)).lt; have k19 := (B19.out.ext (E4.out.trans G.out)).cell; have k19l := (B19.out.ext (E4.out.trans G.out)).lt; have k23 := (B23.out.ext G.out).cell; have k23l := (B23.out.ext G.out).lt
        go_upto_region 20 with (go_at_call 25; refine (owes_ok (p := p) (HL.out.ext (E4.out.trans G.out)) HSM.out hwx.out).mono ?_; rintro e wz ⟨rfl, he⟩; rw [hvn.out]; have G := hid (G.out.trans he); clear k3 k3l k12 k12l k14 k14l k19 k19l k23 k23l; have k3 := (B3.out.ext (E4.out.trans G.out)).cell; have k3l := (B3.out.ext (E4.out.trans G.out)).lt; have k12 := (B12.out.ext (E4.out.trans G.out)).cell; have k12l := (B12.out.ext (E4.out.trans G.out)).lt; have k14 := (B14.out.ext (E4.out.trans G.out)).cell; have k14l := (B14.out.ext (E4.out.trans G.out)).lt; have k19 := (B19.out.ext (E4.out.trans G.out)).cell; have k19l := (B19.out.ext (E4.out.trans G.out)).lt; have k23 := (B23.out.ext G.out).cell; have k23l := (B23.out.ext G.out).lt; clear he)
        go_upto_region 21 with (go_at_call 25; refine (owes_ok (p := ql) (HLL.out.ext (E4.out.trans G.out)) hsl.out hwl.out).mono ?_; rintro e wz ⟨rfl, he⟩; rw [hvl.out]; have G := hid (G.out.trans he); clear k3 k3l k12 k12l k14 k14l k19 k19l k23 k23l; have k3 := (B3.out.ext (E4.out.trans G.out)).cell; have k3l := (B3.out.ext (E4.out.trans G.out)).lt; have k12 := (B12.out.ext (E4.out.trans G.out)).cell; have k12l := (B12.out.ext (E4.out.trans G.out)).lt; have k14 := (B14.out.ext (E4.out.trans G.out)).cell; have k14l := (B14.out.ext (E4.out.trans G.out)).lt; have k19 := (B19.out.ext (E4.out.trans G.out)).cell; have k19l := (B19.out.ext (E4.out.trans G.out)).lt; have k23 := (B23.out.ext G.out).cell; have k23l := (B23.out.ext G.out).lt; clear he)
        go_upto_region 22 with (go_at_call 25; refine (owes_ok (p := qp) (HPP.out.ext (E4.out.trans G.out)) hsp.out hwp.out).mono ?_; rintro e wz ⟨rfl, he⟩; rw [hvp.out]; have G := hid (G.out.trans he); clear k3 k3l k12 k12l k14 k14l k19 k19l k23 k23l; have k3 := (B3.out.ext (E4.out.trans G.out)).cell; have k3l := (B3.out.ext (E4.out.trans G.out)).lt; have k12 := (B12.out.ext (E4.out.trans G.out)).cell; have k12l := (B12.out.ext (E4.out.trans G.out)).lt; have k14 := (B14.out.ext (E4.out.trans G.out)).cell; have k14l := (B14.out.ext (E4.out.trans G.out)).lt; have k19 := (B19.out.ext (E4.out.trans G.out)).cell; have k19l := (B19.out.ext (E4.out.trans G.out)).lt; have k23 := (B23.out.ext G.out).cell; have k23l := (B23.out.ext G.out).lt; clear he)
        go_upto_region 23 with (go_at_call 25; refine (owes_ok (p := q) (HY.out.ext (E4.out.trans G.out)) hys.out hwy.out).mono ?_; rintro e wz ⟨rfl, he⟩; rw [hvg.out]; have G := hid (G.out.trans he); clear k3 k3l k12 k12l k14 k14l k19 k19l k23 k23l; have k3 := (B3.out.ext (E4.out.trans G.out)).cell; have k3l := (B3.out.ext (E4.out.trans G.out)).lt; have k12 := (B12.out.ext (E4.out.trans G.out)).cell; have k12l := (B12.out.ext (E4.out.trans G.out)).lt; have k14 := (B14.out.ext (E4.out.trans G.out)).cell; have k14l := (B14.out.ext (E4.out.trans G.out)).lt; have k19 := (B19.out.ext (E4.out.trans G.out)).cell; have k19l := (B19.out.ext (E4.out.trans G.out)).lt; have k23 := (B23.out.ext G.out).cell; have k23l := (B23.out.ext G.out).lt; clear he)
        clear k12 k12l k14 k14l c1 d1 g1 g2'
        obtain ⟨nw, hnw⟩ : ∃ z, Hid (anyTo (newB x y (k : Int)) y.fn = z) := ⟨_, hid rfl⟩
        have hfn := hys.out.f
        by_cases hg : vg = vn
        · have tg : (vg != vn) = false := by simpa using hg
          clear hg g2
          by_cases hka : (k : Int) = a
          · have t1 : ((k : Int) != a) = false := by simpa using hka
            have t2 : ((k : Int) == a) = true := by simpa using hka
            have t3 : (vn - vp != 1 + (a2 : Int) - ov) = false := by have := d3 hka; simp; omega
            clear c2 d2 d3 hka
            go_wp2_with fail
            go_roundw
            case rel => exact ⟨k + 1, by omega, by go_num, hid (E4.out.trans G.out)⟩
            case measure => simp [intOf]; omega
          · have t1 : ((k : Int) != a) = true := by simpa using hka
            have t2 : ((k : Int) == a) = false := by simpa using hka
            have t3 : (vl != vn) = false := by have := c2 hka; simp; omega
            have t4 : (vp != vn) = false := by have := d2 hka; simp; omega
            clear c2 d2 d3 hka
            go_wp2_with fail
            go_roundw
            case rel => exact ⟨k + 1, by omega, by go_num, hid (E4.out.trans G.out)⟩
            case measure => simp [intOf]; omega
        · have tg : (vg != vn) = true := by simpa using hg
          have hnt : Hid (nw = true) := hid (by rw [← hnw.out]; exact g2.out hg)
          clear hg g2
          by_cases hka : (k : Int) = a
          · have t1 : ((k : Int) != a) = false := by simpa using hka
            have t2 : ((k : Int) == a) = true := by simpa using hka
            have t3 : (vn - vp != 1 + (a2 : Int) - ov) = false := by have := d3 hka; simp; omega
            clear c2 d2 d3 hka
            go_wp2_with (go_at_call 85; refine (containsFunc85 (HY.out.ext (E4.out.trans G.out)).r2 hfn (asks86 (k := (k : Int)) HSM.out (HL.out.ext (E4.out.trans G.out)) (B3.out.ext (E4.out.trans G.out)) (B23.out.ext G.out) hyo.out hyln.out)).mono ?_; rintro e wz ⟨rfl, he⟩; rw [hnw.out, hnt.out]; have G := hid (G.out.trans he); clear he)
            go_roundw
            case rel => exact ⟨k + 1, by omega, by go_num, hid (E4.out.trans G.out)⟩
            case measure => simp [intOf]; omega
          · have t1 : ((k : Int) != a) = true := by simpa using hka
            have t2 : ((k : Int) == a) = false := by simpa using hka
            have t3 : (vl != vn) = false := by have := c2 hka; simp; omega
            have t4 : (vp != vn) = false := by have := d2 hka; simp; omega
            clear c2 d2 d3 hka
            go_wp2_with (go_at_call 85; refine (containsFunc85 (HY.out.ext (E4.out.trans G.out)).r2 hfn (asks86 (k := (k : Int)) HSM.out (HL.out.ext (E4.out.trans G.out)) (B3.out.ext (E4.out.trans G.out)) (B23.out.ext G.out) hyo.out hyln.out)).mono ?_; rintro e wz ⟨rfl, he⟩; rw [hnw.out, hnt.out]; have G := hid (G.out.trans he); clear he)
            go_roundw
            case rel => exact ⟨k + 1, by omega, by go_num, hid (E4.out.trans G.out)⟩
            case measure => simp [intOf]; omega
      · go_wp2_with (go_at_call 18; refine (awake_any _).mono ?_; rintro e wz ⟨rfl, he⟩; have E := hid (E.out.trans he); clear he)
        go_ret
        exact ⟨rfl, EW.out.trans E.out⟩
end Go.Proofs.YtbceepjjdfpfmaaGreat
