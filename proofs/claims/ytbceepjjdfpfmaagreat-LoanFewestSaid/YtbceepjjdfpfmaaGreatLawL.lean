/- Walk of the law LoanFewest (9): for all sacks it returns true. No condition. -/
import Derived.Test.YtbceepjjdfpfmaaGreatAwk
import Derived.Test.YtbceepjjdfpfmaaGreatOwg
import Derived.Test.YtbceepjjdfpfmaaGreatByt
import Derived.Test.YtbceepjjdfpfmaaGreatFewT
import Derived.Deep.RegionHeldLaw
namespace Go.Proofs.YtbceepjjdfpfmaaGreat
open Go.RowKit HandSpec LoanSpec
set_option maxHeartbeats 4000000
set_option maxRecDepth 100000
/-- What is left of the lists that are tried. -/
structure Left9 (W' : World) (Gt q : Nat) (c : Nat → Nat) (gr : Nat → Nat → Int) (f : Nat → Int) (n : Nat) : Prop where
  r : RdN W' (some ⟨Gt, 0, none⟩) q c gr
  le : ∀ k, k < q → c k ≤ 20
  m : ∀ k j, k < q → j < c k → ∃ t : Nat, gr k j = (t : Int) ∧ t < n ∧ f t ≠ 0
  i : ∀ k, k < q → 0 < c k ∧ ∀ j, j + 1 < c k → gr k j < gr k (j + 1)
theorem tried72 {W : World} {Gt Q n : Nat} {V : Nat → Value} {tl : Nat → List Nat} {f : Nat → Int} (h : TrS W (Gt + 1) Gt Q V tl) (hl : TlS f n Q tl) (hQ : Q ≤ 4) (hn : n ≤ 7) :
    Calls Tryz.prog 72 #[.slice (some ⟨Gt, 0, none⟩) Q Q, .func (.func 73) #[] #[]] W fun e w' => ∃ (q : Nat) (c : Nat → Nat) (gr : Nat → Nat → Int), e = .returned (.slice (some ⟨Gt, 0, none⟩) q Q) ∧ q ≤ Q ∧ Left9 w' Gt q c gr f n ∧ ∀ w0, Ext w0 W → w0.heap.size ≤ Gt → Ext w0 w' := by
  refine (delete72 (B := fun k => adrV (V k)) (m := fun k => (tl k).length) (C := fun k => capV (V k)) h.slV (by omega) (Nat.le_refl _) (by omega)).mono ?_
  rintro e w' ⟨q, sel, rfl, h1, h2, h3, h4, h5⟩
  refine ⟨q, fun k => (tl (sel k)).length, fun k j => (((tl (sel k)).getD j 0 : Nat) : Int), rfl, h1, ⟨h.kept h4 h2 h3, fun k hk => ?_, fun k j hk hj => ?_, fun k hk => ⟨(h2 k hk).2, fun j hj => ?_⟩⟩, h5⟩
  · have := hl.len (sel k) (h2 k hk).1
    show (tl (sel k)).length ≤ 20
    omega
  · have := hl.mem _ (h2 k hk).1 j hj
    exact ⟨_, rfl, this.1, this.2⟩
  · have := hl.inc _ (h2 k hk).1 j hj
    show (((tl (sel k)).getD j 0 : Nat) : Int) < (((tl (sel k)).getD (j + 1) 0 : Nat) : Int)
    omega
theorem chk_dok {n : Nat} {g : Nat → Nat → Int} (h : DOk n g) : chkD n (fun _ => n) g = 0 := by
  have hn := h.hn
  unfold chkD
  rw [if_neg, if_neg, if_neg]
  · rw [Bool.not_eq_true]
    exact anyTo_false.2 fun k hk => by rw [h.h0 k hk]; rfl
  · have : entB n (fun _ => n) g = true := by
      unfold entB
      rw [anyTo_false.2 fun i hi => anyTo_false.2 fun j hj => ?_]
      · rfl
      · rw [show inB (g i j) 0 1000000 = true from decide_eq_true (h.hd i j hi hj)]
        rfl
    rw [this]
    simp
  · rintro (e | e)
    · rw [show inB (n : Int) 1 7 = true from decide_eq_true (by omega)] at e
      cases e
    · unfold sqB at e
      rw [anyTo_false.2 fun k _ => by simp] at e
      cases e
theorem net_small {n : Nat} {g : Nat → Nat → Int} (hd : DOk n g) (h8 : ∀ i j, i < n → j < n → g i j ≤ 8) (a : Nat) : -56 ≤ netTo g n n a ∧ netTo g n n a ≤ 56 := by
  have hn := hd.hn
  rcases Nat.lt_or_ge a n with ha | ha
  · rw [net_sum g ha]
    have := HandSpec.P.sumTo_bd (f := fun j => g j a - g a j) (B := 8) n fun j hj => by
      have h1 := hd.hd j a hj ha
      have h2 := hd.hd a j ha hj
      have h3 := h8 j a hj ha
      have h4 := h8 a j ha hj
      omega
    omega
  · rw [netTo_out g n n (Nat.le_refl _) ha]
    omega
/-- What is left of the nets behind the first j payments. -/
def leftF (f : Nat → Int) (s : SS) (j i : Nat) : Int := f i - payS (rowsAt s.l) (i : Int) j
theorem leftF_bd {f : Nat → Int} {n : Nat} {s : SS} (h : PayI f n 56 s) (hf : ∀ a, -56 ≤ f a ∧ f a ≤ 56) (i : Nat) : ∀ j, j ≤ s.l.length → -56 - 56 * (j : Int) ≤ leftF f s j i ∧ leftF f s j i ≤ 56 + 56 * (j : Int)
  | 0, _ => by
    have := hf i
    unfold leftF payS
    simp [sumTo]
    omega
  | j + 1, hj => by
    have ih := leftF_bd h hf i j (by omega)
    obtain ⟨p, q, a1, a2, a3, a4, a5, a6, a7⟩ := h.row j (by omega)
    unfold leftF payS at ih ⊢
    rw [sumTo_succ]
    push_cast
    split <;> split <;> omega
theorem leftF_step {f : Nat → Int} {s : SS} {j p q : Nat} {z : Int} (hpq : p ≠ q) (h0 : rowsAt s.l j 0 = (p : Int)) (h1 : rowsAt s.l j 1 = (q : Int)) (h2 : rowsAt s.l j 2 = z) (i : Nat) :
    upd (upd (leftF f s j) p (leftF f s j p + z)) q (leftF f s j q - z) i = leftF f s (j + 1) i := by
  have e : leftF f s (j + 1) i = leftF f s j i - ((if (q : Int) = (i : Int) then z else 0) - (if (p : Int) = (i : Int) then z else 0)) := by
    unfold leftF payS
    rw [sumTo_succ, h0, h1, h2]
    omega
  rw [e]
  unfold upd
  by_cases e1 : i = q
  · subst e1
    rw [if_pos rfl, if_pos rfl, if_neg (by omega)]
    omega
  · rw [if_neg e1, if_neg (show ¬ (q : Int) = (i : Int) by omega)]
    by_cases e2 : i = p
    · subst e2
      rw [if_pos rfl, if_pos rfl]
      omega
    · rw [if_neg e2, if_neg (show ¬ (p : Int) = (i : Int) by omega)]
      omega
theorem leftF_end {f : Nat → Int} {n : Nat} {s : SS} (h : PayI f n 56 s) (hz : ∀ i, i < n → s.f i = 0) (i : Nat) (hi : i < n) : leftF f s s.l.length i = 0 := by
  have := h.bal i
  rw [hz i hi] at this
  unfold leftF payS
  rw [this]
  omega
theorem cnt_zero : ∀ n, cntP (nzB fun _ => 0) n = 0
  | 0 => rfl
  | n + 1 => by
    simp only [cntP, cnt_zero n]
    simp [nzB]
theorem tot_sum9 (f : Nat → Int) : ∀ n, totTo f n = sumTo f n
  | 0 => rfl
  | n + 1 => by rw [sumTo_succ, ← tot_sum9 f n]; rfl
/-- The length of a slice. -/
def lenV : Value → Nat
  | .slice _ n _ => n
  | _ => 0
theorem rows1_at (l : List Nat) {k : Nat} (hk : k < l.length) : rowsAt (rows1 l) k 0 = ((l.getD k 0 : Nat) : Int) := by simp [rowsAt, rows1, hk]
theorem has_rows1 {l : List Nat} {t : Nat} (h : t ∉ l) : hasB (fun k => rowsAt (rows1 l) k 0) (rows1 l).length (t : Int) = false := anyTo_false.2 fun k hk => by
  rw [rows1_length] at hk
  show (rowsAt (rows1 l) k 0 == (t : Int)) = false
  rw [rows1_at l hk]
  have hm : l.getD k 0 ∈ l := by rw [List.getD_eq_getElem?_getD, List.getElem?_eq_getElem hk]; exact List.getElem_mem _
  rw [beq_eq_false_iff_ne]
  intro e
  have e : l.getD k 0 = t := by omega
  exact h (e ▸ hm)
theorem not_take {l : List Nat} {t j : Nat} (hj : j ≤ l.length) (h : ∀ i, i < j → l.getD i 0 ≠ t) : t ∉ l.take j := fun hm => by
  obtain ⟨i, hi, e⟩ := List.mem_iff_getElem.1 hm
  rw [List.length_take] at hi
  refine h i (by omega) ?_
  rw [List.getD_eq_getElem?_getD, List.getElem?_eq_getElem (by omega)]
  rw [List.getElem_take] at e
  exact e
theorem take_next {l : List Nat} {j : Nat} (hj : j < l.length) : l.take (j + 1) = l.take j ++ [l.getD j 0] := by
  rw [List.take_succ_eq_append_getElem hj, List.getD_eq_getElem?_getD, List.getElem?_eq_getElem hj]
  rfl
theorem law9 {A A2 : Option Addr} {n0 n2 cap cap2 : Nat} {w : World} (hb : ByteS w A n0) (hb2 : ByteS w A2 n2) :
    Calls Tryz.prog 9 #[.slice A n0 cap, .slice A2 n2 cap2] w fun e w' => e = .returned (.bool true) ∧ Ext w w' := by
  have HB := hid hb
  have HB2 := hid hb2
  clear hb hb2
  go_enter Tryz.func9, Tryz.ntmps9
  go_upto_region 2 with (first
    | (go_at_call 31; refine (fill31 _).mono ?_; rintro e wa ⟨rfl, hea, hsa⟩; have ST := hid (start_of HB.out hea hsa); have EA := hid hea; clear hsa hea)
    | (go_at_call 64; (with_reducible refine (owing64 ST.out).mono ?_); rintro e wb ⟨Ad, n, cd, m, rfl, hsx, hrd, hdok, h8⟩; have EW := hid (hsx.ext EA.out (Nat.le_refl _)); have HR := hid hrd; have HD := hid hdok; have H8 := hid h8; clear hsx hrd hdok h8))
  have hn7 := HD.out.hn
  have hc0 := hid (chk_dok HD.out)
  have htot := hid (totTo_net m n n (Nat.le_refl _))
  have hfb := hid (net_small HD.out H8.out)
  obtain ⟨f, hf⟩ : ∃ f, Hid (netTo m n n = f) := ⟨_, hid rfl⟩
  have hoS := hid (fun L (hp : List.Perm L (groupsM (netTo m n n) n)) => show_ok hc0.out hp)
  have hoT := hid (fun L (hp : List.Perm L (groupsM (netTo m n n) n)) => settle_ok (B := 56) hfb.out hn7.2 htot.out hp)
  have hoG := hid (fun L (hp : List.Perm L (groupsM (netTo m n n) n)) => grl_ok hn7.2 htot.out hp)
  have hoP := hid (fun L (hp : List.Perm L (groupsM (netTo m n n) n)) => sett_ok HD.out hp)
  have hoK := hid (groups_best hn7.2 htot.out (List.Perm.refl (groupsM (netTo m n n) n))).2.1
  rw [hf.out] at hfb htot hoS hoT hoG hoP hoK
  obtain ⟨K, hK⟩ : ∃ K, Hid ((groupsM f n).length = K) := ⟨_, hid rfl⟩
  obtain ⟨O, hO⟩ : ∃ O, Hid (cntP (nzB f) n = O) := ⟨_, hid rfl⟩
  rw [hO.out] at hoS hoT hoP
  rw [hK.out] at hoK
  have hO7 : O ≤ 7 := by
    have h2 := cntP_not (nzB f) n
    rw [hO.out] at h2
    omega
  have hM1 := hid (show ∀ k, k < n → (fun _ : Nat => n) k ≤ 1000 from fun k _ => by show n ≤ 1000; omega)
  obtain ⟨w1, rfl⟩ : ∃ W : World, W = wb := ⟨_, rfl⟩
  have E := hid (Ext.refl w1)
  go_upto_region 3 with (go_at_call 35; (with_reducible refine (nets35 (HR.out.ext E.out) HD.out).mono ?_); rintro e wz ⟨Gm, rfl, he, -, ha⟩; rw [hf.out] at ha; have HN := hid (ha.rd (A := some ⟨Gm, 0, none⟩) fun _ => rfl); have E := hid (E.out.trans he); clear he ha)
  go_upto_region 4 with (go_at_call 58; (with_reducible refine (settle58 (HR.out.ext E.out) (by omega) hM1.out).mono ?_); rintro e wz ⟨u, rfl, he, -, hu⟩; rw [hc0.out] at hu ⊢; have HS1 := hid (hu rfl); have E := hid (E.out.trans he); have HN := hid (HN.out.ext he); clear he hu)
  obtain ⟨L1, p1, -, o1⟩ := HS1.out
  rw [hf.out] at p1 o1
  have hT1 := hid (hoT.out L1 p1)
  have hP1 := hid (hoP.out L1 p1)
  have hl1 : L1.length = K := by rw [p1.length_eq]; exact hK.out
  obtain ⟨s1, hs1⟩ : ∃ s, Hid (settleM L1 f = s) := ⟨_, hid rfl⟩
  rw [hs1.out] at o1 hT1 hP1
  obtain ⟨A6, c6, rfl, r6⟩ := o1.slR
  obtain ⟨Z, hZ⟩ : ∃ Z, Hid (s1.l.length = Z) := ⟨_, hid rfl⟩
  have hZO : Z + K = O := by
    have := hT1.out.1
    rw [hl1, hZ.out] at this
    exact this
  rw [hZ.out] at r6 hP1 ⊢
  have HA6 := hid r6
  clear r6 o1 p1 hl1 HS1
  go_upto_region 5 with (go_at_call 59; (with_reducible refine (fewest59 (HR.out.ext E.out) (by omega) hM1.out).mono ?_); rintro e wz ⟨u, rfl, he, -, hu⟩; rw [hc0.out] at hu ⊢; obtain ⟨L2, p2, -, hz2⟩ := hu rfl; rw [hf.out] at p2 hz2; have hP2 := (hoT.out L2 p2).1; have hl2 : L2.length = K := (p2.length_eq.trans hK.out); obtain rfl : u = (Z : Int) := (by rw [hz2]; omega); have E := hid (E.out.trans he); have HN := hid (HN.out.ext he); have HA6 := hid (HA6.out.ext he); clear he hu p2 hz2 hP2 hl2)
  go_upto_region 6 with (go_at_call 60; (with_reducible refine (settles60 (HR.out.ext E.out) (by omega) hM1.out HA6.out (by omega)).mono ?_); rintro e wz ⟨rfl, he⟩; rw [hc0.out, if_pos rfl, if_pos rfl, hf.out, hP1.out.1, hP1.out.2.1]; have E := hid (E.out.trans he); have HN := hid (HN.out.ext he); have HA6 := hid (HA6.out.ext he); clear he)
  go_upto_region 7 with (go_at_call 61; (with_reducible refine (groups61 (HR.out.ext E.out) (by omega) hM1.out).mono ?_); rintro e wz ⟨u, rfl, he, -, hu⟩; rw [hc0.out] at hu ⊢; have HS3 := hid (hu rfl); have E := hid (E.out.trans he); have HN := hid (HN.out.ext he); have HA6 := hid (HA6.out.ext he); clear he hu)
  obtain ⟨L3, p3, -, o3⟩ := HS3.out
  rw [hf.out] at p3
  have hS3 := hid (hoS.out L3 p3)
  have hG3 := hid (hoG.out L3 p3)
  have hl3 : L3.length = K := by rw [p3.length_eq]; exact hK.out
  obtain ⟨A7, c7, rfl, r7⟩ := o3.rd.rdN
  rw [hl3] at r7 hS3 ⊢
  have HA7 := hid (show RdN wz A7 K (grC L3) (grG L3) from r7)
  have HL3 := hid hl3
  have hC3 := hid (show ∀ k, k < K → grC L3 k ≤ 20 from fun k _ => by
    have := placesTo_len (L3.getD k 0) 7
    unfold grC places
    omega)
  clear r7 o3 p3 HS3 hl3
  go_upto_region 8 with (go_at_call 62; (with_reducible refine (shows62 (HR.out.ext E.out) (by omega) hM1.out HA7.out (by omega) hC3.out).mono ?_); rintro e wz ⟨rfl, he⟩; rw [hS3.out.1, hS3.out.2]; have E := hid (E.out.trans he); have HN := hid (HN.out.ext he); have HA6 := hid (HA6.out.ext he); have HA7 := hid (HA7.out.ext he); clear he)
  have t1 : ((Z : Int) != (Z : Int)) = false := by simp
  have t2 : ((O : Int) - (K : Int) != (Z : Int)) = false := by simp; omega
  have t3 : ((Z : Int) != (O : Int) - (K : Int)) = false := by simp; omega
  obtain ⟨w8, rfl⟩ : ∃ W : World, W = wz := ⟨_, rfl⟩
  have D := hid (Ext.refl w8)
  go_cut [125] (fun s W => s = .bool false ∧ Hid (Ext w8 W))
  case first =>
    as_aux_lemma => --done
      by_cases hO0 : 0 < O
      · have hK1 : 1 ≤ K := by
          have := hG3.out.some (by rw [hO.out]; exact hO0)
          rw [HL3.out] at this
          exact this
        have t4 : (0 : Int) < (O : Int) := by omega
        have t5 : ¬ (O : Int) - 1 < (Z : Int) := by omega
        go_wp2_with (go_at_call 65; (with_reducible refine (open65 (HN.out.ext D.out) (by omega)).mono ?_); rintro e wz ⟨rfl, he⟩; rw [hO.out]; have D := hid (D.out.trans he); clear he)
        go_meet
        exact ⟨by simp; omega, D⟩
      · have t4 : ¬ (0 : Int) < (O : Int) := by omega
        go_wp2_with (go_at_call 65; (with_reducible refine (open65 (HN.out.ext D.out) (by omega)).mono ?_); rintro e wz ⟨rfl, he⟩; rw [hO.out]; have D := hid (D.out.trans he); clear he)
        go_meet
        exact ⟨rfl, D⟩
  case rest =>
    obtain ⟨rfl, hD⟩ := hcut
    have E := hid (E.out.trans hD.out)
    have HN := hid (HN.out.ext hD.out)
    have HA6 := hid (HA6.out.ext hD.out)
    have HA7 := hid (HA7.out.ext hD.out)
    clear hD D t1 t2 t3
    go_upto_region 11 with (go_at_call 66; (with_reducible refine (dup66 HN.out (by omega)).mono ?_); rintro e wz ⟨u, rfl, he, ho⟩; have HO := hid ho; have E2 := hid he; clear he ho)
    obtain ⟨Gl, capl, rfl, hGl, hcl, harr⟩ : ∃ Gl capl, u = .slice (some ⟨Gl, 0, none⟩) n capl ∧ wc.heap.size ≤ Gl ∧ n ≤ capl ∧ Hid (ArrB wz Gl 3 n (leftF f s1 0)) := by
      rcases HO.out.arrB with ⟨-, q⟩ | ⟨Gl, capl, h1, h2, h3, h4⟩
      · have := congrArg List.length q
        rw [rowsG_length] at this
        simp at this
        omega
      · rw [rowsG_length] at h1 h3 h4
        exact ⟨Gl, capl, h1, h2, h3, hid (h4.congr fun i hi => by rw [rowsG_at hi (by omega)]; unfold leftF payS; simp [sumTo])⟩
    clear HO
    have F := hid E2.out
    obtain ⟨wC, hwC⟩ : ∃ W : World, Hid (wc = W) := ⟨_, hid rfl⟩
    rw [hwC.out] at hGl F HN HA6 HA7 E
    clear hwC E2
    have HR := hid (HR.out.ext E.out)
    go_upto_region 12 with fail
    go_loopw [130] (fun i W => ∃ j : Nat, j ≤ Z ∧ i = .int .i64 (j : Int) ∧ Hid (ArrB W Gl 3 n (leftF f s1 j)) ∧ Hid (Ext wC W)) (fun i _ => Z - (intOf i).toNat)
    case atStart => exact ⟨0, Nat.zero_le _, rfl, harr, F⟩
    case round =>
      clear F harr
      obtain ⟨j, hj, rfl, HA, F⟩ := hrel
      by_cases hlj : j < Z
      · as_aux_lemma => --done
          obtain ⟨p, q, p1, p2, p3, p4, p5, p6, p7⟩ := hT1.out.2.1.row j (by rw [hZ.out]; exact hlj)
          have hb0 := leftF_bd hT1.out.2.1 hfb.out p j (by rw [hZ.out]; exact hj)
          have hb1 := leftF_bd hT1.out.2.1 hfb.out q j (by rw [hZ.out]; exact hj)
          obtain ⟨z, hz⟩ : ∃ z, Hid (rowsAt s1.l j 2 = z) := ⟨_, hid rfl⟩
          have hst := hid (fun i => leftF_step (f := f) p3 p4 p5 hz.out i)
          have cp := HA.out.cell p1
          have cq := HA.out.cell p2
          obtain ⟨y, hy⟩ : ∃ y, Hid (leftF f s1 j p = y) := ⟨_, hid rfl⟩
          obtain ⟨x, hx⟩ : ∃ x, Hid (leftF f s1 j q = x) := ⟨_, hid rfl⟩
          rw [hy.out] at cp hb0 hst
          rw [hx.out] at cq hb1 hst
          rw [hz.out] at p6 p7
          obtain ⟨bo, oo, rfl, hbo, c0, c1, c2⟩ := (HA6.out.ext F.out).at3 hlj
          rw [p4] at c0
          rw [p5] at c1
          rw [hz.out] at c2
          clear p4 p5 cp cq
          go_upto_region 14 with fail
          refine wp_later fun w4 hw4 => ?_
          obtain ⟨e4, b8⟩ := hw4.newB
          obtain ⟨n8, hn8⟩ : ∃ N, Hid (wr.heap.size = N) := ⟨_, hid rfl⟩
          have hGn : Gl < n8 := by have := HA.out.lt; have := hn8.out; omega
          rw [hn8.out] at b8 ⊢
          have F := hid (F.out.trans e4)
          have HA := hid (HA.out.ext e4)
          have k8 := b8.cell
          have k8l := b8.lt
          have B8 := hid b8
          clear hw4 e4 b8 hbo c0 c1 c2
          go_upto_region 16 with fail
          have hjZ : (j : Int) ≤ 7 := by omega
          have cp := HA.out.cell p1
          have cq := HA.out.cell p2
          have fp := HA.out.frozen p
          have fq := HA.out.frozen q
          have la := HA.out.lt
          rw [hy.out] at cp
          rw [hx.out] at cq
          have hAll : Hid (ArrB ((w4.setCell ⟨Gl, p, none⟩ (.int .i64 (y + z))).setCell ⟨Gl, q, none⟩ (.int .i64 (x - z))) Gl 3 n (leftF f s1 (j + 1)) ∧ Ext wC ((w4.setCell ⟨Gl, p, none⟩ (.int .i64 (y + z))).setCell ⟨Gl, q, none⟩ (.int .i64 (x - z)))) :=
            hid ⟨((HA.out.set_ p (y + z)).set_ q (x - z)).congr fun i _ => hst.out i, (F.out.setCell _ (by show wC.heap.size ≤ Gl; omega)).setCell _ (by show wC.heap.size ≤ Gl; omega)⟩
          have wr1 : IntKind.i64.wrap (y + z) = y + z := IntWalk.i64_in _ (by omega)
          have wr2 : IntKind.i64.wrap (x - z) = x - z := IntWalk.i64_in _ (by omega)
          have A9 := HA.out.set_ p (y + z)
          have c9 := A9.cell p2
          rw [upd_other _ _ (fun e => p3 e.symm), hx.out] at c9
          have f9 := A9.frozen q
          have l9 := A9.lt
          have b0 := B8.out.cell 0
          have b1 := B8.out.cell 1
          have b2 := B8.out.cell 2
          have hne : Gl ≠ n8 := by omega
          clear k8 A9 hb0 hb1 p3 hst
          conv => enter [2, 2, 1, 2, 2, 2, 2, 2, 2, 2, 2, 2, 2, 1]; change id _
          conv => enter [2, 2, 1, 2, 2, 2, 2, 2, 2, 2, 2, 2, 2, 2, 2, 2, 2, 2, 2, 2, 2, 1]; change id _
          go_region_held (fun w' => w'.cell? ⟨n8, 0, none⟩ = some (.int .i64 (p : Int)) ∧ w'.cell? ⟨n8, 1, none⟩ = some (.int .i64 (q : Int)) ∧ w'.cell? ⟨n8, 2, none⟩ = some (.int .i64 z)) (go_keep) (fail)
          all_goals
            go_wp2
            refine ⟨⟨j + 1, by omega, by go_num, ?_⟩, by simp [intOf]; omega⟩
            first
              | exact ⟨hid hAll.out.1, hid hAll.out.2⟩
              | exact ⟨hid (hAll.out.1.ext (Ext.refl _).drew), hid hAll.out.2.drew⟩
      · have hjz : j = Z := by omega
        as_aux_lemma =>
        have HL0 := hid (HA.out.congr (h' := fun _ => 0) fun i hi => by rw [hjz, ← hZ.out]; exact leftF_end hT1.out.2.1 hT1.out.2.2 i hi)
        clear HA hj
        have E := hid (E.out.trans F.out)
        have HN := hid (HN.out.ext F.out)
        have HA7 := hid (HA7.out.ext F.out)
        have HR := hid (HR.out.ext F.out)
        go_upto_region 20 with fail
        obtain ⟨wD, hwD⟩ : ∃ W : World, Hid (W = wr) := ⟨_, hid rfl⟩
        rw [← hwD.out] at HL0 HN HA7 HR E
        clear F hlj hjz
        go_loopw [20, 188] (fun v i W => ∃ k : Nat, k ≤ K ∧ i = .int .i64 (k : Int) ∧ Hid (OwnR W wD.heap.size 3 1 v (rows1 (metN L3 k))) ∧ Hid (Ext wD W)) (fun _ i _ => K - (intOf i).toNat)
        case atStart => exact ⟨0, Nat.zero_le _, rfl, hid OwnR.nil, hid (by rw [hwD.out]; exact Ext.refl _)⟩
        case round =>
          obtain ⟨k, hk, rfl, HM, D⟩ := hrel
          by_cases hlk : k < K
          · as_aux_lemma => --done
              obtain ⟨B7, C7, hV7, hR7⟩ := HA7.out
              obtain ⟨Cn, hCn⟩ : ∃ c, Hid (grC L3 k = c) := ⟨_, hid rfl⟩
              obtain ⟨b7, o7, rfl, hb7, hc7⟩ := (hV7.ext D.out).at_ hlk
              have hg7 := hR7 k hlk
              clear hV7 hR7
              rw [hCn.out] at hc7 hg7
              have H7 := hid hg7
              have hkl := hid (show k < L3.length by rw [HL3.out]; exact hlk)
              have htw := hG3.out.two k hkl.out
              rw [hCn.out] at htw
              have hbm := hid (hG3.out.bd k (by have := hkl.out; omega))
              have hsum := hid (hG3.out.sum k hkl.out)
              rw [hCn.out] at hsum
              have hmem := hid (fun j (hj : j < Cn) => hG3.out.mem k j hkl.out (by rw [hCn.out]; exact hj))
              have hstep := hid (metN_step hkl.out)
              have hCl := hid (show (places (L3.getD k 0)).length = Cn from hCn.out)
              obtain ⟨pl, hpl⟩ : ∃ q, Hid (places (L3.getD k 0) = q) := ⟨_, hid rfl⟩
              obtain ⟨mt, hmt⟩ : ∃ q, Hid (metN L3 k = q) := ⟨_, hid rfl⟩
              rw [hpl.out] at hsum hstep hCl hmem
              rw [hmt.out] at hbm hstep hmem HM
              clear hg7
              go_upto_region 24 with fail
              obtain ⟨wE, hwE⟩ : ∃ W : World, Hid (W = wr) := ⟨_, hid rfl⟩
              rw [← hwE.out] at HM D
              clear hb7 hc7
              go_loopw [20, 23, 194] (fun v x i W => ∃ (j : Nat) (S : Int), j ≤ Cn ∧ i = .int .i64 (j : Int) ∧ x = .int .i64 S ∧ Hid (S = sumTo (fun j => f (pl.getD j 0)) j) ∧ Hid (OwnR W wD.heap.size 3 1 v (rows1 (mt ++ pl.take j))) ∧ Hid (Ext wD W)) (fun _ _ i _ => Cn - (intOf i).toNat)
              case atStart => exact ⟨0, 0, Nat.zero_le _, rfl, rfl, hid rfl, hid (by rw [← hwE.out, List.take_zero, List.append_nil]; exact HM.out), hid (by rw [← hwE.out]; exact D.out)⟩
              case round =>
                clear HM D hwE wE
                obtain ⟨j, S, hj, rfl, rfl, hS, HM, D⟩ := hrel
                have hSb : -400 ≤ S ∧ S ≤ 400 := by
                  have := HandSpec.P.sumTo_bd (f := fun j => f (pl.getD j 0)) (B := 56) j fun i hi => hfb.out _
                  rw [hS.out]
                  omega
                by_cases hlj : j < Cn
                · as_aux_lemma => --done
                    obtain ⟨t, m1, m2, m3, m4, m5⟩ := hmem.out j hlj
                    obtain ⟨bB, oB, hB7, hbB, hcB⟩ := H7.out.at1 hlj
                    have hgr : grG L3 k j = (t : Int) := by unfold grG; rw [hpl.out, m1]
                    rw [hgr] at hcB
                    have kB := hid (D.out.some_ hcB)
                    have kBl := Nat.lt_of_lt_of_le hbB D.out.size
                    obtain ⟨bN, oN, hN7, hbN, hcN⟩ := HN.out.at1 m2
                    cases hN7
                    obtain ⟨y, hy⟩ : ∃ y, Hid (f t = y) := ⟨_, hid rfl⟩
                    have hyb := hfb.out t
                    have hsn : Hid (S + y = sumTo (fun j => f (pl.getD j 0)) (j + 1)) := hid (by rw [sumTo_succ, m1, hy.out, hS.out])
                    have hmn : Hid (mt ++ pl.take (j + 1) = (mt ++ pl.take j) ++ [t]) := hid (by rw [take_next (by rw [hCl.out]; exact hlj), m1, List.append_assoc])
                    have hno := has_rows1 (l := mt ++ pl.take j) (t := t) (by
                      rw [List.mem_append]
                      rintro (q | q)
                      · exact m4 q
                      · exact not_take (by rw [hCl.out]; exact hj) m5 q)
                    have hno := hid hno
                    have hMl : (mt ++ pl.take j).length ≤ 100 := by
                      rw [List.length_append, List.length_take]
                      have := hbm.out
                      omega
                    rw [hy.out] at hcN hyb m3
                    rw [Nat.zero_add] at hcN
                    have kN := hid hcN
                    have m3' : (y == 0) = false := by simpa using m3
                    have kn := D.out.some_ hcN
                    have kl := Nat.lt_of_lt_of_le hbN D.out.size
                    have kb := kB.out
                    obtain ⟨Am, cm, rfl, rm⟩ := HM.out.slR
                    have RM := hid rm
                    clear rm m1 m3 m4 m5 hcB hbB hcN hgr
                    rw [hB7]
                    go_upto_region 28 with (go_at_call 47; (with_reducible refine (has47 (RM.out.ext (Ext.refl _)) (by rw [rows1_length]; omega) _).mono ?_); rintro e wz ⟨rfl, he⟩; rw [hno.out]; have D := hid (D.out.trans he); have HM := hid (HM.out.ext he); have kn := D.out.some_ kN.out; have kl := Nat.lt_of_lt_of_le hbN D.out.size; clear he)
                    have wr1 : IntKind.i64.wrap (S + y) = S + y := IntWalk.i64_in _ (by omega)
                    have HMB := hid (fun q (hq : Value.ownBlock (.slice Am (rows1 (mt ++ pl.take j)).length cm) = some q) => HM.out.block hq)
                    go_region_held_law (fun w' => w'.cell? ⟨Gm, t, none⟩ = some (.int .i64 y)) (first | exact c9 | go_keep) (first
                      | (refine step_append_rows_at (by rfl) _ _ 22 (by rfl) el22 (by rfl) (HM.out.ext (by repeat (first | exact Ext.refl _ | assumption | refine Ext.drew ?_ | refine Ext.alloc ?_ _))) _ 1 1 [[(t : Int)]] (by rfl) (by simp) (by simp) (by intro i; simp [cellsOf]) (by rw [rows1_length]; omega) (by have := D.out.size; simp; omega) ?_; intro vo w9 ho9 hg9 at9; have E9 : Ext wD w9 := Ext.grown (Ext.trans D.out (by repeat (first | exact Ext.refl _ | assumption | refine Ext.drew ?_ | refine Ext.alloc ?_ _))) hg9 HMB.out; have c9 := E9.some_ kN.out; have l9 := Nat.lt_of_lt_of_le hbN E9.size; have e9 := hid E9; clear E9 hg9 at9))
                    all_goals
                      as_aux_lemma =>
                        go_wp2_with fail
                        go_roundw
                        case rel =>
                          refine ⟨j + 1, S + y, by omega, by go_num, rfl, hsn, hid ?_, e9⟩
                          rw [hmn.out, rows1_append]
                          exact ho9
                        case measure => simp [intOf]; omega
                · as_aux_lemma => --done
                    have hje : j = Cn := by omega
                    have hS0 : S = 0 := by rw [hS.out, hje]; exact hsum.out
                    have h := HM.out
                    rw [hje, ← hCl.out, List.take_length, ← hstep.out] at h
                    have HM2 := hid h
                    clear h
                    subst hS0
                    have t2 : ¬ (Cn : Int) < 2 := by omega
                    clear hS HM
                    go_wp2_with fail
                    go_roundw
                    case rel => exact ⟨k + 1, by omega, by go_num, HM2, D⟩
                    case measure => simp [intOf]; omega
          · have hkK : k = K := by omega
            as_aux_lemma =>
            have hlen := hid (show (metN L3 k).length = O by rw [hkK, ← HL3.out, ← hO.out]; exact hG3.out.len)
            have E := hid (E.out.trans D.out)
            have HN := hid (HN.out.ext D.out)
            have HR := hid (HR.out.ext D.out)
            have HLz := hid ((HL0.out.ext D.out).rd (A := some ⟨Gl, 0, none⟩) fun _ => rfl)
            have hO0 := hid (show cntP (nzB (fun _ => 0)) n = 0 from cnt_zero n)
            obtain ⟨Am, cm, rfl, rm⟩ := HM.out.slR
            clear rm HM HA7 HL0 hk hkK
            rw [rows1_length, hlen.out]
            have tO : ((O : Int) != (O : Int)) = false := by simp
            go_upto_region 35 with (first
              | (go_at_call 65; (with_reducible refine (open65 HLz.out (by omega)).mono ?_); rintro e wz ⟨rfl, he⟩; rw [hO0.out]; have E := hid (E.out.trans he); have HN := hid (HN.out.ext he); have HR := hid (HR.out.ext he); clear he HLz)
              | (go_at_call 65; (with_reducible refine (open65 HN.out (by omega)).mono ?_); rintro e wz ⟨rfl, he⟩; rw [hO.out]; have E := hid (E.out.trans he); have HN := hid (HN.out.ext he); have HR := hid (HR.out.ext he); clear he))
            go_upto_region 36 with (go_at_call 31; refine (fill31 _).mono ?_; rintro e wF ⟨rfl, hea, hsa⟩; have ST2 := hid (start_of (HB2.out.ext (EW.out.trans E.out)) hea hsa); have ES := hid hea; clear hsa hea)
            obtain ⟨wS, hwS⟩ : ∃ W : World, Hid (W = wz) := ⟨_, hid rfl⟩
            rw [← hwS.out] at ST2 ES HN HR E ⊢
            clear tO
            go_upto_region 37 with fail
            go_loopw [249] (fun i W => ∃ r : Nat, r ≤ 6 ∧ i = .int .i64 (r : Int) ∧ Hid (Sx ⟨wS.heap.size, A2, n2, cap2⟩ (50 * r) wF W)) (fun i _ => 6 - (intOf i).toNat)
            case atStart => exact ⟨0, Nat.zero_le _, rfl, hid (Sx.refl _ _)⟩
            case round =>
              obtain ⟨r, hr, rfl, SX⟩ := hrel
              by_cases hlr : r < 6
              · have FS := hid (SX.out.ext ES.out (Nat.le_refl _))
                as_aux_lemma =>
                have ht0 := hid (show TryI f n 56 O ⟨f, []⟩ from ⟨⟨fun _ h => absurd h (by simp), fun i => by simp [sumTo], hfb.out⟩, by show 0 + cntP (nzB f) n ≤ O; rw [hO.out]; omega, by rw [← tot_sum9]; exact htot.out⟩)
                obtain ⟨wQ, hwQ⟩ : ∃ W : World, Hid (wr = W) := ⟨_, hid rfl⟩
                rw [hwQ.out] at SX FS ⊢
                go_upto_region 40 with (go_at_call 66; (with_reducible refine (dup66 (HN.out.ext FS.out) (by omega)).mono ?_); rintro e wz ⟨u, rfl, he, ho⟩; have HO2 := hid ho; have G := hid he; clear he ho)
                obtain ⟨Gn, capn, rfl, hGn, hcn, harr⟩ : ∃ Gn capn, u = .slice (some ⟨Gn, 0, none⟩) n capn ∧ wQ.heap.size ≤ Gn ∧ n ≤ capn ∧ Hid (ArrB wz Gn 3 n f) := by
                  rcases HO2.out.arrB with ⟨-, q⟩ | ⟨Gn, capn, h1, h2, h3, h4⟩
                  · have := congrArg List.length q
                    rw [rowsG_length] at this
                    simp at this
                    omega
                  · rw [rowsG_length] at h1 h3 h4
                    exact ⟨Gn, capn, h1, h2, h3, hid (h4.congr fun i hi => by rw [rowsG_at hi (by omega)])⟩
                clear HO2
                have SX0 := hid ((SX.out.trans (Sx.ofExt G.out)).mono (show 50 * r + 0 ≤ 50 * r by omega))
                have hSQ : wS.heap.size < wQ.heap.size := Nat.lt_of_lt_of_le ST2.out.lt SX.out.size
                obtain ⟨nB, hnB⟩ : ∃ N, Hid (wz.heap.size = N) := ⟨_, hid rfl⟩
                have hGB : Gn < nB := by have := harr.out.lt; have := hnB.out; omega
                have hSB : wS.heap.size < nB := by omega
                have hSQ2 := hid (show wF.heap.size ≤ Gn from Nat.le_trans SX.out.size hGn)
                go_loopw [27, 29, 30, 31] (fun v _ _ _ W => ∃ s : SS, lenV v = s.l.length ∧ nB ≤ W.heap.size ∧ Hid (TryI f n 56 O s) ∧ Hid (OwnR W nB 64 3 v s.l) ∧ Hid (ArrB W Gn 3 n s.f) ∧ Hid (Sx ⟨wS.heap.size, A2, n2, cap2⟩ (50 * r + 2 * s.l.length) wF W)) (fun v _ _ _ _ => 7 - lenV v)
                case atStart => exact ⟨⟨f, []⟩, rfl, Nat.le_of_eq hnB.out.symm, ht0, hid OwnR.nil, harr, SX0⟩
                case round =>
                  as_aux_lemma =>
                  clear SX0 harr ht0 SX G hnB
                  obtain ⟨s, hlv, hBW, T, HP, HX, SX⟩ := hrel
                  obtain ⟨Ap, cp, rfl, -⟩ := HP.out.slR
                  have FX := hid (SX.out.ext ES.out (Nat.le_refl _))
                  have HXr := hid (HX.out.rd (A := some ⟨Gn, 0, none⟩) fun _ => rfl)
                  obtain ⟨c, hc⟩ : ∃ c, Hid (cntP (nzB s.f) n = c) := ⟨_, hid rfl⟩
                  have hcl : s.l.length + c ≤ O := by have := T.out.c; rw [hc.out] at this; exact this
                  by_cases hc0' : 0 < c
                  · as_aux_lemma => --done
                    have t1 : (0 : Int) < (c : Int) := by omega
                    have hl7 : s.l.length < 7 := by omega
                    have hside := hid (some_sides T.out.s (by rw [hc.out]; exact hc0'))
                    go_upto_region 41 with (go_at_call 65; (with_reducible refine (open65 HXr.out (by omega)).mono ?_); rintro e wz ⟨rfl, he⟩; rw [hc.out]; have HP := hid (HP.out.ext he); have HX := hid (HX.out.ext he); have SX := hid (SX.out.trans (Sx.ofExt he)); have hBW := Nat.le_trans hBW he.size; clear he HXr)
                    go_upto_region 42 with (first
                      | ((fail_if_success (have := hva)); go_at_call 67; (with_reducible refine (below_b ST2.out SX.out (by omega) (n : Int) (by omega)).mono ?_); rintro e wz ⟨va, rfl, hva, hx⟩; have HP := hid (HP.out.sx hx (fun q => by have h := HP.out.block q; exact absurd h (show ¬ nB ≤ wS.heap.size by omega))); have HX := hid (HX.out.same (hx.block HX.out.lt (show Gn ≠ wS.heap.size by omega))); have SX := hid (SX.out.trans hx); have hBW := Nat.le_trans hBW hx.size; clear hx)
                      | (go_at_call 67; (with_reducible refine (below_b ST2.out SX.out (by omega) (n : Int) (by omega)).mono ?_); rintro e wz ⟨vb, rfl, hvb, hx⟩; have HP := hid (HP.out.sx hx (fun q => by have h := HP.out.block q; exact absurd h (show ¬ nB ≤ wS.heap.size by omega))); have HX := hid (HX.out.same (hx.block HX.out.lt (show Gn ≠ wS.heap.size by omega))); have SX := hid (SX.out.trans hx); have hBW := Nat.le_trans hBW hx.size; clear hx))
                    have hva : va < n := by omega
                    have hvb : vb < n := by omega
                    have ca := HX.out.cell hva
                    have cb := HX.out.cell hvb
                    have lG := HX.out.lt
                    obtain ⟨ya, hya⟩ : ∃ y, Hid (s.f va = y) := ⟨_, hid rfl⟩
                    obtain ⟨yb, hyb⟩ : ∃ y, Hid (s.f vb = y) := ⟨_, hid rfl⟩
                    rw [hya.out] at ca
                    rw [hyb.out] at cb
                    obtain ⟨tv, htv⟩ : ∃ b, Hid (decide (0 ≤ ya ∨ yb ≤ 0) = b) := ⟨_, hid rfl⟩
                    obtain ⟨W7, hW7⟩ : ∃ W : World, Hid (W = wz) := ⟨_, hid rfl⟩
                    go_upto_region 42 with fail
                    go_cut [275] (fun c W => c = .bool tv ∧ Hid (W = W7))
                    case first =>
                      as_aux_lemma => --done
                        by_cases c0 : 0 ≤ ya
                        · have := htv.out
                          rw [decide_eq_true (.inl c0)] at this
                          subst this
                          go_wp2_with fail
                          go_meet
                          exact ⟨rfl, hid hW7.out.symm⟩
                        · by_cases c1 : yb ≤ 0
                          · have := htv.out
                            rw [decide_eq_true (.inr c1)] at this
                            subst this
                            go_wp2_with fail
                            go_meet
                            exact ⟨rfl, hid hW7.out.symm⟩
                          · have := htv.out
                            rw [decide_eq_false (fun h => h.elim c0 c1)] at this
                            subst this
                            go_wp2_with fail
                            go_meet
                            exact ⟨rfl, hid hW7.out.symm⟩
                    case rest =>
                      obtain ⟨rfl, h1⟩ := hcut
                      have h1 := h1.out
                      rw [hW7.out] at h1
                      subst h1
                      clear hW7 ca cb lG
                      go_upto_if 275 with fail
                      go_cut [29, 30] (fun a b W => ∃ ka kb : Nat, ka < n ∧ kb < n ∧ a = .int .i64 (ka : Int) ∧ b = .int .i64 (kb : Int) ∧ s.f ka < 0 ∧ 0 < s.f kb ∧ nB ≤ W.heap.size ∧ Hid (OwnR W nB 64 3 (.slice Ap s.l.length cp) s.l) ∧ Hid (ArrB W Gn 3 n s.f) ∧ Hid (Sx ⟨wS.heap.size, A2, n2, cap2⟩ (50 * r + 2 * s.l.length + 2) wF W))
                      case first =>
                        as_aux_lemma => --done
                          have SX := hid (SX.out.mono (show 50 * r + 2 * s.l.length + 0 + 1 + 1 ≤ 50 * r + 2 * s.l.length + 2 by omega))
                          cases tv
                          · have := of_decide_eq_false htv.out
                            go_wp2_with fail
                            go_meet
                            exact ⟨va, vb, hva, hvb, rfl, rfl, by rw [hya.out]; omega, by rw [hyb.out]; omega, hBW, HP, HX, SX⟩
                          · obtain ⟨⟨i1, j1, j2⟩, i2, j3, j4⟩ := hside.out
                            obtain ⟨ka, a1, a2, a3⟩ := firstI_is (p := fun k => decide ((fun (i : Nat) (_ : Nat) => s.f i) k 0 < 0)) (anyTo_true.2 ⟨i1, j1, decide_eq_true j2⟩)
                            obtain ⟨kb, b1, b2, b3⟩ := firstI_is (p := fun k => decide (0 < (fun (i : Nat) (_ : Nat) => s.f i) k 0)) (anyTo_true.2 ⟨i2, j3, decide_eq_true j4⟩)
                            have HA3 := hid a3
                            have HB3 := hid b3
                            clear a3 b3 j1 j2 j3 j4
                            go_wp2_with (first
                              | (go_at_call 68; (with_reducible refine (indexFunc68 (HX.out.rd (A := some ⟨Gn, 0, none⟩) fun _ => rfl) (by omega) (asks69 _ _ _)).mono ?_); rintro e wz ⟨rfl, he⟩; rw [HA3.out]; have HP := hid (HP.out.ext he); have HX := hid (HX.out.ext he); have SX := hid ((SX.out.trans (Sx.ofExt he)).mono (Nat.le_refl _)); have hBW := Nat.le_trans hBW he.size; clear he)
                              | (go_at_call 68; (with_reducible refine (indexFunc68 (HX.out.rd (A := some ⟨Gn, 0, none⟩) fun _ => rfl) (by omega) (asks70 _ _ _)).mono ?_); rintro e wz ⟨rfl, he⟩; rw [HB3.out]; have HP := hid (HP.out.ext he); have HX := hid (HX.out.ext he); have SX := hid ((SX.out.trans (Sx.ofExt he)).mono (Nat.le_refl _)); have hBW := Nat.le_trans hBW he.size; clear he))
                            go_meet
                            exact ⟨ka, kb, a1, b1, rfl, rfl, of_decide_eq_true a2, of_decide_eq_true b2, hBW, HP, HX, SX⟩
                      case rest =>
                        obtain ⟨ka, kb, hka, hkb, rfl, rfl, hna, hpb, hBW, HP, HX, SX⟩ := hcut
                        clear htv hya hyb hva hvb hside
                        have hpay := T.out.pay hka hkb hna hpb
                        obtain ⟨T2, hcn, hpl, hpf⟩ := hpay
                        have HT2 := hid T2
                        have hab : ka ≠ kb := fun e => by subst e; omega
                        have by1 := T.out.p.bd ka
                        have by2 := T.out.p.bd kb
                        obtain ⟨y, hy⟩ : ∃ y, Hid (s.f ka = y) := ⟨_, hid rfl⟩
                        obtain ⟨x, hx⟩ : ∃ y, Hid (s.f kb = y) := ⟨_, hid rfl⟩
                        obtain ⟨z, hz⟩ : ∃ q, Hid (min (-y) x = q) := ⟨_, hid rfl⟩
                        have cp := HX.out.cell hka
                        have cq := HX.out.cell hkb
                        rw [hy.out] at cp by1 hna hpl hpf
                        rw [hx.out] at cq by2 hpb hpl hpf
                        rw [hz.out] at hpl hpf
                        have hpl := hid hpl
                        have hpf := hid hpf
                        have hz0 : 1 ≤ z ∧ z ≤ 56 := by have := hz.out; omega
                        have hmin : (if x < -y then x else -y) = z := by rw [← hz.out]; split <;> omega
                        have lG := HX.out.lt
                        clear T2 hcn
                        go_upto_region 45 with fail
                        refine wp_region_later (by kernel_rfl) (by kernel_rfl) ?_
                        repeat (go_big_quiet_step (fail))
                        refine wpQuiet_nil ?_
                        rintro w7 ⟨⟨w7', he7⟩, rfl⟩
                        have HP := hid (HP.out.ext he7)
                        have HX := hid (HX.out.ext he7)
                        have SX := hid (SX.out.trans (Sx.ofExt he7))
                        have hBW := Nat.le_trans hBW he7.size
                        clear cp cq lG he7
                        clear hmin
                        have F8 := hid (show ∀ g, (Value.slice Ap s.l.length cp).ownBlock = some g → nB ≤ g from fun g hg => HP.out.block hg)
                        have X8 := hid (show ∀ g, (Value.slice Ap s.l.length cp).ownBlock = some g → wF.heap.size ≤ g from fun g hg => by have := HP.out.block hg; have := hSQ2.out; omega)
                        obtain ⟨w8, hw8⟩ : ∃ W : World, Hid (W = w7) := ⟨_, hid rfl⟩
                        rw [← hw8.out] at HP HX SX hBW ⊢
                        have e8 : Ext w8 (w8.alloc (.cells #[.int .i64 (ka : Int), .int .i64 (kb : Int), .int .i64 z] 64)) := (Ext.refl _).alloc _
                        go_upto_region 47 with (at_builtin; refine wpList_append_rows rfl _ _ 25 rfl el25 rfl (HP.out.ext (Ext.alloc (Ext.refl _) _)) _ 1 1 [[(ka : Int), (kb : Int), z]] rfl rfl (by simp) (by intro j; simp [cellsOf]) (by omega) (by simp; omega) ?_; intro v9 w9 hown9 hg9)
                        have O9 := hid hown9
                        have A9 := hid ((HX.out.ext e8).same (hg9.block Gn (Nat.lt_of_lt_of_le HX.out.lt e8.size) (fun e => by have := F8.out Gn e.symm; omega)))
                        have S9 := hid ((SX.out.trans (Sx.ofExt e8)).grown hg9 X8.out)
                        have hB9 : nB ≤ w9.heap.size := Nat.le_trans (Nat.le_trans hBW e8.size) hg9.size
                        clear hown9 hg9 e8 hw8
                        have hlen2 : lenV v9 = s.l.length + 1 := by
                          obtain ⟨Aq, cq', e, -⟩ := O9.out.slR
                          rw [e]
                          simp [lenV]
                        have cp := A9.out.cell hka
                        have cq := A9.out.cell hkb
                        have fp := A9.out.frozen ka
                        have fq := A9.out.frozen kb
                        have la := A9.out.lt
                        rw [hy.out] at cp
                        rw [hx.out] at cq
                        have hAll : Hid (nB ≤ ((w9.setCell ⟨Gn, ka, none⟩ (.int .i64 (y + z))).setCell ⟨Gn, kb, none⟩ (.int .i64 (x - z))).heap.size ∧ OwnR ((w9.setCell ⟨Gn, ka, none⟩ (.int .i64 (y + z))).setCell ⟨Gn, kb, none⟩ (.int .i64 (x - z))) nB 64 3 v9 (payM ka kb s).l ∧ ArrB ((w9.setCell ⟨Gn, ka, none⟩ (.int .i64 (y + z))).setCell ⟨Gn, kb, none⟩ (.int .i64 (x - z))) Gn 3 n (payM ka kb s).f ∧ Sx ⟨wS.heap.size, A2, n2, cap2⟩ (50 * r + 2 * (payM ka kb s).l.length) wF ((w9.setCell ⟨Gn, ka, none⟩ (.int .i64 (y + z))).setCell ⟨Gn, kb, none⟩ (.int .i64 (x - z)))) := by
                          have hl2 : (payM ka kb s).l.length = s.l.length + 1 := by rw [hpl.out]; simp
                          refine hid ⟨?_, ?_, ?_, ?_⟩
                          · rw [World.size_setCell, World.size_setCell]; exact hB9
                          · rw [hpl.out]
                            exact (O9.out.far' (p := ⟨Gn, ka, none⟩) hGB _).far' (p := ⟨Gn, kb, none⟩) hGB _
                          · exact ((A9.out.set_ ka (y + z)).set_ kb (x - z)).congr fun i _ => (hpf.out i).symm
                          · rw [hl2]
                            exact ((S9.out.set_ Gn ka (.int .i64 (y + z)) hSQ2.out).set_ Gn kb (.int .i64 (x - z)) hSQ2.out).mono (by omega)
                        have wr1 : IntKind.i64.wrap (y + z) = y + z := IntWalk.i64_in _ (by omega)
                        have wr2 : IntKind.i64.wrap (x - z) = x - z := IntWalk.i64_in _ (by omega)
                        have A10 := A9.out.set_ ka (y + z)
                        have c9 := A10.cell hkb
                        rw [upd_other _ _ (fun e => hab e.symm), hx.out] at c9
                        have f9 := A10.frozen kb
                        have l9 := A10.lt
                        clear A10 by1 by2 hna hpb hz0 HX HP SX
                        go_region
                        all_goals
                          as_aux_lemma =>
                            go_wp2_with fail
                            go_roundw
                            case rel =>
                              first
                                | exact ⟨payM ka kb s, by rw [hlen2, hpl.out]; simp, hAll.out.1, HT2, hid hAll.out.2.1, hid hAll.out.2.2.1, hid hAll.out.2.2.2⟩
                                | exact ⟨payM ka kb s, by rw [hlen2, hpl.out]; simp, hAll.out.1, HT2, hid (hAll.out.2.1.ext (Ext.refl _).drew), hid (hAll.out.2.2.1.ext (Ext.refl _).drew), hid hAll.out.2.2.2.drew⟩
                            case measure => rw [hlen2]; show 7 - (s.l.length + 1) < 7 - s.l.length; omega
                  · as_aux_lemma =>
                    have hc00 : c = 0 := by omega
                    have t1 : ¬ (0 : Int) < (c : Int) := by omega
                    have hzz := hid (fun i (hi : i < n) => (show s.f i = 0 from Classical.byContradiction fun q => by
                      have h1 := cntP_lt (p := nzB s.f) hi (nzB_yes.2 q)
                      rw [hc.out] at h1
                      omega))
                    obtain ⟨e1, e2, e3⟩ := pays_ok T.out.p (by omega) hzz.out hoK.out
                    have HE1 := hid e1
                    have HE2 := hid e2
                    obtain ⟨LN, hLN⟩ : ∃ q, Hid (s.l.length = q) := ⟨_, hid rfl⟩
                    rw [hO.out] at e3
                    have hZL : Z ≤ LN := by have := hLN.out; omega
                    have hL7 : LN ≤ 7 := by have := hLN.out; omega
                    have tZ : ¬ (LN : Int) < (Z : Int) := by omega
                    have hrp := HP.out.rd
                    clear e1 e2 e3
                    rw [hLN.out] at HP HE1 HE2 hrp ⊢
                    have HPr := hid hrp
                    clear hrp hlv
                    go_upto_region 48 with (go_at_call 65; (with_reducible refine (open65 HXr.out (by omega)).mono ?_); rintro e wz ⟨rfl, he⟩; rw [hc.out]; have HP := hid (HP.out.ext he); have HPr := hid (HPr.out.ext he); have SX := hid (SX.out.trans (Sx.ofExt he)); have FX := hid (FX.out.trans he); have hBW := Nat.le_trans hBW he.size; clear he HXr)
                    go_upto_region 49 with (go_at_call 60; (with_reducible refine (settles60 (HR.out.ext FX.out) (by omega) hM1.out HPr.out (by omega)).mono ?_); rintro e wz ⟨rfl, he⟩; rw [hc0.out, if_pos rfl, if_pos rfl, hf.out, HE1.out, HE2.out]; have HP := hid (HP.out.ext he); have HPr := hid (HPr.out.ext he); have SX := hid (SX.out.trans (Sx.ofExt he)); have FX := hid (FX.out.trans he); have hBW := Nat.le_trans hBW he.size; clear he)
                    go_upto_region 51 with fail
                    go_upto_if 335 with fail
                    go_cut [32, 33] (fun _ _ W => Hid (Sx ⟨wS.heap.size, A2, n2, cap2⟩ (50 * r + 20) wF W))
                    case first =>
                      as_aux_lemma => --done
                        have SX := hid (SX.out.mono (show 50 * r + 2 * s.l.length + 0 + 0 ≤ 50 * r + 20 by have := hLN.out; omega))
                        by_cases hL0 : 0 < LN
                        · have tL : (0 : Int) < (LN : Int) := by omega
                          obtain ⟨f1, f2⟩ := plus_no T.out.p (by omega) hzz.out (by have := hLN.out; omega)
                          rw [hLN.out] at f1 f2
                          have HF1 := hid f1
                          have HF2 := hid f2
                          clear f1 f2
                          rcases OwnR.arr HP.out with ⟨-, q⟩ | ⟨gp, cpp, hv9, hgB, hcc, hAr⟩
                          · have := hLN.out
                            rw [q] at this
                            simp at this
                            omega
                          obtain ⟨zc, hzc⟩ : ∃ q, Hid (rowsAt s.l 0 2 = q) := ⟨_, hid rfl⟩
                          have k2 := hAr.cell (show 2 < s.l.length * 3 by have := hLN.out; omega)
                          have kf := hAr.frozen (show 2 < s.l.length * 3 by have := hLN.out; omega)
                          have kl := hAr.1
                          rw [hLN.out] at hv9
                          simp only [Value.slice.injEq] at hv9
                          obtain ⟨rfl, -, rfl⟩ := hv9
                          rw [show (2 : Nat) / 3 = 0 from rfl, show (2 : Nat) % 3 = 2 from rfl, hzc.out] at k2
                          have hzb : 1 ≤ zc ∧ zc ≤ 56 := by
                            obtain ⟨p', q', -, -, -, -, -, h6, h7⟩ := T.out.p.row 0 (by have := hLN.out; omega)
                            rw [hzc.out] at h6 h7
                            exact ⟨h6, h7⟩
                          have wr1 : IntKind.i64.wrap (zc + 1) = zc + 1 := IntWalk.i64_in _ (by omega)
                          have HA3 := hid hAr
                          have HG := hid (show wF.heap.size ≤ gp by have := hSQ2.out; omega)
                          have HR0 := hid (HR.out.ext FX.out)
                          clear hAr hcc hzb
                          go_upto_region 53 with fail
                          have F9 := hid (FX.out.setCell (p := ⟨gp, 2, none⟩) (.int .i64 (zc + 1)) (show wS.heap.size ≤ gp by omega))
                          have S9 := hid (SX.out.set_ gp 2 (.int .i64 (zc + 1)) HG.out)
                          have P9 := hid (show Rd (wz.setCell ⟨gp, 2, none⟩ (.int .i64 (zc + 1))) (some ⟨gp, 0, none⟩) LN 3 (plusR (rowsAt s.l)) from fun _ => ⟨gp, 0, rfl, fun k hk j hj => by
                            have h := (HA3.out.set_ 2 (zc + 1) (by have := hLN.out; omega)).cell (show k * 3 + j < s.l.length * 3 by have := hLN.out; omega)
                            rw [show 0 + k * 3 + j = k * 3 + j by omega, h]
                            unfold plusR
                            by_cases e : k = 0 ∧ j = 2
                            · obtain ⟨rfl, rfl⟩ := e
                              rw [if_pos ⟨rfl, rfl⟩, show 0 * 3 + 2 = 2 from rfl, upd_same, hzc.out]
                            · rw [if_neg e, upd_other _ _ (by omega)]
                              rw [show (k * 3 + j) / 3 = k by omega, show (k * 3 + j) % 3 = j by omega]⟩)
                          obtain ⟨w9, hw9⟩ : ∃ W : World, Hid (W = wz.setCell ⟨gp, 2, none⟩ (.int .i64 (zc + 1))) := ⟨_, hid rfl⟩
                          rw [← hw9.out] at F9 S9 P9 ⊢
                          clear k2 kf kl
                          go_wp2_with (go_at_call 60; (with_reducible refine (settles60 (HR.out.ext F9.out) (by omega) hM1.out P9.out (by omega)).mono ?_); rintro e wy ⟨rfl, he⟩; rw [hc0.out, if_pos rfl, if_pos rfl, hf.out, HF1.out, HF2.out]; have S9 := hid (S9.out.trans (Sx.ofExt he)); clear he)
                          go_meet
                          exact hid (S9.out.mono (by omega))
                        · have tL : ¬ (0 : Int) < (LN : Int) := by omega
                          go_wp2_with fail
                          go_meet
                          exact SX
                    case rest =>
                      have SX := hcut
                      clear HP HPr FX hBW HX T hzz HE1 HE2 hLN hZL hL7 tZ t1
                      go_upto_region 56 with fail
                      go_upto_region 57 with (go_at_call 71; (with_reducible refine (among_b ST2.out SX.out (by omega) 1 4 (by omega) (by omega) (by omega)).mono ?_); rintro e wz ⟨qv, rfl, hq1, hq2, hx⟩; have SX := hid (SX.out.trans hx); obtain ⟨Q, hQ⟩ : ∃ Q : Nat, qv = (Q : Int) := ⟨qv.toNat, by omega⟩; subst hQ; have hQ4 : 1 ≤ Q ∧ Q ≤ 4 := (by omega); have hmk39 := make39_run wz Q (by omega); clear hx hq1 hq2)
                      have hA0 := arrV_new wz Q (.slice none 0 0) 22
                      have SX0 := hid (SX.out.trans (Sx.ofExt ((Ext.refl wz).alloc (.cells (Array.replicate Q (.slice none 0 0)) 22))))
                      obtain ⟨w5, hw5⟩ : ∃ W : World, Hid (W = wz.alloc (.cells (Array.replicate Q (.slice none 0 0)) 22)) := ⟨_, hid rfl⟩
                      have hGw : wF.heap.size ≤ wz.heap.size := SX.out.size
                      obtain ⟨Gt, hGt⟩ : ∃ N, Hid (wz.heap.size = N) := ⟨_, hid rfl⟩
                      rw [← hw5.out] at hA0 SX0 ⊢
                      rw [hGt.out] at hA0 hGw ⊢
                      have hSG : wS.heap.size < Gt := Nat.lt_of_lt_of_le ST2.out.lt hGw
                      have TR0 := hid (show TrS w5 (Gt + 1) Gt Q (fun _ => .slice none 0 0) (fun _ => []) from ⟨hA0, Nat.lt_succ_self _, fun _ _ => OwnR.nil, fun _ _ _ _ _ g h => by cases h⟩)
                      have TL0 := hid (show TlS f 0 Q (fun _ => []) from ⟨fun _ _ j h => absurd h (by simp), fun _ _ j h => absurd h (by simp), fun _ _ => Nat.zero_le _⟩)
                      have hBs := hid (show Gt + 1 ≤ w5.heap.size from hA0.1)
                      clear hA0 hmk39 hw5 hGt SX
                      go_upto_region 58 with fail
                      go_loopw [359] (fun i W => ∃ (j : Nat) (V : Nat → Value) (tl : Nat → List Nat), j ≤ n ∧ i = .int .i64 (j : Int) ∧ Gt + 1 ≤ W.heap.size ∧ Hid (TrS W (Gt + 1) Gt Q V tl) ∧ Hid (TlS f j Q tl) ∧ Hid (Sx ⟨wS.heap.size, A2, n2, cap2⟩ (50 * r + 21 + j) wF W)) (fun i _ => n - (intOf i).toNat)
                      case atStart => exact ⟨0, _, _, Nat.zero_le _, rfl, hBs.out, TR0, TL0, hid (SX0.out.mono (by omega))⟩
                      case round =>
                        clear TR0 TL0 SX0 hBs
                        obtain ⟨j, V, tl, hj, rfl, hBs, TR, TL, SX⟩ := hrel
                        by_cases hlj : j < n
                        · as_aux_lemma =>
                            have FX := hid (SX.out.ext ES.out (Nat.le_refl _))
                            obtain ⟨bN, oN, hN7, hbN, hcN⟩ := (HN.out.ext FX.out).at1 hlj
                            cases hN7
                            rw [Nat.zero_add] at hcN
                            obtain ⟨y, hy⟩ : ∃ y, Hid (f j = y) := ⟨_, hid rfl⟩
                            rw [hy.out] at hcN
                            by_cases hy0 : y = 0
                            · have ty : (y != 0) = false := by simpa using hy0
                              clear hy0
                              go_wp2_with fail
                              go_roundw
                              case rel => exact ⟨j + 1, V, tl, by omega, by go_num, hBs, TR, hid TL.out.next, hid (SX.out.mono (by omega))⟩
                              case measure => simp [intOf]; omega
                            · have ty : (y != 0) = true := by simpa using hy0
                              have hfj := hid (show f j ≠ 0 by rw [hy.out]; exact hy0)
                              clear hy0
                              go_upto_region 62 with (go_at_call 67; (with_reducible refine (below_b ST2.out SX.out (by omega) (Q : Int) (by omega)).mono ?_); rintro e wy ⟨p, rfl, hp, hx⟩; have TR := hid (TR.out.sx hx hSG); have SX := hid (SX.out.trans hx); have hBs := Nat.le_trans hBs hx.size; clear hx hcN hbN)
                              have hpQ : p < Q := by omega
                              have TLn := hid (TL.out.put hpQ hfj.out)
                              have hll := TL.out.len p hpQ
                              have hrow := TR.out.row p hpQ
                              obtain ⟨Ai, ci, hVi, -⟩ := hrow.slR
                              rw [rows1_length] at hVi
                              have ct := TR.out.a.cell hpQ
                              have ctl := TR.out.a.1
                              rw [hVi] at ct hrow
                              have HW := hid hrow
                              have HVi := hid hVi
                              obtain ⟨Ln, hLn⟩ : ∃ q, Hid ((tl p).length = q) := ⟨_, hid rfl⟩
                              rw [hLn.out] at ct hll HW HVi
                              obtain ⟨w8, hw8⟩ : ∃ W : World, Hid (W = wy) := ⟨_, hid rfl⟩
                              rw [← hw8.out] at TR SX hBs ct ctl HW ⊢
                              have e8 : Ext w8 (w8.alloc (.cells #[.int .i64 (j : Int)] 3)) := (Ext.refl _).alloc _
                              clear hrow hVi hw8 hp
                              have hlr := hid (show (rows1 (tl p) ++ [[(j : Int)]]).length = Ln + 1 by rw [List.length_append, rows1_length, hLn.out]; rfl)
                              go_wp2_with (at_builtin; refine wpList_append_rows_at rfl _ _ 22 rfl el22 rfl (HW.out.ext (Ext.alloc (Ext.refl _) _)) _ 1 1 [[(j : Int)]] rfl rfl (by simp) (by intro q; simp [cellsOf]) (by rw [rows1_length, hLn.out]; omega) (by simp; omega) ?_; intro vo w9 ho9 hg9 at9; obtain ⟨Ao, co, rfl, -⟩ := OwnR.slR ho9; rw [hlr.out] at ho9 at9 ⊢; have HO9 := hid ho9; have HG9 := hid hg9; have HA9 := hid at9; have a9 := (TR.out.a.ext e8).same (hg9.block Gt (TR.out.a.ext e8).1 (fun q => by have := HW.out.block q.symm; omega)); have ct9 := a9.cell hpQ; have cf9 := a9.frozen hpQ; have cl9 := a9.1; clear ho9 hg9 at9 a9)
                              have hput := TR.out.put hpQ e8 HO9.out (by rw [HVi.out]; exact HG9.out) (by rw [HVi.out]; exact HA9.out)
                              have HPut := hid hput
                              have SX9 := hid (((SX.out.trans (Sx.ofExt e8)).grown HG9.out (fun q hq => by have := HW.out.block hq; omega)).set_ Gt p (.slice Ao (Ln + 1) co) hGw)
                              have hB9 : Gt + 1 ≤ w9.heap.size := Nat.le_trans (Nat.le_trans hBs e8.size) HG9.out.size
                              clear hput
                              go_roundw
                              case rel => exact ⟨j + 1, _, _, by omega, by go_num, by rw [World.size_setCell]; exact hB9, HPut, TLn, hid (SX9.out.mono (by omega))⟩
                              case measure => simp [intOf]; omega
                        · have hjn : j = n := by omega
                          as_aux_lemma =>
                          have TLn := hid (show TlS f n Q tl by rw [← hjn]; exact TL.out)
                          have SXn := hid (SX.out.mono (show 50 * r + 21 + j ≤ 50 * r + 30 by omega))
                          obtain ⟨wa, hwa⟩ : ∃ W : World, Hid (W = wr) := ⟨_, hid rfl⟩
                          rw [← hwa.out] at TR SXn hBs ⊢
                          have h65 : Gt ≤ wa.heap.size := by omega
                          clear TL SX hjn hj hwa
                          go_upto_region 65 with (go_at_call 72; (with_reducible refine (tried72 TR.out TLn.out (by omega) (by omega)).mono ?_); rintro e wb ⟨q, cq, gq, rfl, hqQ, hL9, hex⟩; have HL9 := hid hL9; have HEx := hid hex; clear hL9 hex)
                          have SXb := hid (Sx.above SXn.out hGw hSG h65 HEx.out)
                          have FX := hid (SXb.out.ext ES.out (Nat.le_refl _))
                          have htr := tried_ok (n := n) (m := fun _ => n) (g := m) (K := K) (q := q) (c := cq) (gr := gq) hc0.out (by rw [hf.out]; exact hoK.out) (by rw [hf.out]; exact HL9.out.m) HL9.out.i
                          rw [hf.out, hO.out] at htr
                          have HTR := hid htr
                          clear htr
                          go_upto_region 66 with (go_at_call 62; (with_reducible refine (shows62 (HR.out.ext FX.out) (by omega) hM1.out HL9.out.r (by omega) HL9.out.le).mono ?_); rintro e wy ⟨rfl, he⟩; have SXy := hid (SXb.out.trans (Sx.ofExt he)); clear he)
                          obtain ⟨zE, hzE⟩ : ∃ z, Hid (showE n (fun _ => n) m q cq gq = z) := ⟨_, hid rfl⟩
                          obtain ⟨zV, hzV⟩ : ∃ z, Hid (showV n (fun _ => n) m q cq gq = z) := ⟨_, hid rfl⟩
                          rw [hzE.out, hzV.out] at HTR ⊢
                          rcases HTR.out with h8 | ⟨h0, hv, hk⟩
                          · subst h8
                            go_wp2_with fail
                            go_roundw
                            case rel => exact ⟨r + 1, by omega, by go_num, hid (SXy.out.mono (by omega))⟩
                            case measure => simp [intOf]; omega
                          · subst h0
                            have tv : ¬ zV < (Z : Int) := by omega
                            clear hv hk
                            go_wp2_with fail
                            go_roundw
                            case rel => exact ⟨r + 1, by omega, by go_num, hid (SXy.out.mono (by omega))⟩
                            case measure => simp [intOf]; omega
              · as_aux_lemma => --done
                  have FS := hid (SX.out.ext ES.out (Nat.le_refl _))
                  go_wp2_with (go_at_call 18; refine (awake_any _).mono ?_; rintro e wz ⟨rfl, he⟩; have FS := hid (FS.out.trans he); clear he)
                  go_ret
                  exact ⟨rfl, EW.out.trans (E.out.trans FS.out)⟩
end Go.Proofs.YtbceepjjdfpfmaaGreat
