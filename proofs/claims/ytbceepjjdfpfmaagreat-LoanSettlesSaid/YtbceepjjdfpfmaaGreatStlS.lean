/- Walk of Settles (60). The debts' rows are no longer than 1000, nor the list. -/
import Derived.Test.YtbceepjjdfpfmaaGreatRefF
import Derived.Test.YtbceepjjdfpfmaaGreatNetA
namespace Go.Proofs.YtbceepjjdfpfmaaGreat
open Go.RowKit HandSpec LoanSpec
set_option maxHeartbeats 2000000
set_option maxRecDepth 100000
theorem anyTo_same2 {p q : Nat → Bool} : ∀ {n : Nat}, (∀ i, i < n → p i = q i) → anyTo p n = anyTo q n
  | 0, _ => rfl
  | n + 1, h => by
    simp only [anyTo]
    rw [anyTo_same2 fun i hi => h i (by omega), h n (by omega)]
theorem asks142 {w : World} {A : Option Addr} {n cap L : Nat} {p : Nat → Nat → Int} {b : Nat} {t : TypeId} (hn : n ≤ 1000) (hb : Blk w b t #[.slice A n cap]) :
    Asks w (.func (.func 142) #[] #[.pointer (some ⟨b, 0, none⟩)]) L (enc3 p) (fun k => inB (p k 0) 0 ((n : Int) - 1) && inB (p k 1) 0 ((n : Int) - 1)) := by
  refine ⟨_, _, rfl, enters_ Tryz.func142 (by kernel_rfl) rfl, fun k hk w' he => ?_⟩
  unfold enc3
  show Calls Tryz.prog 142 _ w' fun e w'' => e = .returned (.bool (inB (p k 0) 0 ((n : Int) - 1) && inB (p k 1) 0 ((n : Int) - 1))) ∧ Ext w' w''
  have B0 := hid (hb.ext he)
  obtain ⟨x, hx⟩ : ∃ x, Hid (p k 0 = x) := ⟨_, hid rfl⟩
  obtain ⟨y, hy⟩ : ∃ x, Hid (p k 1 = x) := ⟨_, hid rfl⟩
  obtain ⟨z, hz⟩ : ∃ x, Hid (p k 2 = x) := ⟨_, hid rfl⟩
  rw [hx.out, hy.out, hz.out]
  obtain ⟨s, hs⟩ : ∃ s, Hid (inB x 0 ((n : Int) - 1) = s) := ⟨_, hid rfl⟩
  obtain ⟨u, hu⟩ : ∃ u, Hid (inB y 0 ((n : Int) - 1) = u) := ⟨_, hid rfl⟩
  rw [hs.out, hu.out]
  go_enter Tryz.func142, Tryz.ntmps142
  go_upto_region 1 with fail
  refine wp_later fun w1 hw1 => ?_
  obtain ⟨E1, b2⟩ := hw1.newB
  have k2 := b2.cell
  have k2l := b2.lt
  have k0 := (B0.out.ext E1).cell
  have hlt := (B0.out.ext E1).lt
  clear hw1 b2
  cases s
  · go_wp2_with (go_at_call 101; refine (in_any _ _ _ _).mono ?_; rintro e w2 ⟨rfl, rfl⟩; (first | rw [hs.out] | rw [hu.out]))
    go_ret
    exact ⟨rfl, E1⟩
  · go_wp2_with (go_at_call 101; refine (in_any _ _ _ _).mono ?_; rintro e w2 ⟨rfl, rfl⟩; (first | rw [hs.out] | rw [hu.out]))
    go_ret
    exact ⟨rfl, E1⟩
theorem asks143 (w : World) (p : Nat → Nat → Int) (L : Nat) : Asks w (.func (.func 143) #[] #[]) L (enc3 p) (fun k => p k 0 != p k 1) := by
  refine ⟨_, _, rfl, enters_ Tryz.func143 (by kernel_rfl) rfl, fun k hk w' he => ?_⟩
  unfold enc3
  go_enter Tryz.func143, Tryz.ntmps143
  go_wp2_with fail
  go_ret
  exact ⟨rfl, (Ext.refl _).alloc _⟩
theorem asks144 (w : World) (p : Nat → Nat → Int) (L : Nat) : Asks w (.func (.func 144) #[] #[]) L (enc3 p) (fun k => inB (p k 2) 1 6000000) := by
  refine ⟨_, _, rfl, enters_ Tryz.func144 (by kernel_rfl) rfl, fun k hk w' he => ?_⟩
  unfold enc3
  go_enter Tryz.func144, Tryz.ntmps144
  go_upto_region 1 with fail
  refine wp_later fun w1 hw1 => ?_
  obtain ⟨E1, b2⟩ := hw1.newB
  have k2 := b2.cell
  have k2l := b2.lt
  clear hw1 b2
  go_wp2_with (go_at_call 101; refine (in_any _ _ _ _).mono ?_; rintro e w2 ⟨rfl, rfl⟩)
  go_ret
  exact ⟨rfl, E1⟩
theorem asks145 (w : World) (p : Nat → Nat → Int) (L : Nat) : Asks w (.func (.func 145) #[] #[]) L (enc1 p) (fun k => p k 0 == 0) := by
  refine ⟨_, _, rfl, enters_ Tryz.func145 (by kernel_rfl) rfl, fun k hk w' he => ?_⟩
  unfold enc1
  go_enter Tryz.func145, Tryz.ntmps145
  go_wp2_with fail
  go_ret
  exact ⟨rfl, Ext.refl _⟩
theorem settles60 {w : World} {A Ap : Option Addr} {n cap L capp : Nat} {m : Nat → Nat} {g p : Nat → Nat → Int} (hr : RdN w A n m g) (hn : n ≤ 1000) (hm : ∀ k, k < n → m k ≤ 1000) (hp : Rd w Ap L 3 p) (hL : L ≤ 1000) :
    Calls Tryz.prog 60 #[.slice A n cap, .slice Ap L capp] w fun e w' => e = .returned (.tuple #[.bool (if chkD n m g = 0 then settV n L p (netTo g n n) else false), .int .i64 (if chkD n m g = 0 then settE n L p else chkD n m g)]) ∧ Ext w w' := by
  have hmf : ∀ (fn : Fn) (first cap : Array Value) (w : World), (Instr.makeFunc fn first cap).run Tryz.prog w = .ok (.func fn first cap) w := fun _ _ _ _ => rfl
  have HR := hid hr
  have HM := hid hm
  have HP := hid hp
  clear hr hm hp
  obtain ⟨s, hs⟩ : ∃ s, Hid (chkD n m g = s) := ⟨_, hid rfl⟩
  rw [hs.out]
  have B1 := hid (Blk.new w 48 #[.slice A n cap])
  have E1 : Ext w (w.alloc (.cells #[.slice A n cap] 48)) := (Ext.refl _).alloc _
  have E1 := hid E1
  rcases (Decidable.em (s = 0)).symm with h0 | h0
  · have hne : (s != 0) = true := by simpa using h0
    rw [if_neg h0, if_neg h0]
    clear h0
    go_enter Tryz.func60, Tryz.ntmps60
    go_wp2_with (go_at_call 33; refine (checkDebts33 (HR.out.ext E1.out) hn HM.out).mono ?_; rintro e w1 ⟨rfl, he1⟩; rw [hs.out])
    go_ret2
    exact ⟨rfl, E1.out.trans he1⟩
  subst h0
  rw [if_pos rfl, if_pos rfl]
  obtain ⟨hd, hsq⟩ := chkD_zero hs.out
  have HD := hid hd
  have HR2 := hid (HR.out.congr (m' := fun _ => n) (g' := g) fun k hk => ⟨hsq k hk, fun _ _ => rfl⟩)
  have hn7 := hd.hn
  clear hd hsq
  obtain ⟨f, hf⟩ : ∃ f, Hid (netTo g n n = f) := ⟨_, hid rfl⟩
  have hfb := hid (show ∀ i, i < n → -6000000 ≤ f i ∧ f i ≤ 6000000 from fun i hi => by rw [← hf.out]; exact net_bd HD.out hi)
  rw [hf.out]
  obtain ⟨er, her⟩ : ∃ er, Hid (settE n L p = er) := ⟨_, hid rfl⟩
  obtain ⟨vr, hvr⟩ : ∃ vr, Hid (settV n L p f = vr) := ⟨_, hid rfl⟩
  obtain ⟨q1, hq1⟩ : ∃ x, Hid (anyTo (fun j => !(inB (p j 0) 0 ((n : Int) - 1) && inB (p j 1) 0 ((n : Int) - 1))) L = x) := ⟨_, hid rfl⟩
  obtain ⟨q2, hq2⟩ : ∃ x, Hid (anyTo (fun j => p j 0 == p j 1) L = x) := ⟨_, hid rfl⟩
  have hq2' := hid (show anyTo (fun k => !(p k 0 != p k 1)) L = q2 by rw [← hq2.out]; exact anyTo_same2 fun k _ => by simp [bne])
  obtain ⟨q3, hq3⟩ : ∃ x, Hid (anyTo (fun j => !inB (p j 2) 1 6000000) L = x) := ⟨_, hid rfl⟩
  have hE := hid (show er = if q1 then 1 else if q2 then 5 else if q3 then 3 else 0 by rw [← her.out]; unfold settE; rw [hq1.out, hq2.out, hq3.out])
  have hV := hid (show vr = ((er == 0) && !anyTo (fun i => !(payS p i L == f i)) n) by rw [← hvr.out, ← her.out]; rfl)
  have hV0 := hid (show er ≠ 0 → vr = false from fun h => by rw [hV.out, show (er == 0) = false by simpa using h]; rfl)
  rw [her.out, hvr.out]
  clear her hvr
  go_enter Tryz.func60, Tryz.ntmps60
  cases q1
  case true =>
    have h1 := hid (show er = 1 by rw [hE.out]; rfl)
    go_wp2_with (first | (go_at_call 33; refine (checkDebts33 (HR.out.ext E1.out) hn HM.out).mono ?_; rintro e w1 ⟨rfl, he1⟩; rw [hs.out]; have E2 := hid (E1.out.trans he1); have k1 := (B1.out.ext he1).cell; have k1l := (B1.out.ext he1).lt; have B2 := hid (B1.out.ext he1); clear he1) | (go_at_call 124; refine (every124 (HP.out.ext E2.out) hL (asks142 hn B2.out)).mono ?_; rintro e w3 ⟨rfl, he3⟩; rw [hq1.out]))
    go_ret2
    exact ⟨ret_bi (hV0.out (by rw [h1.out]; simp)).symm h1.out.symm, E2.out.trans he3⟩
  case false =>
    have hin := hid (show ∀ j, j < L → 0 ≤ p j 0 ∧ p j 0 < n ∧ 0 ≤ p j 1 ∧ p j 1 < n from fun j hj => by
      have := anyTo_false.1 hq1.out j hj
      simp [inB] at this
      omega)
    cases q2
    case true =>
      have h5 := hid (show er = 5 by rw [hE.out]; rfl)
      go_upto_region 6 with (first | (go_at_call 33; refine (checkDebts33 (HR.out.ext E1.out) hn HM.out).mono ?_; rintro e w1 ⟨rfl, he1⟩; rw [hs.out]; have E2 := hid (E1.out.trans he1); have k1 := (B1.out.ext he1).cell; have k1l := (B1.out.ext he1).lt; have B2 := hid (B1.out.ext he1); clear he1) | (go_at_call 124; refine (every124 (HP.out.ext E2.out) hL (asks142 hn B2.out)).mono ?_; rintro e w3 ⟨rfl, he3⟩; rw [hq1.out]; have E3 := hid (E2.out.trans he3); clear he3))
      go_wp2_with (go_at_call 124; refine (every124 (HP.out.ext E3.out) hL (asks143 _ p L)).mono ?_; rintro e w4 ⟨rfl, he4⟩; rw [hq2'.out])
      go_ret2
      exact ⟨ret_bi (hV0.out (by rw [h5.out]; simp)).symm h5.out.symm, E3.out.trans he4⟩
    case false =>
      cases q3
      case true =>
        have h3 := hid (show er = 3 by rw [hE.out]; rfl)
        go_upto_region 6 with (first | (go_at_call 33; refine (checkDebts33 (HR.out.ext E1.out) hn HM.out).mono ?_; rintro e w1 ⟨rfl, he1⟩; rw [hs.out]; have E2 := hid (E1.out.trans he1); have k1 := (B1.out.ext he1).cell; have k1l := (B1.out.ext he1).lt; have B2 := hid (B1.out.ext he1); clear he1) | (go_at_call 124; refine (every124 (HP.out.ext E2.out) hL (asks142 hn B2.out)).mono ?_; rintro e w3 ⟨rfl, he3⟩; rw [hq1.out]; have E3 := hid (E2.out.trans he3); clear he3))
        go_upto_region 8 with (go_at_call 124; refine (every124 (HP.out.ext E3.out) hL (asks143 _ p L)).mono ?_; rintro e w4 ⟨rfl, he4⟩; rw [hq2'.out]; have E4 := hid (E3.out.trans he4); clear he4)
        go_wp2_with (go_at_call 124; refine (every124 (HP.out.ext E4.out) hL (asks144 _ p L)).mono ?_; rintro e w5 ⟨rfl, he5⟩; rw [hq3.out])
        go_ret2
        exact ⟨ret_bi (hV0.out (by rw [h3.out]; simp)).symm h3.out.symm, E4.out.trans he5⟩
      case false =>
        have h0 := hid (show er = 0 by rw [hE.out]; rfl)
        have hpb := hid (show ∀ j, j < L → 1 ≤ p j 2 ∧ p j 2 ≤ 6000000 from fun j hj => by
          have := anyTo_false.1 hq3.out j hj
          simpa [inB] using this)
        have hne := hid (show ∀ j, j < L → p j 0 ≠ p j 1 from fun j hj => by
          have := anyTo_false.1 hq2.out j hj
          simpa using this)
        have hV1 := hid (show vr = !anyTo (fun i : Nat => !(payS p (i : Int) L == f i)) n by rw [hV.out, h0.out]; rfl)
        clear hE hV hV0
        go_upto_region 6 with (first | (go_at_call 33; refine (checkDebts33 (HR.out.ext E1.out) hn HM.out).mono ?_; rintro e w1 ⟨rfl, he1⟩; rw [hs.out]; have E2 := hid (E1.out.trans he1); have k1 := (B1.out.ext he1).cell; have k1l := (B1.out.ext he1).lt; have B2 := hid (B1.out.ext he1); clear he1) | (go_at_call 124; refine (every124 (HP.out.ext E2.out) hL (asks142 hn B2.out)).mono ?_; rintro e w3 ⟨rfl, he3⟩; rw [hq1.out]; have E3 := hid (E2.out.trans he3); have B3 := hid (B2.out.ext he3); clear he3))
        go_upto_region 8 with (go_at_call 124; refine (every124 (HP.out.ext E3.out) hL (asks143 _ p L)).mono ?_; rintro e w4 ⟨rfl, he4⟩; rw [hq2'.out]; have E4 := hid (E3.out.trans he4); have B4 := hid (B3.out.ext he4); clear he4)
        go_upto_region 10 with (go_at_call 124; refine (every124 (HP.out.ext E4.out) hL (asks144 _ p L)).mono ?_; rintro e w5 ⟨rfl, he5⟩; rw [hq3.out]; have E5 := hid (E4.out.trans he5); have B5 := B4.out.ext he5; have k1 := B5.cell; have k1l := B5.lt; clear he5)
        go_upto_region 11 with (go_at_call 108; refine (net108 (HR2.out.ext E5.out) HD.out).mono ?_; rintro e w6 ⟨G, rfl, he6, hG, hA⟩; rw [hf.out] at hA; have HN := hid (hA.congr (h' := fun i => f i - payS p (i : Int) 0) fun i hi => by show f i = f i - 0; omega); have E6 := hid (E5.out.trans he6); have hGw := hid (Nat.le_trans E5.out.size hG); clear hA hG he6)
        clear B5 k1 k1l B1 B2 B3 B4
        go_upto_region 12 with fail
        go_loopw [33] (fun i wr => ∃ k : Nat, k ≤ L ∧ i = .int .i64 (k : Int) ∧ Hid (ArrB wr G 3 n (fun i => f i - payS p (i : Int) k)) ∧ Hid (Ext w wr)) (fun i _ => L - (intOf i).toNat)
        case atStart => exact ⟨0, Nat.zero_le _, rfl, HN, E6⟩
        case round =>
          clear HN E6
          obtain ⟨k, hk, rfl, hA, he⟩ := hrel
          have hpk := payS_bd (p := p) (L := L)
          by_cases hlt : k < L
          · obtain ⟨b, o, rfl, hb, z0, z1, z2⟩ := (HP.out.ext he.out).at3 hlt
            obtain ⟨i0, i1, i2, i3⟩ := hin.out k hlt
            have hb2 := hpb.out k hlt
            have hn2 := hne.out k hlt
            obtain ⟨a, ha⟩ : ∃ a : Nat, Hid (p k 0 = (a : Int)) := ⟨(p k 0).toNat, hid (by omega)⟩
            obtain ⟨t, ht⟩ : ∃ a : Nat, Hid (p k 1 = (a : Int)) := ⟨(p k 1).toNat, hid (by omega)⟩
            obtain ⟨x, hx⟩ : ∃ x, Hid (p k 2 = x) := ⟨_, hid rfl⟩
            rw [ha.out] at z0 i0 i1 hn2
            rw [ht.out] at z1 i2 i3 hn2
            rw [hx.out] at z2 hb2
            have han : a < n := by omega
            have htn : t < n := by omega
            have hat : a ≠ t := by omega
            have hst := hid (show ∀ i : Nat, f i - payS p (i : Int) (k + 1) = f i - payS p (i : Int) k - ((if t = i then x else 0) - (if a = i then x else 0)) from fun i => by
              have e : payS p (i : Int) (k + 1) = payS p (i : Int) k + ((if p k 1 = (i : Int) then p k 2 else 0) - (if p k 0 = (i : Int) then p k 2 else 0)) := rfl
              rw [e, ha.out, ht.out, hx.out]
              have e1 : ((t : Int) = (i : Int)) ↔ t = i := by omega
              have e2 : ((a : Int) = (i : Int)) ↔ a = i := by omega
              simp only [e1, e2]
              omega)
            go_upto_region 14 with fail
            refine wp_later fun w7 hw7 => ?_
            obtain ⟨E7, b9⟩ := hw7.newB
            have hA7 := hid (hA.out.ext E7)
            have he7 := hid (he.out.trans E7)
            have hgs := hid (show G < wr.heap.size from hA.out.lt)
            have k9 := b9.cell
            have k9l := b9.lt
            have B9 := hid b9
            clear hw7 b9 z0 z1 z2 hb i0 i1 i2 i3 hn2
            obtain ⟨ya, hya⟩ : ∃ y, Hid (f a - payS p (a : Int) k = y) := ⟨_, hid rfl⟩
            have hyab : -7000000000 ≤ ya ∧ ya ≤ 7000000000 := by
              have h1 := hfb.out a han
              have h2 := hpk (a : Int) hpb.out k hk
              rw [← hya.out]
              omega
            obtain ⟨yt, hyt⟩ : ∃ y, Hid (f t - payS p (t : Int) k = y) := ⟨_, hid rfl⟩
            have hytb : -7000000000 ≤ yt ∧ yt ≤ 7000000000 := by
              have h1 := hfb.out t htn
              have h2 := hpk (t : Int) hpb.out k hk
              rw [← hyt.out]
              omega
            clear hpk
            have ca := hA7.out.cell han
            have fa := hA7.out.frozen a
            have Gl := hA7.out.lt
            rw [hya.out] at ca
            refine wp_region_tail 9 (by kernel_rfl) (by kernel_rfl) ?_
            simp only [List.take_succ_cons, List.take_zero, List.drop_succ_cons, List.drop_zero]
            repeat (go_big_quiet_step (fail))
            refine wpQuiet_nil ?_
            rintro w8 ⟨⟨_, he8⟩, rfl⟩
            have hA8 := hA7.out.ext he8
            have fa := hA8.frozen a
            have Gl := hA8.lt
            have B8 := hid (B9.out.ext he8)
            clear ca k9 k9l
            have ca := hA8.cell han
            rw [hya.out] at ca
            go_upto_region 15 with fail
            have hA9 := hid (hA8.set_ a (ya + x))
            have b10 := B8.out.far (p := ⟨G, a, none⟩) (by have := hgs.out; show wr.heap.size ≠ G; omega) (.int .i64 (ya + x))
            have he9 := hid ((he7.out.trans he8).setCell (p := ⟨G, a, none⟩) (.int .i64 (ya + x)) hGw.out)
            obtain ⟨w9, hw9⟩ : ∃ W : World, Hid (W = w8.setCell ⟨G, a, none⟩ (.int .i64 (ya + x))) := ⟨_, hid rfl⟩
            rw [← hw9.out] at hA9 b10 he9 ⊢
            have k10 := b10.cell
            have k10l := b10.lt
            have ct := hA9.out.cell htn
            have ft := hA9.out.frozen t
            have Gl := hA9.out.lt
            rw [upd_other _ _ (fun e => hat e.symm), hyt.out] at ct
            clear hA8 fa ca
            refine wp_region_tail 9 (by kernel_rfl) (by kernel_rfl) ?_
            simp only [List.take_succ_cons, List.take_zero, List.drop_succ_cons, List.drop_zero]
            repeat (go_big_quiet_step (fail))
            refine wpQuiet_nil ?_
            rintro w10 ⟨⟨_, he10⟩, rfl⟩
            have hA10 := hA9.out.ext he10
            have ft := hA10.frozen t
            have Gl := hA10.lt
            clear k10 k10l b10 ct
            have ct := hA10.cell htn
            rw [upd_other _ _ (fun e => hat e.symm), hyt.out] at ct
            go_wp2_with fail
            go_roundw
            case rel =>
              refine ⟨k + 1, by omega, by go_num, hid ((hA10.set_ t (yt - x)).congr fun i hi => ?_), hid ((he9.out.trans he10).setCell _ hGw.out)⟩
              rw [hst.out]
              by_cases e : i = t
              · subst e
                rw [upd_same, if_pos rfl, if_neg hat, ← hyt.out]
                omega
              · rw [upd_other _ _ e, if_neg (fun q => e q.symm)]
                by_cases e' : i = a
                · subst e'
                  rw [upd_same, if_pos rfl, ← hya.out]
                  omega
                · rw [upd_other _ _ e', if_neg (fun q => e' q.symm)]
                  omega
            case measure => simp [intOf]; omega
          · have hkL : k = L := by omega
            have HN := hid (hA.out.rd (A := some ⟨G, 0, none⟩) fun _ => rfl)
            have hz := hid (show (!anyTo (fun i : Nat => !(f i - payS p (i : Int) k == 0)) n) = vr by
              rw [hV1.out, ← hkL]
              congr 1
              exact anyTo_same2 fun i _ => by
                rw [Bool.eq_iff_iff]
                simp
                omega)
            go_wp2_with (go_at_call 112; refine (every112 HN.out (by omega) (asks145 _ (fun i _ => f i - payS p (i : Int) k) n)).mono ?_; rintro e wz ⟨heq, he6⟩; obtain rfl : e = .returned (.bool vr) := heq.trans (congrArg (fun b => Ending.returned (.bool b)) hz.out))
            go_ret2
            exact ⟨ret_bi rfl h0.out.symm, he.out.trans he6⟩
end Go.Proofs.YtbceepjjdfpfmaaGreat
