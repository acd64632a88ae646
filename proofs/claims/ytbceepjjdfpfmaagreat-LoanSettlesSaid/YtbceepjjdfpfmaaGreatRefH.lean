/- Walk of the reference's Shows (54): what groups show. The debts are right ones; the groups are few and small. -/
import Derived.Test.YtbceepjjdfpfmaaGreatRefG
import Derived.Test.YtbceepjjdfpfmaaGreatSho
namespace Go.Proofs.YtbceepjjdfpfmaaGreat
open Go.RowKit HandSpec LoanSpec
set_option maxHeartbeats 4000000
set_option maxRecDepth 100000
theorem many_cnt (f : Nat → Int) : ∀ n, manyTo f n = cntP (nzB f) n
  | 0 => rfl
  | n + 1 => by
    have ih := many_cnt f n
    simp only [manyTo, cntP]
    rw [ih]
    by_cases h : f n = 0
    · rw [if_pos h, if_neg (by rw [nzB_yes]; simpa using h)]
    · rw [if_neg h, if_pos (nzB_yes.2 h)]
theorem anyTo_app (p : Nat → Bool) (a : Nat) : ∀ b, anyTo p (a + b) = (anyTo p a || anyTo (fun i => p (a + i)) b)
  | 0 => by simp [anyTo]
  | b + 1 => by
    have ih := anyTo_app p a b
    show (anyTo p (a + b) || p (a + b)) = _
    rw [ih]
    simp only [anyTo]
    rw [Bool.or_assoc]
theorem anyTo_same {p q : Nat → Bool} : ∀ {n : Nat}, (∀ i, i < n → p i = q i) → anyTo p n = anyTo q n
  | 0, _ => rfl
  | n + 1, h => by
    simp only [anyTo]
    rw [anyTo_same fun i hi => h i (by omega), h n (by omega)]
theorem outG_eq (n : Nat) (c : Nat → Nat) (gr : Nat → Nat → Int) : ∀ q, outG n q c gr = anyTo (fun k => anyTo (fun j => !inB (gr k j) 0 ((n : Int) - 1)) (c k)) q
  | 0 => rfl
  | q + 1 => by
    have ih := outG_eq n c gr q
    unfold outG at ih ⊢
    simp only [allR, List.length_append, rowsG_length]
    rw [anyTo_app]
    simp only [anyTo]
    rw [← ih]
    congr 1
    · exact anyTo_same fun i hi => by rw [rowsAt_app hi]
    · exact anyTo_same fun i hi => by rw [rowsAt_app', rowsG_at hi (by omega)]
/-- How often z is in the first k groups. -/
def occS (c : Nat → Nat) (gr : Nat → Nat → Int) (z : Int) : Nat → Nat
  | 0 => 0
  | k + 1 => occS c gr z k + timesTo (gr k) z (c k)
theorem timesTo_app (r : Nat → Int) (z : Int) (a : Nat) : ∀ b, timesTo r z (a + b) = timesTo r z a + timesTo (fun i => r (a + i)) z b
  | 0 => rfl
  | b + 1 => by
    have ih := timesTo_app r z a b
    show timesTo r z (a + b) + (if r (a + b) = z then 1 else 0) = _
    rw [ih]
    simp only [timesTo]
    omega
theorem timesTo_same {r r' : Nat → Int} (z : Int) : ∀ {n : Nat}, (∀ i, i < n → r i = r' i) → timesTo r z n = timesTo r' z n
  | 0, _ => rfl
  | n + 1, h => by
    simp only [timesTo]
    rw [timesTo_same z fun i hi => h i (by omega), h n (by omega)]
theorem occS_eq (c : Nat → Nat) (gr : Nat → Nat → Int) (z : Int) : ∀ q, timesTo (fun i => rowsAt (allR c gr q) i 0) z (allR c gr q).length = occS c gr z q
  | 0 => rfl
  | q + 1 => by
    have ih := occS_eq c gr z q
    simp only [allR, List.length_append, rowsG_length, occS]
    rw [timesTo_app]
    congr 1
    · rw [← ih]
      exact timesTo_same z fun i hi => by rw [rowsAt_app hi]
    · exact timesTo_same z fun i hi => by rw [rowsAt_app', rowsG_at hi (by omega)]
theorem occS_le (c : Nat → Nat) (gr : Nat → Nat → Int) (z : Int) {C : Nat} : ∀ k, (∀ i, i < k → c i ≤ C) → occS c gr z k ≤ k * C
  | 0, _ => by simp [occS]
  | k + 1, h => by
    have := occS_le c gr z k fun i hi => h i (by omega)
    have := h k (by omega)
    have := timesTo_le (gr k) z (c k)
    simp only [occS]
    rw [Nat.add_mul]
    omega
theorem shows54 {w : World} {A Ag : Option Addr} {n cap q capg : Nat} {c : Nat → Nat} {g gr : Nat → Nat → Int} (hr : RdN w A n (fun _ => n) g) (hd : DOk n g) (hg : RdN w Ag q c gr) (hq : q ≤ 20) (hc : ∀ k, k < q → c k ≤ 20)
    {m : Nat → Nat} (h0 : chkD n m g = 0) :
    Calls Tryz.prog 54 #[.slice A n cap, .slice Ag q capg] w (fun e w' => e = .returned (.tuple #[.int .i64 (showV n m g q c gr), .int .i64 (showE n m g q c gr)]) ∧ Ext w w') := by
  have HR := hid hr
  have HD := hid hd
  have HG := hid hg
  have HC := hid hc
  have hn := hd.hn
  clear hr hd hg hc
  obtain ⟨f, hf⟩ : ∃ f, Hid (netTo g n n = f) := ⟨_, hid rfl⟩
  obtain ⟨er, her⟩ : ∃ er, Hid (showE n m g q c gr = er) := ⟨_, hid rfl⟩
  obtain ⟨vr, hvr⟩ : ∃ vr, Hid (showV n m g q c gr = vr) := ⟨_, hid rfl⟩
  have hv := hid (show vr = if er = 0 then (cntP (nzB f) n : Int) - q else 0 by rw [← hvr.out, ← her.out, ← hf.out, ← many_cnt]; rfl)
  have hv0 := hid (show er ≠ 0 → vr = 0 from fun h => by rw [hv.out, if_neg h])
  have hT := hid (show ∀ k : Nat, offT f (fun i => rowsAt (allR c gr q) i 0) (allR c gr q).length k = (!(f k == 0) && !(occS c gr (k : Int) q == 1)) from fun k => by unfold offT; rw [occS_eq])
  have hE := hid (show er = if anyTo (fun k => anyTo (fun j => !inB (gr k j) 0 ((n : Int) - 1)) (c k)) q then 1 else if anyTo (fun k => !ordB c gr k) q then 4
    else if anyTo (badG f c gr) q then 8 else if anyTo (fun k : Nat => !(f k == 0) && !(occS c gr (k : Int) q == 1)) n then 8 else 0 by
      rw [← her.out, ← outG_eq]
      unfold showE offG
      rw [h0, if_neg (by simp), hf.out, anyTo_same (n := n) fun k _ => hT.out k])
  clear hT h0
  rw [her.out, hvr.out]
  clear her hvr
  have hmk2 : ∀ w, (Instr.makeSlice 22 (.int .i64 (n : Int)) (.int .i64 (n : Int))).run Tryz.prog w = .ok (.slice (some ⟨w.heap.size, 0, none⟩) n n) (w.alloc (.cells (Array.replicate n (.int .i64 0)) 3)) := fun w => make22_run w n (by omega)
  go_enter Tryz.func54, Tryz.ntmps54
  go_upto_region 2 with fail
  go_loopw [6] (fun i wr => ∃ k : Nat, k ≤ q ∧ i = .int .i64 (k : Int) ∧ Hid (∀ i, i < k → anyTo (fun j => !inB (gr i j) 0 ((n : Int) - 1)) (c i) = false) ∧ Ext w wr) (fun i _ => q - (intOf i).toNat)
  case atStart => exact ⟨0, Nat.zero_le _, rfl, hid fun _ h => absurd h (by omega), Ext.refl _⟩
  case round =>
    obtain ⟨k, hk, rfl, hp, he⟩ := hrel
    by_cases hlt : k < q
    · obtain ⟨b, o, B', C', rfl, hb, hcc, hR⟩ := (HG.out.ext he).at_ hlt
      have HRr := hid hR
      have hck := HC.out k hlt
      obtain ⟨M, hM⟩ : ∃ M, Hid (c k = M) := ⟨_, hid rfl⟩
      rw [hM.out] at hcc HRr hck
      clear hR
      go_upto_region 5 with fail
      obtain ⟨W1, rfl⟩ : ∃ W : World, W = wr := ⟨_, rfl⟩
      go_loopw [7] (fun i wx => ∃ j : Nat, j ≤ M ∧ i = .int .i64 (j : Int) ∧ Hid (∀ i, i < j → (!inB (gr k i) 0 ((n : Int) - 1)) = false) ∧ Ext W1 wx) (fun i _ => M - (intOf i).toNat)
      case atStart => exact ⟨0, Nat.zero_le _, rfl, hid fun _ h => absurd h (by omega), Ext.refl _⟩
      case round =>
        obtain ⟨j, hj, rfl, hp2, he2⟩ := hrel
        have hcc := he2.some_ hcc
        have hb := Nat.lt_of_lt_of_le hb he2.size
        by_cases hlj : j < M
        · obtain ⟨b1, o1, rfl, hb1, hc1⟩ := (HRr.out.ext he2).at1 hlj
          obtain ⟨x, hx⟩ : ∃ x, Hid (gr k j = x) := ⟨_, hid rfl⟩
          rw [hx.out] at hc1
          obtain ⟨t, ht⟩ : ∃ t, Hid (offB x 0 ((n : Int) - 1) = t) := ⟨_, hid rfl⟩
          have htt := hid (show (!inB (gr k j) 0 ((n : Int) - 1)) = t by rw [hx.out, ← ht.out, inB_off])
          cases t
          · go_wp2_with (go_at_call 94; refine (off_any _ _ _ _).mono ?_; rintro e wz ⟨rfl, rfl⟩; rw [ht.out])
            go_roundw
            case rel => exact ⟨j + 1, by omega, by go_num, hid (anyTo_step hp2.out htt.out), he2⟩
            case measure => simp [intOf]; omega
          · have h1 := hid (show er = 1 by
              have q1 : anyTo (fun k => anyTo (fun j => !inB (gr k j) 0 ((n : Int) - 1)) (c k)) q = true := anyTo_true.2 ⟨k, hlt, by rw [hM.out]; exact anyTo_true.2 ⟨j, hlj, htt.out⟩⟩
              rw [hE.out, q1]; rfl)
            go_wp2_with (go_at_call 94; refine (off_any _ _ _ _).mono ?_; rintro e wz ⟨rfl, rfl⟩; rw [ht.out])
            go_ret2
            exact ⟨ret_two (hv0.out (by rw [h1.out]; simp)).symm h1.out.symm, he.trans he2⟩
        · have hjM : j = M := by omega
          subst hjM
          go_wp2_with fail
          go_roundw
          case rel => exact ⟨k + 1, by omega, by go_num, hid (anyTo_step hp.out (by rw [hM.out]; exact anyTo_false.2 hp2.out)), he.trans he2⟩
          case measure => simp [intOf]; omega
    · have hkq : k = q := by omega
      subst hkq
      have hin := hid (show ∀ i j, i < k → j < c i → ∃ t : Nat, gr i j = (t : Int) ∧ t < n from fun i j hi hj => by
        have := anyTo_false.1 (hp.out i hi) j hj
        simp [inB] at this
        exact ⟨(gr i j).toNat, by omega, by omega⟩)
      have hE2 := hid (show er = if anyTo (fun k => !ordB c gr k) k then 4 else if anyTo (badG f c gr) k then 8 else if anyTo (fun i : Nat => !(f i == 0) && !(occS c gr (i : Int) k == 1)) n then 8 else 0 by
        rw [hE.out, anyTo_false.2 hp.out]; rfl)
      clear hE
      go_upto_region 10 with fail
      go_loopw [8] (fun i wx => ∃ a : Nat, a ≤ k ∧ i = .int .i64 (a : Int) ∧ Hid (∀ i, i < a → (!ordB c gr i) = false) ∧ Ext w wx) (fun i _ => k - (intOf i).toNat)
      case atStart => exact ⟨0, Nat.zero_le _, rfl, hid fun _ h => absurd h (by omega), he⟩
      case round =>
        obtain ⟨a, ha, rfl, hp2, he⟩ := hrel
        by_cases hla : a < k
        · obtain ⟨b, o, B', C', rfl, hb, hcc, hR⟩ := (HG.out.ext he).at_ hla
          have HRr := hid hR
          have hck := HC.out a hla
          obtain ⟨M, hM⟩ : ∃ M, Hid (c a = M) := ⟨_, hid rfl⟩
          rw [hM.out] at hcc HRr hck
          clear hR
          obtain ⟨fb, hfb⟩ : ∃ t, Hid (fallB (gr a) M = t) := ⟨_, hid rfl⟩
          have ho := hid (show (!ordB c gr a) = (!(decide (0 < M) && !fb)) by unfold ordB; rw [hM.out, hfb.out])
          by_cases hM0 : M = 0
          · have tm : ((M : Int) == 0) = true := by simp [hM0]
            have h4 := hid (show er = 4 by
              have q1 : anyTo (fun k => !ordB c gr k) k = true := anyTo_true.2 ⟨a, hla, by rw [ho.out, hM0]; rfl⟩
              rw [hE2.out, q1]; rfl)
            clear hM0
            go_wp2_with fail
            go_ret2
            exact ⟨ret_two (hv0.out (by rw [h4.out]; simp)).symm h4.out.symm, he⟩
          · have tm : ((M : Int) == 0) = false := by simp; omega
            have tmd : decide (0 < M) = true := decide_eq_true (by omega)
            rw [tmd] at ho
            clear tmd
            cases fb
            · go_wp2_with (go_at_call 95; refine (rising95 HRr.out (by omega)).mono ?_; rintro e wz ⟨rfl, he3⟩; rw [hfb.out])
              go_roundw
              case rel => exact ⟨a + 1, by omega, by go_num, hid (anyTo_step hp2.out (by rw [ho.out]; rfl)), he.trans he3⟩
              case measure => simp [intOf]; omega
            · have h4 := hid (show er = 4 by
                have q1 : anyTo (fun k => !ordB c gr k) k = true := anyTo_true.2 ⟨a, hla, by rw [ho.out]; rfl⟩
                rw [hE2.out, q1]; rfl)
              go_wp2_with (go_at_call 95; refine (rising95 HRr.out (by omega)).mono ?_; rintro e wz ⟨rfl, he3⟩; rw [hfb.out])
              go_ret2
              exact ⟨ret_two (hv0.out (by rw [h4.out]; simp)).symm h4.out.symm, he.trans he3⟩
        · have hak : a = k := by omega
          subst hak
          have hE3 := hid (show er = if anyTo (badG f c gr) a then 8 else if anyTo (fun i : Nat => !(f i == 0) && !(occS c gr (i : Int) a == 1)) n then 8 else 0 by
            rw [hE2.out, anyTo_false.2 hp2.out]; rfl)
          clear hE2
          go_upto_region 15 with (go_at_call 56; refine (net56_rd (HR.out.ext he) HD.out).mono ?_; rintro e w1 ⟨A', c', rfl, he1, hR⟩; rw [hf.out] at hR; have HN := hid hR; have E1 := hid (he.trans he1); clear hR he1)
          obtain ⟨bN, oN, rfl, hbN, -⟩ := HN.out.at1 (show 0 < n by omega)
          go_upto_region 16 with fail
          refine wp_later fun w2 hw2 => ?_
          obtain ⟨E2, b2⟩ := hw2.newB
          have HM0 := hid (show ArrB w2 w1.heap.size 3 n (fun z => ((occS c gr (z : Int) 0 : Nat) : Int)) from ⟨_, b2, fun i hi => by simp [hi, occS]⟩)
          have HN := hid (HN.out.ext E2)
          have E2 := hid (E1.out.trans E2)
          have hGz := hid E1.out.size
          clear hw2 b2 hmk2
          obtain ⟨G, hG⟩ : ∃ G, Hid (w1.heap.size = G) := ⟨_, hid rfl⟩
          rw [hG.out] at HM0 hGz hbN ⊢
          have hfb := hid (show ∀ i, i < n → -6000000 ≤ f i ∧ f i ≤ 6000000 from fun i hi => by rw [← hf.out]; exact net_bd HD.out hi)
          go_upto_region 17 with fail
          go_loopw [11] (fun i wr => ∃ k : Nat, k ≤ a ∧ i = .int .i64 (k : Int) ∧ Hid (ArrB wr G 3 n (fun z => ((occS c gr (z : Int) k : Nat) : Int))) ∧ Hid (Rd wr (some ⟨bN, oN, none⟩) n 1 (fun i _ => f i)) ∧ Hid (∀ i, i < k → badG f c gr i = false) ∧ Hid (Ext w wr)) (fun i _ => a - (intOf i).toNat)
          case atStart => exact ⟨0, Nat.zero_le _, rfl, HM0, HN, hid fun _ h => absurd h (by omega), E2⟩
          case round =>
            clear HM0 HN E2
            obtain ⟨k, hk, rfl, hM0, HN, hp3, he3⟩ := hrel
            by_cases hlk : k < a
            · obtain ⟨b, o, B', C', rfl, hb, hcc, hR⟩ := (HG.out.ext he3.out).at_ hlk
              have hbw := hid (show b < w.heap.size by
                obtain ⟨b', o', _, _, e1, e2, _⟩ := HG.out.at_ hlk
                cases e1
                exact e2)
              have HRr := hid ((show ∃ (B1 : Option Addr) (C1 : Nat), w.cell? ⟨b, o + k, none⟩ = some (.slice B1 (c k) C1) ∧ Rd w B1 (c k) 1 (fun j _ => gr k j) from by
                obtain ⟨b', o', B1, C1, e1, e2, e3, e4⟩ := HG.out.at_ hlk
                cases e1
                exact ⟨B1, C1, e3, e4⟩))
              clear hb hcc hR
              obtain ⟨B1, C1, hcw, hRw⟩ := HRr.out
              clear HRr
              have hck := HC.out k hlk
              have hink := hid (fun j hj => hin.out k j hlk hj)
              have hbad := hid (show badG f c gr k = (anyTo (fun j => f (gr k j).toNat == 0) (c k) || !(sumTo (fun j => f (gr k j).toNat) (c k) == 0)) from rfl)
              have hoc := hid (fun z => occS_le c gr z (C := 20) k fun i hi => HC.out i (by omega))
              have hos := hid (show ∀ z, occS c gr z (k + 1) = occS c gr z k + timesTo (gr k) z (c k) from fun _ => rfl)
              obtain ⟨M, hM⟩ : ∃ M, Hid (c k = M) := ⟨_, hid rfl⟩
              rw [hM.out] at hcw hRw hck hink hbad hos
              have HCW := hid hcw
              have HRW := hid hRw
              clear hcw hRw
              go_upto_region 21 with fail
              go_loopw [12, 13] (fun s i wx => ∃ (j : Nat) (z : Int), j ≤ M ∧ i = .int .i64 (j : Int) ∧ s = .int .i64 z ∧ Hid (z = sumTo (fun j => f (gr k j).toNat) j) ∧ Hid (∀ i, i < j → (f (gr k i).toNat == 0) = false) ∧ Hid (ArrB wx G 3 n (fun z => ((occS c gr (z : Int) k + timesTo (gr k) (z : Int) j : Nat) : Int))) ∧ Hid (Rd wx (some ⟨bN, oN, none⟩) n 1 (fun i _ => f i)) ∧ Hid (Ext w wx)) (fun _ i _ => M - (intOf i).toNat)
              case atStart => exact ⟨0, 0, Nat.zero_le _, rfl, rfl, hid rfl, hid fun _ h => absurd h (by omega), hM0, HN, he3⟩
              case round =>
                clear hM0 HN he3
                obtain ⟨j, z, hj, rfl, rfl, hz, hnz, hAj, HN, he4⟩ := hrel
                have hcc := he4.out.some_ HCW.out
                have hb := Nat.lt_of_lt_of_le hbw.out he4.out.size
                by_cases hlj : j < M
                · obtain ⟨t, ht, htn⟩ := hink.out j hlj
                  obtain ⟨b1, o1, hB1, hb1, hc1⟩ := (HRW.out.ext he4.out).at1 hlj
                  rw [hB1] at hcc
                  rw [ht] at hc1
                  have HT := hid ht
                  clear ht
                  obtain ⟨b2, o2, hN2, hbn, hcn⟩ := HN.out.at1 htn
                  cases hN2
                  obtain ⟨x, hx⟩ : ∃ x, Hid (f t = x) := ⟨_, hid rfl⟩
                  have hxb := hfb.out t htn
                  rw [hx.out] at hcn hxb
                  have hzb := HandSpec.P.sumTo_bd (f := fun j => f (gr k j).toNat) (B := 6000000) j fun i hi => by
                    obtain ⟨t', ht', htn'⟩ := hink.out i (by omega)
                    have := hfb.out t' htn'
                    rw [ht', Int.toNat_natCast]
                    exact this
                  have hzb2 : -200000000 ≤ z ∧ z ≤ 200000000 := by rw [hz.out]; omega
                  have hst := hid (show sumTo (fun j => f (gr k j).toNat) (j + 1) = z + x by rw [sumTo_succ, hz.out, HT.out]; show _ + f ((t : Nat) : Int).toNat = _; rw [Int.toNat_natCast, hx.out])
                  have hxe := hid (show (f (gr k j).toNat == 0) = (x == 0) by rw [HT.out, Int.toNat_natCast, hx.out])
                  clear hzb
                  cases hx0 : (x == 0)
                  · have ct := hAj.out.cell htn
                    have fj := hAj.out.frozen t
                    have Gl := hAj.out.lt
                    obtain ⟨v, hv1⟩ : ∃ v, Hid (occS c gr (t : Int) k + timesTo (gr k) (t : Int) j = v) := ⟨_, hid rfl⟩
                    have hvb : v ≤ 1000 := by
                      have h1 := hoc.out (t : Int)
                      have h2 := timesTo_le (gr k) (t : Int) j
                      have := hv1.out
                      omega
                    rw [hv1.out] at ct
                    have hA2 := hid ((hAj.out.set_ t ((v : Int) + 1)).congr (h' := fun z => ((occS c gr (z : Int) k + timesTo (gr k) (z : Int) (j + 1) : Nat) : Int)) fun i hi => by
                      have e : timesTo (gr k) (i : Int) (j + 1) = timesTo (gr k) (i : Int) j + if gr k j = (i : Int) then 1 else 0 := rfl
                      rw [e, HT.out]
                      by_cases q1 : i = t
                      · subst q1
                        rw [upd_same, if_pos rfl, ← hv1.out]
                        push_cast
                        omega
                      · rw [upd_other _ _ q1, if_neg (by omega)]
                        rfl)
                    have hN3 := hid (rd_far HN.out (p := ⟨G, t, none⟩) (u := .int .i64 ((v : Int) + 1)) (fun x hx => by cases hx; exact Nat.ne_of_lt hbN))
                    have he5 := hid (he4.out.setCell (p := ⟨G, t, none⟩) (.int .i64 ((v : Int) + 1)) hGz.out)
                    go_wp2_with fail
                    go_roundw
                    case rel => exact ⟨j + 1, z + x, by omega, by go_num, by go_num, hid hst.out.symm, hid (anyTo_step hnz.out (by rw [hxe.out]; exact hx0)), hA2, hN3, he5⟩
                    case measure => simp [intOf]; omega
                  · have hbk := hid (show er = 8 by
                      have q1 : anyTo (badG f c gr) a = true := anyTo_true.2 ⟨k, hlk, by rw [hbad.out, anyTo_true.2 ⟨j, hlj, by rw [hxe.out]; exact hx0⟩]; rfl⟩
                      rw [hE3.out, q1]; rfl)
                    go_wp2_with fail
                    go_ret2
                    exact ⟨ret_two (hv0.out (by rw [hbk.out]; simp)).symm hbk.out.symm, he4.out⟩
                · have hjM : j = M := by omega
                  have hbad2 := hid (show badG f c gr k = !(z == 0) by rw [hbad.out, ← hjM, anyTo_false.2 hnz.out, hz.out]; rfl)
                  have hA2 := hid (hAj.out.congr (h' := fun z => ((occS c gr (z : Int) (k + 1) : Nat) : Int)) fun i hi => by rw [hos.out, ← hjM])
                  clear hnz
                  cases hz0 : (z == 0)
                  · have hzn : (z != 0) = true := by simpa using hz0
                    have hbk := hid (show er = 8 by
                      have q1 : anyTo (badG f c gr) a = true := anyTo_true.2 ⟨k, hlk, by rw [hbad2.out, hz0]; rfl⟩
                      rw [hE3.out, q1]; rfl)
                    go_wp2_with fail
                    go_ret2
                    exact ⟨ret_two (hv0.out (by rw [hbk.out]; simp)).symm hbk.out.symm, he4.out⟩
                  · have hzn : (z != 0) = false := by simpa using hz0
                    go_wp2_with fail
                    go_roundw
                    case rel => exact ⟨k + 1, by omega, by go_num, hA2, HN, hid (anyTo_step hp3.out (by rw [hbad2.out, hz0]; rfl)), he4⟩
                    case measure => simp [intOf]; omega
            · have hka : k = a := by omega
              have hE4 := hid (show er = if anyTo (fun i : Nat => !(f i == 0) && !(occS c gr (i : Int) a == 1)) n then 8 else 0 by
                rw [hE3.out, anyTo_false.2 (by rw [← hka]; exact hp3.out)]; rfl)
              have hocl := hid (show ∀ z, occS c gr z k ≤ 400 from fun z => by
                have := occS_le c gr z (C := 20) k fun i hi => HC.out i (by omega)
                omega)
              clear hE3
              subst hka
              go_upto_region 31 with fail
              obtain ⟨W5, hW5⟩ : ∃ W : World, Hid (W = wr) := ⟨_, hid rfl⟩
              rw [← hW5.out] at hM0 HN he3
              go_loopw [15] (fun i wx => ∃ d : Nat, d ≤ n ∧ i = .int .i64 (d : Int) ∧ Hid (∀ j : Nat, j < d → (!(f j == 0) && !(occS c gr (j : Int) k == 1)) = false) ∧ Hid (Ext W5 wx)) (fun i _ => n - (intOf i).toNat)
              case atStart => exact ⟨0, Nat.zero_le _, rfl, hid fun _ h => absurd h (by omega), hid (by rw [hW5.out]; exact Ext.refl _)⟩
              case round =>
                obtain ⟨d, hd, rfl, hq4, he4⟩ := hrel
                by_cases hld : d < n
                · obtain ⟨b2, o2, hN2, hbn, hcn⟩ := (HN.out.ext he4.out).at1 hld
                  cases hN2
                  obtain ⟨x, hx⟩ : ∃ x, Hid (f d = x) := ⟨_, hid rfl⟩
                  rw [hx.out] at hcn
                  have hA5 := hM0.out.ext he4.out
                  have cd := hA5.cell hld
                  have Gl := hA5.lt
                  obtain ⟨v, hv1⟩ : ∃ v, Hid (occS c gr (d : Int) k = v) := ⟨_, hid rfl⟩
                  rw [hv1.out] at cd
                  have hbit := hid (show (!(f d == 0) && !(occS c gr (d : Int) k == 1)) = (!(x == 0) && !(v == 1)) by rw [hx.out, hv1.out])
                  clear hA5
                  by_cases hx0 : x = 0
                  · have tx : (x != 0) = false := by simp [hx0]
                    go_wp2_with fail
                    go_roundw
                    case rel => exact ⟨d + 1, by omega, by go_num, hid (anyTo_step (p := fun j : Nat => !(f j == 0) && !(occS c gr (j : Int) k == 1)) hq4.out (by rw [hbit.out, hx0]; rfl)), he4⟩
                    case measure => simp [intOf]; omega
                  · have tx : (x != 0) = true := by simpa using hx0
                    have tx2 : (x == 0) = false := by simpa using hx0
                    clear hx0
                    by_cases hv1' : v = 1
                    · have tv : ((v : Int) != 1) = false := by simp [hv1']
                      have hbf := hid (show (!(f d == 0) && !(occS c gr (d : Int) k == 1)) = false by rw [hbit.out, hv1']; simp)
                      clear hv1'
                      go_wp2_with fail
                      go_roundw
                      case rel => exact ⟨d + 1, by omega, by go_num, hid (anyTo_step (p := fun j : Nat => !(f j == 0) && !(occS c gr (j : Int) k == 1)) hq4.out hbf.out), he4⟩
                      case measure => simp [intOf]; omega
                    · have tv : ((v : Int) != 1) = true := by simp; omega
                      have hbk := hid (show er = 8 by
                        have q1 : anyTo (fun i : Nat => !(f i == 0) && !(occS c gr (i : Int) k == 1)) n = true := anyTo_true.2 ⟨d, hld, by rw [hbit.out, tx2]; simpa using hv1'⟩
                        rw [hE4.out, q1]; rfl)
                      clear hv1'
                      go_wp2_with fail
                      go_ret2
                      exact ⟨ret_two (hv0.out (by rw [hbk.out]; simp)).symm hbk.out.symm, he3.out.trans he4.out⟩
                · have hdn : d = n := by omega
                  have hbk := hid (show er = 0 by
                    have q1 : anyTo (fun i : Nat => !(f i == 0) && !(occS c gr (i : Int) k == 1)) n = false := anyTo_false.2 (by rw [← hdn]; exact hq4.out)
                    rw [hE4.out, q1]; rfl)
                  have hvk := hid (show vr = (cntP (nzB f) n : Int) - k by rw [hv.out, if_pos hbk.out])
                  obtain ⟨y, hy⟩ : ∃ y, Hid (cntP (nzB f) n = y) := ⟨_, hid rfl⟩
                  have hyb : y ≤ n := by
                    rw [← hy.out]
                    have := cntP_not (nzB f) n
                    omega
                  rw [hy.out] at hvk
                  go_wp2_with (go_at_call 57; refine (open57 (HR.out.ext (he3.out.trans he4.out)) HD.out).mono ?_; rintro e wz ⟨rfl, he6⟩; rw [hf.out, hy.out])
                  go_ret2
                  exact ⟨ret_two (by first | exact hvk.out.symm | (rw [hvk.out]; go_num)) hbk.out.symm, (he3.out.trans he4.out).trans he6⟩
end Go.Proofs.YtbceepjjdfpfmaaGreat
