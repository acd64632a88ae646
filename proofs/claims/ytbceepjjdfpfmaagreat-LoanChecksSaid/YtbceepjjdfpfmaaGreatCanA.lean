/- Walk of the program's clone of debts (155), of cancel (154) and Cancel (77). -/
import Derived.Test.YtbceepjjdfpfmaaGreatNetA
import Derived.Test.YtbceepjjdfpfmaaGreatBook
namespace Go.Proofs.YtbceepjjdfpfmaaGreat
open Go.RowKit HandSpec
set_option maxHeartbeats 2000000
set_option maxRecDepth 100000
theorem ownR_arr {w : World} {B : Nat} {u : Value} {n : Nat} {g : Nat → Nat → Int} (h : OwnR w B 3 1 u (rowsG 1 n g)) (hn : 1 ≤ n) :
    ∃ rr cc, u = .slice (some ⟨rr, 0, none⟩) n cc ∧ B ≤ rr ∧ n ≤ cc ∧ Arr w rr n (fun i => g i 0) := by
  rcases h.arrB with ⟨-, q⟩ | ⟨rr, cc, rfl, hrr, hcc, ha⟩
  · exact absurd (congrArg List.length q) (by simp [rowsG]; omega)
  · rw [rowsG_length] at hcc ha ⊢
    exact ⟨rr, cc, rfl, hrr, hcc, ha.lt, fun i hi => ⟨by rw [ha.cell hi, rowsG_at hi (by omega)], ha.frozen i⟩⟩
theorem clone155 {w : World} {A : Option Addr} {n cap : Nat} {m : Nat → Nat → Int} (hr : RdN w A n (fun _ => n) m) (hn : 1 ≤ n ∧ n ≤ 7) :
    Calls Tryz.prog 155 #[.slice A n cap] w fun e w' => ∃ u, e = .returned u ∧ Ext w w' ∧ MtV w' w.heap.size u n m := by
  obtain ⟨B, C, h1, h2⟩ := hr
  have H1 := hid h1
  have H2 := hid h2
  clear h1 h2
  have hmk : ∀ w, (Instr.makeSlice 48 (.int .i64 (n : Int)) (.int .i64 (n : Int))).run Tryz.prog w = .ok (.slice (some ⟨w.heap.size, 0, none⟩) n n) (w.alloc (.cells (Array.replicate n (.slice none 0 0)) 22)) := fun w => make48_run w n (by omega)
  go_enter Tryz.func155, Tryz.ntmps155
  go_upto_region 2 with fail
  have hM0 := Mt.new w n 22 (fun _ => 0) (fun _ => 0) m
  have e3 : Ext w (w.alloc (.cells (Array.replicate n (.slice none 0 0)) 22)) := (Ext.refl _).alloc _
  obtain ⟨w3, hw3⟩ : ∃ w3, w3 = w.alloc (.cells (Array.replicate n (.slice none 0 0)) 22) := ⟨_, rfl⟩
  rw [← hw3] at hM0 e3 ⊢
  clear hw3 hmk
  obtain ⟨g, hg⟩ : ∃ g, Hid (g = w.heap.size) := ⟨_, hid rfl⟩
  rw [← hg.out] at hM0 ⊢
  go_upto_region 3 with fail
  go_loopw [11] (fun i wr => ∃ (k : Nat) (r c : Nat → Nat), k ≤ n ∧ i = .int .i64 (k : Int) ∧ Mt wr g g n k r c m ∧ Ext w wr) (fun i _ => n - (intOf i).toNat)
  case atStart => exact ⟨0, _, _, Nat.zero_le _, rfl, hM0, e3⟩
  case round =>
    obtain ⟨k, r, c, hk, rfl, hM, he⟩ := hrel
    by_cases hlt : k < n
    · obtain ⟨b, o, rfl, hb, hc⟩ := (H1.out.ext he).at_ hlt
      have HM := hid hM
      have h2k := hid ((H2.out k hlt).ext he)
      have hgs := hM.lt
      clear hM
      go_wp2_with (go_at_call 181; refine (clone181 h2k.out (by omega)).mono ?_; rintro e w4 ⟨u, rfl, he4, ho⟩; obtain ⟨rr, cc, rfl, hrr, hcc, ha⟩ := ownR_arr ho (show 1 ≤ n by omega); have HM4 := hid (HM.out.ext he4); have kg := HM4.out.a.cell hlt; have kgf := HM4.out.a.frozen hlt; have kgl := HM4.out.lt; have HA := hid ha; clear ha ho)
      go_roundw
      case rel =>
        have hlo : ∀ i, i < k → r i ≠ rr := fun i hi => by have := (HM.out.row i hi).1; omega
        exact ⟨k + 1, _, _, by omega, by go_num, (HM4.out.addRow hlt HA.out (by omega) (by omega) hlo hcc).congr fun a ha b hb => by
          unfold updR
          split
          · rename_i e; rw [e]
          · rfl, (he.trans he4).setCell _ (by have := hg.out; show w.heap.size ≤ g; omega)⟩
      case measure => simp [intOf]; omega
    · go_wp2_with fail
      go_ret
      have : k = n := by omega
      subst this
      exact ⟨_, rfl, he, g, r, c, _, rfl, hM.base (by have := hg.out; omega)⟩
/-- Whom the k-th of a circle of L owes to. -/
def nxtC (L : Nat) (k : Nat) : Nat := (k + 1) % L
/-- The least debt of the first k of a circle. -/
def lowC (m : Nat → Nat → Int) (c : Nat → Nat) (L : Nat) : Nat → Int
  | 0 => 1000000
  | k + 1 => min (lowC m c L k) (m (c k) (c (nxtC L k)))
/-- The debts, less z along the first k of a circle. -/
def cutC (m : Nat → Nat → Int) (c : Nat → Nat) (L : Nat) (z : Int) : Nat → Nat → Nat → Int
  | 0 => m
  | k + 1 => upd2 (cutC m c L z k) (c k) (c (nxtC L k)) (cutC m c L z k (c k) (c (nxtC L k)) - z)
theorem lowC_bd {m : Nat → Nat → Int} {c : Nat → Nat} {L n : Nat} (hL : 1 ≤ L) (hc : ∀ k, k < L → c k < n) (hd : ∀ i j, i < n → j < n → 0 ≤ m i j ∧ m i j ≤ 1000000) : ∀ k, k ≤ L → 0 ≤ lowC m c L k ∧ lowC m c L k ≤ 1000000
  | 0, _ => by simp [lowC]
  | k + 1, hk => by
    have := lowC_bd hL hc hd k (by omega)
    have := hd _ _ (hc k (by omega)) (hc (nxtC L k) (Nat.mod_lt _ (by omega)))
    simp only [lowC]
    omega
theorem cutC_bd {m : Nat → Nat → Int} {c : Nat → Nat} {L n : Nat} {z : Int} (hz : 0 ≤ z ∧ z ≤ 1000000) (hd : ∀ i j, i < n → j < n → 0 ≤ m i j ∧ m i j ≤ 1000000) : ∀ (k : Nat) (i j : Nat), i < n → j < n → -((k : Int) * 1000000) ≤ cutC m c L z k i j ∧ cutC m c L z k i j ≤ 1000000
  | 0, i, j, hi, hj => by have := hd i j hi hj; simp only [cutC]; omega
  | k + 1, i, j, hi, hj => by
    have h1 := cutC_bd (c := c) (L := L) hz hd k i j hi hj
    simp only [cutC, upd2, updR]
    push_cast
    split
    · rename_i e
      rw [e] at h1
      simp only [upd]
      split
      · rename_i e2
        rw [e2] at h1
        omega
      · omega
    · omega
theorem cancel154 {w : World} {A Ac : Option Addr} {n cap L capc : Nat} {m : Nat → Nat → Int} {c : Nat → Nat} (hr : RdN w A n (fun _ => n) m) (hd : DOk n m) (hc : Rd w Ac L 1 (fun k _ => (c k : Int))) (hL : 1 ≤ L ∧ L ≤ 1000) (hcn : ∀ k, k < L → c k < n) :
    Calls Tryz.prog 154 #[.slice A n cap, .slice Ac L capc] w fun e w' => ∃ u, e = .returned u ∧ Ext w w' ∧ MtV w' w.heap.size u n (cutC m c L (lowC m c L L) L) := by
  have HR := hid hr
  have HC := hid hc
  have HD := hid hd
  have HCN := hid hcn
  clear hr hc hcn
  obtain ⟨hn, -, -⟩ := hd
  go_enter Tryz.func154, Tryz.ntmps154
  go_upto_region 3 with (go_at_call 155; refine (clone155 HR.out hn).mono ?_; rintro e w1 ⟨u, rfl, he1, hm⟩; have HM := hid hm; clear hm)
  have E1 := hid he1
  clear he1
  go_upto_region 4 with fail
  go_loopw [6, 15] (fun t i wr => ∃ k : Nat, k ≤ L ∧ i = .int .i64 (k : Int) ∧ t = .int .i64 (lowC m c L k) ∧ Ext w1 wr) (fun _ i _ => L - (intOf i).toNat)
  case atStart => exact ⟨0, Nat.zero_le _, rfl, rfl, Ext.refl _⟩
  case round =>
    obtain ⟨k, hk, rfl, rfl, he⟩ := hrel
    by_cases hlt : k < L
    · obtain ⟨q, hq⟩ : ∃ q, Hid (q = nxtC L k) := ⟨_, hid rfl⟩
      have hmod : Int.tmod ((k : Int) + 1) (L : Int) = (q : Int) := by rw [hq.out]; rfl
      have hqL : q < L := by rw [hq.out]; exact Nat.mod_lt _ (by omega)
      obtain ⟨b, o, rfl, hb, hck⟩ := (HC.out.ext (E1.out.trans he)).at1 hlt
      obtain ⟨b2, o2, h2, -, hcq⟩ := (HC.out.ext (E1.out.trans he)).at1 hqL
      cases h2
      obtain ⟨x, hx⟩ : ∃ x, Hid (c k = x) := ⟨_, hid rfl⟩
      obtain ⟨y, hy⟩ : ∃ y, Hid (c q = y) := ⟨_, hid rfl⟩
      have hxn : x < n := by rw [← hx.out]; exact HCN.out k hlt
      have hyn : y < n := by rw [← hy.out]; exact HCN.out q hqL
      rw [hx.out] at hck
      rw [hy.out] at hcq
      obtain ⟨bA, oA, Bx, Cx, rfl, hbA, hrow, hRow⟩ := (HR.out.ext (E1.out.trans he)).at_ hxn
      obtain ⟨bx, ox, rfl, hbx, hz⟩ := hRow.at1 hyn
      have HZ := hid (show lowC m c L (k + 1) = min (lowC m c L k) (m x y) by rw [← hx.out, ← hy.out, hq.out]; rfl)
      obtain ⟨t, ht⟩ : ∃ t, Hid (lowC m c L k = t) := ⟨_, hid rfl⟩
      rw [ht.out] at HZ ⊢
      obtain ⟨z, hz0⟩ : ∃ z, Hid (m x y = z) := ⟨_, hid rfl⟩
      rw [hz0.out] at hz HZ
      clear hRow
      go_upto_region 6 with fail
      refine wp_region_mono 17 [(15, S1 z), (16, fun v _ _ _ => v = .int .i64 (min t z))] (by kernel_rfl) (by kernel_rfl) (by kernel_rfl) ?hS ?_
      case hS =>
        simp only [List.forall_mem_cons]
        exact ⟨fun _ _ _ _ _ e h => S1.ext h e, fun _ _ _ _ _ _ h => h, fun _ h => by simp at h⟩
      simp only [List.take_succ_cons, List.take_zero, List.drop_succ_cons, List.drop_zero]
      iterate 15
        refine wpM_plain rfl ?_
        go_big_quiet_step (fail)
        refine wpQuiet_nil ?_
      refine wpM_spec _ rfl rfl (fun w4 hw4 _ => ?_) (fun va la ha ga1 ga2 _ hva => ?_)
      · go_wp2
        exact ⟨_, w4.heap.size, w4.heap.size + 1, rfl, (Ext.refl _).alloc _, Nat.le_refl _, Nat.le_succ _, by simp, w4.heap.size, rfl, Blk.new _ _ _⟩
      simp only [Act.put, List.setIfInBounds_toArray, List.set_cons_succ, List.set_cons_zero]
      obtain ⟨_, gs, rfl, -⟩ := hva
      refine wpM_spec _ rfl rfl (fun w4 hw4 hF => ?_) (fun va la ha ga1 ga2 _ hva => ?_)
      · simp only [List.forall_mem_cons] at hF
        obtain ⟨-, g2, hq2, hb2⟩ := hF.1 (by kernel_rfl)
        obtain rfl : gs = g2 := by simpa using hq2
        go_wp2_with (go_at_call 141; refine (least_one t hb2).mono ?_; rintro e w5 ⟨rfl, rfl⟩)
        exact ⟨_, _, _, rfl, Ext.refl _, Nat.le_refl _, Nat.le_refl _, Nat.le_refl _, rfl⟩
      obtain ⟨_, rfl⟩ := hva
      simp only [Act.put, List.setIfInBounds_toArray, List.set_cons_succ, List.set_cons_zero]
      refine wpM_nil fun w6 hw6 _ => ?_
      go_wp2_with fail
      go_roundw
      case rel => exact ⟨k + 1, by omega, by go_num, by rw [HZ.out], he.trans hw6⟩
      case measure => simp [intOf]; omega
    · have : k = L := by omega
      subst this
      obtain ⟨z, hz⟩ : ∃ z, Hid (z = lowC m c k k) := ⟨_, hid rfl⟩
      have hzb : 0 ≤ z ∧ z ≤ 1000000 := by rw [hz.out]; exact lowC_bd hL.1 HCN.out HD.out.hd k (Nat.le_refl _)
      rw [← hz.out]
      obtain ⟨g, r, cc, cp, rfl, hM⟩ := HM.out
      have HM0 := hid (hM.ext he)
      have E0 := hid (E1.out.trans he)
      clear HM hM he
      go_upto_region 9 with fail
      obtain ⟨W0, rfl⟩ : ∃ W0 : World, W0 = wr := ⟨_, rfl⟩
      obtain ⟨L, rfl⟩ : ∃ L, L = k := ⟨_, rfl⟩
      go_loopw [40] (fun i ws => ∃ k : Nat, k ≤ L ∧ i = .int .i64 (k : Int) ∧ Hid (Mt ws w.heap.size g n n r cc (cutC m c L z k)) ∧ Ext w ws) (fun i _ => L - (intOf i).toNat)
      case atStart => exact ⟨0, Nat.zero_le _, rfl, HM0, E0.out⟩
      case round =>
        obtain ⟨k, hk, rfl, hM, he⟩ := hrel
        by_cases hlt : k < L
        · obtain ⟨q, hq⟩ : ∃ q, Hid (q = nxtC L k) := ⟨_, hid rfl⟩
          have hmod : Int.tmod ((k : Int) + 1) (L : Int) = (q : Int) := by rw [hq.out]; rfl
          have hqL : q < L := by rw [hq.out]; exact Nat.mod_lt _ (by omega)
          obtain ⟨b, o, rfl, hb, hck⟩ := (HC.out.ext he).at1 hlt
          obtain ⟨b2, o2, h2, -, hcq⟩ := (HC.out.ext he).at1 hqL
          cases h2
          obtain ⟨x, hx⟩ : ∃ x, Hid (c k = x) := ⟨_, hid rfl⟩
          obtain ⟨y, hy⟩ : ∃ y, Hid (c q = y) := ⟨_, hid rfl⟩
          have hxn : x < n := by rw [← hx.out]; exact HCN.out k hlt
          have hyn : y < n := by rw [← hy.out]; exact HCN.out q hqL
          rw [hx.out] at hck
          rw [hy.out] at hcq
          have kx := hM.out.atRow hxn
          have gl := hM.out.lt
          have hrow := hM.out.row x hxn
          have kr := hrow.cell hyn
          have krl := hrow.1
          obtain ⟨v, hv⟩ : ∃ v, Hid (cutC m c L z k x y = v) := ⟨_, hid rfl⟩
          have hvb : -1000000000 ≤ v ∧ v ≤ 1000000 := by
            have := cutC_bd (c := c) (L := L) hzb HD.out.hd k x y hxn hyn
            rw [hv.out] at this
            omega
          rw [hv.out] at kr
          clear hrow
          go_upto_region 11 with fail
          refine wp_region_tail 16 (by kernel_rfl) (by kernel_rfl) ?_
          simp only [List.take_succ_cons, List.take_zero, List.drop_succ_cons, List.drop_zero]
          repeat (go_big_quiet_step (fail))
          refine wpQuiet_nil ?_
          rintro w6 ⟨⟨_, he6⟩, rfl⟩
          have hM6 := hid (hM.out.ext he6)
          have hrow := hM6.out.row x hxn
          have kr := hrow.cell hyn
          have krl := hrow.1
          have krf := hrow.frozen hyn
          rw [hv.out] at kr
          clear hrow
          go_wp2_with fail
          have hrl := hM6.out.lo x hxn
          go_roundw
          case rel =>
            refine ⟨k + 1, by omega, by go_num, hid ?_, (he.trans he6).setCell _ (by show w.heap.size ≤ r x; omega)⟩
            have e : cutC m c L z (k + 1) = upd2 (cutC m c L z k) x y (v - z) := by rw [← hv.out, ← hx.out, ← hy.out, hq.out]; rfl
            rw [e]
            exact hM6.out.put hxn hyn (v - z)
          case measure => simp [intOf]; omega
        · have : k = L := by omega
          subst this
          go_wp2_with fail
          go_ret
          refine ⟨_, rfl, he, g, r, cc, cp, rfl, ?_⟩
          rw [← hz.out]
          exact hM.out
end Go.Proofs.YtbceepjjdfpfmaaGreat
