/- Walk of the program's clone of debts (155), of cancel (154) and Cancel (77). Walk of the program's Cancel (77). The circle's capacity is no less than its length. -/
import Derived.Test.YtbceepjjdfpfmaaGreatNetA
import Derived.Test.YtbceepjjdfpfmaaGreatBook
import Derived.Test.YtbceepjjdfpfmaaGreatHeld
namespace Go.Proofs.YtbceepjjdfpfmaaGreat
open Go.RowKit HandSpec
set_option maxHeartbeats 2000000
set_option maxRecDepth 100000
theorem ownR_arr {w : World} {B : Nat} {u : Value} {n : Nat} {g : Nat → Nat → Int} (h : OwnR w B 3 1 u (rowsG 1 n g)) (hn : 1 ≤ n) :
    ∃ rr cc, u = .slice (some ⟨rr, 0, none⟩) n cc ∧ B ≤ rr ∧ n ≤ cc ∧ Arr w rr n (fun i => g i 0) := by
  rcases h.arrB with ⟨-, q⟩ | ⟨rr, cc, rfl, hrr, hcc, ha⟩
  · exact absurd (congrArg List.length q) (by simp [rowsG]; omega)
  · rw [rowsG_length] at hcc ha ⊢
    exact ⟨rr, cc, rfl, hrr, hcc, ha.lt, fun i hi => ⟨by rw [ha.cell hi, rowsG_at hi (by omega)], ha.frozen i⟩⟩
theorem clone155 {w : World} {A : Option Addr} {n cap : Nat} {m : Nat → Nat → Int} (hr : RdN w A n (fun _ => n) m) (hn : 1 ≤ n ∧ n ≤ 7) :
    Calls Tryz.prog 155 #[.slice A n cap] w fun e w' => ∃ u, e = .returned u ∧ Ext w w' ∧ MtV w' w.heap.size u n m := by
  obtain ⟨B, C, h1, h2⟩ := hr
  have H1 := hid h1
  have H2 := hid h2
  clear h1 h2
  have hmk : ∀ w, (Instr.makeSlice 48 (.int .i64 (n : Int)) (.int .i64 (n : Int))).run Tryz.prog w = .ok (.slice (some ⟨w.heap.size, 0, none⟩) n n) (w.alloc (.cells (Array.replicate n (.slice none 0 0)) 22)) := fun w => make48_run w n (by omega)
  go_enter Tryz.func155, Tryz.ntmps155
  go_upto_region 2 with fail
  have hM0 := Mt.new w n 22 (fun _ => 0) (fun _ => 0) m
  have e3 : Ext w (w.alloc (.cells (Array.replicate n (.slice none 0 0)) 22)) := (Ext.refl _).alloc _
  obtain ⟨w3, hw3⟩ : ∃ w3, w3 = w.alloc (.cells (Array.replicate n (.slice none 0 0)) 22) := ⟨_, rfl⟩
  rw [← hw3] at hM0 e3 ⊢
  clear hw3 hmk
  obtain ⟨g, hg⟩ : ∃ g, Hid (g = w.heap.size) := ⟨_, hid rfl⟩
  rw [← hg.out] at hM0 ⊢
  go_upto_region 3 with fail
  go_loopw [11] (fun i wr => ∃ (k : Nat) (r c : Nat → Nat), k ≤ n ∧ i = .int .i64 (k : Int) ∧ Mt wr g g n k r c m ∧ Ext w wr) (fun i _ => n - (intOf i).toNat)
  case atStart => exact ⟨0, _, _, Nat.zero_le _, rfl, hM0, e3⟩
  case round =>
    obtain ⟨k, r, c, hk, rfl, hM, he⟩ := hrel
    by_cases hlt : k < n
    · obtain ⟨b, o, rfl, hb, hc⟩ := (H1.out.ext he).at_ hlt
      have HM := hid hM
      have h2k := hid ((H2.out k hlt).ext he)
      have hgs := hM.lt
      clear hM
      go_wp2_with (go_at_call 181; refine (clone181 h2k.out (by omega)).mono ?_; rintro e w4 ⟨u, rfl, he4, ho⟩; obtain ⟨rr, cc, rfl, hrr, hcc, ha⟩ := ownR_arr ho (show 1 ≤ n by omega); have HM4 := hid (HM.out.ext he4); have kg := HM4.out.a.cell hlt; have kgf := HM4.out.a.frozen hlt; have kgl := HM4.out.lt; have HA := hid ha; clear ha ho)
      go_roundw
      case rel =>
        have hlo : ∀ i, i < k → r i ≠ rr := fun i hi => by have := (HM.out.row i hi).1; omega
        exact ⟨k + 1, _, _, by omega, by go_num, (HM4.out.addRow hlt HA.out (by omega) (by omega) hlo hcc).congr fun a ha b hb => by
          unfold updR
          split
          · rename_i e; rw [e]
          · rfl, (he.trans he4).setCell _ (by have := hg.out; show w.heap.size ≤ g; omega)⟩
      case measure => simp [intOf]; omega
    · go_wp2_with fail
      go_ret
      have : k = n := by omega
      subst this
      exact ⟨_, rfl, he, g, r, c, _, rfl, hM.base (by have := hg.out; omega)⟩
/-- Whom the k-th of a circle of L owes to. -/
def nxtC (L : Nat) (k : Nat) : Nat := (k + 1) % L
/-- The least debt of the first k of a circle. -/
def lowC (m : Nat → Nat → Int) (c : Nat → Nat) (L : Nat) : Nat → Int
  | 0 => 1000000
  | k + 1 => min (lowC m c L k) (m (c k) (c (nxtC L k)))
/-- The debts, less z along the first k of a circle. -/
def cutC (m : Nat → Nat → Int) (c : Nat → Nat) (L : Nat) (z : Int) : Nat → Nat → Nat → Int
  | 0 => m
  | k + 1 => upd2 (cutC m c L z k) (c k) (c (nxtC L k)) (cutC m c L z k (c k) (c (nxtC L k)) - z)
theorem lowC_bd {m : Nat → Nat → Int} {c : Nat → Nat} {L n : Nat} (hL : 1 ≤ L) (hc : ∀ k, k < L → c k < n) (hd : ∀ i j, i < n → j < n → 0 ≤ m i j ∧ m i j ≤ 1000000) : ∀ k, k ≤ L → 0 ≤ lowC m c L k ∧ lowC m c L k ≤ 1000000
  | 0, _ => by simp [lowC]
  | k + 1, hk => by
    have := lowC_bd hL hc hd k (by omega)
    have := hd _ _ (hc k (by omega)) (hc (nxtC L k) (Nat.mod_lt _ (by omega)))
    simp only [lowC]
    omega
theorem cutC_bd {m : Nat → Nat → Int} {c : Nat → Nat} {L n : Nat} {z : Int} (hz : 0 ≤ z ∧ z ≤ 1000000) (hd : ∀ i j, i < n → j < n → 0 ≤ m i j ∧ m i j ≤ 1000000) : ∀ (k : Nat) (i j : Nat), i < n → j < n → -((k : Int) * 1000000) ≤ cutC m c L z k i j ∧ cutC m c L z k i j ≤ 1000000
  | 0, i, j, hi, hj => by have := hd i j hi hj; simp only [cutC]; omega
  | k + 1, i, j, hi, hj => by
    have h1 := cutC_bd (c := c) (L := L) hz hd k i j hi hj
    simp only [cutC, upd2, updR]
    push_cast
    split
    · rename_i e
      rw [e] at h1
      simp only [upd]
      split
      · rename_i e2
        rw [e2] at h1
        omega
      · omega
    · omega
theorem cancel154 {w : World} {A Ac : Option Addr} {n cap L capc : Nat} {m : Nat → Nat → Int} {c : Nat → Nat} (hr : RdN w A n (fun _ => n) m) (hd : DOk n m) (hc : Rd w Ac L 1 (fun k _ => (c k : Int))) (hL : 1 ≤ L ∧ L ≤ 1000) (hcn : ∀ k, k < L → c k < n) :
    Calls Tryz.prog 154 #[.slice A n cap, .slice Ac L capc] w fun e w' => ∃ u, e = .returned u ∧ Ext w w' ∧ MtV w' w.heap.size u n (cutC m c L (lowC m c L L) L) := by
  have HR := hid hr
  have HC := hid hc
  have HD := hid hd
  have HCN := hid hcn
  clear hr hc hcn
  obtain ⟨hn, -, -⟩ := hd
  go_enter Tryz.func154, Tryz.ntmps154
  go_upto_region 3 with (go_at_call 155; refine (clone155 HR.out hn).mono ?_; rintro e w1 ⟨u, rfl, he1, hm⟩; have HM := hid hm; clear hm)
  have E1 := hid he1
  clear he1
  go_upto_region 4 with fail
  go_loopw [6, 15] (fun t i wr => ∃ k : Nat, k ≤ L ∧ i = .int .i64 (k : Int) ∧ t = .int .i64 (lowC m c L k) ∧ Ext w1 wr) (fun _ i _ => L - (intOf i).toNat)
  case atStart => exact ⟨0, Nat.zero_le _, rfl, rfl, Ext.refl _⟩
  case round =>
    obtain ⟨k, hk, rfl, rfl, he⟩ := hrel
    by_cases hlt : k < L
    · obtain ⟨q, hq⟩ : ∃ q, Hid (q = nxtC L k) := ⟨_, hid rfl⟩
      have hmod : Int.tmod ((k : Int) + 1) (L : Int) = (q : Int) := by rw [hq.out]; rfl
      have hqL : q < L := by rw [hq.out]; exact Nat.mod_lt _ (by omega)
      obtain ⟨b, o, rfl, hb, hck⟩ := (HC.out.ext (E1.out.trans he)).at1 hlt
      obtain ⟨b2, o2, h2, -, hcq⟩ := (HC.out.ext (E1.out.trans he)).at1 hqL
      cases h2
      obtain ⟨x, hx⟩ : ∃ x, Hid (c k = x) := ⟨_, hid rfl⟩
      obtain ⟨y, hy⟩ : ∃ y, Hid (c q = y) := ⟨_, hid rfl⟩
      have hxn : x < n := by rw [← hx.out]; exact HCN.out k hlt
      have hyn : y < n := by rw [← hy.out]; exact HCN.out q hqL
      rw [hx.out] at hck
      rw [hy.out] at hcq
      obtain ⟨bA, oA, Bx, Cx, rfl, hbA, hrow, hRow⟩ := (HR.out.ext (E1.out.trans he)).at_ hxn
      obtain ⟨bx, ox, rfl, hbx, hz⟩ := hRow.at1 hyn
      have HZ := hid (show lowC m c L (k + 1) = min (lowC m c L k) (m x y) by rw [← hx.out, ← hy.out, hq.out]; rfl)
      obtain ⟨t, ht⟩ : ∃ t, Hid (lowC m c L k = t) := ⟨_, hid rfl⟩
      rw [ht.out] at HZ ⊢
      obtain ⟨z, hz0⟩ : ∃ z, Hid (m x y = z) := ⟨_, hid rfl⟩
      rw [hz0.out] at hz HZ
      clear hRow
      go_upto_region 6 with fail
      refine wp_region_mono 17 [(15, S1 z), (16, fun v _ _ _ => v = .int .i64 (min t z))] (by kernel_rfl) (by kernel_rfl) (by kernel_rfl) ?hS ?_
      case hS =>
        simp only [List.forall_mem_cons]
        exact ⟨fun _ _ _ _ _ e h => S1.ext h e, fun _ _ _ _ _ _ h => h, fun _ h => by simp at h⟩
      simp only [List.take_succ_cons, List.take_zero, List.drop_succ_cons, List.drop_zero]
      iterate 15
        refine wpM_plain rfl ?_
        go_big_quiet_step (fail)
        refine wpQuiet_nil ?_
      refine wpM_spec _ rfl rfl (fun w4 hw4 _ => ?_) (fun va la ha ga1 ga2 _ hva => ?_)
      · go_wp2
        exact ⟨_, w4.heap.size, w4.heap.size + 1, rfl, (Ext.refl _).alloc _, Nat.le_refl _, Nat.le_succ _, by simp, w4.heap.size, rfl, Blk.new _ _ _⟩
      simp only [Act.put, List.setIfInBounds_toArray, List.set_cons_succ, List.set_cons_zero]
      obtain ⟨_, gs, rfl, -⟩ := hva
      refine wpM_spec _ rfl rfl (fun w4 hw4 hF => ?_) (fun va la ha ga1 ga2 _ hva => ?_)
      · simp only [List.forall_mem_cons] at hF
        obtain ⟨-, g2, hq2, hb2⟩ := hF.1 (by kernel_rfl)
        obtain rfl : gs = g2 := by simpa using hq2
        go_wp2_with (go_at_call 141; refine (least_one t hb2).mono ?_; rintro e w5 ⟨rfl, rfl⟩)
        exact ⟨_, _, _, rfl, Ext.refl _, Nat.le_refl _, Nat.le_refl _, Nat.le_refl _, rfl⟩
      obtain ⟨_, rfl⟩ := hva
      simp only [Act.put, List.setIfInBounds_toArray, List.set_cons_succ, List.set_cons_zero]
      refine wpM_nil fun w6 hw6 _ => ?_
      go_wp2_with fail
      go_roundw
      case rel => exact ⟨k + 1, by omega, by go_num, by rw [HZ.out], he.trans hw6⟩
      case measure => simp [intOf]; omega
    · have : k = L := by omega
      subst this
      obtain ⟨z, hz⟩ : ∃ z, Hid (z = lowC m c k k) := ⟨_, hid rfl⟩
      have hzb : 0 ≤ z ∧ z ≤ 1000000 := by rw [hz.out]; exact lowC_bd hL.1 HCN.out HD.out.hd k (Nat.le_refl _)
      rw [← hz.out]
      obtain ⟨g, r, cc, cp, rfl, hM⟩ := HM.out
      have HM0 := hid (hM.ext he)
      have E0 := hid (E1.out.trans he)
      clear HM hM he
      go_upto_region 9 with fail
      obtain ⟨W0, rfl⟩ : ∃ W0 : World, W0 = wr := ⟨_, rfl⟩
      obtain ⟨L, rfl⟩ : ∃ L, L = k := ⟨_, rfl⟩
      go_loopw [40] (fun i ws => ∃ k : Nat, k ≤ L ∧ i = .int .i64 (k : Int) ∧ Hid (Mt ws w.heap.size g n n r cc (cutC m c L z k)) ∧ Ext w ws) (fun i _ => L - (intOf i).toNat)
      case atStart => exact ⟨0, Nat.zero_le _, rfl, HM0, E0.out⟩
      case round =>
        obtain ⟨k, hk, rfl, hM, he⟩ := hrel
        by_cases hlt : k < L
        · obtain ⟨q, hq⟩ : ∃ q, Hid (q = nxtC L k) := ⟨_, hid rfl⟩
          have hmod : Int.tmod ((k : Int) + 1) (L : Int) = (q : Int) := by rw [hq.out]; rfl
          have hqL : q < L := by rw [hq.out]; exact Nat.mod_lt _ (by omega)
          obtain ⟨b, o, rfl, hb, hck⟩ := (HC.out.ext he).at1 hlt
          obtain ⟨b2, o2, h2, -, hcq⟩ := (HC.out.ext he).at1 hqL
          cases h2
          obtain ⟨x, hx⟩ : ∃ x, Hid (c k = x) := ⟨_, hid rfl⟩
          obtain ⟨y, hy⟩ : ∃ y, Hid (c q = y) := ⟨_, hid rfl⟩
          have hxn : x < n := by rw [← hx.out]; exact HCN.out k hlt
          have hyn : y < n := by rw [← hy.out]; exact HCN.out q hqL
          rw [hx.out] at hck
          rw [hy.out] at hcq
          have kx := hM.out.atRow hxn
          have gl := hM.out.lt
          have hrow := hM.out.row x hxn
          have kr := hrow.cell hyn
          have krl := hrow.1
          obtain ⟨v, hv⟩ : ∃ v, Hid (cutC m c L z k x y = v) := ⟨_, hid rfl⟩
          have hvb : -1000000000 ≤ v ∧ v ≤ 1000000 := by
            have := cutC_bd (c := c) (L := L) hzb HD.out.hd k x y hxn hyn
            rw [hv.out] at this
            omega
          rw [hv.out] at kr
          clear hrow
          go_upto_region 11 with fail
          refine wp_region_tail 16 (by kernel_rfl) (by kernel_rfl) ?_
          simp only [List.take_succ_cons, List.take_zero, List.drop_succ_cons, List.drop_zero]
          repeat (go_big_quiet_step (fail))
          refine wpQuiet_nil ?_
          rintro w6 ⟨⟨_, he6⟩, rfl⟩
          have hM6 := hid (hM.out.ext he6)
          have hrow := hM6.out.row x hxn
          have kr := hrow.cell hyn
          have krl := hrow.1
          have krf := hrow.frozen hyn
          rw [hv.out] at kr
          clear hrow
          go_wp2_with fail
          have hrl := hM6.out.lo x hxn
          go_roundw
          case rel =>
            refine ⟨k + 1, by omega, by go_num, hid ?_, (he.trans he6).setCell _ (by show w.heap.size ≤ r x; omega)⟩
            have e : cutC m c L z (k + 1) = upd2 (cutC m c L z k) x y (v - z) := by rw [← hv.out, ← hx.out, ← hy.out, hq.out]; rfl
            rw [e]
            exact hM6.out.put hxn hyn (v - z)
          case measure => simp [intOf]; omega
        · have : k = L := by omega
          subst this
          go_wp2_with fail
          go_ret
          refine ⟨_, rfl, he, g, r, cc, cp, rfl, ?_⟩
          rw [← hz.out]
          exact hM.out
end Go.Proofs.YtbceepjjdfpfmaaGreat
namespace Go.Proofs.YtbceepjjdfpfmaaGreat
open Go.RowKit HandSpec
set_option maxHeartbeats 2000000
set_option maxRecDepth 100000
theorem asks153 {w : World} {A : Option Addr} {n cap L : Nat} {f : Nat → Int} {b : Nat} {t : TypeId} (hn : n ≤ 1000) (hb : Blk w b t #[.slice A n cap]) :
    Asks w (.func (.func 153) #[] #[.pointer (some ⟨b, 0, none⟩)]) L (enc1 fun k _ => f k) (fun k => inB (f k) 0 ((n : Int) - 1)) := by
  refine ⟨_, _, rfl, enters_ Tryz.func153 (by kernel_rfl) rfl, fun k hk w' he => ?_⟩
  unfold enc1
  have k0 := (hb.ext he).cell
  have hlt := (hb.ext he).lt
  go_enter Tryz.func153, Tryz.ntmps153
  go_wp2_with (go_at_call 101; refine (in_any _ _ _ _).mono ?_; rintro e w2 ⟨rfl, rfl⟩)
  go_ret
  exact ⟨rfl, Ext.refl _⟩
theorem rd_take {w : World} {A : Option Addr} {n c k : Nat} {g : Nat → Nat → Int} (h : Rd w A n c g) (hk : k ≤ n) : Rd w A k c g := fun h0 => by
  obtain ⟨b, o, hA, hc⟩ := h (by omega)
  exact ⟨b, o, hA, fun i hi => hc i (by omega)⟩
/-- The error of Cancel. -/
def errC (n : Nat) (m : Nat → Nat) (g : Nat → Nat → Int) (L : Nat) (f : Nat → Int) : Int :=
  if chkD n m g ≠ 0 then chkD n m g else if L < 2 then 2 else if anyTo (fun k => !inB (f k) 0 ((n : Int) - 1)) L then 1
  else if anyTo (fun k => anyTo (fun j => f k == f j) k) L then 5 else if anyTo (fun k => g (f k).toNat (f (nxtC L k)).toNat == 0) L then 8 else 0
theorem cancel77 {w : World} {A Ac : Option Addr} {n cap L capc : Nat} {m : Nat → Nat} {g : Nat → Nat → Int} {f : Nat → Int} (hr : RdN w A n m g) (hn : n ≤ 1000) (hm : ∀ k, k < n → m k ≤ 1000)
    (hc : Rd w Ac L 1 (fun k _ => f k)) (hL : L ≤ 1000) (hcap : L ≤ capc) :
    Calls Tryz.prog 77 #[.slice A n cap, .slice Ac L capc] w fun e w' => ∃ u, e = .returned (.tuple #[u, .int .i64 (errC n m g L f)]) ∧ Ext w w' ∧
      (errC n m g L f = 0 → MtV w' w.heap.size u n (cutC g (fun k => (f k).toNat) L (lowC g (fun k => (f k).toNat) L L) L)) := by
  have hmf : ∀ (fn : Fn) (first cap : Array Value) (w : World), (Instr.makeFunc fn first cap).run Tryz.prog w = .ok (.func fn first cap) w := fun _ _ _ _ => rfl
  have HR := hid hr
  have HM := hid hm
  have HC := hid hc
  clear hr hm hc
  obtain ⟨s, hs⟩ : ∃ s, Hid (chkD n m g = s) := ⟨_, hid rfl⟩
  have B1 := hid (Blk.new w 48 #[.slice A n cap])
  have E1 : Ext w (w.alloc (.cells #[.slice A n cap] 48)) := (Ext.refl _).alloc _
  have E1 := hid E1
  rcases (Decidable.em (s = 0)).symm with h0 | h0
  · have hne : (s != 0) = true := by simpa using h0
    have he : errC n m g L f = s := by unfold errC; rw [hs.out, if_pos h0]
    rw [he]
    have H0 := hid h0
    clear h0 he
    go_enter Tryz.func77, Tryz.ntmps77
    go_wp2_with (go_at_call 33; refine (checkDebts33 (HR.out.ext E1.out) hn HM.out).mono ?_; rintro e w1 ⟨rfl, he1⟩; rw [hs.out])
    go_ret2
    exact ⟨_, rfl, E1.out.trans he1, fun h => absurd h H0.out⟩
  subst h0
  obtain ⟨hd, hsq⟩ := chkD_zero hs.out
  have HD := hid hd
  have HR2 := hid (HR.out.congr (m' := fun _ => n) (g' := g) fun k hk => ⟨hsq k hk, fun _ _ => rfl⟩)
  clear hd hsq
  have hC1 := hid (show errC n m g L f = if L < 2 then 2 else if anyTo (fun k => !inB (f k) 0 ((n : Int) - 1)) L then 1
  else if anyTo (fun k => anyTo (fun j => f k == f j) k) L then 5 else if anyTo (fun k => g (f k).toNat (f (nxtC L k)).toNat == 0) L then 8 else 0 by unfold errC; rw [hs.out, if_neg (by simp)])
  obtain ⟨er, her⟩ : ∃ er, Hid (errC n m g L f = er) := ⟨_, hid rfl⟩
  rw [her.out] at hC1 ⊢
  go_enter Tryz.func77, Tryz.ntmps77
  by_cases hL2 : L < 2
  · have h2 : (L : Int) < 2 := by omega
    go_wp2_with (go_at_call 33; refine (checkDebts33 (HR.out.ext E1.out) hn HM.out).mono ?_; rintro e w1 ⟨rfl, he1⟩; rw [hs.out])
    go_ret2
    rw [if_pos hL2] at hC1
    rw [hC1.out]
    exact ⟨_, rfl, E1.out.trans he1, fun h => by cases h⟩
  have h2 : ¬ (L : Int) < 2 := by omega
  rw [if_neg hL2] at hC1
  obtain ⟨q1, hq1⟩ : ∃ q, Hid (anyTo (fun k => !inB (f k) 0 ((n : Int) - 1)) L = q) := ⟨_, hid rfl⟩
  rw [hq1.out] at hC1
  rcases Bool.eq_false_or_eq_true q1 with rfl | rfl
  · go_wp2_with (first | (go_at_call 33; refine (checkDebts33 (HR.out.ext E1.out) hn HM.out).mono ?_; rintro e w1 ⟨rfl, he1⟩; rw [hs.out]; have k1 := (B1.out.ext he1).cell; have k1l := (B1.out.ext he1).lt; have E2 := hid he1; clear he1) | (go_at_call 112; refine (every112 (HC.out.ext (E1.out.trans E2.out)) hL (asks153 hn (B1.out.ext E2.out))).mono ?_; rintro e w2 ⟨rfl, he2⟩; rw [hq1.out]))
    go_ret2
    rw [if_pos trivial] at hC1
    rw [hC1.out]
    exact ⟨_, rfl, E1.out.trans (E2.out.trans he2), fun h => by cases h⟩
  rw [if_neg (by simp)] at hC1
  go_upto_region 8 with (first | (go_at_call 33; refine (checkDebts33 (HR.out.ext E1.out) hn HM.out).mono ?_; rintro e w1 ⟨rfl, he1⟩; rw [hs.out]; have k1 := (B1.out.ext he1).cell; have k1l := (B1.out.ext he1).lt; have E2 := hid he1; clear he1) | (go_at_call 112; refine (every112 (HC.out.ext (E1.out.trans E2.out)) hL (asks153 hn (B1.out.ext E2.out))).mono ?_; rintro e w2 ⟨rfl, he2⟩; rw [hq1.out]))
  have k2 := (B1.out.ext (E2.out.trans he2)).cell
  have k2l := (B1.out.ext (E2.out.trans he2)).lt
  have E3 := hid (E1.out.trans (E2.out.trans he2))
  have B3 := hid (B1.out.ext (E2.out.trans he2))
  clear k1 k1l E2 he2
  have hin := hid (anyTo_false.1 hq1.out)
  obtain ⟨b, o, rfl, -, -⟩ := HC.out.at1 (show 0 < L by omega)
  go_upto_region 9 with fail
  obtain ⟨W0, rfl⟩ : ∃ W0 : World, W0 = w2 := ⟨_, rfl⟩
  go_loopw [25] (fun i wr => ∃ k : Nat, k ≤ L ∧ i = .int .i64 (k : Int) ∧ Hid (∀ j, j < k → anyTo (fun i => f j == f i) j = false) ∧ Ext W0 wr) (fun i _ => L - (intOf i).toNat)
  case atStart => exact ⟨0, Nat.zero_le _, rfl, hid fun _ h => absurd h (by omega), Ext.refl _⟩
  case round =>
    obtain ⟨k, hk, rfl, hp, he⟩ := hrel
    by_cases hlt : k < L
    · obtain ⟨b', o', h', -, hck⟩ := (HC.out.ext (E3.out.trans he)).at1 hlt
      cases h'
      have hkc : k ≤ capc := by omega
      have hkc1 : (k : Int) ≤ (capc : Int) := by omega
      have hk1 : k ≤ 1000 := by omega
      obtain ⟨q2, hq2⟩ : ∃ q, Hid (anyTo (fun i => f k == f i) k = q) := ⟨_, hid rfl⟩
      have hRk := hid (rd_take (HC.out.ext (E3.out.trans he)) hk)
      rcases Bool.eq_false_or_eq_true q2 with rfl | rfl
      · go_wp2_with (go_at_call 47; refine (contains47 hRk.out hk1 (f k)).mono ?_; rintro e w3 ⟨rfl, he3⟩; rw [hq2.out])
        go_ret2
        rw [if_pos ((anyTo_true (p := fun k => anyTo (fun j => f k == f j) k)).2 ⟨k, hlt, hq2.out⟩)] at hC1
        rw [hC1.out]
        exact ⟨_, rfl, E3.out.trans (he.trans he3), fun h => by cases h⟩
      · go_wp2_with (go_at_call 47; refine (contains47 hRk.out hk1 (f k)).mono ?_; rintro e w3 ⟨rfl, he3⟩; rw [hq2.out])
        go_roundw
        case rel => exact ⟨k+1, by omega, by go_num, anyTo_step hp.out hq2.out, he.trans he3⟩
        case measure => simp [intOf]; omega
    · have : k = L := by omega
      subst this
      obtain ⟨L, rfl⟩ : ∃ L, L = k := ⟨_, rfl⟩
      rw [if_neg (by rw [anyTo_false.2 hp.out]; simp)] at hC1
      have HE := hid he
      clear hp he
      go_upto_region 15 with fail
      obtain ⟨W1, rfl⟩ : ∃ W1 : World, W1 = wr := ⟨_, rfl⟩
      go_loopw [38] (fun i ws => ∃ k : Nat, k ≤ L ∧ i = .int .i64 (k : Int) ∧ Hid (∀ j, j < k → (g (f j).toNat (f (nxtC L j)).toNat == 0) = false) ∧ Ext W0 ws) (fun i _ => L - (intOf i).toNat)
      case atStart => exact ⟨0, Nat.zero_le _, rfl, hid fun _ h => absurd h (by omega), HE.out⟩
      case round =>
        obtain ⟨k, hk, rfl, hp, he⟩ := hrel
        by_cases hlt : k < L
        · obtain ⟨q, hq⟩ : ∃ q, Hid (q = nxtC L k) := ⟨_, hid rfl⟩
          have hmod : Int.tmod ((k : Int) + 1) (L : Int) = (q : Int) := by rw [hq.out]; rfl
          have hqL : q < L := by rw [hq.out]; exact Nat.mod_lt _ (by omega)
          have k2 := (B3.out.ext he).cell
          have k2l := (B3.out.ext he).lt
          obtain ⟨b', o', h', -, hck⟩ := (HC.out.ext (E3.out.trans he)).at1 hlt
          cases h'
          obtain ⟨b', o', h', -, hcq⟩ := (HC.out.ext (E3.out.trans he)).at1 hqL
          cases h'
          have i1 := hin.out k hlt
          have i2 := hin.out q hqL
          simp [inB] at i1 i2
          obtain ⟨x, hx⟩ : ∃ x, Hid (x = (f k).toNat) := ⟨_, hid rfl⟩
          obtain ⟨y, hy⟩ : ∃ y, Hid (y = (f q).toNat) := ⟨_, hid rfl⟩
          have hfx : f k = (x : Int) := by have := hx.out; omega
          have hfy : f q = (y : Int) := by have := hy.out; omega
          have hxn : x < n := by omega
          have hyn : y < n := by omega
          rw [hfx] at hck
          rw [hfy] at hcq
          clear i1 i2 hfx hfy
          obtain ⟨bA, oA, Bx, Cx, rfl, hbA, hrow, hRow⟩ := (HR2.out.ext (E3.out.trans he)).at_ hxn
          obtain ⟨bx, ox, rfl, hbx, hz⟩ := hRow.at1 hyn
          clear hRow
          have hzz := hid (show g (f k).toNat (f (nxtC L k)).toNat = g x y by rw [hx.out, hy.out, hq.out])
          have E0 := hid he
          go_upto_region 17 with fail
          refine wp_region_later (by kernel_rfl) (by kernel_rfl) ?_
          repeat (go_big_quiet_step (fail))
          refine wpQuiet_nil ?_
          rintro w6 ⟨⟨_, he6⟩, rfl⟩
          clear k2 k2l hck hcq hrow hz
          cases hb : (g x y == 0)
          · go_wp2_with fail
            go_roundw
            case rel => exact ⟨k + 1, by omega, by go_num, anyTo_step hp.out (by rw [hzz.out]; exact hb), E0.out.trans he6⟩
            case measure => simp [intOf]; omega
          · go_wp2_with fail
            go_ret2
            rw [if_pos ((anyTo_true (p := fun k => g (f k).toNat (f (nxtC L k)).toNat == 0)).2 ⟨k, hlt, by rw [hzz.out]; exact hb⟩)] at hC1
            rw [hC1.out]
            exact ⟨_, rfl, E3.out.trans (E0.out.trans he6), fun h => by cases h⟩
        · have : k = L := by omega
          subst this
          obtain ⟨L, rfl⟩ : ∃ L, L = k := ⟨_, rfl⟩
          rw [if_neg (by rw [anyTo_false.2 hp.out]; simp)] at hC1
          have k2 := (B3.out.ext he).cell
          have k2l := (B3.out.ext he).lt
          have hcn : ∀ k, k < L → ((f k).toNat : Int) = f k ∧ (f k).toNat < n := fun k hk => by
            have := hin.out k hk
            simp [inB] at this
            omega
          have E4 := hid (E3.out.trans he)
          have h154 := cancel154 (cap := cap) (capc := capc) (HR2.out.ext E4.out) HD.out (c := fun k => (f k).toNat) ((HC.out.ext E4.out).congr fun k hk _ _ => (hcn k hk).1.symm) ⟨by omega, hL⟩ fun k hk => (hcn k hk).2
          have H154 := hid h154
          clear h154 hcn he hp
          go_wp2_with (go_at_call 154; refine H154.out.mono ?_; rintro e w7 ⟨u, rfl, he7, hm⟩; have HM7 := hid hm; clear hm)
          go_ret2
          rw [hC1.out]
          exact ⟨_, rfl, E4.out.trans he7, fun _ => by obtain ⟨g1, r, c, cp, hu, hM⟩ := HM7.out; exact ⟨g1, r, c, cp, hu, hM.base E4.out.size⟩⟩
end Go.Proofs.YtbceepjjdfpfmaaGreat
