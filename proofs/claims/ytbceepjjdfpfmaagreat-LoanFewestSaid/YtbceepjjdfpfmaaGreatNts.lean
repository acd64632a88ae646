/- Walk of the law's nets (35); what nets are, as sums. The debts are right ones. -/
import Derived.Test.YtbceepjjdfpfmaaGreatNetA
import Derived.Test.YtbceepjjdfpfmaaGreatGrpM
import Derived.RegionTactic
namespace Go.Proofs.YtbceepjjdfpfmaaGreat
open Go.RowKit HandSpec
set_option maxHeartbeats 2000000
set_option maxRecDepth 100000
theorem nets35 {w : World} {A : Option Addr} {n cap : Nat} {g : Nat → Nat → Int} (hr : RdN w A n (fun _ => n) g) (hd : DOk n g) :
    Calls Tryz.prog 35 #[.slice A n cap] w (LstP w n (netTo g n n)) := by
  obtain ⟨hn, hb, hz0⟩ := hd
  obtain ⟨B, C, h1, h2⟩ := hr
  have H1 := hid h1
  have H2 := hid h2
  have HB := hid hb
  have HZ := hid hz0
  clear h1 h2 hb hz0
  have hmk2 : ∀ w, (Instr.makeSlice 22 (.int .i64 (n : Int)) (.int .i64 (n : Int))).run Tryz.prog w = .ok (.slice (some ⟨w.heap.size, 0, none⟩) n n) (w.alloc (.cells (Array.replicate n (.int .i64 0)) 3)) := fun w => make22_run w n (by omega)
  go_enter Tryz.func35, Tryz.ntmps35
  go_upto_region 2 with fail
  refine wp_later fun w1 hw1 => ?_
  obtain ⟨E1, b1⟩ := hw1.newB
  have hR0 : ArrB w1 w.heap.size 3 n (fun _ => 0) := ⟨_, b1, fun i hi => by simp [hi]⟩
  clear hw1 b1
  have HA := hid hR0
  have E1 := hid E1
  clear hR0
  obtain ⟨G, hG⟩ : ∃ G, Hid (G = w.heap.size) := ⟨_, hid rfl⟩
  rw [← hG.out] at HA ⊢
  go_upto_region 3 with fail
  go_loopw [13] (fun i wr => ∃ k : Nat, k ≤ n ∧ i = .int .i64 k ∧ Hid (ArrB wr G 3 n (netTo g n k)) ∧ Ext w wr) (fun i _ => n - (intOf i).toNat)
  case atStart => exact ⟨0, Nat.zero_le _, rfl, HA, E1.out⟩
  case round =>
    obtain ⟨k, hk, rfl, hA, he⟩ := hrel
    by_cases hlt : k < n
    · obtain ⟨b, o, rfl, hb, hc⟩ := (H1.out.ext he).at_ hlt
      go_upto_region 6 with fail
      obtain ⟨W0, rfl⟩ : ∃ W0 : World, W0 = wr := ⟨_, rfl⟩
      clear hb hc
      have h2k := H2.out k hlt
      obtain ⟨b1, o1, hB, -, -⟩ := h2k.at1 (show 0 < n by omega)
      rw [hB] at h2k ⊢
      have h2k := hid h2k
      clear hB
      go_loopw [20] (fun i ws => ∃ j : Nat, j ≤ n ∧ i = .int .i64 j ∧ Hid (ArrB ws G 3 n (netRow g k j (netTo g n k))) ∧ Ext w ws) (fun i _ => n - (intOf i).toNat)
      case atStart => exact ⟨0, Nat.zero_le _, rfl, hA, he⟩
      case round =>
        obtain ⟨j, hj, rfl, hA, he⟩ := hrel
        by_cases hlj : j < n
        · obtain ⟨b2, o2, hB2, hb1, hc1⟩ := (h2k.out.ext he).at1 hlj
          cases hB2
          have cj := hA.out.cell hlj
          have ck := hA.out.cell hlt
          have fj := hA.out.frozen j
          have fk := hA.out.frozen k
          have Gl := hA.out.lt
          obtain ⟨z, hz⟩ : ∃ z, Hid (z = g k j) := ⟨_, hid rfl⟩
          obtain ⟨y, hy⟩ : ∃ y, Hid (y = netRow g k j (netTo g n k) j) := ⟨_, hid rfl⟩
          obtain ⟨x, hx⟩ : ∃ x, Hid (x = netRow g k j (netTo g n k) k) := ⟨_, hid rfl⟩
          have hzb : 0 ≤ z ∧ z ≤ 1000000 := by rw [hz.out]; exact HB.out k j hlt hlj
          have hbd := netRow_bd HB.out hlt _ (netTo_bd HB.out (by omega) k hk) j hj
          have hyb : -100000000 ≤ y ∧ y ≤ 100000000 := by
            have := hbd j
            rw [← hy.out] at this
            omega
          have hxb : -100000000 ≤ x ∧ x ≤ 100000000 := by
            have := hbd k
            rw [← hx.out] at this
            omega
          rw [← hz.out] at hc1
          rw [← hy.out] at cj
          rw [← hx.out] at ck
          have hAll : Hid (ArrB ((wr.setCell ⟨G, j, none⟩ (.int .i64 (y + z))).setCell ⟨G, k, none⟩ (.int .i64 (x - z))) G 3 n (netRow g k (j + 1) (netTo g n k)) ∧ Ext w ((wr.setCell ⟨G, j, none⟩ (.int .i64 (y + z))).setCell ⟨G, k, none⟩ (.int .i64 (x - z)))) := by
            refine hid ⟨?_, (he.setCell _ (by have := hG.out; show w.heap.size ≤ G; omega)).setCell _ (by have := hG.out; show w.heap.size ≤ G; omega)⟩
            have a := (hA.out.set_ j (y + z)).set_ k (x - z)
            have e : upd (upd (netRow g k j (netTo g n k)) j (y + z)) k (x - z) = netRow g k (j + 1) (netTo g n k) := by
              show _ = upd (upd (netRow g k j (netTo g n k)) j (netRow g k j (netTo g n k) j + g k j)) k (upd (netRow g k j (netTo g n k)) j (netRow g k j (netTo g n k) j + g k j) k - g k j)
              rw [hy.out, hz.out, hx.out]
              by_cases q : k = j
              · subst q
                rw [upd_same, HZ.out k hlt]
                simp
              · rw [upd_other _ _ q]
            rw [← e]
            exact a
          clear hbd
          have wr1 : IntKind.i64.wrap (y + z) = y + z := IntWalk.i64_in _ (by omega)
          have wr2 : IntKind.i64.wrap (x - z) = x - z := IntWalk.i64_in _ (by omega)
          have A9 := hA.out.set_ j (y + z)
          have c9 := A9.cell hlt
          have f9 := A9.frozen k
          have l9 := A9.lt
          go_upto_region 8 with fail
          go_region
          all_goals
            go_wp2
            refine ⟨⟨j + 1, by omega, by go_num, ?_⟩, by simp [intOf]; omega⟩
            first
              | exact ⟨hid hAll.out.1, hAll.out.2⟩
              | exact ⟨hid (hAll.out.1.ext (Ext.refl _).drew), hAll.out.2.drew⟩
        · go_wp2_with fail
          have : j = n := by omega
          subst this
          go_roundw
          case rel => exact ⟨k + 1, by omega, by go_num, hA, he⟩
          case measure => simp [intOf]; omega
    · go_wp2_with fail
      go_ret
      have : k = n := by omega
      subst this
      exact ⟨G, rfl, he, by have := hG.out; omega, hA.out⟩
/-- Nets, as sums. -/
theorem netRow_eq (g : Nat → Nat → Int) (k : Nat) (f : Nat → Int) : ∀ j i, netRow g k j f i = f i + (if i < j then g k i else 0) - (if i = k then sumTo (g k) j else 0)
  | 0, i => by simp [netRow, sumTo]
  | j + 1, i => by
    have ih := netRow_eq g k f j
    simp only [netRow, sumTo_succ]
    unfold upd
    by_cases hk : i = k
    · subst hk
      rw [if_pos rfl, if_pos rfl]
      by_cases hj : i = j
      · subst hj
        rw [if_pos rfl, ih, if_neg (Nat.lt_irrefl _), if_pos rfl, if_pos (Nat.lt_succ_self _)]
        omega
      · rw [if_neg hj, ih, if_pos rfl]
        by_cases h : i < j
        · rw [if_pos h, if_pos (by omega)]; omega
        · rw [if_neg h, if_neg (by omega)]; omega
    · rw [if_neg hk, if_neg hk]
      by_cases hj : i = j
      · subst hj
        rw [if_pos rfl, ih, if_neg (Nat.lt_irrefl _), if_neg hk, if_pos (Nat.lt_succ_self _)]
        omega
      · rw [if_neg hj, ih, if_neg hk]
        by_cases h : i < j
        · rw [if_pos h, if_pos (by omega)]
        · rw [if_neg h, if_neg (by omega)]
theorem netTo_eq (g : Nat → Nat → Int) (n : Nat) : ∀ k i, i < n → netTo g n k i = sumTo (fun a => g a i) k - (if i < k then sumTo (g i) n else 0)
  | 0, i, _ => by simp [netTo, sumTo]
  | k + 1, i, hi => by
    have ih := netTo_eq g n k i hi
    simp only [netTo, sumTo_succ]
    rw [netRow_eq, ih, if_pos hi]
    by_cases hk : i = k
    · subst hk
      rw [if_neg (Nat.lt_irrefl _), if_pos rfl, if_pos (Nat.lt_succ_self _)]
      omega
    · rw [if_neg hk]
      by_cases h : i < k
      · rw [if_pos h, if_pos (by omega)]; omega
      · rw [if_neg h, if_neg (by omega)]; omega
end Go.Proofs.YtbceepjjdfpfmaaGreat
