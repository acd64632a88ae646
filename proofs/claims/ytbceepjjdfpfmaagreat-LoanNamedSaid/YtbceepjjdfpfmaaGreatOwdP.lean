/- Walk of the law's nets (35); what nets are, as sums. The debts are right ones. The debts of a right ledger: they are right debts, and the net of the granary. Plain law. -/
import Derived.Test.YtbceepjjdfpfmaaGreatNetA
import Derived.Test.YtbceepjjdfpfmaaGreatGrpM
import Derived.RegionTactic
import Derived.Test.YtbceepjjdfpfmaaGreatOwed
namespace Go.Proofs.YtbceepjjdfpfmaaGreat
open Go.RowKit HandSpec
set_option maxHeartbeats 2000000
set_option maxRecDepth 100000
theorem nets35 {w : World} {A : Option Addr} {n cap : Nat} {g : Nat → Nat → Int} (hr : RdN w A n (fun _ => n) g) (hd : DOk n g) :
    Calls Tryz.prog 35 #[.slice A n cap] w (LstP w n (netTo g n n)) := by
  obtain ⟨hn, hb, hz0⟩ := hd
  obtain ⟨B, C, h1, h2⟩ := hr
  have H1 := hid h1
  have H2 := hid h2
  have HB := hid hb
  have HZ := hid hz0
  clear h1 h2 hb hz0
  have hmk2 : ∀ w, (Instr.makeSlice 22 (.int .i64 (n : Int)) (.int .i64 (n : Int))).run Tryz.prog w = .ok (.slice (some ⟨w.heap.size, 0, none⟩) n n) (w.alloc (.cells (Array.replicate n (.int .i64 0)) 3)) := fun w => make22_run w n (by omega)
  go_enter Tryz.func35, Tryz.ntmps35
  go_upto_region 2 with fail
  refine wp_later fun w1 hw1 => ?_
  obtain ⟨E1, b1⟩ := hw1.newB
  have hR0 : ArrB w1 w.heap.size 3 n (fun _ => 0) := ⟨_, b1, fun i hi => by simp [hi]⟩
  clear hw1 b1
  have HA := hid hR0
  have E1 := hid E1
  clear hR0
  obtain ⟨G, hG⟩ : ∃ G, Hid (G = w.heap.size) := ⟨_, hid rfl⟩
  rw [← hG.out] at HA ⊢
  go_upto_region 3 with fail
  go_loopw [13] (fun i wr => ∃ k : Nat, k ≤ n ∧ i = .int .i64 k ∧ Hid (ArrB wr G 3 n (netTo g n k)) ∧ Ext w wr) (fun i _ => n - (intOf i).toNat)
  case atStart => exact ⟨0, Nat.zero_le _, rfl, HA, E1.out⟩
  case round =>
    obtain ⟨k, hk, rfl, hA, he⟩ := hrel
    by_cases hlt : k < n
    · obtain ⟨b, o, rfl, hb, hc⟩ := (H1.out.ext he).at_ hlt
      go_upto_region 6 with fail
      obtain ⟨W0, rfl⟩ : ∃ W0 : World, W0 = wr := ⟨_, rfl⟩
      clear hb hc
      have h2k := H2.out k hlt
      obtain ⟨b1, o1, hB, -, -⟩ := h2k.at1 (show 0 < n by omega)
      rw [hB] at h2k ⊢
      have h2k := hid h2k
      clear hB
      go_loopw [20] (fun i ws => ∃ j : Nat, j ≤ n ∧ i = .int .i64 j ∧ Hid (ArrB ws G 3 n (netRow g k j (netTo g n k))) ∧ Ext w ws) (fun i _ => n - (intOf i).toNat)
      case atStart => exact ⟨0, Nat.zero_le _, rfl, hA, he⟩
      case round =>
        obtain ⟨j, hj, rfl, hA, he⟩ := hrel
        by_cases hlj : j < n
        · obtain ⟨b2, o2, hB2, hb1, hc1⟩ := (h2k.out.ext he).at1 hlj
          cases hB2
          have cj := hA.out.cell hlj
          have ck := hA.out.cell hlt
          have fj := hA.out.frozen j
          have fk := hA.out.frozen k
          have Gl := hA.out.lt
          obtain ⟨z, hz⟩ : ∃ z, Hid (z = g k j) := ⟨_, hid rfl⟩
          obtain ⟨y, hy⟩ : ∃ y, Hid (y = netRow g k j (netTo g n k) j) := ⟨_, hid rfl⟩
          obtain ⟨x, hx⟩ : ∃ x, Hid (x = netRow g k j (netTo g n k) k) := ⟨_, hid rfl⟩
          have hzb : 0 ≤ z ∧ z ≤ 1000000 := by rw [hz.out]; exact HB.out k j hlt hlj
          have hbd := netRow_bd HB.out hlt _ (netTo_bd HB.out (by omega) k hk) j hj
          have hyb : -100000000 ≤ y ∧ y ≤ 100000000 := by
            have := hbd j
            rw [← hy.out] at this
            omega
          have hxb : -100000000 ≤ x ∧ x ≤ 100000000 := by
            have := hbd k
            rw [← hx.out] at this
            omega
          rw [← hz.out] at hc1
          rw [← hy.out] at cj
          rw [← hx.out] at ck
          have hAll : Hid (ArrB ((wr.setCell ⟨G, j, none⟩ (.int .i64 (y + z))).setCell ⟨G, k, none⟩ (.int .i64 (x - z))) G 3 n (netRow g k (j + 1) (netTo g n k)) ∧ Ext w ((wr.setCell ⟨G, j, none⟩ (.int .i64 (y + z))).setCell ⟨G, k, none⟩ (.int .i64 (x - z)))) := by
            refine hid ⟨?_, (he.setCell _ (by have := hG.out; show w.heap.size ≤ G; omega)).setCell _ (by have := hG.out; show w.heap.size ≤ G; omega)⟩
            have a := (hA.out.set_ j (y + z)).set_ k (x - z)
            have e : upd (upd (netRow g k j (netTo g n k)) j (y + z)) k (x - z) = netRow g k (j + 1) (netTo g n k) := by
              show _ = upd (upd (netRow g k j (netTo g n k)) j (netRow g k j (netTo g n k) j + g k j)) k (upd (netRow g k j (netTo g n k)) j (netRow g k j (netTo g n k) j + g k j) k - g k j)
              rw [hy.out, hz.out, hx.out]
              by_cases q : k = j
              · subst q
                rw [upd_same, HZ.out k hlt]
                simp
              · rw [upd_other _ _ q]
            rw [← e]
            exact a
          clear hbd
          have wr1 : IntKind.i64.wrap (y + z) = y + z := IntWalk.i64_in _ (by omega)
          have wr2 : IntKind.i64.wrap (x - z) = x - z := IntWalk.i64_in _ (by omega)
          have A9 := hA.out.set_ j (y + z)
          have c9 := A9.cell hlt
          have f9 := A9.frozen k
          have l9 := A9.lt
          go_upto_region 8 with fail
          go_region
          all_goals
            go_wp2
            refine ⟨⟨j + 1, by omega, by go_num, ?_⟩, by simp [intOf]; omega⟩
            first
              | exact ⟨hid hAll.out.1, hAll.out.2⟩
              | exact ⟨hid (hAll.out.1.ext (Ext.refl _).drew), hAll.out.2.drew⟩
        · go_wp2_with fail
          have : j = n := by omega
          subst this
          go_roundw
          case rel => exact ⟨k + 1, by omega, by go_num, hA, he⟩
          case measure => simp [intOf]; omega
    · go_wp2_with fail
      go_ret
      have : k = n := by omega
      subst this
      exact ⟨G, rfl, he, by have := hG.out; omega, hA.out⟩
/-- Nets, as sums. -/
theorem netRow_eq (g : Nat → Nat → Int) (k : Nat) (f : Nat → Int) : ∀ j i, netRow g k j f i = f i + (if i < j then g k i else 0) - (if i = k then sumTo (g k) j else 0)
  | 0, i => by simp [netRow, sumTo]
  | j + 1, i => by
    have ih := netRow_eq g k f j
    simp only [netRow, sumTo_succ]
    unfold upd
    by_cases hk : i = k
    · subst hk
      rw [if_pos rfl, if_pos rfl]
      by_cases hj : i = j
      · subst hj
        rw [if_pos rfl, ih, if_neg (Nat.lt_irrefl _), if_pos rfl, if_pos (Nat.lt_succ_self _)]
        omega
      · rw [if_neg hj, ih, if_pos rfl]
        by_cases h : i < j
        · rw [if_pos h, if_pos (by omega)]; omega
        · rw [if_neg h, if_neg (by omega)]; omega
    · rw [if_neg hk, if_neg hk]
      by_cases hj : i = j
      · subst hj
        rw [if_pos rfl, ih, if_neg (Nat.lt_irrefl _), if_neg hk, if_pos (Nat.lt_succ_self _)]
        omega
      · rw [if_neg hj, ih, if_neg hk]
        by_cases h : i < j
        · rw [if_pos h, if_pos (by omega)]
        · rw [if_neg h, if_neg (by omega)]
theorem netTo_eq (g : Nat → Nat → Int) (n : Nat) : ∀ k i, i < n → netTo g n k i = sumTo (fun a => g a i) k - (if i < k then sumTo (g i) n else 0)
  | 0, i, _ => by simp [netTo, sumTo]
  | k + 1, i, hi => by
    have ih := netTo_eq g n k i hi
    simp only [netTo, sumTo_succ]
    rw [netRow_eq, ih, if_pos hi]
    by_cases hk : i = k
    · subst hk
      rw [if_neg (Nat.lt_irrefl _), if_pos rfl, if_pos (Nat.lt_succ_self _)]
      omega
    · rw [if_neg hk]
      by_cases h : i < k
      · rw [if_pos h, if_pos (by omega)]; omega
      · rw [if_neg h, if_neg (by omega)]; omega
end Go.Proofs.YtbceepjjdfpfmaaGreat
namespace Go.Proofs.YtbceepjjdfpfmaaGreat
open Go.RowKit HandSpec LoanSpec
set_option maxHeartbeats 2000000
set_option maxRecDepth 100000
theorem sumTo_swap (F : Nat → Nat → Int) (m : Nat) : ∀ n, sumTo (fun a => sumTo (fun i => F a i) m) n = sumTo (fun i => sumTo (fun a => F a i) n) m
  | 0 => by
    show (0 : Int) = sumTo (fun _ => 0) m
    rw [sumTo_zero]
  | n + 1 => by
    rw [sumTo_succ, sumTo_swap F m n, ← sumTo_add]
    exact sumTo_congr fun i _ => rfl
theorem sumTo_one (z v : Int) : ∀ n : Nat, sumTo (fun a => if z = (a : Int) then v else 0) n = if 0 ≤ z ∧ z < (n : Int) then v else 0
  | 0 => by
    show (0 : Int) = _
    rw [if_neg (by omega)]
  | n + 1 => by
    rw [sumTo_succ, sumTo_one z v n]
    by_cases h : z = (n : Int)
    · rw [if_pos h, if_neg (by omega), if_pos (by push_cast; omega)]; omega
    · rw [if_neg h]
      by_cases h2 : 0 ≤ z ∧ z < (n : Int)
      · rw [if_pos h2, if_pos (by push_cast; omega)]; omega
      · rw [if_neg h2, if_neg (by push_cast; omega)]; omega
/-- What is promised by a to b. -/
def prom (x : LD) (a b : Nat) (k : Nat) : Int := sumTo (fun i => if x.pr i 0 = (a : Int) ∧ x.pr i 1 = (b : Int) then x.pr i 2 else 0) k
/-- What a owes to b out of loans. -/
def base (x : LD) (a b : Nat) : Int := if 0 < a ∧ b = 0 then LoanSpec.P.owes x (a : Int) (x.years - 1) else 0
theorem owed_parts (x : LD) (a b : Nat) : P.owed x a b = base x a b + prom x a b x.mn := by
  have : ∀ k, LoanSpec.P.owedTo x k a b = base x a b + prom x a b k := fun k => by
    induction k with
    | zero => show _ = _ + (0 : Int); unfold base LoanSpec.P.owedTo; omega
    | succ k ih =>
      unfold prom at ih ⊢
      rw [sumTo_succ]
      show LoanSpec.P.owedTo x k a b + _ = _
      rw [ih]
      omega
  exact this x.mn
theorem prom_self {x : LD} (hx : Ok x) (a : Nat) : ∀ k, k ≤ x.mn → prom x a a k = 0
  | 0, _ => rfl
  | k + 1, hk => by
    have ih := prom_self hx a k (by omega)
    unfold prom at ih ⊢
    rw [sumTo_succ, ih, if_neg (fun h => hx.mne k (by omega) (by rw [h.1, h.2]))]
    rfl
theorem owed_debts {x : LD} (hx : Ok x) : chkD x.folk.toNat (fun _ => x.folk.toNat) (P.owed x) = 0 := by
  have hf := hx.folk
  have hm := hx.mn
  have h1 : inB (x.folk.toNat : Int) 1 7 = true := decide_eq_true (by omega)
  have h2 : sqB x.folk.toNat (fun _ => x.folk.toNat) = true := by unfold sqB; rw [anyTo_false.2 fun k _ => by simp]; rfl
  have h3 : entB x.folk.toNat (fun _ => x.folk.toNat) (P.owed x) = true := by
    unfold entB
    rw [anyTo_false.2 fun k _ => anyTo_false.2 fun j _ => by
      have := LoanSpec.P.owedTo_bd hx x.mn (Nat.le_refl _) k j
      have e : inB (P.owed x k j) 0 1000000 = true := decide_eq_true (by show 0 ≤ LoanSpec.P.owedTo x x.mn k j ∧ LoanSpec.P.owedTo x x.mn k j ≤ 1000000; omega)
      rw [e]
      rfl]
    rfl
  have h4 : anyTo (fun k => !(P.owed x k k == 0)) x.folk.toNat = false := anyTo_false.2 fun k _ => by
    rw [owed_parts, prom_self hx k x.mn (Nat.le_refl _)]
    unfold base
    rw [if_neg (by omega)]
    rfl
  unfold chkD
  rw [h1, h2, h3, h4]
  simp
/-- What is left of all loans. -/
def leftAll (x : LD) : Int := sumTo (fun i => LoanSpec.P.left x i (x.years - 1)) x.ln
theorem owes_all {x : LD} (hx : Ok x) : sumTo (fun a => base x a 0) x.folk.toNat = leftAll x := by
  have hf := hx.folk
  have e1 : sumTo (fun a => base x a 0) x.folk.toNat = sumTo (fun a => sumTo (fun i => if x.lo i 0 = (a : Int) then LoanSpec.R.left x i (x.years - 1) else 0) x.ln) x.folk.toNat := sumTo_congr fun a _ => by
    unfold base
    by_cases h : 0 < a
    · rw [if_pos ⟨h, rfl⟩, LoanSpec.P.owes_eq hx]; rfl
    · rw [if_neg (fun q => h q.1)]
      have : sumTo (fun i => if x.lo i 0 = (a : Int) then LoanSpec.R.left x i (x.years - 1) else 0) x.ln = sumTo (fun _ => 0) x.ln := sumTo_congr fun i hi => if_neg (by have := hx.lwho i hi; omega)
      rw [this, sumTo_zero]
  rw [e1, sumTo_swap]
  unfold leftAll
  refine sumTo_congr fun i hi => ?_
  rw [sumTo_one, if_pos (by have := hx.lwho i hi; omega), LoanSpec.P.left_eq hx hi]
theorem prom_to {x : LD} (hx : Ok x) (b : Nat) : sumTo (fun a => prom x a b x.mn) x.folk.toNat = sumTo (fun i => if x.pr i 1 = (b : Int) then x.pr i 2 else 0) x.mn := by
  unfold prom
  rw [sumTo_swap]
  refine sumTo_congr fun i hi => ?_
  by_cases h : x.pr i 1 = (b : Int)
  · rw [if_pos h]
    have := sumTo_one (x.pr i 0) (x.pr i 2) x.folk.toNat
    rw [if_pos (by have := hx.mfrom i hi; omega)] at this
    refine Eq.trans ?_ this
    exact sumTo_congr fun a _ => by simp [h]
  · rw [if_neg h]
    have : sumTo (fun a : Nat => if x.pr i 0 = (a : Int) ∧ x.pr i 1 = (b : Int) then x.pr i 2 else 0) x.folk.toNat = sumTo (fun _ => 0) x.folk.toNat := sumTo_congr fun a _ => if_neg (fun q => h q.2)
    rw [this, sumTo_zero]
theorem prom_from {x : LD} (hx : Ok x) (a : Nat) : sumTo (fun b => prom x a b x.mn) x.folk.toNat = sumTo (fun i => if x.pr i 0 = (a : Int) then x.pr i 2 else 0) x.mn := by
  unfold prom
  rw [sumTo_swap]
  refine sumTo_congr fun i hi => ?_
  by_cases h : x.pr i 0 = (a : Int)
  · rw [if_pos h]
    have := sumTo_one (x.pr i 1) (x.pr i 2) x.folk.toNat
    rw [if_pos (by have := hx.mto i hi; omega)] at this
    refine Eq.trans ?_ this
    exact sumTo_congr fun b _ => by simp [h]
  · rw [if_neg h]
    have : sumTo (fun b : Nat => if x.pr i 0 = (a : Int) ∧ x.pr i 1 = (b : Int) then x.pr i 2 else 0) x.folk.toNat = sumTo (fun _ => 0) x.folk.toNat := sumTo_congr fun b _ => if_neg (fun q => h q.1)
    rw [this, sumTo_zero]
/-- What the granary is promised, less what it promised, by the first k promises. -/
def promG (x : LD) (k : Nat) : Int := sumTo (fun i => (if x.pr i 1 = 0 then x.pr i 2 else 0) - (if x.pr i 0 = 0 then x.pr i 2 else 0)) k
theorem sumTo_sub (f g : Nat → Int) : ∀ k, sumTo (fun i => f i - g i) k = sumTo f k - sumTo g k
  | 0 => rfl
  | k + 1 => by rw [sumTo_succ, sumTo_succ, sumTo_succ, sumTo_sub f g k]; omega
/-- The net of the granary. -/
theorem net_granary {x : LD} (hx : Ok x) : netTo (P.owed x) x.folk.toNat x.folk.toNat 0 = leftAll x + promG x x.mn := by
  have hf := hx.folk
  rw [netTo_eq _ _ _ _ (by omega), if_pos (by omega)]
  have e1 : sumTo (fun a => P.owed x a 0) x.folk.toNat = sumTo (fun a => base x a 0) x.folk.toNat + sumTo (fun a => prom x a 0 x.mn) x.folk.toNat := by
    rw [← sumTo_add]
    exact sumTo_congr fun a _ => owed_parts x a 0
  have e2 : sumTo (P.owed x 0) x.folk.toNat = sumTo (fun b => prom x 0 b x.mn) x.folk.toNat := sumTo_congr fun b _ => by
    rw [owed_parts]
    unfold base
    rw [if_neg (by omega)]
    omega
  rw [e1, e2, owes_all hx, prom_to hx, prom_from hx]
  unfold promG
  rw [sumTo_sub]
  show leftAll x + sumTo (fun i => if x.pr i 1 = 0 then x.pr i 2 else 0) x.mn - sumTo (fun i => if x.pr i 0 = 0 then x.pr i 2 else 0) x.mn = _
  omega
theorem totTo_sum (f : Nat → Int) : ∀ n, totTo f n = sumTo f n
  | 0 => rfl
  | n + 1 => by simp only [totTo, sumTo_succ, totTo_sum f n]
theorem nets_sum (x : LD) : sumTo (netTo (P.owed x) x.folk.toNat x.folk.toNat) x.folk.toNat = 0 := by
  rw [← totTo_sum]
  exact totTo_net _ _ _ (Nat.le_refl _)
end Go.Proofs.YtbceepjjdfpfmaaGreat
