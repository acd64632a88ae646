/- Walks: long (48), DupRows (49), and of the reference CheckDebts (51), Net (56), Open (57). No condition but on lengths. Walks of the reference: Net (56), Open (57), Settles (52). The debts are right ones. Walk of the reference's Most (55): all ways to put people into groups. At most seven people, whose nets are no greater than 6000000. Walk of the reference's Shows (54): what groups show. The debts are right ones; the groups are few and small. Plain: the reference finds right what Settle and Groups reckon. -/
import Derived.Test.YtbceepjjdfpfmaaGreatOwdP
import Derived.Test.YtbceepjjdfpfmaaGreatRefA
import Derived.Test.YtbceepjjdfpfmaaGreatMat
import Derived.Test.YtbceepjjdfpfmaaGreatWay
import Derived.Deep.Slices
import Derived.RegionTactic
import Derived.Test.YtbceepjjdfpfmaaGreatSho
namespace Go.Proofs.YtbceepjjdfpfmaaGreat
open Go.RowKit HandSpec LoanSpec
set_option maxHeartbeats 2000000
set_option maxRecDepth 100000
/-- A table is more than what is looked at. -/
def longB (n : Nat) (m : Nat → Nat) : Bool := anyTo (fun k => decide (10 < m k)) n || decide (10 < n)
theorem longB_no {n : Nat} {m : Nat → Nat} (h : longB n m = false) : n ≤ 10 ∧ ∀ k, k < n → m k ≤ 10 := by
  unfold longB at h
  rw [Bool.or_eq_false_iff, anyTo_false, decide_eq_false_iff_not] at h
  refine ⟨by omega, fun k hk => ?_⟩
  have := of_decide_eq_false (h.1 k hk)
  omega
theorem long48 {w : World} {A : Option Addr} {n cap : Nat} {m : Nat → Nat} {g : Nat → Nat → Int} (hr : RdN w A n m g) (hn : n ≤ maxLen) :
    Calls Tryz.prog 48 #[.slice A n cap] w fun e w' => e = .returned (.bool (longB n m)) ∧ Ext w w' := by
  have HR := hid hr
  have HN := hid hn
  clear hr hn
  obtain ⟨r, hr⟩ : ∃ r, Hid (longB n m = r) := ⟨_, hid rfl⟩
  rw [hr.out]
  go_enter Tryz.func48, Tryz.ntmps48
  go_upto_region 2 with fail
  go_loopw [7] (fun i wr => ∃ k : Nat, k ≤ n ∧ i = .int .i64 (k : Int) ∧ Hid (∀ j, j < k → decide (10 < m j) = false) ∧ Ext w wr) (fun i _ => n - (intOf i).toNat)
  case atStart => exact ⟨0, Nat.zero_le _, rfl, hid fun _ h => absurd h (by omega), Ext.refl _⟩
  case round =>
    obtain ⟨k, hk, rfl, hp, he⟩ := hrel
    by_cases hlt : k < n
    · obtain ⟨b, o, B, C, rfl, hb, hc, -⟩ := (HR.out.ext he).at_ hlt
      obtain ⟨M, hM⟩ : ∃ M, Hid (m k = M) := ⟨_, hid rfl⟩
      rw [hM.out] at hc
      have hwr : IntKind.i64.wrap ((k : Int) + 1) = (k : Int) + 1 := IntWalk.i64_in _ (by have := HN.out; unfold maxLen at this; omega)
      by_cases hm : 10 < M
      · have hrt := hid (show r = true by
          rw [← hr.out]
          unfold longB
          rw [anyTo_true.2 ⟨k, hlt, by rw [hM.out]; exact decide_eq_true hm⟩]
          rfl)
        have t1 : (10 : Int) < (M : Int) := by omega
        clear hm
        go_wp2_with fail
        go_ret
        exact ⟨ret_bool hrt.out.symm, he⟩
      · have t1 : ¬ (10 : Int) < (M : Int) := by omega
        go_wp2_with fail
        go_roundw
        case rel => exact ⟨k + 1, by omega, by first | rfl | exact congrArg _ hwr, hid (anyTo_step hp.out (by rw [hM.out]; exact decide_eq_false hm)), he⟩
        case measure => simp [intOf]; omega
    · have hkn : k = n := by omega
      have hrt := hid (show r = decide (10 < n) by
        rw [← hr.out]
        unfold longB
        rw [← hkn, anyTo_false.2 hp.out]
        rfl)
      subst hkn
      go_wp2_with fail
      go_ret
      exact ⟨ret_bool (by rw [hrt.out]; simp; omega), he⟩
theorem make39_run (w : World) : ∀ n : Nat, n ≤ 10 → (Instr.makeSlice 39 (.int .i64 (n : Int)) (.int .i64 (n : Int))).run Tryz.prog w = .ok (.slice (some ⟨w.heap.size, 0, none⟩) n n) (w.alloc (.cells (Array.replicate n (.slice none 0 0)) 22))
  | 0, _ => by kernel_rfl
  | 1, _ => by kernel_rfl
  | 2, _ => by kernel_rfl
  | 3, _ => by kernel_rfl
  | 4, _ => by kernel_rfl
  | 5, _ => by kernel_rfl
  | 6, _ => by kernel_rfl
  | 7, _ => by kernel_rfl
  | 8, _ => by kernel_rfl
  | 9, _ => by kernel_rfl
  | 10, _ => by kernel_rfl
  | n + 11, h => absurd h (by omega)
/-- The first k rows of a table in the making. -/
structure MkN (w : World) (G n k : Nat) (V : Nat → Value) (m : Nat → Nat) (g : Nat → Nat → Int) : Prop where
  a : ArrV w G n V
  r : ∀ i, i < k → ∃ A C, V i = .slice A (m i) C ∧ Rd w A (m i) 1 (fun j _ => g i j) ∧ ∀ a, A = some a → G < a.block
theorem own_above {w : World} {B G n cap : Nat} {e : TypeId} {c : Nat} {A : Option Addr} {l : List (List Int)} (h : OwnR w B e c (.slice A n cap) l) (hB : G < B) : ∀ a, A = some a → G < a.block := fun a ha => by
  subst ha
  rcases h.2.2 with ⟨q, _⟩ | ⟨g', cap', cur, q, hb, _⟩
  · cases q
  · cases q
    exact Nat.lt_of_lt_of_le hB hb
theorem dupRows49 {w : World} {A : Option Addr} {n cap : Nat} {m : Nat → Nat} {g : Nat → Nat → Int} (hr : RdN w A n m g) (hn : n ≤ 10) (hm : ∀ k, k < n → m k ≤ 1000) :
    Calls Tryz.prog 49 #[.slice A n cap] w fun e w' => ∃ A', e = .returned (.slice A' n n) ∧ Ext w w' ∧ RdN w' A' n m g := by
  have HR := hid hr
  have HM := hid hm
  clear hr hm
  have hmk : ∀ w, (Instr.makeSlice 39 (.int .i64 (n : Int)) (.int .i64 (n : Int))).run Tryz.prog w = .ok (.slice (some ⟨w.heap.size, 0, none⟩) n n) (w.alloc (.cells (Array.replicate n (.slice none 0 0)) 22)) := fun w => make39_run w n hn
  go_enter Tryz.func49, Tryz.ntmps49
  go_upto_region 2 with fail
  refine wp_later fun w1 hw1 => ?_
  obtain ⟨E1, b1⟩ := hw1.newB
  have hA0 : ArrV w1 w.heap.size n (fun _ => .slice none 0 0) := ⟨b1.lt, fun i hi => ⟨by rw [b1.cell]; simp [hi], b1.frozen i⟩⟩
  have HM0 := hid (show MkN w1 w.heap.size n 0 (fun _ => .slice none 0 0) m g from ⟨hA0, fun i hi => by omega⟩)
  have E1 := hid E1
  clear hw1 b1 hA0 hmk
  obtain ⟨G, hG⟩ : ∃ G, Hid (G = w.heap.size) := ⟨_, hid rfl⟩
  rw [← hG.out] at HM0 ⊢
  go_upto_region 3 with fail
  go_loopw [11] (fun i wr => ∃ (k : Nat) (V : Nat → Value), k ≤ n ∧ i = .int .i64 (k : Int) ∧ Hid (MkN wr G n k V m g) ∧ Ext w wr) (fun i _ => n - (intOf i).toNat)
  case atStart => exact ⟨0, _, Nat.zero_le _, rfl, HM0, E1.out⟩
  case round =>
    obtain ⟨k, V, hk, rfl, hM, he⟩ := hrel
    by_cases hlt : k < n
    · obtain ⟨b, o, B, C, rfl, hb, hc, hR⟩ := (HR.out.ext he).at_ hlt
      have HRr := hid hR
      have hmk := HM.out k hlt
      have hgs := hM.out.a.1
      clear hR
      go_wp2_with (go_at_call 66; refine (dup66 HRr.out hmk).mono ?_; rintro e w4 ⟨u, rfl, he4, ho⟩; have hsl := ho.slR; obtain ⟨Au, cu, rfl, hru⟩ := hsl; rw [rowsG_length] at hru ⊢; have HU := hid (hru.congr (g' := fun j _ => g k j) fun i hi j hj => by rw [rowsG_at hi hj]); have HB := hid (own_above ho (G := G) (by omega)); have kg := (hM.out.a.ext he4).cell hlt; have kgf := (hM.out.a.ext he4).frozen hlt; have kgl := (hM.out.a.ext he4).1; clear ho hru)
      go_roundw
      case rel =>
        refine ⟨k + 1, fun i => if i = k then .slice Au (m k) cu else V i, by omega, by go_num, hid ⟨(hM.out.a.ext he4).set_ k _ hlt, fun i hi => ?_⟩, (he.trans he4).setCell _ (by have := hG.out; show w.heap.size ≤ G; omega)⟩
        have hfar : ∀ {A : Option Addr} {q : Nat} {h : Nat → Nat → Int}, (∀ a, A = some a → G < a.block) → Rd w4 A q 1 h → Rd (w4.setCell ⟨G, k, none⟩ (.slice Au (m k) cu)) A q 1 h := fun {A q h} hb hr h0 => by
          obtain ⟨b, o, hA, hc⟩ := hr h0
          refine ⟨b, o, hA, fun i hi j hj => ?_⟩
          rw [World.cell?_setCell_other _ _ _ _ (by
            have := hb _ hA
            intro e
            have e1 := congrArg Addr.block e
            dsimp only at e1 this
            omega)]
          exact hc i hi j hj
        by_cases e : i = k
        · subst e
          exact ⟨Au, cu, by simp, hfar HB.out HU.out, HB.out⟩
        · obtain ⟨A1, C1, h1, h2, h3⟩ := hM.out.r i (by omega)
          exact ⟨A1, C1, by simp [e, h1], hfar h3 (h2.ext he4), h3⟩
      case measure => simp [intOf]; omega
    · go_wp2_with fail
      go_ret
      have : k = n := by omega
      subst this
      obtain ⟨R, hRR⟩ := Go.Deep.choose_lt (α := Option Addr × Nat) (p := fun i R => V i = .slice R.1 (m i) R.2 ∧ Rd wr R.1 (m i) 1 (fun j _ => g i j)) fun i hi => by
        obtain ⟨A1, C1, h1, h2, _⟩ := hM.out.r i hi
        exact ⟨(A1, C1), h1, h2⟩
      refine ⟨_, rfl, he, fun i => (R i).1, fun i => (R i).2, fun _ => ⟨G, 0, rfl, fun i hi => ?_⟩, fun i hi => (hRR i hi).2⟩
      rw [Nat.zero_add, hM.out.a.cell hi, (hRR i hi).1]
theorem inB_off (n lo hi : Int) : offB n lo hi = !inB n lo hi := by
  unfold offB inB
  rw [Bool.eq_iff_iff]
  simp
theorem check51 {w : World} {A : Option Addr} {n cap : Nat} {m : Nat → Nat} {g : Nat → Nat → Int} (hr : RdN w A n m g) (hn : n ≤ 1000) :
    Calls Tryz.prog 51 #[.slice A n cap] w fun e w' => e = .returned (.int .i64 (chkD n m g)) ∧ Ext w w' := by
  have HR := hid hr
  clear hr
  obtain ⟨s, hs⟩ : ∃ s, Hid (chkD n m g = s) := ⟨_, hid rfl⟩
  have hS := hid (show s = if inB (n : Int) 1 7 = false ∨ sqB n m = false then 2 else if entB n m g = false then 3 else if anyTo (fun k => !(g k k == 0)) n then 5 else 0 from hs.out.symm)
  rw [hs.out]
  obtain ⟨t, ht⟩ : ∃ t, Hid (offB (n : Int) 1 7 = t) := ⟨_, hid rfl⟩
  go_enter Tryz.func51, Tryz.ntmps51
  cases t
  case true =>
    have h2 := hid (show s = 2 by
      have := ht.out
      rw [inB_off] at this
      rw [hS.out, if_pos (.inl (by simpa using this))])
    go_wp2_with (go_at_call 94; refine (off_any _ _ _ _).mono ?_; rintro e wz ⟨rfl, rfl⟩; rw [ht.out])
    go_ret
    exact ⟨ret_int h2.out.symm, Ext.refl _⟩
  case false =>
    have hin := hid (show inB (n : Int) 1 7 = true by
      have := ht.out
      rw [inB_off] at this
      simpa using this)
    go_upto_region 4 with (go_at_call 94; refine (off_any _ _ _ _).mono ?_; rintro e wz ⟨rfl, rfl⟩; rw [ht.out])
    go_loopw [3] (fun i wr => ∃ k : Nat, k ≤ n ∧ i = .int .i64 (k : Int) ∧ Hid (∀ j, j < k → (!(m j == n)) = false) ∧ Ext w wr) (fun i _ => n - (intOf i).toNat)
    case atStart => exact ⟨0, Nat.zero_le _, rfl, hid fun _ h => absurd h (by omega), Ext.refl _⟩
    case round =>
      obtain ⟨k, hk, rfl, hp, he⟩ := hrel
      by_cases hlt : k < n
      · obtain ⟨b, o, B, C, rfl, hb, hc, -⟩ := (HR.out.ext he).at_ hlt
        obtain ⟨M, hM⟩ : ∃ M, Hid (m k = M) := ⟨_, hid rfl⟩
        rw [hM.out] at hc
        by_cases hm : M = n
        · have tm : ((M : Int) != (n : Int)) = false := by simp [hm]
          have hz := hid (show (!(m k == n)) = false by rw [hM.out, hm]; simp)
          clear hm
          go_wp2_with fail
          go_roundw
          case rel => exact ⟨k + 1, by omega, by go_num, hid (anyTo_step hp.out hz.out), he⟩
          case measure => simp [intOf]; omega
        · have tm : ((M : Int) != (n : Int)) = true := by simp; omega
          have h2 := hid (show s = 2 by
            rw [hS.out, if_pos (.inr (by unfold sqB; rw [anyTo_true.2 ⟨k, hlt, by rw [hM.out]; simpa using hm⟩]; rfl))])
          clear hm
          go_wp2_with fail
          go_ret
          exact ⟨ret_int h2.out.symm, he⟩
      · have hkn : k = n := by omega
        subst hkn
        have hsq := hid (show ∀ j, j < k → m j = k from fun j hj => by have := hp.out j hj; simpa using this)
        have hS2 := hid (show s = if entB k m g = false then 3 else if anyTo (fun k => !(g k k == 0)) k then 5 else 0 by
          rw [hS.out, if_neg]
          rintro (e | e)
          · rw [hin.out] at e; cases e
          · unfold sqB at e; rw [anyTo_false.2 hp.out] at e; cases e)
        have hent := hid (show entB k m g = !anyTo (fun i => anyTo (fun j => !inB (g i j) 0 1000000) k) k by
          unfold entB
          congr 1
          rw [Bool.eq_iff_iff, anyTo_true, anyTo_true]
          constructor
          · rintro ⟨i, hi, h⟩; rw [hsq.out i hi] at h; exact ⟨i, hi, h⟩
          · rintro ⟨i, hi, h⟩; exact ⟨i, hi, by rw [hsq.out i hi]; exact h⟩)
        have HRq := hid (HR.out.congr (m' := fun _ => k) (g' := g) fun j hj => ⟨hsq.out j hj, fun _ _ => rfl⟩)
        go_upto_region 9 with fail
        obtain ⟨W1, rfl⟩ : ∃ W : World, W = wr := ⟨_, rfl⟩
        go_loopw [4] (fun i wr => ∃ a : Nat, a ≤ k ∧ i = .int .i64 (a : Int) ∧ Hid (∀ i, i < a → anyTo (fun j => !inB (g i j) 0 1000000) k = false) ∧ Ext w wr) (fun i _ => k - (intOf i).toNat)
        case atStart => exact ⟨0, Nat.zero_le _, rfl, hid fun _ h => absurd h (by omega), he⟩
        case round =>
          obtain ⟨a, ha, rfl, hq, he⟩ := hrel
          by_cases hla : a < k
          · obtain ⟨b, o, B, C, rfl, hb, hc, hR⟩ := (HRq.out.ext he).at_ hla
            have HRr := hid hR
            clear hR
            go_upto_region 12 with fail
            obtain ⟨W2, rfl⟩ : ∃ W : World, W = wr := ⟨_, rfl⟩
            go_loopw [5] (fun i wx => ∃ z : Nat, z ≤ k ∧ i = .int .i64 (z : Int) ∧ Hid (∀ j, j < z → (!inB (g a j) 0 1000000) = false) ∧ Ext W2 wx) (fun i _ => k - (intOf i).toNat)
            case atStart => exact ⟨0, Nat.zero_le _, rfl, hid fun _ h => absurd h (by omega), Ext.refl _⟩
            case round =>
              obtain ⟨z, hz, rfl, hj, he2⟩ := hrel
              by_cases hlz : z < k
              · obtain ⟨b1, o1, rfl, hb1, hc1⟩ := (HRr.out.ext he2).at1 hlz
                have hc := he2.some_ hc
                have hb := Nat.lt_of_lt_of_le hb he2.size
                obtain ⟨v, hv⟩ : ∃ v, Hid (g a z = v) := ⟨_, hid rfl⟩
                rw [hv.out] at hc1
                obtain ⟨y, hy⟩ : ∃ y, Hid (offB v 0 1000000 = y) := ⟨_, hid rfl⟩
                have hyi := hid (show (!inB (g a z) 0 1000000) = y by rw [hv.out, ← hy.out, inB_off])
                cases y
                · go_wp2_with (go_at_call 94; refine (off_any _ _ _ _).mono ?_; rintro e wz ⟨rfl, rfl⟩; rw [hy.out])
                  go_roundw
                  case rel => exact ⟨z + 1, by omega, by go_num, hid (anyTo_step hj.out hyi.out), he2⟩
                  case measure => simp [intOf]; omega
                · have h3 := hid (show s = 3 by
                    have q : anyTo (fun i => anyTo (fun j => !inB (g i j) 0 1000000) k) k = true := anyTo_true.2 ⟨a, hla, anyTo_true.2 ⟨z, hlz, hyi.out⟩⟩
                    rw [hS2.out, if_pos (by rw [hent.out, q]; rfl)])
                  go_wp2_with (go_at_call 94; refine (off_any _ _ _ _).mono ?_; rintro e wz ⟨rfl, rfl⟩; rw [hy.out])
                  go_ret
                  exact ⟨ret_int h3.out.symm, he.trans he2⟩
              · have hzk : z = k := by omega
                subst hzk
                go_wp2_with fail
                go_roundw
                case rel => exact ⟨a + 1, by omega, by go_num, hid (anyTo_step hq.out (anyTo_false.2 hj.out)), he.trans he2⟩
                case measure => simp [intOf]; omega
          · have hak : a = k := by omega
            subst hak
            have hS3 := hid (show s = if anyTo (fun k => !(g k k == 0)) a then 5 else 0 by rw [hS2.out, if_neg (by rw [hent.out, anyTo_false.2 hq.out]; simp)])
            have hpos := hid (show ∀ i, i < a → 0 ≤ g i i from fun i hi => by
              have := anyTo_false.1 (hq.out i hi) i hi
              simp [inB] at this
              omega)
            go_upto_region 17 with fail
            obtain ⟨W2, rfl⟩ : ∃ W : World, W = wr := ⟨_, rfl⟩
            go_loopw [6] (fun i wx => ∃ z : Nat, z ≤ a ∧ i = .int .i64 (z : Int) ∧ Hid (∀ j, j < z → (!(g j j == 0)) = false) ∧ Ext w wx) (fun i _ => a - (intOf i).toNat)
            case atStart => exact ⟨0, Nat.zero_le _, rfl, hid fun _ h => absurd h (by omega), he⟩
            case round =>
              obtain ⟨z, hz, rfl, hj, he2⟩ := hrel
              by_cases hlz : z < a
              · obtain ⟨b, o, B, C, rfl, hb, hc, hR⟩ := (HRq.out.ext he2).at_ hlz
                obtain ⟨b1, o1, rfl, hb1, hc1⟩ := hR.at1 hlz
                obtain ⟨v, hv⟩ : ∃ v, Hid (g z z = v) := ⟨_, hid rfl⟩
                rw [hv.out] at hc1
                have hv0 := hpos.out z hlz
                rw [hv.out] at hv0
                clear hR
                by_cases hvp : 0 < v
                · have h5 := hid (show s = 5 by rw [hS3.out, if_pos (anyTo_true.2 ⟨z, hlz, by rw [hv.out]; simp; omega⟩)])
                  go_wp2_with fail
                  go_ret
                  exact ⟨ret_int h5.out.symm, he2⟩
                · have hz1 := hid (show (!(g z z == 0)) = false by rw [hv.out]; simp; omega)
                  go_wp2_with fail
                  go_roundw
                  case rel => exact ⟨z + 1, by omega, by go_num, hid (anyTo_step hj.out hz1.out), he2⟩
                  case measure => simp [intOf]; omega
              · have hza : z = a := by omega
                subst hza
                have h0 := hid (show s = 0 by rw [hS3.out, anyTo_false.2 hj.out]; rfl)
                go_wp2_with fail
                go_ret
                exact ⟨ret_int h0.out.symm, he2⟩
end Go.Proofs.YtbceepjjdfpfmaaGreat
namespace Go.Proofs.YtbceepjjdfpfmaaGreat
open Go.RowKit HandSpec LoanSpec
set_option maxHeartbeats 2000000
set_option maxRecDepth 100000
theorem sum_sub (f g : Nat → Int) : ∀ k, sumTo (fun i => f i - g i) k = sumTo f k - sumTo g k
  | 0 => rfl
  | k + 1 => by simp only [sumTo]; rw [sum_sub f g k]; omega
theorem rowsG1_succ (k : Nat) (g : Nat → Nat → Int) : rowsG 1 (k+1) g = rowsG 1 k g ++ [[g k 0]] := by unfold rowsG; rw [List.range_succ (n := k), List.map_append]; rfl
theorem net_sum (g : Nat → Nat → Int) {n a : Nat} (ha : a < n) : netTo g n n a = sumTo (fun j => g j a - g a j) n := by
  rw [netTo_eq g n n a ha, if_pos ha, sum_sub]
/-- Nets of right debts. -/
theorem net_bd {n : Nat} {g : Nat → Nat → Int} (hd : DOk n g) {a : Nat} (ha : a < n) : -6000000 ≤ netTo g n n a ∧ netTo g n n a ≤ 6000000 := by
  have hn := hd.hn
  have key : ∀ k, k ≤ n → -((k : Int) * 1000000) + (if a < k then 1000000 else 0) ≤ sumTo (fun j => g j a - g a j) k ∧ sumTo (fun j => g j a - g a j) k ≤ (k : Int) * 1000000 - (if a < k then 1000000 else 0) := fun k => by
    induction k with
    | zero => intro _; simp [sumTo]
    | succ k ih =>
      intro hk
      have ih := ih (by omega)
      have h1 := hd.hd k a (by omega) ha
      have h2 := hd.hd a k ha (by omega)
      rw [sumTo_succ]
      push_cast
      by_cases e : a = k
      · subst e
        have h0 := hd.h0 a ha
        rw [if_neg (by omega)] at ih
        rw [if_pos (by omega)]
        omega
      · by_cases e' : a < k
        · rw [if_pos e'] at ih
          rw [if_pos (by omega)]
          omega
        · rw [if_neg e'] at ih
          rw [if_neg (by omega)]
          omega
  have := key n (Nat.le_refl _)
  rw [if_pos ha] at this
  rw [net_sum g ha]
  omega
theorem net56 {w : World} {A : Option Addr} {n cap : Nat} {g : Nat → Nat → Int} (hr : RdN w A n (fun _ => n) g) (hd : DOk n g) :
    Calls Tryz.prog 56 #[.slice A n cap] w fun e w' => ∃ u, e = .returned u ∧ Ext w w' ∧ OwnR w' w.heap.size 3 1 u (rowsG 1 n (fun i _ => netTo g n n i)) := by
  have HR := hid hr
  have HD := hid hd
  have hn := hd.hn
  clear hr hd
  go_enter Tryz.func56, Tryz.ntmps56
  go_upto_region 3 with fail
  go_loopw [3, 4] (fun u i wr => ∃ k : Nat, k ≤ n ∧ i = .int .i64 (k : Int) ∧ Hid (OwnR wr w.heap.size 3 1 u (rowsG 1 k (fun i _ => netTo g n n i))) ∧ Ext w wr) (fun _ i _ => n - (intOf i).toNat)
  case atStart => exact ⟨0, Nat.zero_le _, rfl, hid OwnR.nil, Ext.refl _⟩
  case round =>
    obtain ⟨k, hk, rfl, hO, he⟩ := hrel
    by_cases hlt : k < n
    · obtain ⟨b, o, Bk, Ck, rfl, hb, hck, hRk⟩ := (HR.out.ext he).at_ hlt
      have HRk := hid hRk
      have hv := hid (net_sum g hlt)
      clear hb hck hRk
      go_upto_region 7 with fail
      obtain ⟨W1, rfl⟩ : ∃ W : World, W = wr := ⟨_, rfl⟩
      go_loopw [5, 6] (fun s i wx => ∃ (j : Nat) (z : Int), j ≤ n ∧ i = .int .i64 (j : Int) ∧ s = .int .i64 z ∧ Hid (z = sumTo (fun j => g j k - g k j) j) ∧ Ext W1 wx) (fun _ i _ => n - (intOf i).toNat)
      case atStart => exact ⟨0, 0, Nat.zero_le _, rfl, rfl, hid rfl, Ext.refl _⟩
      case round =>
        obtain ⟨j, z, hj, rfl, rfl, hz, he2⟩ := hrel
        by_cases hlj : j < n
        · obtain ⟨b1, o1, Bj, Cj, hb1, hbl, hcj, hRj⟩ := ((HR.out.ext he).ext he2).at_ hlj
          cases hb1
          obtain ⟨b2, o2, Bk2, Ck2, hb2, -, hck, hRk⟩ := ((HR.out.ext he).ext he2).at_ hlt
          cases hb2
          obtain ⟨b3, o3, rfl, hb3, hc3⟩ := hRj.at1 hlt
          obtain ⟨b4, o4, rfl, hb4, hc4⟩ := hRk.at1 hlj
          obtain ⟨x, hx⟩ : ∃ x, Hid (g j k = x) := ⟨_, hid rfl⟩
          obtain ⟨y, hy⟩ : ∃ y, Hid (g k j = y) := ⟨_, hid rfl⟩
          have hxb := HD.out.hd j k hlj hlt
          have hyb := HD.out.hd k j hlt hlj
          rw [hx.out] at hc3 hxb
          rw [hy.out] at hc4 hyb
          have hst := hid (show sumTo (fun j => g j k - g k j) (j + 1) = z + x - y by rw [sumTo_succ, hx.out, hy.out, hz.out]; omega)
          have hzb := HandSpec.P.sumTo_bd (f := fun j => g j k - g k j) (B := 1000000) j fun i hi => by
            have h1 := HD.out.hd i k (by omega) hlt
            have h2 := HD.out.hd k i hlt (by omega)
            omega
          have hzb2 : -7000000 ≤ z ∧ z ≤ 7000000 := by rw [hz.out]; omega
          clear hzb hRj hRk
          go_upto_region 9 with fail
          refine wp_region_later (by kernel_rfl) (by kernel_rfl) ?_
          repeat (go_big_quiet_step (fail))
          refine wpQuiet_nil ?_
          rintro w2 ⟨⟨_, he3⟩, rfl⟩
          go_wp2_with fail
          go_roundw
          case rel => exact ⟨j + 1, z + x - y, by omega, by go_num, by go_num, hid hst.out.symm, he2.trans he3⟩
          case measure => simp [intOf]; omega
        · have hjn : j = n := by omega
          have hzv := hid (show netTo g n n k = z by rw [hv.out, hz.out, hjn])
          subst hjn
          have hO2 := hO.out.ext he2
          have hsz := (he.trans he2).size
          go_wp2_with (at_builtin; refine wpList_append_rows rfl _ _ 22 rfl el22 rfl (hO2.ext (Ext.alloc (Ext.refl _) _)) _ 1 1 [[z]] rfl rfl (by simp) (by intro j; simp [cellsOf]) (by rw [rowsG_length]; simp; omega) (by simp; omega) ?_; intro v' w8 hown8 hg8)
          go_roundw
          case rel =>
            refine ⟨k + 1, by omega, by go_num, ?_, ((he.trans he2).alloc _).grown hg8 fun q hq => hO.out.block hq⟩
            rw [rowsG1_succ, hzv.out]
            exact hid hown8
          case measure => simp [intOf]; omega
    · go_wp2_with fail
      go_ret
      have : k = n := by omega
      subst this
      exact ⟨_, rfl, he, hO.out⟩
/-- The same, for reading. -/
theorem net56_rd {w : World} {A : Option Addr} {n cap : Nat} {g : Nat → Nat → Int} (hr : RdN w A n (fun _ => n) g) (hd : DOk n g) :
    Calls Tryz.prog 56 #[.slice A n cap] w fun e w' => ∃ A' c', e = .returned (.slice A' n c') ∧ Ext w w' ∧ Rd w' A' n 1 (fun i _ => netTo g n n i) := by
  refine (net56 hr hd).mono ?_
  rintro e w' ⟨u, rfl, he, ho⟩
  obtain ⟨A', c', rfl, hR⟩ := ho.slR
  rw [rowsG_length] at hR ⊢
  exact ⟨A', c', rfl, he, hR.congr fun i hi j hj => by rw [rowsG_at hi hj]⟩
theorem open57 {w : World} {A : Option Addr} {n cap : Nat} {g : Nat → Nat → Int} (hr : RdN w A n (fun _ => n) g) (hd : DOk n g) :
    Calls Tryz.prog 57 #[.slice A n cap] w fun e w' => e = .returned (.int .i64 (cntP (nzB (netTo g n n)) n : Int)) ∧ Ext w w' := by
  have HR := hid hr
  have HD := hid hd
  have hn := hd.hn
  clear hr hd
  obtain ⟨f, hf⟩ : ∃ f, Hid (netTo g n n = f) := ⟨_, hid rfl⟩
  rw [hf.out]
  go_enter Tryz.func57, Tryz.ntmps57
  go_upto_region 3 with (go_at_call 56; refine (net56_rd HR.out HD.out).mono ?_; rintro e w1 ⟨A', c', rfl, he1, hR⟩; rw [hf.out] at hR; have HN := hid hR; have E1 := hid he1; clear hR he1)
  go_loopw [4, 5] (fun s i wr => ∃ k z : Nat, k ≤ n ∧ i = .int .i64 (k : Int) ∧ s = .int .i64 (z : Int) ∧ z ≤ k ∧ Hid (z = cntP (nzB f) k) ∧ Ext w1 wr) (fun _ i _ => n - (intOf i).toNat)
  case atStart => exact ⟨0, 0, Nat.zero_le _, rfl, rfl, Nat.le_refl _, hid rfl, Ext.refl _⟩
  case round =>
    obtain ⟨k, z, hk, rfl, rfl, hzk, hz, he⟩ := hrel
    by_cases hlt : k < n
    · obtain ⟨b1, o1, rfl, hb1, hc1⟩ := (HN.out.ext he).at1 hlt
      obtain ⟨x, hx⟩ : ∃ x, Hid (f k = x) := ⟨_, hid rfl⟩
      rw [hx.out] at hc1
      have hst := hid (show cntP (nzB f) (k + 1) = z + if x ≠ 0 then 1 else 0 by
        show cntP (nzB f) k + (if nzB f k = true then 1 else 0) = _
        rw [← hz.out]
        unfold nzB
        rw [hx.out]
        simp)
      by_cases hx0 : x = 0
      · have tx : (x != 0) = false := by simpa using hx0
        go_wp2_with fail
        go_roundw
        case rel => exact ⟨k + 1, z, by omega, by go_num, rfl, by omega, hid (by rw [hst.out, if_neg (by simpa using hx0)]; rfl), he⟩
        case measure => simp [intOf]; omega
      · have tx : (x != 0) = true := by simpa using hx0
        go_wp2_with fail
        go_roundw
        case rel => exact ⟨k + 1, z + 1, by omega, by go_num, by go_num, by omega, hid (by rw [hst.out, if_pos hx0]), he⟩
        case measure => simp [intOf]; omega
    · have hkn : k = n := by omega
      have hzv := hid (show z = cntP (nzB f) n by rw [hz.out, hkn])
      go_wp2_with fail
      go_ret
      exact ⟨ret_int (by rw [hzv.out]), E1.out.trans he⟩
/-- What payments bring to one, the first k of them. -/
def payS (p : Nat → Nat → Int) (i : Int) (k : Nat) : Int := sumTo (fun j => (if p j 1 = i then p j 2 else 0) - (if p j 0 = i then p j 2 else 0)) k
/-- What is wrong with payments. -/
def settE (n L : Nat) (p : Nat → Nat → Int) : Int :=
  if anyTo (fun j => !(inB (p j 0) 0 ((n : Int) - 1) && inB (p j 1) 0 ((n : Int) - 1))) L then 1 else if anyTo (fun j => p j 0 == p j 1) L then 5 else if anyTo (fun j => !inB (p j 2) 1 6000000) L then 3 else 0
def settV (n L : Nat) (p : Nat → Nat → Int) (f : Nat → Int) : Bool := (settE n L p == 0) && !anyTo (fun i => !(payS p i L == f i)) n
theorem payS_bd {p : Nat → Nat → Int} (i : Int) {L : Nat} (hp : ∀ j, j < L → 1 ≤ p j 2 ∧ p j 2 ≤ 6000000) (k : Nat) (hk : k ≤ L) : -(6000000 * (k : Int)) ≤ payS p i k ∧ payS p i k ≤ 6000000 * k := by
  refine HandSpec.P.sumTo_bd k fun j hj => ?_
  have := hp j (by omega)
  split <;> split <;> omega
theorem ret_bi {a a' : Bool} {b b' : Int} (h : a = a') (h' : b = b') : Ending.returned (.tuple #[.bool a, .int .i64 b]) = .returned (.tuple #[.bool a', .int .i64 b']) := by rw [h, h']
theorem settles52 {w : World} {A Ap : Option Addr} {n cap L capp : Nat} {g p : Nat → Nat → Int} (hr : RdN w A n (fun _ => n) g) (hd : DOk n g) (hp : Rd w Ap L 3 p) (hL : L ≤ 1000) :
    Calls Tryz.prog 52 #[.slice A n cap, .slice Ap L capp] w fun e w' => e = .returned (.tuple #[.bool (settV n L p (netTo g n n)), .int .i64 (settE n L p)]) ∧ Ext w w' := by
  have HR := hid hr
  have HD := hid hd
  have HP := hid hp
  have hn := hd.hn
  clear hr hd hp
  obtain ⟨f, hf⟩ : ∃ f, Hid (netTo g n n = f) := ⟨_, hid rfl⟩
  rw [hf.out]
  obtain ⟨er, her⟩ : ∃ er, Hid (settE n L p = er) := ⟨_, hid rfl⟩
  obtain ⟨vr, hvr⟩ : ∃ vr, Hid (settV n L p f = vr) := ⟨_, hid rfl⟩
  have hE := hid (show er = if anyTo (fun j => !(inB (p j 0) 0 ((n : Int) - 1) && inB (p j 1) 0 ((n : Int) - 1))) L then 1 else if anyTo (fun j => p j 0 == p j 1) L then 5 else if anyTo (fun j => !inB (p j 2) 1 6000000) L then 3 else 0 from her.out.symm)
  have hV := hid (show vr = ((er == 0) && !anyTo (fun i => !(payS p i L == f i)) n) by rw [← hvr.out, ← her.out]; rfl)
  have hV0 := hid (show er ≠ 0 → vr = false from fun h => by rw [hV.out, show (er == 0) = false by simpa using h]; rfl)
  rw [her.out, hvr.out]
  go_enter Tryz.func52, Tryz.ntmps52
  go_upto_region 2 with fail
  go_loopw [6] (fun i wr => ∃ k : Nat, k ≤ L ∧ i = .int .i64 (k : Int) ∧ Hid (∀ j, j < k → (!(inB (p j 0) 0 ((n : Int) - 1) && inB (p j 1) 0 ((n : Int) - 1))) = false) ∧ Ext w wr) (fun i _ => L - (intOf i).toNat)
  case atStart => exact ⟨0, Nat.zero_le _, rfl, hid fun _ h => absurd h (by omega), Ext.refl _⟩
  case round =>
    obtain ⟨k, hk, rfl, hq, he⟩ := hrel
    by_cases hlt : k < L
    · obtain ⟨b, o, rfl, hb, q0, q1, q2⟩ := (HP.out.ext he).at3 hlt
      obtain ⟨x, hx⟩ : ∃ x, Hid (p k 0 = x) := ⟨_, hid rfl⟩
      obtain ⟨y, hy⟩ : ∃ y, Hid (p k 1 = y) := ⟨_, hid rfl⟩
      obtain ⟨s, hs⟩ : ∃ s, Hid (offB x 0 ((n : Int) - 1) = s) := ⟨_, hid rfl⟩
      obtain ⟨t, ht⟩ : ∃ t, Hid (offB y 0 ((n : Int) - 1) = t) := ⟨_, hid rfl⟩
      have hst := hid (show (!(inB (p k 0) 0 ((n : Int) - 1) && inB (p k 1) 0 ((n : Int) - 1))) = (s || t) by rw [hx.out, hy.out, ← hs.out, ← ht.out, inB_off, inB_off]; cases inB x 0 ((n : Int) - 1) <;> cases inB y 0 ((n : Int) - 1) <;> rfl)
      have h1 := hid (show (s || t) = true → er = 1 from fun h => by
        have q : anyTo (fun j => !(inB (p j 0) 0 ((n : Int) - 1) && inB (p j 1) 0 ((n : Int) - 1))) L = true := anyTo_true.2 ⟨k, hlt, by rw [hst.out]; exact h⟩
        rw [hE.out, q]; rfl)
      rw [hx.out] at q0
      rw [hy.out] at q1
      cases s
      · cases t
        · go_wp2_with (go_at_call 94; refine (off_any _ _ _ _).mono ?_; rintro e wz ⟨rfl, rfl⟩; (first | rw [hs.out] | rw [ht.out]))
          go_roundw
          case rel => exact ⟨k + 1, by omega, by go_num, hid (anyTo_step hq.out (by rw [hst.out]; rfl)), he⟩
          case measure => simp [intOf]; omega
        · have h1 := hid (h1.out rfl)
          go_wp2_with (go_at_call 94; refine (off_any _ _ _ _).mono ?_; rintro e wz ⟨rfl, rfl⟩; (first | rw [hs.out] | rw [ht.out]))
          go_ret2
          exact ⟨ret_bi (hV0.out (by rw [h1.out]; simp)).symm h1.out.symm, he⟩
      · have h1 := hid (h1.out rfl)
        go_wp2_with (go_at_call 94; refine (off_any _ _ _ _).mono ?_; rintro e wz ⟨rfl, rfl⟩; rw [hs.out])
        go_ret2
        exact ⟨ret_bi (hV0.out (by rw [h1.out]; simp)).symm h1.out.symm, he⟩
    · have hkL : k = L := by omega
      have hin := hid (show ∀ j, j < L → 0 ≤ p j 0 ∧ p j 0 < n ∧ 0 ≤ p j 1 ∧ p j 1 < n from fun j hj => by
        have := hq.out j (by omega)
        simp [inB] at this
        omega)
      have hE2 := hid (show er = if anyTo (fun j => p j 0 == p j 1) L then 5 else if anyTo (fun j => !inB (p j 2) 1 6000000) L then 3 else 0 by
        have q : anyTo (fun j => !(inB (p j 0) 0 ((n : Int) - 1) && inB (p j 1) 0 ((n : Int) - 1))) L = false := anyTo_false.2 (by rw [← hkL]; exact hq.out)
        rw [hE.out, q]; rfl)
      clear hE
      subst hkL
      go_upto_region 7 with fail
      obtain ⟨W1, rfl⟩ : ∃ W : World, W = wr := ⟨_, rfl⟩
      go_loopw [7] (fun i wx => ∃ a : Nat, a ≤ k ∧ i = .int .i64 (a : Int) ∧ Hid (∀ j, j < a → (p j 0 == p j 1) = false) ∧ Ext w wx) (fun i _ => k - (intOf i).toNat)
      case atStart => exact ⟨0, Nat.zero_le _, rfl, hid fun _ h => absurd h (by omega), he⟩
      case round =>
        obtain ⟨a, ha, rfl, hq2, he⟩ := hrel
        by_cases hla : a < k
        · obtain ⟨b, o, rfl, hb, q0, q1, q2⟩ := (HP.out.ext he).at3 hla
          obtain ⟨x, hx⟩ : ∃ x, Hid (p a 0 = x) := ⟨_, hid rfl⟩
          obtain ⟨y, hy⟩ : ∃ y, Hid (p a 1 = y) := ⟨_, hid rfl⟩
          rw [hx.out] at q0
          rw [hy.out] at q1
          have hxy := hid (show (p a 0 == p a 1) = (x == y) by rw [hx.out, hy.out])
          cases hz : (x == y)
          · go_upto_region 9 with fail
            refine wp_region_later (by kernel_rfl) (by kernel_rfl) ?_
            repeat (go_big_quiet_step (fail))
            refine wpQuiet_nil ?_
            rintro w2 ⟨⟨_, he3⟩, rfl⟩
            go_wp2_with fail
            go_roundw
            case rel => exact ⟨a + 1, by omega, by go_num, hid (anyTo_step hq2.out (by rw [hxy.out]; exact hz)), he.trans he3⟩
            case measure => simp [intOf]; omega
          · have h5 := hid (show er = 5 by
              have q : anyTo (fun j => p j 0 == p j 1) k = true := anyTo_true.2 ⟨a, hla, by rw [hxy.out]; exact hz⟩
              rw [hE2.out, q]; rfl)
            go_upto_region 9 with fail
            refine wp_region_later (by kernel_rfl) (by kernel_rfl) ?_
            repeat (go_big_quiet_step (fail))
            refine wpQuiet_nil ?_
            rintro w2 ⟨⟨_, he3⟩, rfl⟩
            go_wp2_with fail
            go_ret2
            exact ⟨ret_bi (hV0.out (by rw [h5.out]; simp)).symm h5.out.symm, he.trans he3⟩
        · have hak : a = k := by omega
          have hE3 := hid (show er = if anyTo (fun j => !inB (p j 2) 1 6000000) k then 3 else 0 by
            have q : anyTo (fun j => p j 0 == p j 1) k = false := anyTo_false.2 (by rw [← hak]; exact hq2.out)
            rw [hE2.out, q]; rfl)
          clear hE2
          subst hak
          go_upto_region 12 with fail
          obtain ⟨W2, rfl⟩ : ∃ W : World, W = wr := ⟨_, rfl⟩
          go_loopw [8] (fun i wx => ∃ c : Nat, c ≤ a ∧ i = .int .i64 (c : Int) ∧ Hid (∀ j, j < c → (!inB (p j 2) 1 6000000) = false) ∧ Ext w wx) (fun i _ => a - (intOf i).toNat)
          case atStart => exact ⟨0, Nat.zero_le _, rfl, hid fun _ h => absurd h (by omega), he⟩
          case round =>
            obtain ⟨c, hc, rfl, hq3, he⟩ := hrel
            by_cases hlc : c < a
            · obtain ⟨b, o, rfl, hb, q0, q1, q2⟩ := (HP.out.ext he).at3 hlc
              obtain ⟨x, hx⟩ : ∃ x, Hid (p c 2 = x) := ⟨_, hid rfl⟩
              rw [hx.out] at q2
              obtain ⟨t, ht⟩ : ∃ t, Hid (offB x 1 6000000 = t) := ⟨_, hid rfl⟩
              have htt := hid (show (!inB (p c 2) 1 6000000) = t by rw [hx.out, ← ht.out, inB_off])
              cases t
              · go_wp2_with (go_at_call 94; refine (off_any _ _ _ _).mono ?_; rintro e wz ⟨rfl, rfl⟩; rw [ht.out])
                go_roundw
                case rel => exact ⟨c + 1, by omega, by go_num, hid (anyTo_step hq3.out htt.out), he⟩
                case measure => simp [intOf]; omega
              · have h3 := hid (show er = 3 by
                  have q : anyTo (fun j => !inB (p j 2) 1 6000000) a = true := anyTo_true.2 ⟨c, hlc, htt.out⟩
                  rw [hE3.out, q]; rfl)
                go_wp2_with (go_at_call 94; refine (off_any _ _ _ _).mono ?_; rintro e wz ⟨rfl, rfl⟩; rw [ht.out])
                go_ret2
                exact ⟨ret_bi (hV0.out (by rw [h3.out]; simp)).symm h3.out.symm, he⟩
            · have hca : c = a := by omega
              have h0 := hid (show er = 0 by
                have q : anyTo (fun j => !inB (p j 2) 1 6000000) a = false := anyTo_false.2 (by rw [← hca]; exact hq3.out)
                rw [hE3.out, q]; rfl)
              have hpb := hid (show ∀ j, j < a → 1 ≤ p j 2 ∧ p j 2 ≤ 6000000 from fun j hj => by
                have := hq3.out j (by omega)
                simpa [inB] using this)
              have hV1 := hid (show vr = !anyTo (fun i => !(payS p i a == f i)) n by rw [hV.out, h0.out]; rfl)
              clear hE3 hV hV0
              subst hca
              go_upto_region 18 with (go_at_call 56; refine (net56_rd (HR.out.ext he) HD.out).mono ?_; rintro e w1 ⟨A', c', rfl, he1, hR⟩; rw [hf.out] at hR; have HN := hid hR; have E1 := hid (he.trans he1); clear hR he1)
              go_loopw [10] (fun i wx => ∃ d : Nat, d ≤ n ∧ i = .int .i64 (d : Int) ∧ Hid (∀ j : Nat, j < d → (!(payS p (j : Int) c == f j)) = false) ∧ Ext w1 wx) (fun i _ => n - (intOf i).toNat)
              case atStart => exact ⟨0, Nat.zero_le _, rfl, hid fun _ h => absurd h (by omega), Ext.refl _⟩
              case round =>
                obtain ⟨d, hd, rfl, hq4, he4⟩ := hrel
                by_cases hld : d < n
                · go_upto_region 22 with fail
                  obtain ⟨W5, rfl⟩ : ∃ W : World, W = wr := ⟨_, rfl⟩
                  go_loopw [11, 12] (fun s i wx => ∃ (j : Nat) (z : Int), j ≤ c ∧ i = .int .i64 (j : Int) ∧ s = .int .i64 z ∧ Hid (z = payS p (d : Int) j) ∧ Ext W5 wx) (fun _ i _ => c - (intOf i).toNat)
                  case atStart => exact ⟨0, 0, Nat.zero_le _, rfl, rfl, hid rfl, Ext.refl _⟩
                  case round =>
                    obtain ⟨j, z, hj, rfl, rfl, hz, he5⟩ := hrel
                    have hzb := payS_bd (d : Int) hpb.out j hj
                    have hzb2 : -6000000000 ≤ z ∧ z ≤ 6000000000 := by rw [hz.out]; omega
                    clear hzb
                    by_cases hlj : j < c
                    · obtain ⟨b, o, rfl, hb, q0, q1, q2⟩ := (HP.out.ext (E1.out.trans (he4.trans he5))).at3 hlj
                      obtain ⟨x0, hx0⟩ : ∃ x, Hid (p j 0 = x) := ⟨_, hid rfl⟩
                      obtain ⟨x1, hx1⟩ : ∃ x, Hid (p j 1 = x) := ⟨_, hid rfl⟩
                      obtain ⟨x2, hx2⟩ : ∃ x, Hid (p j 2 = x) := ⟨_, hid rfl⟩
                      have hb2 := hpb.out j hlj
                      rw [hx0.out] at q0
                      rw [hx1.out] at q1
                      rw [hx2.out] at q2 hb2
                      have hst := hid (show payS p (d : Int) (j + 1) = z + ((if x1 = (d : Int) then x2 else 0) - (if x0 = (d : Int) then x2 else 0)) by rw [← hx0.out, ← hx1.out, ← hx2.out, hz.out]; rfl)
                      by_cases e1 : x1 = (d : Int)
                      · have t1 : (x1 == (d : Int)) = true := by simpa using e1
                        rw [if_pos e1] at hst
                        clear e1
                        by_cases e0 : x0 = (d : Int)
                        · have t0 : (x0 == (d : Int)) = true := by simpa using e0
                          rw [if_pos e0] at hst
                          clear e0
                          go_wp2_with fail
                          go_roundw
                          case rel => exact ⟨j + 1, z, by omega, by go_num, by first | rfl | go_num, hid (by rw [hst.out]; omega), he5⟩
                          case measure => simp [intOf]; omega
                        · have t0 : (x0 == (d : Int)) = false := by simpa using e0
                          rw [if_neg e0] at hst
                          clear e0
                          go_wp2_with fail
                          go_roundw
                          case rel => exact ⟨j + 1, z + x2, by omega, by go_num, by go_num, hid (by rw [hst.out]; omega), he5⟩
                          case measure => simp [intOf]; omega
                      · have t1 : (x1 == (d : Int)) = false := by simpa using e1
                        rw [if_neg e1] at hst
                        clear e1
                        by_cases e0 : x0 = (d : Int)
                        · have t0 : (x0 == (d : Int)) = true := by simpa using e0
                          rw [if_pos e0] at hst
                          clear e0
                          go_wp2_with fail
                          go_roundw
                          case rel => exact ⟨j + 1, z - x2, by omega, by go_num, by go_num, hid (by rw [hst.out]; omega), he5⟩
                          case measure => simp [intOf]; omega
                        · have t0 : (x0 == (d : Int)) = false := by simpa using e0
                          rw [if_neg e0] at hst
                          clear e0
                          go_wp2_with fail
                          go_roundw
                          case rel => exact ⟨j + 1, z, by omega, by go_num, rfl, hid (by rw [hst.out]; omega), he5⟩
                          case measure => simp [intOf]; omega
                    · have hjc : j = c := by omega
                      obtain ⟨b1, o1, rfl, hb1, hc1⟩ := (HN.out.ext (he4.trans he5)).at1 hld
                      obtain ⟨x, hx⟩ : ∃ x, Hid (f d = x) := ⟨_, hid rfl⟩
                      rw [hx.out] at hc1
                      have hzx := hid (show (payS p (d : Int) c == f d) = (z == x) by rw [hz.out, hx.out, hjc])
                      clear hjc
                      cases e : (z == x)
                      · have tz : (z != x) = true := by simpa using e
                        have hvf := hid (show vr = false by
                          have q : anyTo (fun i => !(payS p i c == f i)) n = true := anyTo_true.2 ⟨d, hld, by rw [hzx.out, e]; rfl⟩
                          rw [hV1.out, q]; rfl)
                        clear e
                        go_wp2_with fail
                        go_ret2
                        exact ⟨ret_bi hvf.out.symm h0.out.symm, E1.out.trans (he4.trans he5)⟩
                      · have tz : (z != x) = false := by simpa using e
                        have hqq := hid (show (!(payS p (d : Int) c == f d)) = false by rw [hzx.out, e]; rfl)
                        clear e
                        go_wp2_with fail
                        go_roundw
                        case rel => exact ⟨d + 1, by omega, by go_num, hid (anyTo_step (p := fun j : Nat => !(payS p (j : Int) c == f j)) hq4.out hqq.out), he4.trans he5⟩
                        case measure => simp [intOf]; omega
                · have hdn : d = n := by omega
                  have hvt := hid (show vr = true by
                    have q : anyTo (fun i : Nat => !(payS p (i : Int) c == f i)) n = false := anyTo_false.2 (by rw [← hdn]; exact hq4.out)
                    rw [hV1.out, q]; rfl)
                  go_wp2_with fail
                  go_ret2
                  exact ⟨ret_bi hvt.out.symm h0.out.symm, E1.out.trans he4⟩
end Go.Proofs.YtbceepjjdfpfmaaGreat
namespace Go
open Go.RowKit
theorem step_append_rd_at {P : Program} {w : World} {ops : Array Oper} {o : Oper} {a : Act} {K : Act → World → Prop} {Q : Exit → Act → World → Prop} {E : Prop} (hgd : o.guard = none) (s x : Operand) (T : TypeId)
    (ho : o.op = .call { callee := .builtin .append, args := #[s, x], argTypes := #[T, T] }) {e : TypeId} {c bytes : Nat} (hE : ElemOk P T e c bytes)
    {B : Nat} {v : Value} {l : List (List Int)} (hs : a.eval s = v) (hown : OwnR w B e c v l) {A : Option Addr} {m cap : Nat} {g : Nat → Nat → Int} (hx : a.eval x = .slice A m cap) (hr : Rd w A m c g)
    (hlen : l.length + m ≤ 1000000) (hB : B ≤ w.heap.size)
    (h : ∀ v' w', OwnR w' B e c v' (l ++ rowsG c m g) → w.grownBy w' v.ownBlock → (v'.ownBlock = v.ownBlock ∨ v'.ownBlock = some w.heap.size) → K (a.put o.dst v') w') :
    if Region.wanted o (yielded ops a.tmps) = true then Oper.wp P o a w K Q else E := by
  have hw : Region.wanted o (yielded ops a.tmps) = true := by simp [Region.wanted, hgd]
  rw [if_pos hw]
  obtain ⟨i, z, hi, hz, h1, h2, h3⟩ := hE.i
  have hb0 := hE.b
  have fin : ∀ ad : Addr, A = some ad → (∀ j u, (cellsOf (rowsG c m g))[j]? = some u → w.cell? (ad.add j) = some u) → Oper.wp P o a w K Q := by
    rintro ad rfl hc
    obtain ⟨v', w', hr, h4, h5, -, h6⟩ := run_append_own_at (P := P) w B T o.type e i z c bytes hE.u hi hz h1 h2 h3 hE.c0 v l.length (cellsOf l) hown.2 ad m cap (cellsOf (rowsG c m g)) (by rw [cellsOf_length rowsG_row, rowsG_length]) hc cellsOf_one (by unfold maxLen; omega) (by have := Nat.mul_le_mul hlen hb0; omega) hB
    unfold Oper.wp execOp
    simp only [ho, resolve, invoke, builtin, Sem.run_bind, Sem.run_pure, Result.andThen_ok, List.map_toArray, List.map_cons, List.map_nil, hs, hx, hr]
    exact h v' w' ⟨fun q hq => (List.mem_append.1 hq).elim (hown.1 q) (rowsG_row q), by rw [List.length_append, rowsG_length, cellsOf_append]; exact h4⟩ h5 h6
  rcases Nat.eq_zero_or_pos m with h0 | h0
  · subst h0
    cases A with
    | some ad => exact fin ad rfl (fun j u hu => by simp [rowsG, cellsOf] at hu)
    | none =>
      unfold Oper.wp execOp
      have hrn := run_append_nothing (P := P) (w := w) B T o.type e i c hE.u hi v l.length (cellsOf l) hown.2 cap
      simp only [ho, resolve, invoke, builtin, Sem.run_bind, Sem.run_pure, Result.andThen_ok, List.map_toArray, List.map_cons, List.map_nil, hs, hx, hrn]
      exact h v w (by simpa [rowsG] using hown) (World.grownBy.refl w _) (.inl rfl)
  · obtain ⟨b, o', hA, hc⟩ := hr h0
    refine fin _ hA fun j u hu => ?_
    obtain ⟨k, q, hk, hq, rfl, rfl⟩ := cellsOf_rowsG hu
    have := hc k hk q hq
    rw [Go.WideShapes.add_plain, ← Nat.add_assoc]
    exact this
theorem OwnR.empty {w : World} {B g : Nat} {e : TypeId} (h : w.heap[g]? = some (.cells #[] e (0, 0))) (hB : B ≤ g) : OwnR w B e 1 (.slice (some ⟨g, 0, none⟩) 0 0) [] :=
  ⟨by simp, by simp [cellsOf], .inr ⟨g, 0, #[], rfl, hB, h, Nat.le_refl _, by unfold maxLen; simp, by simp, by simp [cellsOf]⟩⟩
theorem empty_now {w W : World} {g : Nat} {t : TypeId} (e : Ext (w.alloc (.cells #[] t)) W) (hg : g = w.heap.size) : W.heap[g]? = some (.cells #[] t (0, 0)) := by
  subst hg
  exact (Blk.new w t #[]).ext e
theorem empty_next {w W : World} {g : Nat} {t : TypeId} {o : Obj} (e : Ext ((w.alloc o).alloc (.cells #[] t)) W) (hg : g = w.heap.size + 1) : W.heap[g]? = some (.cells #[] t (0, 0)) := by
  subst hg
  have h := (Blk.new (w.alloc o) t #[]).ext e
  unfold Blk at h
  simpa using h
end Go
namespace Go.Proofs.YtbceepjjdfpfmaaGreat
open Go.RowKit HandSpec LoanSpec
set_option maxHeartbeats 4000000
set_option maxRecDepth 100000
/-- Sums of groups, in a block that may be written and is not that of the nets. -/
def SumsV (w : World) (A S : Option Addr) (s : List Int) : Prop := 0 < s.length → ∃ G C, S = some ⟨G, 0, none⟩ ∧ Blk w G 3 C ∧ (∀ i, i < s.length → C[i]? = some (.int .i64 (s.getD i 0))) ∧ ∀ a, A = some a → a.block ≠ G
theorem SumsV.rd {w : World} {A S : Option Addr} {s : List Int} (h : SumsV w A S s) : Rd w S s.length 1 (fun i _ => s.getD i 0) := fun h0 => by
  obtain ⟨G, C, hS, hb, hc, _⟩ := h h0
  refine ⟨G, 0, hS, fun k hk j hj => ?_⟩
  obtain rfl : j = 0 := by omega
  rw [hb.cell]
  simpa using hc k hk
theorem SumsV.ext {w w' : World} {A S : Option Addr} {s : List Int} (h : SumsV w A S s) (e : Ext w w') : SumsV w' A S s := fun h0 => by
  obtain ⟨G, C, hS, hb, hc, hn⟩ := h h0
  exact ⟨G, C, hS, hb.ext e, hc, hn⟩
theorem getD_app_end (s : List Int) (v : Int) : (s ++ [v]).getD s.length 0 = v := by simp
theorem getD_app_old {s : List Int} {v : Int} {i : Nat} (h : i < s.length) : (s ++ [v]).getD i 0 = s.getD i 0 := by
  rw [List.getD_eq_getElem?_getD, List.getElem?_append_left h, ← List.getD_eq_getElem?_getD]
theorem sumsV_of {w : World} {B : Nat} {A : Option Addr} {v : Value} {s : List Int} {x : Int} {g : Nat → Nat → Int} (h : OwnR w B 3 1 v (rowsG 1 s.length g ++ [[x]])) (hg : ∀ i, i < s.length → g i 0 = s.getD i 0) (hA : ∀ a, A = some a → a.block < B) :
    ∃ S cap, v = .slice S (s.length + 1) cap ∧ SumsV w A S (s ++ [x]) := by
  rcases h.arrB with ⟨-, q⟩ | ⟨G, cap, rfl, hB, hcp, C, hb, hc⟩
  · simp at q
  · refine ⟨_, cap, by rw [List.length_append, rowsG_length]; rfl, fun _ => ⟨G, C, rfl, hb, fun i hi => ?_, fun a ha => by have := hA a ha; omega⟩⟩
    rw [List.length_append, rowsG_length] at hc
    rw [List.length_append] at hi
    rw [hc i hi]
    have hlen := rowsG_length 1 s.length g
    by_cases e : i < s.length
    · rw [getD_app_old e]
      have : rowsAt (rowsG 1 s.length g ++ [[x]]) i 0 = g i 0 := by
        unfold rowsAt
        rw [List.getD_eq_getElem?_getD (l := rowsG 1 s.length g ++ [[x]]), List.getElem?_append_left (by omega), ← List.getD_eq_getElem?_getD]
        exact rowsG_at e (by omega)
      exact congrArg (fun z => some (Value.int .i64 z)) (this.trans (hg i e))
    · have ei : i = s.length := by simp at hi; omega
      subst ei
      rw [getD_app_end]
      have : rowsAt (rowsG 1 s.length g ++ [[x]]) s.length 0 = x := by
        unfold rowsAt
        rw [List.getD_eq_getElem?_getD (l := rowsG 1 s.length g ++ [[x]]), List.getElem?_append_right (by omega), hlen, Nat.sub_self]
        rfl
      exact congrArg (fun z => some (Value.int .i64 z)) this
theorem set_getD (s : List Int) (j i : Nat) (u : Int) (hj : j < s.length) : (s.set j u).getD i 0 = if i = j then u else s.getD i 0 := by
  rw [List.getD_eq_getElem?_getD, List.getElem?_set]
  by_cases e : j = i
  · subst e
    rw [if_pos rfl, if_pos hj, if_pos rfl]
    rfl
  · rw [if_neg e, if_neg (fun q => e q.symm), ← List.getD_eq_getElem?_getD]
/-- A sum is written and written back. -/
theorem Ext.there_back {w w1 w2 : World} {G j : Nat} {C : Array Value} {u z : Value} (hb : Blk w G 3 C) (hz : C[j]? = some z) (e1 : Ext w w1) (e2 : Ext (w1.setCell ⟨G, j, none⟩ u) w2) : Ext w (w2.setCell ⟨G, j, none⟩ z) := by
  have b2 : Blk w2 G 3 (C.setIfInBounds j u) := (((hb.ext e1).set_ j u)).ext e2
  have b3 : Blk (w2.setCell ⟨G, j, none⟩ z) G 3 ((C.setIfInBounds j u).setIfInBounds j z) := b2.set_ j z
  have hC : (C.setIfInBounds j u).setIfInBounds j z = C := by
    obtain ⟨hj, hv⟩ := Array.getElem?_eq_some_iff.1 hz
    refine Array.ext_getElem? fun i => ?_
    by_cases e : i = j
    · subst e
      simp [hj, hv]
    · rw [Array.getElem?_setIfInBounds_ne (fun q => e q.symm), Array.getElem?_setIfInBounds_ne (fun q => e q.symm)]
  rw [hC] at b3
  have hGl := hb.lt
  have s1 := e1.size
  have s2 := e2.size
  simp only [World.size_setCell] at s2
  refine ⟨?_, ?_, ?_, by simp; omega, fun b hbl => ?_⟩
  · exact (show (w2.setCell ⟨G, j, none⟩ z).os = w2.os from rfl).trans ((Below.os e2).trans ((show (w1.setCell ⟨G, j, none⟩ u).os = w1.os from rfl).trans (Below.os e1)))
  · exact (show (w2.setCell ⟨G, j, none⟩ z).tape = w2.tape from rfl).trans ((Below.tape e2).trans ((show (w1.setCell ⟨G, j, none⟩ u).tape = w1.tape from rfl).trans (Below.tape e1)))
  · exact (show (w2.setCell ⟨G, j, none⟩ z).output = w2.output from rfl).trans ((Below.output e2).trans ((show (w1.setCell ⟨G, j, none⟩ u).output = w1.output from rfl).trans (Below.output e1)))
  · by_cases e : b = G
    · subst e
      exact b3.trans hb.symm
    · rw [Below.heap_setCell _ _ _ b e, e2.block (by simp; omega), Below.heap_setCell _ _ _ b e]
      exact e1.block hbl
theorem rd_far {w : World} {A : Option Addr} {n c : Nat} {g : Nat → Nat → Int} (h : Rd w A n c g) {p : Addr} {u : Value} (hp : ∀ a, A = some a → a.block ≠ p.block) : Rd (w.setCell p u) A n c g := fun h0 => by
  obtain ⟨b, o, hA, hc⟩ := h h0
  refine ⟨b, o, hA, fun k hk j hj => ?_⟩
  rw [World.cell?_setCell_other _ _ _ _ (by
    have := hp _ hA
    intro e
    exact this (congrArg Addr.block e).symm)]
  exact hc k hk j hj
theorem most55 {f : Nat → Int} {n capA : Nat} {A : Option Addr} (hn : n ≤ 7) (hf : ∀ i, i < n → -6000000 ≤ f i ∧ f i ≤ 6000000) : ∀ (k : Nat) (s : List Int) (w : World) (S : Option Addr) (M cs : Nat) (q : Int), k ≤ n → q = ((n - k : Nat) : Int) → s.length = M → M + k ≤ n →
    Rd w A n 1 (fun i _ => f i) → SumsV w A S s → (∀ i, i < s.length → -6000000 * (n - k : Nat) ≤ s.getD i 0 ∧ s.getD i 0 ≤ 6000000 * (n - k : Nat)) →
    Calls Tryz.prog 55 #[.slice A n capA, .slice S M cs, .int .i64 q] w fun e w' => e = .returned (.int .i64 (mostM f n k s)) ∧ Ext w w'
  | 0, s, w, S, M, cs, q, hk, hq, hM, hMk, hA, hS, hb => by
    have HS := hid hS.rd
    rw [hM] at HS
    obtain ⟨r, hr⟩ : ∃ r, Hid (mostM f n 0 s = r) := ⟨_, hid rfl⟩
    have hR := hid (show r = if anyTo (fun i => s.getD i 0 != 0) M then -1 else (M : Int) by rw [← hr.out, ← hM]; rfl)
    rw [hr.out]
    rw [Nat.sub_zero] at hq
    subst hq
    clear hA hS hb hf hr hM
    go_enter Tryz.func55, Tryz.ntmps55
    go_upto_region 3 with fail
    go_loopw [7] (fun i wr => ∃ j : Nat, j ≤ M ∧ i = .int .i64 (j : Int) ∧ Hid (∀ i, i < j → (s.getD i 0 != 0) = false) ∧ Ext w wr) (fun i _ => M - (intOf i).toNat)
    case atStart => exact ⟨0, Nat.zero_le _, rfl, hid fun _ h => absurd h (by omega), Ext.refl _⟩
    case round =>
      obtain ⟨j, hj, rfl, hp, he⟩ := hrel
      by_cases hlt : j < M
      · obtain ⟨b, o, rfl, hb, hc⟩ := (HS.out.ext he).at1 hlt
        obtain ⟨x, hx⟩ : ∃ x, Hid (s.getD j 0 = x) := ⟨_, hid rfl⟩
        rw [hx.out] at hc
        by_cases hx0 : x = 0
        · have tx : (x != 0) = false := by simpa using hx0
          go_wp2_with fail
          go_roundw
          case rel => exact ⟨j + 1, by omega, by go_num, hid (anyTo_step hp.out (by rw [hx.out]; exact tx)), he⟩
          case measure => simp [intOf]; omega
        · have tx : (x != 0) = true := by simpa using hx0
          have hr1 := hid (show r = -1 by
            have e : anyTo (fun i => s.getD i 0 != 0) M = true := anyTo_true.2 ⟨j, hlt, by rw [hx.out]; exact tx⟩
            rw [hR.out, e]; rfl)
          go_wp2_with fail
          go_ret
          exact ⟨ret_int hr1.out.symm, he⟩
      · have hjM : j = M := by omega
        have hr1 := hid (show r = (M : Int) by
          have e : anyTo (fun i => s.getD i 0 != 0) M = false := anyTo_false.2 (by rw [← hjM]; exact hp.out)
          rw [hR.out, e]; rfl)
        go_wp2_with fail
        go_ret
        exact ⟨ret_int hr1.out.symm, he⟩
  | k + 1, s, w, S, M, cs, q, hk, hq, hM, hMk, hA, hS, hb => by
    have IH := hid (fun s w S M cs q => most55 (capA := capA) (A := A) hn hf k s w S M cs q (by omega))
    have HA := hid hA
    have HS := hid hS
    have HR := hid hS.rd
    rw [hM] at HR
    obtain ⟨p, hp⟩ : ∃ p, Hid (n - (k + 1) = p) := ⟨_, hid rfl⟩
    have hpk := hid (show n - k = p + 1 by have := hp.out; omega)
    rw [hp.out] at hq hb
    rw [hpk.out] at IH
    have hpn : p < n := by have := hp.out; omega
    subst hq
    have hb2 := hid hb
    obtain ⟨r, hr⟩ : ∃ r, Hid (mostM f n (k + 1) s = r) := ⟨_, hid rfl⟩
    have hstep := hid (show r = if f p = 0 then mostM f n k s else maxTo (fun j => mostM f n k (s.set j (s.getD j 0 + f p))) (mostM f n k (s ++ [f p])) M by rw [← hr.out, ← hM, ← hp.out]; rfl)
    rw [hr.out]
    obtain ⟨v, hv⟩ : ∃ v, Hid (f p = v) := ⟨_, hid rfl⟩
    have hvb := hf p hpn
    rw [hv.out] at hvb hstep
    obtain ⟨b0, o0, hA0, hbl0, hc0⟩ := hA.at1 hpn
    subst hA0
    rw [hv.out] at hc0
    have hne : ((p : Int) == (n : Int)) = false := by simp; omega
    have hp8 : (p : Int) < 7 := by omega
    clear hA hS hb hf hr hp
    by_cases hv0 : v = 0
    · have hr1 := hid (show r = mostM f n k s by rw [hstep.out, if_pos hv0])
      have tv : (v == 0) = true := by simpa using hv0
      clear hv0
      go_enter Tryz.func55, Tryz.ntmps55
      go_wp2_with (go_at_call 55; refine (IH.out s w S M cs _ (by push_cast; rfl) hM (by omega) HA.out HS.out (fun i hi => by have := hb2.out i hi; push_cast; omega)).mono ?_; rintro e w1 ⟨rfl, he1⟩)
      go_ret
      exact ⟨ret_int hr1.out.symm, he1⟩
    · have hr1 := hid (show r = maxTo (fun j => mostM f n k (s.set j (s.getD j 0 + v))) (mostM f n k (s ++ [v])) M by rw [hstep.out, if_neg hv0])
      have tv : (v == 0) = false := by simpa using hv0
      clear hstep hv0
      obtain ⟨r0, hr0⟩ : ∃ r, Hid (mostM f n k (s ++ [v]) = r) := ⟨_, hid rfl⟩
      rw [hr0.out] at hr1
      go_enter Tryz.func55, Tryz.ntmps55
      go_upto_region 10 with fail
      have hbn := hid (show ∀ i, i < (s ++ [v]).length → -6000000 * ((p + 1 : Nat) : Int) ≤ (s ++ [v]).getD i 0 ∧ (s ++ [v]).getD i 0 ≤ 6000000 * ((p + 1 : Nat) : Int) from fun i hi => by
        push_cast
        by_cases e : i < s.length
        · rw [getD_app_old e]
          have := hb2.out i e
          omega
        · have ei : i = s.length := by simp at hi; omega
          subst ei
          rw [getD_app_end]
          omega)
      have hwr : IntKind.i64.wrap ((p : Int) + 1) = (p : Int) + 1 := IntWalk.i64_in _ (by omega)
      go_region_law (first
        | (refine step_append_rows_at (by rfl) _ _ 22 (by rfl) el22 (by rfl) (hp8.ext (Ext.alloc (Ext.refl _) _)) _ 1 1 [[v]] (by rfl) (by simp) (by simp) (by intro j; simp [cellsOf]) (by simp [rowsG_length]; omega) (by first | omega | (simp <;> omega)) ?_; intro vo w9 ho9 hg9 at9; have E9 : Ext w w9 := Ext.grown (by repeat (first | exact Ext.refl _ | assumption | refine Ext.drew ?_ | refine Ext.alloc ?_ _)) hg9 (fun q hq => hp8.block hq); rw [List.nil_append, ← hM] at ho9; obtain ⟨S', cap', rfl, hS'⟩ := sumsV_of (A := some ⟨b0, o0, none⟩) (s := s) ho9 (fun _ _ => rfl) (fun a ha => by cases ha; exact hbl0); rw [hM]; have HS' := hid hS'; clear hS' ho9)
        | (refine step_append_rows_at (by rfl) _ _ 22 (by rfl) el22 (by rfl) hp8 _ 1 1 [[v]] (by rfl) (by simp) (by simp) (by intro j; refine (World.cell?_of_block (a := ⟨_, j, none⟩) (hg8.block _ (by first | omega | (simp <;> omega)) (fun e => by first | (simp [Value.ownBlock] at e; done) | (simp [Value.ownBlock] at e; omega)))).trans ?_; simp [cellsOf]) (by simp [rowsG_length]; omega) (by first | omega | (simp <;> omega)) ?_; intro vo w9 ho9 hg9 at9; have E9 : Ext w w9 := Ext.grown (by repeat (first | exact Ext.refl _ | assumption | refine Ext.drew ?_ | refine Ext.alloc ?_ _)) hg9 (fun q hq => hp8.block hq); rw [List.nil_append, ← hM] at ho9; obtain ⟨S', cap', rfl, hS'⟩ := sumsV_of (A := some ⟨b0, o0, none⟩) (s := s) ho9 (fun _ _ => rfl) (fun a ha => by cases ha; exact hbl0); rw [hM]; have HS' := hid hS'; clear hS' ho9)
        | (go_simp; go_at_call 55; (refine (IH.out (s ++ [v]) _ S' (M + 1) cap' _ (by push_cast; rfl) (by rw [List.length_append, hM]; rfl) (by omega) (HA.out.ext (by repeat (first | exact Ext.refl _ | assumption | refine Ext.drew ?_ | refine Ext.alloc ?_ _))) (HS'.out.ext (by repeat (first | exact Ext.refl _ | assumption | refine Ext.drew ?_ | refine Ext.alloc ?_ _))) hbn.out).mono ?_); rintro e w10 ⟨rfl, he10⟩; rw [hr0.out]; have E10 : Hid (Ext w w10) := hid (Ext.trans (by repeat (first | exact Ext.refl _ | assumption | refine Ext.drew ?_ | refine Ext.alloc ?_ _)) he10))
        | (refine step_append_rd_at (by rfl) _ _ 22 (by rfl) el22 (by rfl) (B := w.heap.size) (OwnR.empty (by first | exact empty_now (by repeat (first | exact Ext.refl _ | assumption | refine Ext.drew ?_ | refine Ext.alloc ?_ _)) rfl | exact empty_next (by repeat (first | exact Ext.refl _ | assumption | refine Ext.drew ?_ | refine Ext.alloc ?_ _)) rfl) (by simp <;> omega)) (by rfl) (HR.out.ext (by repeat (first | exact Ext.refl _ | assumption | refine Ext.drew ?_ | refine Ext.alloc ?_ _))) (by simp; omega) (by simp <;> omega) ?_; intro vp w8 hp8 hg8 at8; have E8 : Ext w w8 := Ext.grown (by repeat (first | exact Ext.refl _ | assumption | refine Ext.drew ?_ | refine Ext.alloc ?_ _)) hg8 (fun q hq => by simp only [Value.ownBlock, Option.some.injEq] at hq; first | omega | (simp at hq; omega) | (rw [← hq]; simp)); have s8 := E8.size; have c8 := E8.some_ hc0; have l8 := Nat.lt_of_lt_of_le hbl0 E8.size))
      all_goals
        as_aux_lemma =>
          have HF := hid (show ∀ (m : Nat), maxTo (fun j => mostM f n k (s.set j (s.getD j 0 + v))) r0 (m + 1) = max (maxTo (fun j => mostM f n k (s.set j (s.getD j 0 + v))) r0 m) (mostM f n k (s.set m (s.getD m 0 + v))) from fun _ => rfl)
          obtain ⟨F, hF⟩ : ∃ F : Nat → Int, Hid ((fun m => maxTo (fun j => mostM f n k (s.set j (s.getD j 0 + v))) r0 m) = F) := ⟨_, hid rfl⟩
          have HF := hid (show ∀ (m : Nat), F (m + 1) = max (F m) (mostM f n k (s.set m (s.getD m 0 + v))) from fun m => by rw [← hF.out]; exact HF.out m)
          have hF0 := hid (show F 0 = r0 by rw [← hF.out]; rfl)
          have hr2 := hid (show r = F M by rw [hr1.out, ← hF.out])
          go_upto_region 12 with fail
          clear hc0
          go_loopw [8, 9] (fun b i wr => ∃ j : Nat, j ≤ M ∧ i = .int .i64 (j : Int) ∧ b = .int .i64 (F j) ∧ Ext w wr) (fun _ i _ => M - (intOf i).toNat)
          case atStart => exact ⟨0, Nat.zero_le _, rfl, by rw [hF0.out], E10.out⟩
          case round =>
            obtain ⟨j, hj, rfl, rfl, he⟩ := hrel
            by_cases hlt : j < M
            · obtain ⟨G, C, hS, hbG, hcG, hnG⟩ := (HS.out.ext he) (by omega)
              subst hS
              obtain ⟨x, hx⟩ : ∃ x, Hid (s.getD j 0 = x) := ⟨_, hid rfl⟩
              have hxc := hcG j (by omega)
              have hxb := hb2.out j (by omega)
              rw [hx.out] at hxc hxb
              have BG := hid hbG
              have CG := hid hxc
              have hbG0 : b0 ≠ G := hnG _ rfl
              have kx : wr.cell? ⟨G, j, none⟩ = some (.int .i64 x) := by rw [hbG.cell]; exact hxc
              have kf := hbG.frozen j
              have kl := hbG.lt
              obtain ⟨b1, o1, hA1, hbl1, hc1⟩ := (HA.out.ext he).at1 hpn
              cases hA1
              rw [hv.out] at hc1
              have hst := hid (HF.out j)
              rw [hx.out] at hst
              obtain ⟨t, ht⟩ : ∃ t, Hid (mostM f n k (s.set j (x + v)) = t) := ⟨_, hid rfl⟩
              rw [ht.out] at hst
              obtain ⟨z, hz⟩ : ∃ z, Hid (F j = z) := ⟨_, hid rfl⟩
              rw [hz.out] at hst ⊢
              have hmx : (if z < t then t else z) = max z t := by omega
              have hcG' := hid hcG
              have hbs := hid (show ∀ i, i < (s.set j (x + v)).length → -6000000 * ((p + 1 : Nat) : Int) ≤ (s.set j (x + v)).getD i 0 ∧ (s.set j (x + v)).getD i 0 ≤ 6000000 * ((p + 1 : Nat) : Int) from fun i hi => by
                push_cast
                rw [List.length_set] at hi
                rw [set_getD s j i _ (by omega)]
                have := hb2.out i hi
                split <;> omega)
              have hxv : -100000000 ≤ x ∧ x ≤ 100000000 := by omega
              clear hbG hcG hnG hxc hxb
              go_upto_region 14 with fail
              refine wp_region_tail 12 (by kernel_rfl) (by kernel_rfl) ?_
              simp only [List.take_succ_cons, List.take_zero, List.drop_succ_cons, List.drop_zero]
              repeat (go_big_quiet_step (fail))
              refine wpQuiet_nil ?_
              rintro w7 ⟨⟨_, he7⟩, rfl⟩
              have b7 := BG.out.ext he7
              have kf := b7.frozen j
              have kl := b7.lt
              have kx := (b7.cell j).trans CG.out
              have kn := he7.some_ hc1
              have knl := Nat.lt_of_lt_of_le hbl1 he7.size
              go_upto_region 15 with fail
              have SV := hid (show SumsV (w7.setCell ⟨G, j, none⟩ (.int .i64 (x + v))) (some ⟨b0, o0, none⟩) (some ⟨G, 0, none⟩) (s.set j (x + v)) from fun _ => ⟨G, _, rfl, b7.set_ j _, fun i hi => by
                rw [List.length_set] at hi
                rw [set_getD s j i _ (by omega)]
                by_cases e : i = j
                · subst e
                  rw [if_pos rfl]
                  have := hcG'.out i hi
                  obtain ⟨hlt2, _⟩ := Array.getElem?_eq_some_iff.1 this
                  simp [hlt2]
                · rw [if_neg e, Array.getElem?_setIfInBounds_ne (fun q => e q.symm)]
                  exact hcG'.out i hi, fun a ha => by cases ha; exact hbG0⟩)
              have HA8 := hid (rd_far ((HA.out.ext he).ext he7) (p := ⟨G, j, none⟩) (u := .int .i64 (x + v)) (fun a ha => by cases ha; exact hbG0))
              have B7 := hid (b7.set_ j (.int .i64 (x + v)))
              have hCj : (C.setIfInBounds j (.int .i64 (x + v)))[j]? = some (.int .i64 (x + v)) := by
                obtain ⟨hlt2, _⟩ := Array.getElem?_eq_some_iff.1 CG.out
                simp [hlt2]
              have HCj := hid hCj
              obtain ⟨w8, hw8⟩ : ∃ W : World, Hid (W = w7.setCell ⟨G, j, none⟩ (.int .i64 (x + v))) := ⟨_, hid rfl⟩
              rw [← hw8.out] at SV HA8 B7 ⊢
              clear kx kf kl kn knl b7 hCj hc1
              go_upto_region 16 with (go_at_call 55; refine (IH.out (s.set j (x + v)) w8 _ M cs _ (by push_cast; rfl) (by rw [List.length_set]; exact hM) (by omega) HA8.out SV.out hbs.out).mono ?_; rintro e w9 ⟨rfl, he9⟩; rw [ht.out])
              have b9 := B7.out.ext he9
              have kx := (b9.cell j).trans HCj.out
              have kf := b9.frozen j
              have kl := b9.lt
              obtain ⟨b2, o2, hA2, hbl2, hc2⟩ := (HA8.out.ext he9).at1 hpn
              cases hA2
              rw [hv.out] at hc2
              refine wp_region_tail 12 (by kernel_rfl) (by kernel_rfl) ?_
              simp only [List.take_succ_cons, List.take_zero, List.drop_succ_cons, List.drop_zero]
              repeat (go_big_quiet_step (fail))
              refine wpQuiet_nil ?_
              rintro w10 ⟨⟨_, he10⟩, rfl⟩
              have b10 := b9.ext he10
              have kf := b10.frozen j
              have kl := b10.lt
              have kx := (b10.cell j).trans HCj.out
              go_wp2_with fail
              go_roundw
              case rel => exact ⟨j + 1, by omega, by go_num, by rw [hst.out], he.trans (Ext.there_back BG.out CG.out he7 (by rw [hw8.out] at he9; exact he9.trans he10))⟩
              case measure => simp [intOf]; omega
            · have hjM : j = M := by omega
              have hr3 := hid (show r = F j by rw [hr2.out, hjM])
              go_wp2_with fail
              go_ret
              exact ⟨ret_int hr3.out.symm, he⟩
end Go.Proofs.YtbceepjjdfpfmaaGreat
namespace Go.Proofs.YtbceepjjdfpfmaaGreat
open Go.RowKit HandSpec LoanSpec
set_option maxHeartbeats 4000000
set_option maxRecDepth 100000
theorem many_cnt (f : Nat → Int) : ∀ n, manyTo f n = cntP (nzB f) n
  | 0 => rfl
  | n + 1 => by
    have ih := many_cnt f n
    simp only [manyTo, cntP]
    rw [ih]
    by_cases h : f n = 0
    · rw [if_pos h, if_neg (by rw [nzB_yes]; simpa using h)]
    · rw [if_neg h, if_pos (nzB_yes.2 h)]
theorem anyTo_app (p : Nat → Bool) (a : Nat) : ∀ b, anyTo p (a + b) = (anyTo p a || anyTo (fun i => p (a + i)) b)
  | 0 => by simp [anyTo]
  | b + 1 => by
    have ih := anyTo_app p a b
    show (anyTo p (a + b) || p (a + b)) = _
    rw [ih]
    simp only [anyTo]
    rw [Bool.or_assoc]
theorem anyTo_same {p q : Nat → Bool} : ∀ {n : Nat}, (∀ i, i < n → p i = q i) → anyTo p n = anyTo q n
  | 0, _ => rfl
  | n + 1, h => by
    simp only [anyTo]
    rw [anyTo_same fun i hi => h i (by omega), h n (by omega)]
theorem outG_eq (n : Nat) (c : Nat → Nat) (gr : Nat → Nat → Int) : ∀ q, outG n q c gr = anyTo (fun k => anyTo (fun j => !inB (gr k j) 0 ((n : Int) - 1)) (c k)) q
  | 0 => rfl
  | q + 1 => by
    have ih := outG_eq n c gr q
    unfold outG at ih ⊢
    simp only [allR, List.length_append, rowsG_length]
    rw [anyTo_app]
    simp only [anyTo]
    rw [← ih]
    congr 1
    · exact anyTo_same fun i hi => by rw [rowsAt_app hi]
    · exact anyTo_same fun i hi => by rw [rowsAt_app', rowsG_at hi (by omega)]
/-- How often z is in the first k groups. -/
def occS (c : Nat → Nat) (gr : Nat → Nat → Int) (z : Int) : Nat → Nat
  | 0 => 0
  | k + 1 => occS c gr z k + timesTo (gr k) z (c k)
theorem timesTo_app (r : Nat → Int) (z : Int) (a : Nat) : ∀ b, timesTo r z (a + b) = timesTo r z a + timesTo (fun i => r (a + i)) z b
  | 0 => rfl
  | b + 1 => by
    have ih := timesTo_app r z a b
    show timesTo r z (a + b) + (if r (a + b) = z then 1 else 0) = _
    rw [ih]
    simp only [timesTo]
    omega
theorem timesTo_same {r r' : Nat → Int} (z : Int) : ∀ {n : Nat}, (∀ i, i < n → r i = r' i) → timesTo r z n = timesTo r' z n
  | 0, _ => rfl
  | n + 1, h => by
    simp only [timesTo]
    rw [timesTo_same z fun i hi => h i (by omega), h n (by omega)]
theorem occS_eq (c : Nat → Nat) (gr : Nat → Nat → Int) (z : Int) : ∀ q, timesTo (fun i => rowsAt (allR c gr q) i 0) z (allR c gr q).length = occS c gr z q
  | 0 => rfl
  | q + 1 => by
    have ih := occS_eq c gr z q
    simp only [allR, List.length_append, rowsG_length, occS]
    rw [timesTo_app]
    congr 1
    · rw [← ih]
      exact timesTo_same z fun i hi => by rw [rowsAt_app hi]
    · exact timesTo_same z fun i hi => by rw [rowsAt_app', rowsG_at hi (by omega)]
theorem occS_le (c : Nat → Nat) (gr : Nat → Nat → Int) (z : Int) {C : Nat} : ∀ k, (∀ i, i < k → c i ≤ C) → occS c gr z k ≤ k * C
  | 0, _ => by simp [occS]
  | k + 1, h => by
    have := occS_le c gr z k fun i hi => h i (by omega)
    have := h k (by omega)
    have := timesTo_le (gr k) z (c k)
    simp only [occS]
    rw [Nat.add_mul]
    omega
theorem shows54 {w : World} {A Ag : Option Addr} {n cap q capg : Nat} {c : Nat → Nat} {g gr : Nat → Nat → Int} (hr : RdN w A n (fun _ => n) g) (hd : DOk n g) (hg : RdN w Ag q c gr) (hq : q ≤ 20) (hc : ∀ k, k < q → c k ≤ 20)
    {m : Nat → Nat} (h0 : chkD n m g = 0) :
    Calls Tryz.prog 54 #[.slice A n cap, .slice Ag q capg] w (fun e w' => e = .returned (.tuple #[.int .i64 (showV n m g q c gr), .int .i64 (showE n m g q c gr)]) ∧ Ext w w') := by
  have HR := hid hr
  have HD := hid hd
  have HG := hid hg
  have HC := hid hc
  have hn := hd.hn
  clear hr hd hg hc
  obtain ⟨f, hf⟩ : ∃ f, Hid (netTo g n n = f) := ⟨_, hid rfl⟩
  obtain ⟨er, her⟩ : ∃ er, Hid (showE n m g q c gr = er) := ⟨_, hid rfl⟩
  obtain ⟨vr, hvr⟩ : ∃ vr, Hid (showV n m g q c gr = vr) := ⟨_, hid rfl⟩
  have hv := hid (show vr = if er = 0 then (cntP (nzB f) n : Int) - q else 0 by rw [← hvr.out, ← her.out, ← hf.out, ← many_cnt]; rfl)
  have hv0 := hid (show er ≠ 0 → vr = 0 from fun h => by rw [hv.out, if_neg h])
  have hT := hid (show ∀ k : Nat, offT f (fun i => rowsAt (allR c gr q) i 0) (allR c gr q).length k = (!(f k == 0) && !(occS c gr (k : Int) q == 1)) from fun k => by unfold offT; rw [occS_eq])
  have hE := hid (show er = if anyTo (fun k => anyTo (fun j => !inB (gr k j) 0 ((n : Int) - 1)) (c k)) q then 1 else if anyTo (fun k => !ordB c gr k) q then 4
    else if anyTo (badG f c gr) q then 8 else if anyTo (fun k : Nat => !(f k == 0) && !(occS c gr (k : Int) q == 1)) n then 8 else 0 by
      rw [← her.out, ← outG_eq]
      unfold showE offG
      rw [h0, if_neg (by simp), hf.out, anyTo_same (n := n) fun k _ => hT.out k])
  clear hT h0
  rw [her.out, hvr.out]
  clear her hvr
  have hmk2 : ∀ w, (Instr.makeSlice 22 (.int .i64 (n : Int)) (.int .i64 (n : Int))).run Tryz.prog w = .ok (.slice (some ⟨w.heap.size, 0, none⟩) n n) (w.alloc (.cells (Array.replicate n (.int .i64 0)) 3)) := fun w => make22_run w n (by omega)
  go_enter Tryz.func54, Tryz.ntmps54
  go_upto_region 2 with fail
  go_loopw [6] (fun i wr => ∃ k : Nat, k ≤ q ∧ i = .int .i64 (k : Int) ∧ Hid (∀ i, i < k → anyTo (fun j => !inB (gr i j) 0 ((n : Int) - 1)) (c i) = false) ∧ Ext w wr) (fun i _ => q - (intOf i).toNat)
  case atStart => exact ⟨0, Nat.zero_le _, rfl, hid fun _ h => absurd h (by omega), Ext.refl _⟩
  case round =>
    obtain ⟨k, hk, rfl, hp, he⟩ := hrel
    by_cases hlt : k < q
    · obtain ⟨b, o, B', C', rfl, hb, hcc, hR⟩ := (HG.out.ext he).at_ hlt
      have HRr := hid hR
      have hck := HC.out k hlt
      obtain ⟨M, hM⟩ : ∃ M, Hid (c k = M) := ⟨_, hid rfl⟩
      rw [hM.out] at hcc HRr hck
      clear hR
      go_upto_region 5 with fail
      obtain ⟨W1, rfl⟩ : ∃ W : World, W = wr := ⟨_, rfl⟩
      go_loopw [7] (fun i wx => ∃ j : Nat, j ≤ M ∧ i = .int .i64 (j : Int) ∧ Hid (∀ i, i < j → (!inB (gr k i) 0 ((n : Int) - 1)) = false) ∧ Ext W1 wx) (fun i _ => M - (intOf i).toNat)
      case atStart => exact ⟨0, Nat.zero_le _, rfl, hid fun _ h => absurd h (by omega), Ext.refl _⟩
      case round =>
        obtain ⟨j, hj, rfl, hp2, he2⟩ := hrel
        have hcc := he2.some_ hcc
        have hb := Nat.lt_of_lt_of_le hb he2.size
        by_cases hlj : j < M
        · obtain ⟨b1, o1, rfl, hb1, hc1⟩ := (HRr.out.ext he2).at1 hlj
          obtain ⟨x, hx⟩ : ∃ x, Hid (gr k j = x) := ⟨_, hid rfl⟩
          rw [hx.out] at hc1
          obtain ⟨t, ht⟩ : ∃ t, Hid (offB x 0 ((n : Int) - 1) = t) := ⟨_, hid rfl⟩
          have htt := hid (show (!inB (gr k j) 0 ((n : Int) - 1)) = t by rw [hx.out, ← ht.out, inB_off])
          cases t
          · go_wp2_with (go_at_call 94; refine (off_any _ _ _ _).mono ?_; rintro e wz ⟨rfl, rfl⟩; rw [ht.out])
            go_roundw
            case rel => exact ⟨j + 1, by omega, by go_num, hid (anyTo_step hp2.out htt.out), he2⟩
            case measure => simp [intOf]; omega
          · have h1 := hid (show er = 1 by
              have q1 : anyTo (fun k => anyTo (fun j => !inB (gr k j) 0 ((n : Int) - 1)) (c k)) q = true := anyTo_true.2 ⟨k, hlt, by rw [hM.out]; exact anyTo_true.2 ⟨j, hlj, htt.out⟩⟩
              rw [hE.out, q1]; rfl)
            go_wp2_with (go_at_call 94; refine (off_any _ _ _ _).mono ?_; rintro e wz ⟨rfl, rfl⟩; rw [ht.out])
            go_ret2
            exact ⟨ret_two (hv0.out (by rw [h1.out]; simp)).symm h1.out.symm, he.trans he2⟩
        · have hjM : j = M := by omega
          subst hjM
          go_wp2_with fail
          go_roundw
          case rel => exact ⟨k + 1, by omega, by go_num, hid (anyTo_step hp.out (by rw [hM.out]; exact anyTo_false.2 hp2.out)), he.trans he2⟩
          case measure => simp [intOf]; omega
    · have hkq : k = q := by omega
      subst hkq
      have hin := hid (show ∀ i j, i < k → j < c i → ∃ t : Nat, gr i j = (t : Int) ∧ t < n from fun i j hi hj => by
        have := anyTo_false.1 (hp.out i hi) j hj
        simp [inB] at this
        exact ⟨(gr i j).toNat, by omega, by omega⟩)
      have hE2 := hid (show er = if anyTo (fun k => !ordB c gr k) k then 4 else if anyTo (badG f c gr) k then 8 else if anyTo (fun i : Nat => !(f i == 0) && !(occS c gr (i : Int) k == 1)) n then 8 else 0 by
        rw [hE.out, anyTo_false.2 hp.out]; rfl)
      clear hE
      go_upto_region 10 with fail
      go_loopw [8] (fun i wx => ∃ a : Nat, a ≤ k ∧ i = .int .i64 (a : Int) ∧ Hid (∀ i, i < a → (!ordB c gr i) = false) ∧ Ext w wx) (fun i _ => k - (intOf i).toNat)
      case atStart => exact ⟨0, Nat.zero_le _, rfl, hid fun _ h => absurd h (by omega), he⟩
      case round =>
        obtain ⟨a, ha, rfl, hp2, he⟩ := hrel
        by_cases hla : a < k
        · obtain ⟨b, o, B', C', rfl, hb, hcc, hR⟩ := (HG.out.ext he).at_ hla
          have HRr := hid hR
          have hck := HC.out a hla
          obtain ⟨M, hM⟩ : ∃ M, Hid (c a = M) := ⟨_, hid rfl⟩
          rw [hM.out] at hcc HRr hck
          clear hR
          obtain ⟨fb, hfb⟩ : ∃ t, Hid (fallB (gr a) M = t) := ⟨_, hid rfl⟩
          have ho := hid (show (!ordB c gr a) = (!(decide (0 < M) && !fb)) by unfold ordB; rw [hM.out, hfb.out])
          by_cases hM0 : M = 0
          · have tm : ((M : Int) == 0) = true := by simp [hM0]
            have h4 := hid (show er = 4 by
              have q1 : anyTo (fun k => !ordB c gr k) k = true := anyTo_true.2 ⟨a, hla, by rw [ho.out, hM0]; rfl⟩
              rw [hE2.out, q1]; rfl)
            clear hM0
            go_wp2_with fail
            go_ret2
            exact ⟨ret_two (hv0.out (by rw [h4.out]; simp)).symm h4.out.symm, he⟩
          · have tm : ((M : Int) == 0) = false := by simp; omega
            have tmd : decide (0 < M) = true := decide_eq_true (by omega)
            rw [tmd] at ho
            clear tmd
            cases fb
            · go_wp2_with (go_at_call 95; refine (rising95 HRr.out (by omega)).mono ?_; rintro e wz ⟨rfl, he3⟩; rw [hfb.out])
              go_roundw
              case rel => exact ⟨a + 1, by omega, by go_num, hid (anyTo_step hp2.out (by rw [ho.out]; rfl)), he.trans he3⟩
              case measure => simp [intOf]; omega
            · have h4 := hid (show er = 4 by
                have q1 : anyTo (fun k => !ordB c gr k) k = true := anyTo_true.2 ⟨a, hla, by rw [ho.out]; rfl⟩
                rw [hE2.out, q1]; rfl)
              go_wp2_with (go_at_call 95; refine (rising95 HRr.out (by omega)).mono ?_; rintro e wz ⟨rfl, he3⟩; rw [hfb.out])
              go_ret2
              exact ⟨ret_two (hv0.out (by rw [h4.out]; simp)).symm h4.out.symm, he.trans he3⟩
        · have hak : a = k := by omega
          subst hak
          have hE3 := hid (show er = if anyTo (badG f c gr) a then 8 else if anyTo (fun i : Nat => !(f i == 0) && !(occS c gr (i : Int) a == 1)) n then 8 else 0 by
            rw [hE2.out, anyTo_false.2 hp2.out]; rfl)
          clear hE2
          go_upto_region 15 with (go_at_call 56; refine (net56_rd (HR.out.ext he) HD.out).mono ?_; rintro e w1 ⟨A', c', rfl, he1, hR⟩; rw [hf.out] at hR; have HN := hid hR; have E1 := hid (he.trans he1); clear hR he1)
          obtain ⟨bN, oN, rfl, hbN, -⟩ := HN.out.at1 (show 0 < n by omega)
          go_upto_region 16 with fail
          refine wp_later fun w2 hw2 => ?_
          obtain ⟨E2, b2⟩ := hw2.newB
          have HM0 := hid (show ArrB w2 w1.heap.size 3 n (fun z => ((occS c gr (z : Int) 0 : Nat) : Int)) from ⟨_, b2, fun i hi => by simp [hi, occS]⟩)
          have HN := hid (HN.out.ext E2)
          have E2 := hid (E1.out.trans E2)
          have hGz := hid E1.out.size
          clear hw2 b2 hmk2
          obtain ⟨G, hG⟩ : ∃ G, Hid (w1.heap.size = G) := ⟨_, hid rfl⟩
          rw [hG.out] at HM0 hGz hbN ⊢
          have hfb := hid (show ∀ i, i < n → -6000000 ≤ f i ∧ f i ≤ 6000000 from fun i hi => by rw [← hf.out]; exact net_bd HD.out hi)
          go_upto_region 17 with fail
          go_loopw [11] (fun i wr => ∃ k : Nat, k ≤ a ∧ i = .int .i64 (k : Int) ∧ Hid (ArrB wr G 3 n (fun z => ((occS c gr (z : Int) k : Nat) : Int))) ∧ Hid (Rd wr (some ⟨bN, oN, none⟩) n 1 (fun i _ => f i)) ∧ Hid (∀ i, i < k → badG f c gr i = false) ∧ Hid (Ext w wr)) (fun i _ => a - (intOf i).toNat)
          case atStart => exact ⟨0, Nat.zero_le _, rfl, HM0, HN, hid fun _ h => absurd h (by omega), E2⟩
          case round =>
            clear HM0 HN E2
            obtain ⟨k, hk, rfl, hM0, HN, hp3, he3⟩ := hrel
            by_cases hlk : k < a
            · obtain ⟨b, o, B', C', rfl, hb, hcc, hR⟩ := (HG.out.ext he3.out).at_ hlk
              have hbw := hid (show b < w.heap.size by
                obtain ⟨b', o', _, _, e1, e2, _⟩ := HG.out.at_ hlk
                cases e1
                exact e2)
              have HRr := hid ((show ∃ (B1 : Option Addr) (C1 : Nat), w.cell? ⟨b, o + k, none⟩ = some (.slice B1 (c k) C1) ∧ Rd w B1 (c k) 1 (fun j _ => gr k j) from by
                obtain ⟨b', o', B1, C1, e1, e2, e3, e4⟩ := HG.out.at_ hlk
                cases e1
                exact ⟨B1, C1, e3, e4⟩))
              clear hb hcc hR
              obtain ⟨B1, C1, hcw, hRw⟩ := HRr.out
              clear HRr
              have hck := HC.out k hlk
              have hink := hid (fun j hj => hin.out k j hlk hj)
              have hbad := hid (show badG f c gr k = (anyTo (fun j => f (gr k j).toNat == 0) (c k) || !(sumTo (fun j => f (gr k j).toNat) (c k) == 0)) from rfl)
              have hoc := hid (fun z => occS_le c gr z (C := 20) k fun i hi => HC.out i (by omega))
              have hos := hid (show ∀ z, occS c gr z (k + 1) = occS c gr z k + timesTo (gr k) z (c k) from fun _ => rfl)
              obtain ⟨M, hM⟩ : ∃ M, Hid (c k = M) := ⟨_, hid rfl⟩
              rw [hM.out] at hcw hRw hck hink hbad hos
              have HCW := hid hcw
              have HRW := hid hRw
              clear hcw hRw
              go_upto_region 21 with fail
              go_loopw [12, 13] (fun s i wx => ∃ (j : Nat) (z : Int), j ≤ M ∧ i = .int .i64 (j : Int) ∧ s = .int .i64 z ∧ Hid (z = sumTo (fun j => f (gr k j).toNat) j) ∧ Hid (∀ i, i < j → (f (gr k i).toNat == 0) = false) ∧ Hid (ArrB wx G 3 n (fun z => ((occS c gr (z : Int) k + timesTo (gr k) (z : Int) j : Nat) : Int))) ∧ Hid (Rd wx (some ⟨bN, oN, none⟩) n 1 (fun i _ => f i)) ∧ Hid (Ext w wx)) (fun _ i _ => M - (intOf i).toNat)
              case atStart => exact ⟨0, 0, Nat.zero_le _, rfl, rfl, hid rfl, hid fun _ h => absurd h (by omega), hM0, HN, he3⟩
              case round =>
                clear hM0 HN he3
                obtain ⟨j, z, hj, rfl, rfl, hz, hnz, hAj, HN, he4⟩ := hrel
                have hcc := he4.out.some_ HCW.out
                have hb := Nat.lt_of_lt_of_le hbw.out he4.out.size
                by_cases hlj : j < M
                · obtain ⟨t, ht, htn⟩ := hink.out j hlj
                  obtain ⟨b1, o1, hB1, hb1, hc1⟩ := (HRW.out.ext he4.out).at1 hlj
                  rw [hB1] at hcc
                  rw [ht] at hc1
                  have HT := hid ht
                  clear ht
                  obtain ⟨b2, o2, hN2, hbn, hcn⟩ := HN.out.at1 htn
                  cases hN2
                  obtain ⟨x, hx⟩ : ∃ x, Hid (f t = x) := ⟨_, hid rfl⟩
                  have hxb := hfb.out t htn
                  rw [hx.out] at hcn hxb
                  have hzb := HandSpec.P.sumTo_bd (f := fun j => f (gr k j).toNat) (B := 6000000) j fun i hi => by
                    obtain ⟨t', ht', htn'⟩ := hink.out i (by omega)
                    have := hfb.out t' htn'
                    rw [ht', Int.toNat_natCast]
                    exact this
                  have hzb2 : -200000000 ≤ z ∧ z ≤ 200000000 := by rw [hz.out]; omega
                  have hst := hid (show sumTo (fun j => f (gr k j).toNat) (j + 1) = z + x by rw [sumTo_succ, hz.out, HT.out]; show _ + f ((t : Nat) : Int).toNat = _; rw [Int.toNat_natCast, hx.out])
                  have hxe := hid (show (f (gr k j).toNat == 0) = (x == 0) by rw [HT.out, Int.toNat_natCast, hx.out])
                  clear hzb
                  cases hx0 : (x == 0)
                  · have ct := hAj.out.cell htn
                    have fj := hAj.out.frozen t
                    have Gl := hAj.out.lt
                    obtain ⟨v, hv1⟩ : ∃ v, Hid (occS c gr (t : Int) k + timesTo (gr k) (t : Int) j = v) := ⟨_, hid rfl⟩
                    have hvb : v ≤ 1000 := by
                      have h1 := hoc.out (t : Int)
                      have h2 := timesTo_le (gr k) (t : Int) j
                      have := hv1.out
                      omega
                    rw [hv1.out] at ct
                    have hA2 := hid ((hAj.out.set_ t ((v : Int) + 1)).congr (h' := fun z => ((occS c gr (z : Int) k + timesTo (gr k) (z : Int) (j + 1) : Nat) : Int)) fun i hi => by
                      have e : timesTo (gr k) (i : Int) (j + 1) = timesTo (gr k) (i : Int) j + if gr k j = (i : Int) then 1 else 0 := rfl
                      rw [e, HT.out]
                      by_cases q1 : i = t
                      · subst q1
                        rw [upd_same, if_pos rfl, ← hv1.out]
                        push_cast
                        omega
                      · rw [upd_other _ _ q1, if_neg (by omega)]
                        rfl)
                    have hN3 := hid (rd_far HN.out (p := ⟨G, t, none⟩) (u := .int .i64 ((v : Int) + 1)) (fun x hx => by cases hx; exact Nat.ne_of_lt hbN))
                    have he5 := hid (he4.out.setCell (p := ⟨G, t, none⟩) (.int .i64 ((v : Int) + 1)) hGz.out)
                    go_wp2_with fail
                    go_roundw
                    case rel => exact ⟨j + 1, z + x, by omega, by go_num, by go_num, hid hst.out.symm, hid (anyTo_step hnz.out (by rw [hxe.out]; exact hx0)), hA2, hN3, he5⟩
                    case measure => simp [intOf]; omega
                  · have hbk := hid (show er = 8 by
                      have q1 : anyTo (badG f c gr) a = true := anyTo_true.2 ⟨k, hlk, by rw [hbad.out, anyTo_true.2 ⟨j, hlj, by rw [hxe.out]; exact hx0⟩]; rfl⟩
                      rw [hE3.out, q1]; rfl)
                    go_wp2_with fail
                    go_ret2
                    exact ⟨ret_two (hv0.out (by rw [hbk.out]; simp)).symm hbk.out.symm, he4.out⟩
                · have hjM : j = M := by omega
                  have hbad2 := hid (show badG f c gr k = !(z == 0) by rw [hbad.out, ← hjM, anyTo_false.2 hnz.out, hz.out]; rfl)
                  have hA2 := hid (hAj.out.congr (h' := fun z => ((occS c gr (z : Int) (k + 1) : Nat) : Int)) fun i hi => by rw [hos.out, ← hjM])
                  clear hnz
                  cases hz0 : (z == 0)
                  · have hzn : (z != 0) = true := by simpa using hz0
                    have hbk := hid (show er = 8 by
                      have q1 : anyTo (badG f c gr) a = true := anyTo_true.2 ⟨k, hlk, by rw [hbad2.out, hz0]; rfl⟩
                      rw [hE3.out, q1]; rfl)
                    go_wp2_with fail
                    go_ret2
                    exact ⟨ret_two (hv0.out (by rw [hbk.out]; simp)).symm hbk.out.symm, he4.out⟩
                  · have hzn : (z != 0) = false := by simpa using hz0
                    go_wp2_with fail
                    go_roundw
                    case rel => exact ⟨k + 1, by omega, by go_num, hA2, HN, hid (anyTo_step hp3.out (by rw [hbad2.out, hz0]; rfl)), he4⟩
                    case measure => simp [intOf]; omega
            · have hka : k = a := by omega
              have hE4 := hid (show er = if anyTo (fun i : Nat => !(f i == 0) && !(occS c gr (i : Int) a == 1)) n then 8 else 0 by
                rw [hE3.out, anyTo_false.2 (by rw [← hka]; exact hp3.out)]; rfl)
              have hocl := hid (show ∀ z, occS c gr z k ≤ 400 from fun z => by
                have := occS_le c gr z (C := 20) k fun i hi => HC.out i (by omega)
                omega)
              clear hE3
              subst hka
              go_upto_region 31 with fail
              obtain ⟨W5, hW5⟩ : ∃ W : World, Hid (W = wr) := ⟨_, hid rfl⟩
              rw [← hW5.out] at hM0 HN he3
              go_loopw [15] (fun i wx => ∃ d : Nat, d ≤ n ∧ i = .int .i64 (d : Int) ∧ Hid (∀ j : Nat, j < d → (!(f j == 0) && !(occS c gr (j : Int) k == 1)) = false) ∧ Hid (Ext W5 wx)) (fun i _ => n - (intOf i).toNat)
              case atStart => exact ⟨0, Nat.zero_le _, rfl, hid fun _ h => absurd h (by omega), hid (by rw [hW5.out]; exact Ext.refl _)⟩
              case round =>
                obtain ⟨d, hd, rfl, hq4, he4⟩ := hrel
                by_cases hld : d < n
                · obtain ⟨b2, o2, hN2, hbn, hcn⟩ := (HN.out.ext he4.out).at1 hld
                  cases hN2
                  obtain ⟨x, hx⟩ : ∃ x, Hid (f d = x) := ⟨_, hid rfl⟩
                  rw [hx.out] at hcn
                  have hA5 := hM0.out.ext he4.out
                  have cd := hA5.cell hld
                  have Gl := hA5.lt
                  obtain ⟨v, hv1⟩ : ∃ v, Hid (occS c gr (d : Int) k = v) := ⟨_, hid rfl⟩
                  rw [hv1.out] at cd
                  have hbit := hid (show (!(f d == 0) && !(occS c gr (d : Int) k == 1)) = (!(x == 0) && !(v == 1)) by rw [hx.out, hv1.out])
                  clear hA5
                  by_cases hx0 : x = 0
                  · have tx : (x != 0) = false := by simp [hx0]
                    go_wp2_with fail
                    go_roundw
                    case rel => exact ⟨d + 1, by omega, by go_num, hid (anyTo_step (p := fun j : Nat => !(f j == 0) && !(occS c gr (j : Int) k == 1)) hq4.out (by rw [hbit.out, hx0]; rfl)), he4⟩
                    case measure => simp [intOf]; omega
                  · have tx : (x != 0) = true := by simpa using hx0
                    have tx2 : (x == 0) = false := by simpa using hx0
                    clear hx0
                    by_cases hv1' : v = 1
                    · have tv : ((v : Int) != 1) = false := by simp [hv1']
                      have hbf := hid (show (!(f d == 0) && !(occS c gr (d : Int) k == 1)) = false by rw [hbit.out, hv1']; simp)
                      clear hv1'
                      go_wp2_with fail
                      go_roundw
                      case rel => exact ⟨d + 1, by omega, by go_num, hid (anyTo_step (p := fun j : Nat => !(f j == 0) && !(occS c gr (j : Int) k == 1)) hq4.out hbf.out), he4⟩
                      case measure => simp [intOf]; omega
                    · have tv : ((v : Int) != 1) = true := by simp; omega
                      have hbk := hid (show er = 8 by
                        have q1 : anyTo (fun i : Nat => !(f i == 0) && !(occS c gr (i : Int) k == 1)) n = true := anyTo_true.2 ⟨d, hld, by rw [hbit.out, tx2]; simpa using hv1'⟩
                        rw [hE4.out, q1]; rfl)
                      clear hv1'
                      go_wp2_with fail
                      go_ret2
                      exact ⟨ret_two (hv0.out (by rw [hbk.out]; simp)).symm hbk.out.symm, he3.out.trans he4.out⟩
                · have hdn : d = n := by omega
                  have hbk := hid (show er = 0 by
                    have q1 : anyTo (fun i : Nat => !(f i == 0) && !(occS c gr (i : Int) k == 1)) n = false := anyTo_false.2 (by rw [← hdn]; exact hq4.out)
                    rw [hE4.out, q1]; rfl)
                  have hvk := hid (show vr = (cntP (nzB f) n : Int) - k by rw [hv.out, if_pos hbk.out])
                  obtain ⟨y, hy⟩ : ∃ y, Hid (cntP (nzB f) n = y) := ⟨_, hid rfl⟩
                  have hyb : y ≤ n := by
                    rw [← hy.out]
                    have := cntP_not (nzB f) n
                    omega
                  rw [hy.out] at hvk
                  go_wp2_with (go_at_call 57; refine (open57 (HR.out.ext (he3.out.trans he4.out)) HD.out).mono ?_; rintro e wz ⟨rfl, he6⟩; rw [hf.out, hy.out])
                  go_ret2
                  exact ⟨ret_two (by first | exact hvk.out.symm | (rw [hvk.out]; go_num)) hbk.out.symm, (he3.out.trans he4.out).trans he6⟩
end Go.Proofs.YtbceepjjdfpfmaaGreat
namespace Go.Proofs.YtbceepjjdfpfmaaGreat
open Go.RowKit HandSpec LoanSpec
set_option maxHeartbeats 2000000
set_option maxRecDepth 100000
theorem getD_oldN {s : List Nat} {v i : Nat} (h : i < s.length) : (s ++ [v]).getD i 0 = s.getD i 0 := by
  rw [List.getD_eq_getElem?_getD, List.getElem?_append_left h, ← List.getD_eq_getElem?_getD]
theorem getD_endN (s : List Nat) (v : Nat) : (s ++ [v]).getD s.length 0 = v := by simp
theorem places_sum (f : Nat → Int) (q : Nat) : ∀ k, sumTo (fun j => f ((placesTo q k).getD j 0)) (placesTo q k).length = sumB f q k
  | 0 => rfl
  | k + 1 => by
    have ih := places_sum f q k
    simp only [placesTo, sumB]
    split
    · rw [List.length_append, List.length_singleton, sumTo_succ, getD_endN, ← ih]
      congr 1
      exact sumTo_congr fun j hj => by rw [getD_oldN hj]
    · exact ih
theorem sumB_more (f : Nat → Int) {q n : Nat} (h : ∀ i, q.testBit i = true → i < n) : ∀ d, sumB f q (n + d) = sumB f q n
  | 0 => rfl
  | d + 1 => by
    rw [← Nat.add_assoc]
    show (if q.testBit (n + d) = true then sumB f q (n + d) + f (n + d) else sumB f q (n + d)) = _
    rw [if_neg (fun e => by have := h _ e; omega), sumB_more f h d]
theorem places_times (q z : Nat) : ∀ k, timesTo (fun j => (((placesTo q k).getD j 0 : Nat) : Int)) (z : Int) (placesTo q k).length = if z < k ∧ q.testBit z = true then 1 else 0
  | 0 => rfl
  | k + 1 => by
    have ih := places_times q z k
    simp only [placesTo]
    split
    · rename_i hb
      rw [List.length_append, List.length_singleton]
      have e1 : timesTo (fun j => (((placesTo q k ++ [k]).getD j 0 : Nat) : Int)) (z : Int) (placesTo q k).length = if z < k ∧ q.testBit z = true then 1 else 0 := by
        rw [← ih]
        exact timesTo_same _ fun j hj => by rw [getD_oldN hj]
      show timesTo (fun j => (((placesTo q k ++ [k]).getD j 0 : Nat) : Int)) (z : Int) (placesTo q k).length + (if (((placesTo q k ++ [k]).getD (placesTo q k).length 0 : Nat) : Int) = (z : Int) then 1 else 0) = _
      rw [e1, getD_endN]
      by_cases e : k = z
      · subst e
        rw [if_neg (by omega), if_pos rfl, if_pos ⟨by omega, hb⟩]
      · by_cases h2 : z < k ∧ q.testBit z = true
        · rw [if_pos h2, if_neg (by omega), if_pos ⟨by omega, h2.2⟩]
        · rw [if_neg h2, if_neg (by omega), if_neg (fun h => h2 ⟨by omega, h.2⟩)]
    · rename_i hb
      rw [ih]
      by_cases h2 : z < k ∧ q.testBit z = true
      · rw [if_pos h2, if_pos ⟨by omega, h2.2⟩]
      · rw [if_neg h2, if_neg (fun h => h2 ⟨by
          have : z ≠ k := fun e => hb (e ▸ h.2)
          omega, h.2⟩)]
theorem places_rise : ∀ q : Nat, q < 128 → ∀ j : Nat, j < 7 → j + 1 < (places q).length → (places q).getD j 0 < (places q).getD (j + 1) 0 := by decide +kernel
/-- The table of these groups. -/
def grC (L : List Nat) (k : Nat) : Nat := (places (L.getD k 0)).length
def grG (L : List Nat) (k j : Nat) : Int := (((places (L.getD k 0)).getD j 0 : Nat) : Int)
theorem occS_cnt (L : List Nat) {z : Nat} (hz : z < 7) : ∀ k, k ≤ L.length → occS (grC L) (grG L) (z : Int) k = cntM (L.take k) z
  | 0, _ => by simp [occS, cntM]
  | k + 1, hk => by
    have ih := occS_cnt L hz k (by omega)
    rw [cntM_take L z k (by omega), ← ih]
    have := places_times (L.getD k 0) z 7
    show occS (grC L) (grG L) (z : Int) k + timesTo (grG L k) (z : Int) (grC L k) = _
    unfold grC grG
    unfold places
    rw [this]
    congr 1
    simp [hz]
theorem some_place : ∀ q : Nat, q < 128 → q ≠ 0 → 0 < (places q).length := fun q h1 h2 => (places_some q h1 h2).1
/-- What groups that are as many as can be show. -/
theorem show_ok {n : Nat} {m : Nat → Nat} {g : Nat → Nat → Int} (h0 : chkD n m g = 0) {L : List Nat} (hp : L.Perm (groupsM (netTo g n n) n)) :
    showE n m g L.length (grC L) (grG L) = 0 ∧ showV n m g L.length (grC L) (grG L) = (cntP (nzB (netTo g n n)) n : Int) - L.length := by
  have hd := (chkD_zero h0).1
  have hn := hd.hn
  have ht := totTo_net g n n (Nat.le_refl _)
  obtain ⟨f, hf⟩ : ∃ f, netTo g n n = f := ⟨_, rfl⟩
  rw [hf] at hp ht
  obtain ⟨h1, h2, h3, h4⟩ := groups_best hn.2 ht hp
  have hmem : ∀ k, k < L.length → L.getD k 0 ∈ L := fun k hk => by
    rw [List.getD_eq_getElem?_getD, List.getElem?_eq_getElem hk]
    exact List.getElem_mem _
  have hbit : ∀ k, k < L.length → ∀ i, (L.getD k 0).testBit i = true → i < n ∧ f i ≠ 0 := fun k hk i hi => by
    have := (h3 _ (hmem k hk)).2.2.1
    rw [← this, Nat.testBit_and, openM_bit] at hi
    simp at hi
    exact hi.2
  have hpl : ∀ k j, k < L.length → j < grC L k → ((places (L.getD k 0)).getD j 0) < n ∧ f ((places (L.getD k 0)).getD j 0) ≠ 0 := fun k j hk hj => by
    have h5 := h3 _ (hmem k hk)
    have h7 := places_seven _ h5.2.1
    have hj' : j < (places (L.getD k 0)).length := hj
    exact hbit k hk _ (places_mem _ h5.2.1 j (by omega) hj').1
  have e1 : outG n L.length (grC L) (grG L) = false := by
    rw [outG_eq]
    refine anyTo_false.2 fun k hk => anyTo_false.2 fun j hj => ?_
    have := (hpl k j hk hj).1
    have e : inB (grG L k j) 0 ((n : Int) - 1) = true := decide_eq_true (by unfold grG; omega)
    rw [e]
    rfl
  have e2 : offG L.length (grC L) (grG L) = false := by
    refine anyTo_false.2 fun k hk => ?_
    have h5 := h3 _ (hmem k hk)
    have h7 := places_seven _ h5.2.1
    have e : fallB (grG L k) (grC L k) = false := anyTo_false.2 fun j hj => by
      unfold grC at hj
      have := places_rise _ h5.2.1 j (by omega) (by omega)
      exact decide_eq_false (by unfold grG; omega)
    unfold ordB
    rw [e, show decide (0 < grC L k) = true from decide_eq_true (some_place _ h5.2.1 h5.1)]
    rfl
  have e3 : anyTo (badG f (grC L) (grG L)) L.length = false := by
    refine anyTo_false.2 fun k hk => ?_
    have h5 := h3 _ (hmem k hk)
    unfold badG
    rw [Bool.or_eq_false_iff]
    constructor
    · refine anyTo_false.2 fun j hj => ?_
      have := (hpl k j hk hj).2
      unfold grG
      rw [Int.toNat_natCast]
      simpa using this
    · have e : sumTo (fun j => f (grG L k j).toNat) (grC L k) = 0 := by
        have q1 := places_sum f (L.getD k 0) 7
        have q2 := sumB_more f (q := L.getD k 0) (n := n) (fun i hi => (hbit k hk i hi).1) (7 - n)
        rw [show n + (7 - n) = 7 by omega, h5.2.2.2] at q2
        rw [q2] at q1
        exact q1
      rw [e]
      rfl
  have e4 : anyTo (offT f (fun i => rowsAt (allR (grC L) (grG L) L.length) i 0) (allR (grC L) (grG L) L.length).length) n = false := by
    refine anyTo_false.2 fun i hi => ?_
    unfold offT
    rw [occS_eq, occS_cnt L (by omega) L.length (Nat.le_refl _), List.take_length, h4 i (by omega), openM_bit]
    by_cases h : f i = 0
    · simp [h]
    · simp [h, hi]
  have hE : showE n m g L.length (grC L) (grG L) = 0 := by
    unfold showE
    rw [if_neg (by rw [h0]; simp), if_neg (by rw [e1]; simp), if_neg (by rw [e2]; simp), hf, if_neg (by rw [e3]; simp), if_neg (by rw [e4]; simp)]
  refine ⟨hE, ?_⟩
  unfold showV
  rw [if_pos hE, many_cnt]
theorem netRow_out (g : Nat → Nat → Int) (k : Nat) (f : Nat → Int) {i : Nat} (hk : i ≠ k) : ∀ j, j ≤ i → netRow g k j f i = f i
  | 0, _ => rfl
  | j + 1, hj => by
    simp only [netRow]
    rw [upd_other _ _ hk, upd_other _ _ (by omega), netRow_out g k f hk j (by omega)]
theorem netTo_out (g : Nat → Nat → Int) (n : Nat) {i : Nat} : ∀ k, k ≤ n → n ≤ i → netTo g n k i = 0
  | 0, _, _ => rfl
  | k + 1, hk, hi => by
    simp only [netTo]
    rw [netRow_out g k _ (by omega) n hi, netTo_out g n k (by omega) hi]
/-- What Settle reckons is a settlement. -/
theorem sett_ok {n : Nat} {g : Nat → Nat → Int} (hd : DOk n g) {L : List Nat} (hp : L.Perm (groupsM (netTo g n n) n)) :
    settE n (settleM L (netTo g n n)).l.length (rowsAt (settleM L (netTo g n n)).l) = 0 ∧ settV n (settleM L (netTo g n n)).l.length (rowsAt (settleM L (netTo g n n)).l) (netTo g n n) = true ∧
      (settleM L (netTo g n n)).l.length + L.length = cntP (nzB (netTo g n n)) n := by
  have hn := hd.hn
  have ht := totTo_net g n n (Nat.le_refl _)
  have hB : ∀ i, -6000000 ≤ netTo g n n i ∧ netTo g n n i ≤ 6000000 := fun i => by
    rcases Nat.lt_or_ge i n with h | h
    · exact net_bd hd h
    · rw [netTo_out g n n (Nat.le_refl _) h]
      omega
  obtain ⟨h1, h2, h3⟩ := settle_ok hB hn.2 ht hp
  generalize settleM L (netTo g n n) = s at h1 h2 h3
  have e1 : anyTo (fun j => !(inB (rowsAt s.l j 0) 0 ((n : Int) - 1) && inB (rowsAt s.l j 1) 0 ((n : Int) - 1))) s.l.length = false := anyTo_false.2 fun j hj => by
    obtain ⟨p, q, a1, a2, a3, a4, a5, a6⟩ := h2.row j hj
    rw [a4, a5, show inB (p : Int) 0 ((n : Int) - 1) = true from decide_eq_true (by omega), show inB (q : Int) 0 ((n : Int) - 1) = true from decide_eq_true (by omega)]
    rfl
  have e2 : anyTo (fun j => rowsAt s.l j 0 == rowsAt s.l j 1) s.l.length = false := anyTo_false.2 fun j hj => by
    obtain ⟨p, q, a1, a2, a3, a4, a5, a6⟩ := h2.row j hj
    rw [a4, a5]
    simp
    omega
  have e3 : anyTo (fun j => !inB (rowsAt s.l j 2) 1 6000000) s.l.length = false := anyTo_false.2 fun j hj => by
    obtain ⟨p, q, a1, a2, a3, a4, a5, a6⟩ := h2.row j hj
    rw [show inB (rowsAt s.l j 2) 1 6000000 = true from decide_eq_true (by omega)]
    rfl
  have hE : settE n s.l.length (rowsAt s.l) = 0 := by
    unfold settE
    rw [e1, e2, e3]
    rfl
  refine ⟨hE, ?_, h1⟩
  unfold settV
  rw [hE, anyTo_false.2 fun i hi => ?_]
  · rfl
  · have := h2.bal i
    rw [h3 i hi] at this
    have e : payS (rowsAt s.l) (i : Int) s.l.length = netTo g n n i := by
      unfold payS
      rw [this]
      omega
    rw [e]
    simp
end Go.Proofs.YtbceepjjdfpfmaaGreat
