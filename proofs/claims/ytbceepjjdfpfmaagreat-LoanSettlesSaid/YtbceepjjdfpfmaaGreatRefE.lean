/- Walks: long (48), DupRows (49), and of the reference CheckDebts (51), Net (56), Open (57). No condition but on lengths. -/
import Derived.Test.YtbceepjjdfpfmaaGreatNts
import Derived.Test.YtbceepjjdfpfmaaGreatRefA
import Derived.Test.YtbceepjjdfpfmaaGreatMat
import Derived.Test.YtbceepjjdfpfmaaGreatWay
import Derived.Deep.Slices
namespace Go.Proofs.YtbceepjjdfpfmaaGreat
open Go.RowKit HandSpec LoanSpec
set_option maxHeartbeats 2000000
set_option maxRecDepth 100000
/-- A table is more than what is looked at. -/
def longB (n : Nat) (m : Nat → Nat) : Bool := anyTo (fun k => decide (10 < m k)) n || decide (10 < n)
theorem longB_no {n : Nat} {m : Nat → Nat} (h : longB n m = false) : n ≤ 10 ∧ ∀ k, k < n → m k ≤ 10 := by
  unfold longB at h
  rw [Bool.or_eq_false_iff, anyTo_false, decide_eq_false_iff_not] at h
  refine ⟨by omega, fun k hk => ?_⟩
  have := of_decide_eq_false (h.1 k hk)
  omega
theorem long48 {w : World} {A : Option Addr} {n cap : Nat} {m : Nat → Nat} {g : Nat → Nat → Int} (hr : RdN w A n m g) (hn : n ≤ maxLen) :
    Calls Tryz.prog 48 #[.slice A n cap] w fun e w' => e = .returned (.bool (longB n m)) ∧ Ext w w' := by
  have HR := hid hr
  have HN := hid hn
  clear hr hn
  obtain ⟨r, hr⟩ : ∃ r, Hid (longB n m = r) := ⟨_, hid rfl⟩
  rw [hr.out]
  go_enter Tryz.func48, Tryz.ntmps48
  go_upto_region 2 with fail
  go_loopw [7] (fun i wr => ∃ k : Nat, k ≤ n ∧ i = .int .i64 (k : Int) ∧ Hid (∀ j, j < k → decide (10 < m j) = false) ∧ Ext w wr) (fun i _ => n - (intOf i).toNat)
  case atStart => exact ⟨0, Nat.zero_le _, rfl, hid fun _ h => absurd h (by omega), Ext.refl _⟩
  case round =>
    obtain ⟨k, hk, rfl, hp, he⟩ := hrel
    by_cases hlt : k < n
    · obtain ⟨b, o, B, C, rfl, hb, hc, -⟩ := (HR.out.ext he).at_ hlt
      obtain ⟨M, hM⟩ : ∃ M, Hid (m k = M) := ⟨_, hid rfl⟩
      rw [hM.out] at hc
      have hwr : IntKind.i64.wrap ((k : Int) + 1) = (k : Int) + 1 := IntWalk.i64_in _ (by have := HN.out; unfold maxLen at this; omega)
      by_cases hm : 10 < M
      · have hrt := hid (show r = true by
          rw [← hr.out]
          unfold longB
          rw [anyTo_true.2 ⟨k, hlt, by rw [hM.out]; exact decide_eq_true hm⟩]
          rfl)
        have t1 : (10 : Int) < (M : Int) := by omega
        clear hm
        go_wp2_with fail
        go_ret
        exact ⟨ret_bool hrt.out.symm, he⟩
      · have t1 : ¬ (10 : Int) < (M : Int) := by omega
        go_wp2_with fail
        go_roundw
        case rel => exact ⟨k + 1, by omega, by first | rfl | exact congrArg _ hwr, hid (anyTo_step hp.out (by rw [hM.out]; exact decide_eq_false hm)), he⟩
        case measure => simp [intOf]; omega
    · have hkn : k = n := by omega
      have hrt := hid (show r = decide (10 < n) by
        rw [← hr.out]
        unfold longB
        rw [← hkn, anyTo_false.2 hp.out]
        rfl)
      subst hkn
      go_wp2_with fail
      go_ret
      exact ⟨ret_bool (by rw [hrt.out]; simp; omega), he⟩
theorem make39_run (w : World) : ∀ n : Nat, n ≤ 10 → (Instr.makeSlice 39 (.int .i64 (n : Int)) (.int .i64 (n : Int))).run Tryz.prog w = .ok (.slice (some ⟨w.heap.size, 0, none⟩) n n) (w.alloc (.cells (Array.replicate n (.slice none 0 0)) 22))
  | 0, _ => by kernel_rfl
  | 1, _ => by kernel_rfl
  | 2, _ => by kernel_rfl
  | 3, _ => by kernel_rfl
  | 4, _ => by kernel_rfl
  | 5, _ => by kernel_rfl
  | 6, _ => by kernel_rfl
  | 7, _ => by kernel_rfl
  | 8, _ => by kernel_rfl
  | 9, _ => by kernel_rfl
  | 10, _ => by kernel_rfl
  | n + 11, h => absurd h (by omega)
/-- The first k rows of a table in the making. -/
structure MkN (w : World) (G n k : Nat) (V : Nat → Value) (m : Nat → Nat) (g : Nat → Nat → Int) : Prop where
  a : ArrV w G n V
  r : ∀ i, i < k → ∃ A C, V i = .slice A (m i) C ∧ Rd w A (m i) 1 (fun j _ => g i j) ∧ ∀ a, A = some a → G < a.block
theorem own_above {w : World} {B G n cap : Nat} {e : TypeId} {c : Nat} {A : Option Addr} {l : List (List Int)} (h : OwnR w B e c (.slice A n cap) l) (hB : G < B) : ∀ a, A = some a → G < a.block := fun a ha => by
  subst ha
  rcases h.2.2 with ⟨q, _⟩ | ⟨g', cap', cur, q, hb, _⟩
  · cases q
  · cases q
    exact Nat.lt_of_lt_of_le hB hb
theorem dupRows49 {w : World} {A : Option Addr} {n cap : Nat} {m : Nat → Nat} {g : Nat → Nat → Int} (hr : RdN w A n m g) (hn : n ≤ 10) (hm : ∀ k, k < n → m k ≤ 1000) :
    Calls Tryz.prog 49 #[.slice A n cap] w fun e w' => ∃ A', e = .returned (.slice A' n n) ∧ Ext w w' ∧ RdN w' A' n m g := by
  have HR := hid hr
  have HM := hid hm
  clear hr hm
  have hmk : ∀ w, (Instr.makeSlice 39 (.int .i64 (n : Int)) (.int .i64 (n : Int))).run Tryz.prog w = .ok (.slice (some ⟨w.heap.size, 0, none⟩) n n) (w.alloc (.cells (Array.replicate n (.slice none 0 0)) 22)) := fun w => make39_run w n hn
  go_enter Tryz.func49, Tryz.ntmps49
  go_upto_region 2 with fail
  refine wp_later fun w1 hw1 => ?_
  obtain ⟨E1, b1⟩ := hw1.newB
  have hA0 : ArrV w1 w.heap.size n (fun _ => .slice none 0 0) := ⟨b1.lt, fun i hi => ⟨by rw [b1.cell]; simp [hi], b1.frozen i⟩⟩
  have HM0 := hid (show MkN w1 w.heap.size n 0 (fun _ => .slice none 0 0) m g from ⟨hA0, fun i hi => by omega⟩)
  have E1 := hid E1
  clear hw1 b1 hA0 hmk
  obtain ⟨G, hG⟩ : ∃ G, Hid (G = w.heap.size) := ⟨_, hid rfl⟩
  rw [← hG.out] at HM0 ⊢
  go_upto_region 3 with fail
  go_loopw [11] (fun i wr => ∃ (k : Nat) (V : Nat → Value), k ≤ n ∧ i = .int .i64 (k : Int) ∧ Hid (MkN wr G n k V m g) ∧ Ext w wr) (fun i _ => n - (intOf i).toNat)
  case atStart => exact ⟨0, _, Nat.zero_le _, rfl, HM0, E1.out⟩
  case round =>
    obtain ⟨k, V, hk, rfl, hM, he⟩ := hrel
    by_cases hlt : k < n
    · obtain ⟨b, o, B, C, rfl, hb, hc, hR⟩ := (HR.out.ext he).at_ hlt
      have HRr := hid hR
      have hmk := HM.out k hlt
      have hgs := hM.out.a.1
      clear hR
      go_wp2_with (go_at_call 66; refine (dup66 HRr.out hmk).mono ?_; rintro e w4 ⟨u, rfl, he4, ho⟩; have hsl := ho.slR; obtain ⟨Au, cu, rfl, hru⟩ := hsl; rw [rowsG_length] at hru ⊢; have HU := hid (hru.congr (g' := fun j _ => g k j) fun i hi j hj => by rw [rowsG_at hi hj]); have HB := hid (own_above ho (G := G) (by omega)); have kg := (hM.out.a.ext he4).cell hlt; have kgf := (hM.out.a.ext he4).frozen hlt; have kgl := (hM.out.a.ext he4).1; clear ho hru)
      go_roundw
      case rel =>
        refine ⟨k + 1, fun i => if i = k then .slice Au (m k) cu else V i, by omega, by go_num, hid ⟨(hM.out.a.ext he4).set_ k _ hlt, fun i hi => ?_⟩, (he.trans he4).setCell _ (by have := hG.out; show w.heap.size ≤ G; omega)⟩
        have hfar : ∀ {A : Option Addr} {q : Nat} {h : Nat → Nat → Int}, (∀ a, A = some a → G < a.block) → Rd w4 A q 1 h → Rd (w4.setCell ⟨G, k, none⟩ (.slice Au (m k) cu)) A q 1 h := fun {A q h} hb hr h0 => by
          obtain ⟨b, o, hA, hc⟩ := hr h0
          refine ⟨b, o, hA, fun i hi j hj => ?_⟩
          rw [World.cell?_setCell_other _ _ _ _ (by
            have := hb _ hA
            intro e
            have e1 := congrArg Addr.block e
            dsimp only at e1 this
            omega)]
          exact hc i hi j hj
        by_cases e : i = k
        · subst e
          exact ⟨Au, cu, by simp, hfar HB.out HU.out, HB.out⟩
        · obtain ⟨A1, C1, h1, h2, h3⟩ := hM.out.r i (by omega)
          exact ⟨A1, C1, by simp [e, h1], hfar h3 (h2.ext he4), h3⟩
      case measure => simp [intOf]; omega
    · go_wp2_with fail
      go_ret
      have : k = n := by omega
      subst this
      obtain ⟨R, hRR⟩ := Go.Deep.choose_lt (α := Option Addr × Nat) (p := fun i R => V i = .slice R.1 (m i) R.2 ∧ Rd wr R.1 (m i) 1 (fun j _ => g i j)) fun i hi => by
        obtain ⟨A1, C1, h1, h2, _⟩ := hM.out.r i hi
        exact ⟨(A1, C1), h1, h2⟩
      refine ⟨_, rfl, he, fun i => (R i).1, fun i => (R i).2, fun _ => ⟨G, 0, rfl, fun i hi => ?_⟩, fun i hi => (hRR i hi).2⟩
      rw [Nat.zero_add, hM.out.a.cell hi, (hRR i hi).1]
theorem inB_off (n lo hi : Int) : offB n lo hi = !inB n lo hi := by
  unfold offB inB
  rw [Bool.eq_iff_iff]
  simp
theorem check51 {w : World} {A : Option Addr} {n cap : Nat} {m : Nat → Nat} {g : Nat → Nat → Int} (hr : RdN w A n m g) (hn : n ≤ 1000) :
    Calls Tryz.prog 51 #[.slice A n cap] w fun e w' => e = .returned (.int .i64 (chkD n m g)) ∧ Ext w w' := by
  have HR := hid hr
  clear hr
  obtain ⟨s, hs⟩ : ∃ s, Hid (chkD n m g = s) := ⟨_, hid rfl⟩
  have hS := hid (show s = if inB (n : Int) 1 7 = false ∨ sqB n m = false then 2 else if entB n m g = false then 3 else if anyTo (fun k => !(g k k == 0)) n then 5 else 0 from hs.out.symm)
  rw [hs.out]
  obtain ⟨t, ht⟩ : ∃ t, Hid (offB (n : Int) 1 7 = t) := ⟨_, hid rfl⟩
  go_enter Tryz.func51, Tryz.ntmps51
  cases t
  case true =>
    have h2 := hid (show s = 2 by
      have := ht.out
      rw [inB_off] at this
      rw [hS.out, if_pos (.inl (by simpa using this))])
    go_wp2_with (go_at_call 94; refine (off_any _ _ _ _).mono ?_; rintro e wz ⟨rfl, rfl⟩; rw [ht.out])
    go_ret
    exact ⟨ret_int h2.out.symm, Ext.refl _⟩
  case false =>
    have hin := hid (show inB (n : Int) 1 7 = true by
      have := ht.out
      rw [inB_off] at this
      simpa using this)
    go_upto_region 4 with (go_at_call 94; refine (off_any _ _ _ _).mono ?_; rintro e wz ⟨rfl, rfl⟩; rw [ht.out])
    go_loopw [3] (fun i wr => ∃ k : Nat, k ≤ n ∧ i = .int .i64 (k : Int) ∧ Hid (∀ j, j < k → (!(m j == n)) = false) ∧ Ext w wr) (fun i _ => n - (intOf i).toNat)
    case atStart => exact ⟨0, Nat.zero_le _, rfl, hid fun _ h => absurd h (by omega), Ext.refl _⟩
    case round =>
      obtain ⟨k, hk, rfl, hp, he⟩ := hrel
      by_cases hlt : k < n
      · obtain ⟨b, o, B, C, rfl, hb, hc, -⟩ := (HR.out.ext he).at_ hlt
        obtain ⟨M, hM⟩ : ∃ M, Hid (m k = M) := ⟨_, hid rfl⟩
        rw [hM.out] at hc
        by_cases hm : M = n
        · have tm : ((M : Int) != (n : Int)) = false := by simp [hm]
          have hz := hid (show (!(m k == n)) = false by rw [hM.out, hm]; simp)
          clear hm
          go_wp2_with fail
          go_roundw
          case rel => exact ⟨k + 1, by omega, by go_num, hid (anyTo_step hp.out hz.out), he⟩
          case measure => simp [intOf]; omega
        · have tm : ((M : Int) != (n : Int)) = true := by simp; omega
          have h2 := hid (show s = 2 by
            rw [hS.out, if_pos (.inr (by unfold sqB; rw [anyTo_true.2 ⟨k, hlt, by rw [hM.out]; simpa using hm⟩]; rfl))])
          clear hm
          go_wp2_with fail
          go_ret
          exact ⟨ret_int h2.out.symm, he⟩
      · have hkn : k = n := by omega
        subst hkn
        have hsq := hid (show ∀ j, j < k → m j = k from fun j hj => by have := hp.out j hj; simpa using this)
        have hS2 := hid (show s = if entB k m g = false then 3 else if anyTo (fun k => !(g k k == 0)) k then 5 else 0 by
          rw [hS.out, if_neg]
          rintro (e | e)
          · rw [hin.out] at e; cases e
          · unfold sqB at e; rw [anyTo_false.2 hp.out] at e; cases e)
        have hent := hid (show entB k m g = !anyTo (fun i => anyTo (fun j => !inB (g i j) 0 1000000) k) k by
          unfold entB
          congr 1
          rw [Bool.eq_iff_iff, anyTo_true, anyTo_true]
          constructor
          · rintro ⟨i, hi, h⟩; rw [hsq.out i hi] at h; exact ⟨i, hi, h⟩
          · rintro ⟨i, hi, h⟩; exact ⟨i, hi, by rw [hsq.out i hi]; exact h⟩)
        have HRq := hid (HR.out.congr (m' := fun _ => k) (g' := g) fun j hj => ⟨hsq.out j hj, fun _ _ => rfl⟩)
        go_upto_region 9 with fail
        obtain ⟨W1, rfl⟩ : ∃ W : World, W = wr := ⟨_, rfl⟩
        go_loopw [4] (fun i wr => ∃ a : Nat, a ≤ k ∧ i = .int .i64 (a : Int) ∧ Hid (∀ i, i < a → anyTo (fun j => !inB (g i j) 0 1000000) k = false) ∧ Ext w wr) (fun i _ => k - (intOf i).toNat)
        case atStart => exact ⟨0, Nat.zero_le _, rfl, hid fun _ h => absurd h (by omega), he⟩
        case round =>
          obtain ⟨a, ha, rfl, hq, he⟩ := hrel
          by_cases hla : a < k
          · obtain ⟨b, o, B, C, rfl, hb, hc, hR⟩ := (HRq.out.ext he).at_ hla
            have HRr := hid hR
            clear hR
            go_upto_region 12 with fail
            obtain ⟨W2, rfl⟩ : ∃ W : World, W = wr := ⟨_, rfl⟩
            go_loopw [5] (fun i wx => ∃ z : Nat, z ≤ k ∧ i = .int .i64 (z : Int) ∧ Hid (∀ j, j < z → (!inB (g a j) 0 1000000) = false) ∧ Ext W2 wx) (fun i _ => k - (intOf i).toNat)
            case atStart => exact ⟨0, Nat.zero_le _, rfl, hid fun _ h => absurd h (by omega), Ext.refl _⟩
            case round =>
              obtain ⟨z, hz, rfl, hj, he2⟩ := hrel
              by_cases hlz : z < k
              · obtain ⟨b1, o1, rfl, hb1, hc1⟩ := (HRr.out.ext he2).at1 hlz
                have hc := he2.some_ hc
                have hb := Nat.lt_of_lt_of_le hb he2.size
                obtain ⟨v, hv⟩ : ∃ v, Hid (g a z = v) := ⟨_, hid rfl⟩
                rw [hv.out] at hc1
                obtain ⟨y, hy⟩ : ∃ y, Hid (offB v 0 1000000 = y) := ⟨_, hid rfl⟩
                have hyi := hid (show (!inB (g a z) 0 1000000) = y by rw [hv.out, ← hy.out, inB_off])
                cases y
                · go_wp2_with (go_at_call 94; refine (off_any _ _ _ _).mono ?_; rintro e wz ⟨rfl, rfl⟩; rw [hy.out])
                  go_roundw
                  case rel => exact ⟨z + 1, by omega, by go_num, hid (anyTo_step hj.out hyi.out), he2⟩
                  case measure => simp [intOf]; omega
                · have h3 := hid (show s = 3 by
                    have q : anyTo (fun i => anyTo (fun j => !inB (g i j) 0 1000000) k) k = true := anyTo_true.2 ⟨a, hla, anyTo_true.2 ⟨z, hlz, hyi.out⟩⟩
                    rw [hS2.out, if_pos (by rw [hent.out, q]; rfl)])
                  go_wp2_with (go_at_call 94; refine (off_any _ _ _ _).mono ?_; rintro e wz ⟨rfl, rfl⟩; rw [hy.out])
                  go_ret
                  exact ⟨ret_int h3.out.symm, he.trans he2⟩
              · have hzk : z = k := by omega
                subst hzk
                go_wp2_with fail
                go_roundw
                case rel => exact ⟨a + 1, by omega, by go_num, hid (anyTo_step hq.out (anyTo_false.2 hj.out)), he.trans he2⟩
                case measure => simp [intOf]; omega
          · have hak : a = k := by omega
            subst hak
            have hS3 := hid (show s = if anyTo (fun k => !(g k k == 0)) a then 5 else 0 by rw [hS2.out, if_neg (by rw [hent.out, anyTo_false.2 hq.out]; simp)])
            have hpos := hid (show ∀ i, i < a → 0 ≤ g i i from fun i hi => by
              have := anyTo_false.1 (hq.out i hi) i hi
              simp [inB] at this
              omega)
            go_upto_region 17 with fail
            obtain ⟨W2, rfl⟩ : ∃ W : World, W = wr := ⟨_, rfl⟩
            go_loopw [6] (fun i wx => ∃ z : Nat, z ≤ a ∧ i = .int .i64 (z : Int) ∧ Hid (∀ j, j < z → (!(g j j == 0)) = false) ∧ Ext w wx) (fun i _ => a - (intOf i).toNat)
            case atStart => exact ⟨0, Nat.zero_le _, rfl, hid fun _ h => absurd h (by omega), he⟩
            case round =>
              obtain ⟨z, hz, rfl, hj, he2⟩ := hrel
              by_cases hlz : z < a
              · obtain ⟨b, o, B, C, rfl, hb, hc, hR⟩ := (HRq.out.ext he2).at_ hlz
                obtain ⟨b1, o1, rfl, hb1, hc1⟩ := hR.at1 hlz
                obtain ⟨v, hv⟩ : ∃ v, Hid (g z z = v) := ⟨_, hid rfl⟩
                rw [hv.out] at hc1
                have hv0 := hpos.out z hlz
                rw [hv.out] at hv0
                clear hR
                by_cases hvp : 0 < v
                · have h5 := hid (show s = 5 by rw [hS3.out, if_pos (anyTo_true.2 ⟨z, hlz, by rw [hv.out]; simp; omega⟩)])
                  go_wp2_with fail
                  go_ret
                  exact ⟨ret_int h5.out.symm, he2⟩
                · have hz1 := hid (show (!(g z z == 0)) = false by rw [hv.out]; simp; omega)
                  go_wp2_with fail
                  go_roundw
                  case rel => exact ⟨z + 1, by omega, by go_num, hid (anyTo_step hj.out hz1.out), he2⟩
                  case measure => simp [intOf]; omega
              · have hza : z = a := by omega
                subst hza
                have h0 := hid (show s = 0 by rw [hS3.out, anyTo_false.2 hj.out]; rfl)
                go_wp2_with fail
                go_ret
                exact ⟨ret_int h0.out.symm, he2⟩
end Go.Proofs.YtbceepjjdfpfmaaGreat
