/- Walk of the program's Cancel (77). The circle's capacity is no less than its length. -/
import Derived.Test.YtbceepjjdfpfmaaGreatCanA
import Derived.Test.YtbceepjjdfpfmaaGreatHeld
namespace Go.Proofs.YtbceepjjdfpfmaaGreat
open Go.RowKit HandSpec
set_option maxHeartbeats 2000000
set_option maxRecDepth 100000
theorem asks153 {w : World} {A : Option Addr} {n cap L : Nat} {f : Nat → Int} {b : Nat} {t : TypeId} (hn : n ≤ 1000) (hb : Blk w b t #[.slice A n cap]) :
    Asks w (.func (.func 153) #[] #[.pointer (some ⟨b, 0, none⟩)]) L (enc1 fun k _ => f k) (fun k => inB (f k) 0 ((n : Int) - 1)) := by
  refine ⟨_, _, rfl, enters_ Tryz.func153 (by kernel_rfl) rfl, fun k hk w' he => ?_⟩
  unfold enc1
  have k0 := (hb.ext he).cell
  have hlt := (hb.ext he).lt
  go_enter Tryz.func153, Tryz.ntmps153
  go_wp2_with (go_at_call 101; refine (in_any _ _ _ _).mono ?_; rintro e w2 ⟨rfl, rfl⟩)
  go_ret
  exact ⟨rfl, Ext.refl _⟩
theorem rd_take {w : World} {A : Option Addr} {n c k : Nat} {g : Nat → Nat → Int} (h : Rd w A n c g) (hk : k ≤ n) : Rd w A k c g := fun h0 => by
  obtain ⟨b, o, hA, hc⟩ := h (by omega)
  exact ⟨b, o, hA, fun i hi => hc i (by omega)⟩
/-- The error of Cancel. -/
def errC (n : Nat) (m : Nat → Nat) (g : Nat → Nat → Int) (L : Nat) (f : Nat → Int) : Int :=
  if chkD n m g ≠ 0 then chkD n m g else if L < 2 then 2 else if anyTo (fun k => !inB (f k) 0 ((n : Int) - 1)) L then 1
  else if anyTo (fun k => anyTo (fun j => f k == f j) k) L then 5 else if anyTo (fun k => g (f k).toNat (f (nxtC L k)).toNat == 0) L then 8 else 0
theorem cancel77 {w : World} {A Ac : Option Addr} {n cap L capc : Nat} {m : Nat → Nat} {g : Nat → Nat → Int} {f : Nat → Int} (hr : RdN w A n m g) (hn : n ≤ 1000) (hm : ∀ k, k < n → m k ≤ 1000)
    (hc : Rd w Ac L 1 (fun k _ => f k)) (hL : L ≤ 1000) (hcap : L ≤ capc) :
    Calls Tryz.prog 77 #[.slice A n cap, .slice Ac L capc] w fun e w' => ∃ u, e = .returned (.tuple #[u, .int .i64 (errC n m g L f)]) ∧ Ext w w' ∧
      (errC n m g L f = 0 → MtV w' w.heap.size u n (cutC g (fun k => (f k).toNat) L (lowC g (fun k => (f k).toNat) L L) L)) := by
  have hmf : ∀ (fn : Fn) (first cap : Array Value) (w : World), (Instr.makeFunc fn first cap).run Tryz.prog w = .ok (.func fn first cap) w := fun _ _ _ _ => rfl
  have HR := hid hr
  have HM := hid hm
  have HC := hid hc
  clear hr hm hc
  obtain ⟨s, hs⟩ : ∃ s, Hid (chkD n m g = s) := ⟨_, hid rfl⟩
  have B1 := hid (Blk.new w 48 #[.slice A n cap])
  have E1 : Ext w (w.alloc (.cells #[.slice A n cap] 48)) := (Ext.refl _).alloc _
  have E1 := hid E1
  rcases (Decidable.em (s = 0)).symm with h0 | h0
  · have hne : (s != 0) = true := by simpa using h0
    have he : errC n m g L f = s := by unfold errC; rw [hs.out, if_pos h0]
    rw [he]
    have H0 := hid h0
    clear h0 he
    go_enter Tryz.func77, Tryz.ntmps77
    go_wp2_with (go_at_call 33; refine (checkDebts33 (HR.out.ext E1.out) hn HM.out).mono ?_; rintro e w1 ⟨rfl, he1⟩; rw [hs.out])
    go_ret2
    exact ⟨_, rfl, E1.out.trans he1, fun h => absurd h H0.out⟩
  subst h0
  obtain ⟨hd, hsq⟩ := chkD_zero hs.out
  have HD := hid hd
  have HR2 := hid (HR.out.congr (m' := fun _ => n) (g' := g) fun k hk => ⟨hsq k hk, fun _ _ => rfl⟩)
  clear hd hsq
  have hC1 := hid (show errC n m g L f = if L < 2 then 2 else if anyTo (fun k => !inB (f k) 0 ((n : Int) - 1)) L then 1
  else if anyTo (fun k => anyTo (fun j => f k == f j) k) L then 5 else if anyTo (fun k => g (f k).toNat (f (nxtC L k)).toNat == 0) L then 8 else 0 by unfold errC; rw [hs.out, if_neg (by simp)])
  obtain ⟨er, her⟩ : ∃ er, Hid (errC n m g L f = er) := ⟨_, hid rfl⟩
  rw [her.out] at hC1 ⊢
  go_enter Tryz.func77, Tryz.ntmps77
  by_cases hL2 : L < 2
  · have h2 : (L : Int) < 2 := by omega
    go_wp2_with (go_at_call 33; refine (checkDebts33 (HR.out.ext E1.out) hn HM.out).mono ?_; rintro e w1 ⟨rfl, he1⟩; rw [hs.out])
    go_ret2
    rw [if_pos hL2] at hC1
    rw [hC1.out]
    exact ⟨_, rfl, E1.out.trans he1, fun h => by cases h⟩
  have h2 : ¬ (L : Int) < 2 := by omega
  rw [if_neg hL2] at hC1
  obtain ⟨q1, hq1⟩ : ∃ q, Hid (anyTo (fun k => !inB (f k) 0 ((n : Int) - 1)) L = q) := ⟨_, hid rfl⟩
  rw [hq1.out] at hC1
  rcases Bool.eq_false_or_eq_true q1 with rfl | rfl
  · go_wp2_with (first | (go_at_call 33; refine (checkDebts33 (HR.out.ext E1.out) hn HM.out).mono ?_; rintro e w1 ⟨rfl, he1⟩; rw [hs.out]; have k1 := (B1.out.ext he1).cell; have k1l := (B1.out.ext he1).lt; have E2 := hid he1; clear he1) | (go_at_call 112; refine (every112 (HC.out.ext (E1.out.trans E2.out)) hL (asks153 hn (B1.out.ext E2.out))).mono ?_; rintro e w2 ⟨rfl, he2⟩; rw [hq1.out]))
    go_ret2
    rw [if_pos trivial] at hC1
    rw [hC1.out]
    exact ⟨_, rfl, E1.out.trans (E2.out.trans he2), fun h => by cases h⟩
  rw [if_neg (by simp)] at hC1
  go_upto_region 8 with (first | (go_at_call 33; refine (checkDebts33 (HR.out.ext E1.out) hn HM.out).mono ?_; rintro e w1 ⟨rfl, he1⟩; rw [hs.out]; have k1 := (B1.out.ext he1).cell; have k1l := (B1.out.ext he1).lt; have E2 := hid he1; clear he1) | (go_at_call 112; refine (every112 (HC.out.ext (E1.out.trans E2.out)) hL (asks153 hn (B1.out.ext E2.out))).mono ?_; rintro e w2 ⟨rfl, he2⟩; rw [hq1.out]))
  have k2 := (B1.out.ext (E2.out.trans he2)).cell
  have k2l := (B1.out.ext (E2.out.trans he2)).lt
  have E3 := hid (E1.out.trans (E2.out.trans he2))
  have B3 := hid (B1.out.ext (E2.out.trans he2))
  clear k1 k1l E2 he2
  have hin := hid (anyTo_false.1 hq1.out)
  obtain ⟨b, o, rfl, -, -⟩ := HC.out.at1 (show 0 < L by omega)
  go_upto_region 9 with fail
  obtain ⟨W0, rfl⟩ : ∃ W0 : World, W0 = w2 := ⟨_, rfl⟩
  go_loopw [25] (fun i wr => ∃ k : Nat, k ≤ L ∧ i = .int .i64 (k : Int) ∧ Hid (∀ j, j < k → anyTo (fun i => f j == f i) j = false) ∧ Ext W0 wr) (fun i _ => L - (intOf i).toNat)
  case atStart => exact ⟨0, Nat.zero_le _, rfl, hid fun _ h => absurd h (by omega), Ext.refl _⟩
  case round =>
    obtain ⟨k, hk, rfl, hp, he⟩ := hrel
    by_cases hlt : k < L
    · obtain ⟨b', o', h', -, hck⟩ := (HC.out.ext (E3.out.trans he)).at1 hlt
      cases h'
      have hkc : k ≤ capc := by omega
      have hkc1 : (k : Int) ≤ (capc : Int) := by omega
      have hk1 : k ≤ 1000 := by omega
      obtain ⟨q2, hq2⟩ : ∃ q, Hid (anyTo (fun i => f k == f i) k = q) := ⟨_, hid rfl⟩
      have hRk := hid (rd_take (HC.out.ext (E3.out.trans he)) hk)
      rcases Bool.eq_false_or_eq_true q2 with rfl | rfl
      · go_wp2_with (go_at_call 47; refine (contains47 hRk.out hk1 (f k)).mono ?_; rintro e w3 ⟨rfl, he3⟩; rw [hq2.out])
        go_ret2
        rw [if_pos ((anyTo_true (p := fun k => anyTo (fun j => f k == f j) k)).2 ⟨k, hlt, hq2.out⟩)] at hC1
        rw [hC1.out]
        exact ⟨_, rfl, E3.out.trans (he.trans he3), fun h => by cases h⟩
      · go_wp2_with (go_at_call 47; refine (contains47 hRk.out hk1 (f k)).mono ?_; rintro e w3 ⟨rfl, he3⟩; rw [hq2.out])
        go_roundw
        case rel => exact ⟨k+1, by omega, by go_num, anyTo_step hp.out hq2.out, he.trans he3⟩
        case measure => simp [intOf]; omega
    · have : k = L := by omega
      subst this
      obtain ⟨L, rfl⟩ : ∃ L, L = k := ⟨_, rfl⟩
      rw [if_neg (by rw [anyTo_false.2 hp.out]; simp)] at hC1
      have HE := hid he
      clear hp he
      go_upto_region 15 with fail
      obtain ⟨W1, rfl⟩ : ∃ W1 : World, W1 = wr := ⟨_, rfl⟩
      go_loopw [38] (fun i ws => ∃ k : Nat, k ≤ L ∧ i = .int .i64 (k : Int) ∧ Hid (∀ j, j < k → (g (f j).toNat (f (nxtC L j)).toNat == 0) = false) ∧ Ext W0 ws) (fun i _ => L - (intOf i).toNat)
      case atStart => exact ⟨0, Nat.zero_le _, rfl, hid fun _ h => absurd h (by omega), HE.out⟩
      case round =>
        obtain ⟨k, hk, rfl, hp, he⟩ := hrel
        by_cases hlt : k < L
        · obtain ⟨q, hq⟩ : ∃ q, Hid (q = nxtC L k) := ⟨_, hid rfl⟩
          have hmod : Int.tmod ((k : Int) + 1) (L : Int) = (q : Int) := by rw [hq.out]; rfl
          have hqL : q < L := by rw [hq.out]; exact Nat.mod_lt _ (by omega)
          have k2 := (B3.out.ext he).cell
          have k2l := (B3.out.ext he).lt
          obtain ⟨b', o', h', -, hck⟩ := (HC.out.ext (E3.out.trans he)).at1 hlt
          cases h'
          obtain ⟨b', o', h', -, hcq⟩ := (HC.out.ext (E3.out.trans he)).at1 hqL
          cases h'
          have i1 := hin.out k hlt
          have i2 := hin.out q hqL
          simp [inB] at i1 i2
          obtain ⟨x, hx⟩ : ∃ x, Hid (x = (f k).toNat) := ⟨_, hid rfl⟩
          obtain ⟨y, hy⟩ : ∃ y, Hid (y = (f q).toNat) := ⟨_, hid rfl⟩
          have hfx : f k = (x : Int) := by have := hx.out; omega
          have hfy : f q = (y : Int) := by have := hy.out; omega
          have hxn : x < n := by omega
          have hyn : y < n := by omega
          rw [hfx] at hck
          rw [hfy] at hcq
          clear i1 i2 hfx hfy
          obtain ⟨bA, oA, Bx, Cx, rfl, hbA, hrow, hRow⟩ := (HR2.out.ext (E3.out.trans he)).at_ hxn
          obtain ⟨bx, ox, rfl, hbx, hz⟩ := hRow.at1 hyn
          clear hRow
          have hzz := hid (show g (f k).toNat (f (nxtC L k)).toNat = g x y by rw [hx.out, hy.out, hq.out])
          have E0 := hid he
          go_upto_region 17 with fail
          refine wp_region_later (by kernel_rfl) (by kernel_rfl) ?_
          repeat (go_big_quiet_step (fail))
          refine wpQuiet_nil ?_
          rintro w6 ⟨⟨_, he6⟩, rfl⟩
          clear k2 k2l hck hcq hrow hz
          cases hb : (g x y == 0)
          · go_wp2_with fail
            go_roundw
            case rel => exact ⟨k + 1, by omega, by go_num, anyTo_step hp.out (by rw [hzz.out]; exact hb), E0.out.trans he6⟩
            case measure => simp [intOf]; omega
          · go_wp2_with fail
            go_ret2
            rw [if_pos ((anyTo_true (p := fun k => g (f k).toNat (f (nxtC L k)).toNat == 0)).2 ⟨k, hlt, by rw [hzz.out]; exact hb⟩)] at hC1
            rw [hC1.out]
            exact ⟨_, rfl, E3.out.trans (E0.out.trans he6), fun h => by cases h⟩
        · have : k = L := by omega
          subst this
          obtain ⟨L, rfl⟩ : ∃ L, L = k := ⟨_, rfl⟩
          rw [if_neg (by rw [anyTo_false.2 hp.out]; simp)] at hC1
          have k2 := (B3.out.ext he).cell
          have k2l := (B3.out.ext he).lt
          have hcn : ∀ k, k < L → ((f k).toNat : Int) = f k ∧ (f k).toNat < n := fun k hk => by
            have := hin.out k hk
            simp [inB] at this
            omega
          have E4 := hid (E3.out.trans he)
          have h154 := cancel154 (cap := cap) (capc := capc) (HR2.out.ext E4.out) HD.out (c := fun k => (f k).toNat) ((HC.out.ext E4.out).congr fun k hk _ _ => (hcn k hk).1.symm) ⟨by omega, hL⟩ fun k hk => (hcn k hk).2
          have H154 := hid h154
          clear h154 hcn he hp
          go_wp2_with (go_at_call 154; refine H154.out.mono ?_; rintro e w7 ⟨u, rfl, he7, hm⟩; have HM7 := hid hm; clear hm)
          go_ret2
          rw [hC1.out]
          exact ⟨_, rfl, E4.out.trans he7, fun _ => by obtain ⟨g1, r, c, cp, hu, hM⟩ := HM7.out; exact ⟨g1, r, c, cp, hu, hM.base E4.out.size⟩⟩
end Go.Proofs.YtbceepjjdfpfmaaGreat
