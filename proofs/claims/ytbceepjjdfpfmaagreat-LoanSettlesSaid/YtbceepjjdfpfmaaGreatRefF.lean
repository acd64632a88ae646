/- Walks of the reference: Net (56), Open (57), Settles (52). The debts are right ones. -/
import Derived.Test.YtbceepjjdfpfmaaGreatRefE
namespace Go.Proofs.YtbceepjjdfpfmaaGreat
open Go.RowKit HandSpec LoanSpec
set_option maxHeartbeats 2000000
set_option maxRecDepth 100000
theorem sum_sub (f g : Nat → Int) : ∀ k, sumTo (fun i => f i - g i) k = sumTo f k - sumTo g k
  | 0 => rfl
  | k + 1 => by simp only [sumTo]; rw [sum_sub f g k]; omega
theorem rowsG1_succ (k : Nat) (g : Nat → Nat → Int) : rowsG 1 (k+1) g = rowsG 1 k g ++ [[g k 0]] := by unfold rowsG; rw [List.range_succ (n := k), List.map_append]; rfl
theorem net_sum (g : Nat → Nat → Int) {n a : Nat} (ha : a < n) : netTo g n n a = sumTo (fun j => g j a - g a j) n := by
  rw [netTo_eq g n n a ha, if_pos ha, sum_sub]
/-- Nets of right debts. -/
theorem net_bd {n : Nat} {g : Nat → Nat → Int} (hd : DOk n g) {a : Nat} (ha : a < n) : -6000000 ≤ netTo g n n a ∧ netTo g n n a ≤ 6000000 := by
  have hn := hd.hn
  have key : ∀ k, k ≤ n → -((k : Int) * 1000000) + (if a < k then 1000000 else 0) ≤ sumTo (fun j => g j a - g a j) k ∧ sumTo (fun j => g j a - g a j) k ≤ (k : Int) * 1000000 - (if a < k then 1000000 else 0) := fun k => by
    induction k with
    | zero => intro _; simp [sumTo]
    | succ k ih =>
      intro hk
      have ih := ih (by omega)
      have h1 := hd.hd k a (by omega) ha
      have h2 := hd.hd a k ha (by omega)
      rw [sumTo_succ]
      push_cast
      by_cases e : a = k
      · subst e
        have h0 := hd.h0 a ha
        rw [if_neg (by omega)] at ih
        rw [if_pos (by omega)]
        omega
      · by_cases e' : a < k
        · rw [if_pos e'] at ih
          rw [if_pos (by omega)]
          omega
        · rw [if_neg e'] at ih
          rw [if_neg (by omega)]
          omega
  have := key n (Nat.le_refl _)
  rw [if_pos ha] at this
  rw [net_sum g ha]
  omega
theorem net56 {w : World} {A : Option Addr} {n cap : Nat} {g : Nat → Nat → Int} (hr : RdN w A n (fun _ => n) g) (hd : DOk n g) :
    Calls Tryz.prog 56 #[.slice A n cap] w fun e w' => ∃ u, e = .returned u ∧ Ext w w' ∧ OwnR w' w.heap.size 3 1 u (rowsG 1 n (fun i _ => netTo g n n i)) := by
  have HR := hid hr
  have HD := hid hd
  have hn := hd.hn
  clear hr hd
  go_enter Tryz.func56, Tryz.ntmps56
  go_upto_region 3 with fail
  go_loopw [3, 4] (fun u i wr => ∃ k : Nat, k ≤ n ∧ i = .int .i64 (k : Int) ∧ Hid (OwnR wr w.heap.size 3 1 u (rowsG 1 k (fun i _ => netTo g n n i))) ∧ Ext w wr) (fun _ i _ => n - (intOf i).toNat)
  case atStart => exact ⟨0, Nat.zero_le _, rfl, hid OwnR.nil, Ext.refl _⟩
  case round =>
    obtain ⟨k, hk, rfl, hO, he⟩ := hrel
    by_cases hlt : k < n
    · obtain ⟨b, o, Bk, Ck, rfl, hb, hck, hRk⟩ := (HR.out.ext he).at_ hlt
      have HRk := hid hRk
      have hv := hid (net_sum g hlt)
      clear hb hck hRk
      go_upto_region 7 with fail
      obtain ⟨W1, rfl⟩ : ∃ W : World, W = wr := ⟨_, rfl⟩
      go_loopw [5, 6] (fun s i wx => ∃ (j : Nat) (z : Int), j ≤ n ∧ i = .int .i64 (j : Int) ∧ s = .int .i64 z ∧ Hid (z = sumTo (fun j => g j k - g k j) j) ∧ Ext W1 wx) (fun _ i _ => n - (intOf i).toNat)
      case atStart => exact ⟨0, 0, Nat.zero_le _, rfl, rfl, hid rfl, Ext.refl _⟩
      case round =>
        obtain ⟨j, z, hj, rfl, rfl, hz, he2⟩ := hrel
        by_cases hlj : j < n
        · obtain ⟨b1, o1, Bj, Cj, hb1, hbl, hcj, hRj⟩ := ((HR.out.ext he).ext he2).at_ hlj
          cases hb1
          obtain ⟨b2, o2, Bk2, Ck2, hb2, -, hck, hRk⟩ := ((HR.out.ext he).ext he2).at_ hlt
          cases hb2
          obtain ⟨b3, o3, rfl, hb3, hc3⟩ := hRj.at1 hlt
          obtain ⟨b4, o4, rfl, hb4, hc4⟩ := hRk.at1 hlj
          obtain ⟨x, hx⟩ : ∃ x, Hid (g j k = x) := ⟨_, hid rfl⟩
          obtain ⟨y, hy⟩ : ∃ y, Hid (g k j = y) := ⟨_, hid rfl⟩
          have hxb := HD.out.hd j k hlj hlt
          have hyb := HD.out.hd k j hlt hlj
          rw [hx.out] at hc3 hxb
          rw [hy.out] at hc4 hyb
          have hst := hid (show sumTo (fun j => g j k - g k j) (j + 1) = z + x - y by rw [sumTo_succ, hx.out, hy.out, hz.out]; omega)
          have hzb := HandSpec.P.sumTo_bd (f := fun j => g j k - g k j) (B := 1000000) j fun i hi => by
            have h1 := HD.out.hd i k (by omega) hlt
            have h2 := HD.out.hd k i hlt (by omega)
            omega
          have hzb2 : -7000000 ≤ z ∧ z ≤ 7000000 := by rw [hz.out]; omega
          clear hzb hRj hRk
          go_upto_region 9 with fail
          refine wp_region_later (by kernel_rfl) (by kernel_rfl) ?_
          repeat (go_big_quiet_step (fail))
          refine wpQuiet_nil ?_
          rintro w2 ⟨⟨_, he3⟩, rfl⟩
          go_wp2_with fail
          go_roundw
          case rel => exact ⟨j + 1, z + x - y, by omega, by go_num, by go_num, hid hst.out.symm, he2.trans he3⟩
          case measure => simp [intOf]; omega
        · have hjn : j = n := by omega
          have hzv := hid (show netTo g n n k = z by rw [hv.out, hz.out, hjn])
          subst hjn
          have hO2 := hO.out.ext he2
          have hsz := (he.trans he2).size
          go_wp2_with (at_builtin; refine wpList_append_rows rfl _ _ 22 rfl el22 rfl (hO2.ext (Ext.alloc (Ext.refl _) _)) _ 1 1 [[z]] rfl rfl (by simp) (by intro j; simp [cellsOf]) (by rw [rowsG_length]; simp; omega) (by simp; omega) ?_; intro v' w8 hown8 hg8)
          go_roundw
          case rel =>
            refine ⟨k + 1, by omega, by go_num, ?_, ((he.trans he2).alloc _).grown hg8 fun q hq => hO.out.block hq⟩
            rw [rowsG1_succ, hzv.out]
            exact hid hown8
          case measure => simp [intOf]; omega
    · go_wp2_with fail
      go_ret
      have : k = n := by omega
      subst this
      exact ⟨_, rfl, he, hO.out⟩
/-- The same, for reading. -/
theorem net56_rd {w : World} {A : Option Addr} {n cap : Nat} {g : Nat → Nat → Int} (hr : RdN w A n (fun _ => n) g) (hd : DOk n g) :
    Calls Tryz.prog 56 #[.slice A n cap] w fun e w' => ∃ A' c', e = .returned (.slice A' n c') ∧ Ext w w' ∧ Rd w' A' n 1 (fun i _ => netTo g n n i) := by
  refine (net56 hr hd).mono ?_
  rintro e w' ⟨u, rfl, he, ho⟩
  obtain ⟨A', c', rfl, hR⟩ := ho.slR
  rw [rowsG_length] at hR ⊢
  exact ⟨A', c', rfl, he, hR.congr fun i hi j hj => by rw [rowsG_at hi hj]⟩
theorem open57 {w : World} {A : Option Addr} {n cap : Nat} {g : Nat → Nat → Int} (hr : RdN w A n (fun _ => n) g) (hd : DOk n g) :
    Calls Tryz.prog 57 #[.slice A n cap] w fun e w' => e = .returned (.int .i64 (cntP (nzB (netTo g n n)) n : Int)) ∧ Ext w w' := by
  have HR := hid hr
  have HD := hid hd
  have hn := hd.hn
  clear hr hd
  obtain ⟨f, hf⟩ : ∃ f, Hid (netTo g n n = f) := ⟨_, hid rfl⟩
  rw [hf.out]
  go_enter Tryz.func57, Tryz.ntmps57
  go_upto_region 3 with (go_at_call 56; refine (net56_rd HR.out HD.out).mono ?_; rintro e w1 ⟨A', c', rfl, he1, hR⟩; rw [hf.out] at hR; have HN := hid hR; have E1 := hid he1; clear hR he1)
  go_loopw [4, 5] (fun s i wr => ∃ k z : Nat, k ≤ n ∧ i = .int .i64 (k : Int) ∧ s = .int .i64 (z : Int) ∧ z ≤ k ∧ Hid (z = cntP (nzB f) k) ∧ Ext w1 wr) (fun _ i _ => n - (intOf i).toNat)
  case atStart => exact ⟨0, 0, Nat.zero_le _, rfl, rfl, Nat.le_refl _, hid rfl, Ext.refl _⟩
  case round =>
    obtain ⟨k, z, hk, rfl, rfl, hzk, hz, he⟩ := hrel
    by_cases hlt : k < n
    · obtain ⟨b1, o1, rfl, hb1, hc1⟩ := (HN.out.ext he).at1 hlt
      obtain ⟨x, hx⟩ : ∃ x, Hid (f k = x) := ⟨_, hid rfl⟩
      rw [hx.out] at hc1
      have hst := hid (show cntP (nzB f) (k + 1) = z + if x ≠ 0 then 1 else 0 by
        show cntP (nzB f) k + (if nzB f k = true then 1 else 0) = _
        rw [← hz.out]
        unfold nzB
        rw [hx.out]
        simp)
      by_cases hx0 : x = 0
      · have tx : (x != 0) = false := by simpa using hx0
        go_wp2_with fail
        go_roundw
        case rel => exact ⟨k + 1, z, by omega, by go_num, rfl, by omega, hid (by rw [hst.out, if_neg (by simpa using hx0)]; rfl), he⟩
        case measure => simp [intOf]; omega
      · have tx : (x != 0) = true := by simpa using hx0
        go_wp2_with fail
        go_roundw
        case rel => exact ⟨k + 1, z + 1, by omega, by go_num, by go_num, by omega, hid (by rw [hst.out, if_pos hx0]), he⟩
        case measure => simp [intOf]; omega
    · have hkn : k = n := by omega
      have hzv := hid (show z = cntP (nzB f) n by rw [hz.out, hkn])
      go_wp2_with fail
      go_ret
      exact ⟨ret_int (by rw [hzv.out]), E1.out.trans he⟩
/-- What payments bring to one, the first k of them. -/
def payS (p : Nat → Nat → Int) (i : Int) (k : Nat) : Int := sumTo (fun j => (if p j 1 = i then p j 2 else 0) - (if p j 0 = i then p j 2 else 0)) k
/-- What is wrong with payments. -/
def settE (n L : Nat) (p : Nat → Nat → Int) : Int :=
  if anyTo (fun j => !(inB (p j 0) 0 ((n : Int) - 1) && inB (p j 1) 0 ((n : Int) - 1))) L then 1 else if anyTo (fun j => p j 0 == p j 1) L then 5 else if anyTo (fun j => !inB (p j 2) 1 6000000) L then 3 else 0
def settV (n L : Nat) (p : Nat → Nat → Int) (f : Nat → Int) : Bool := (settE n L p == 0) && !anyTo (fun i => !(payS p i L == f i)) n
theorem payS_bd {p : Nat → Nat → Int} (i : Int) {L : Nat} (hp : ∀ j, j < L → 1 ≤ p j 2 ∧ p j 2 ≤ 6000000) (k : Nat) (hk : k ≤ L) : -(6000000 * (k : Int)) ≤ payS p i k ∧ payS p i k ≤ 6000000 * k := by
  refine HandSpec.P.sumTo_bd k fun j hj => ?_
  have := hp j (by omega)
  split <;> split <;> omega
theorem ret_bi {a a' : Bool} {b b' : Int} (h : a = a') (h' : b = b') : Ending.returned (.tuple #[.bool a, .int .i64 b]) = .returned (.tuple #[.bool a', .int .i64 b']) := by rw [h, h']
theorem settles52 {w : World} {A Ap : Option Addr} {n cap L capp : Nat} {g p : Nat → Nat → Int} (hr : RdN w A n (fun _ => n) g) (hd : DOk n g) (hp : Rd w Ap L 3 p) (hL : L ≤ 1000) :
    Calls Tryz.prog 52 #[.slice A n cap, .slice Ap L capp] w fun e w' => e = .returned (.tuple #[.bool (settV n L p (netTo g n n)), .int .i64 (settE n L p)]) ∧ Ext w w' := by
  have HR := hid hr
  have HD := hid hd
  have HP := hid hp
  have hn := hd.hn
  clear hr hd hp
  obtain ⟨f, hf⟩ : ∃ f, Hid (netTo g n n = f) := ⟨_, hid rfl⟩
  rw [hf.out]
  obtain ⟨er, her⟩ : ∃ er, Hid (settE n L p = er) := ⟨_, hid rfl⟩
  obtain ⟨vr, hvr⟩ : ∃ vr, Hid (settV n L p f = vr) := ⟨_, hid rfl⟩
  have hE := hid (show er = if anyTo (fun j => !(inB (p j 0) 0 ((n : Int) - 1) && inB (p j 1) 0 ((n : Int) - 1))) L then 1 else if anyTo (fun j => p j 0 == p j 1) L then 5 else if anyTo (fun j => !inB (p j 2) 1 6000000) L then 3 else 0 from her.out.symm)
  have hV := hid (show vr = ((er == 0) && !anyTo (fun i => !(payS p i L == f i)) n) by rw [← hvr.out, ← her.out]; rfl)
  have hV0 := hid (show er ≠ 0 → vr = false from fun h => by rw [hV.out, show (er == 0) = false by simpa using h]; rfl)
  rw [her.out, hvr.out]
  go_enter Tryz.func52, Tryz.ntmps52
  go_upto_region 2 with fail
  go_loopw [6] (fun i wr => ∃ k : Nat, k ≤ L ∧ i = .int .i64 (k : Int) ∧ Hid (∀ j, j < k → (!(inB (p j 0) 0 ((n : Int) - 1) && inB (p j 1) 0 ((n : Int) - 1))) = false) ∧ Ext w wr) (fun i _ => L - (intOf i).toNat)
  case atStart => exact ⟨0, Nat.zero_le _, rfl, hid fun _ h => absurd h (by omega), Ext.refl _⟩
  case round =>
    obtain ⟨k, hk, rfl, hq, he⟩ := hrel
    by_cases hlt : k < L
    · obtain ⟨b, o, rfl, hb, q0, q1, q2⟩ := (HP.out.ext he).at3 hlt
      obtain ⟨x, hx⟩ : ∃ x, Hid (p k 0 = x) := ⟨_, hid rfl⟩
      obtain ⟨y, hy⟩ : ∃ y, Hid (p k 1 = y) := ⟨_, hid rfl⟩
      obtain ⟨s, hs⟩ : ∃ s, Hid (offB x 0 ((n : Int) - 1) = s) := ⟨_, hid rfl⟩
      obtain ⟨t, ht⟩ : ∃ t, Hid (offB y 0 ((n : Int) - 1) = t) := ⟨_, hid rfl⟩
      have hst := hid (show (!(inB (p k 0) 0 ((n : Int) - 1) && inB (p k 1) 0 ((n : Int) - 1))) = (s || t) by rw [hx.out, hy.out, ← hs.out, ← ht.out, inB_off, inB_off]; cases inB x 0 ((n : Int) - 1) <;> cases inB y 0 ((n : Int) - 1) <;> rfl)
      have h1 := hid (show (s || t) = true → er = 1 from fun h => by
        have q : anyTo (fun j => !(inB (p j 0) 0 ((n : Int) - 1) && inB (p j 1) 0 ((n : Int) - 1))) L = true := anyTo_true.2 ⟨k, hlt, by rw [hst.out]; exact h⟩
        rw [hE.out, q]; rfl)
      rw [hx.out] at q0
      rw [hy.out] at q1
      cases s
      · cases t
        · go_wp2_with (go_at_call 94; refine (off_any _ _ _ _).mono ?_; rintro e wz ⟨rfl, rfl⟩; (first | rw [hs.out] | rw [ht.out]))
          go_roundw
          case rel => exact ⟨k + 1, by omega, by go_num, hid (anyTo_step hq.out (by rw [hst.out]; rfl)), he⟩
          case measure => simp [intOf]; omega
        · have h1 := hid (h1.out rfl)
          go_wp2_with (go_at_call 94; refine (off_any _ _ _ _).mono ?_; rintro e wz ⟨rfl, rfl⟩; (first | rw [hs.out] | rw [ht.out]))
          go_ret2
          exact ⟨ret_bi (hV0.out (by rw [h1.out]; simp)).symm h1.out.symm, he⟩
      · have h1 := hid (h1.out rfl)
        go_wp2_with (go_at_call 94; refine (off_any _ _ _ _).mono ?_; rintro e wz ⟨rfl, rfl⟩; rw [hs.out])
        go_ret2
        exact ⟨ret_bi (hV0.out (by rw [h1.out]; simp)).symm h1.out.symm, he⟩
    · have hkL : k = L := by omega
      have hin := hid (show ∀ j, j < L → 0 ≤ p j 0 ∧ p j 0 < n ∧ 0 ≤ p j 1 ∧ p j 1 < n from fun j hj => by
        have := hq.out j (by omega)
        simp [inB] at this
        omega)
      have hE2 := hid (show er = if anyTo (fun j => p j 0 == p j 1) L then 5 else if anyTo (fun j => !inB (p j 2) 1 6000000) L then 3 else 0 by
        have q : anyTo (fun j => !(inB (p j 0) 0 ((n : Int) - 1) && inB (p j 1) 0 ((n : Int) - 1))) L = false := anyTo_false.2 (by rw [← hkL]; exact hq.out)
        rw [hE.out, q]; rfl)
      clear hE
      subst hkL
      go_upto_region 7 with fail
      obtain ⟨W1, rfl⟩ : ∃ W : World, W = wr := ⟨_, rfl⟩
      go_loopw [7] (fun i wx => ∃ a : Nat, a ≤ k ∧ i = .int .i64 (a : Int) ∧ Hid (∀ j, j < a → (p j 0 == p j 1) = false) ∧ Ext w wx) (fun i _ => k - (intOf i).toNat)
      case atStart => exact ⟨0, Nat.zero_le _, rfl, hid fun _ h => absurd h (by omega), he⟩
      case round =>
        obtain ⟨a, ha, rfl, hq2, he⟩ := hrel
        by_cases hla : a < k
        · obtain ⟨b, o, rfl, hb, q0, q1, q2⟩ := (HP.out.ext he).at3 hla
          obtain ⟨x, hx⟩ : ∃ x, Hid (p a 0 = x) := ⟨_, hid rfl⟩
          obtain ⟨y, hy⟩ : ∃ y, Hid (p a 1 = y) := ⟨_, hid rfl⟩
          rw [hx.out] at q0
          rw [hy.out] at q1
          have hxy := hid (show (p a 0 == p a 1) = (x == y) by rw [hx.out, hy.out])
          cases hz : (x == y)
          · go_upto_region 9 with fail
            refine wp_region_later (by kernel_rfl) (by kernel_rfl) ?_
            repeat (go_big_quiet_step (fail))
            refine wpQuiet_nil ?_
            rintro w2 ⟨⟨_, he3⟩, rfl⟩
            go_wp2_with fail
            go_roundw
            case rel => exact ⟨a + 1, by omega, by go_num, hid (anyTo_step hq2.out (by rw [hxy.out]; exact hz)), he.trans he3⟩
            case measure => simp [intOf]; omega
          · have h5 := hid (show er = 5 by
              have q : anyTo (fun j => p j 0 == p j 1) k = true := anyTo_true.2 ⟨a, hla, by rw [hxy.out]; exact hz⟩
              rw [hE2.out, q]; rfl)
            go_upto_region 9 with fail
            refine wp_region_later (by kernel_rfl) (by kernel_rfl) ?_
            repeat (go_big_quiet_step (fail))
            refine wpQuiet_nil ?_
            rintro w2 ⟨⟨_, he3⟩, rfl⟩
            go_wp2_with fail
            go_ret2
            exact ⟨ret_bi (hV0.out (by rw [h5.out]; simp)).symm h5.out.symm, he.trans he3⟩
        · have hak : a = k := by omega
          have hE3 := hid (show er = if anyTo (fun j => !inB (p j 2) 1 6000000) k then 3 else 0 by
            have q : anyTo (fun j => p j 0 == p j 1) k = false := anyTo_false.2 (by rw [← hak]; exact hq2.out)
            rw [hE2.out, q]; rfl)
          clear hE2
          subst hak
          go_upto_region 12 with fail
          obtain ⟨W2, rfl⟩ : ∃ W : World, W = wr := ⟨_, rfl⟩
          go_loopw [8] (fun i wx => ∃ c : Nat, c ≤ a ∧ i = .int .i64 (c : Int) ∧ Hid (∀ j, j < c → (!inB (p j 2) 1 6000000) = false) ∧ Ext w wx) (fun i _ => a - (intOf i).toNat)
          case atStart => exact ⟨0, Nat.zero_le _, rfl, hid fun _ h => absurd h (by omega), he⟩
          case round =>
            obtain ⟨c, hc, rfl, hq3, he⟩ := hrel
            by_cases hlc : c < a
            · obtain ⟨b, o, rfl, hb, q0, q1, q2⟩ := (HP.out.ext he).at3 hlc
              obtain ⟨x, hx⟩ : ∃ x, Hid (p c 2 = x) := ⟨_, hid rfl⟩
              rw [hx.out] at q2
              obtain ⟨t, ht⟩ : ∃ t, Hid (offB x 1 6000000 = t) := ⟨_, hid rfl⟩
              have htt := hid (show (!inB (p c 2) 1 6000000) = t by rw [hx.out, ← ht.out, inB_off])
              cases t
              · go_wp2_with (go_at_call 94; refine (off_any _ _ _ _).mono ?_; rintro e wz ⟨rfl, rfl⟩; rw [ht.out])
                go_roundw
                case rel => exact ⟨c + 1, by omega, by go_num, hid (anyTo_step hq3.out htt.out), he⟩
                case measure => simp [intOf]; omega
              · have h3 := hid (show er = 3 by
                  have q : anyTo (fun j => !inB (p j 2) 1 6000000) a = true := anyTo_true.2 ⟨c, hlc, htt.out⟩
                  rw [hE3.out, q]; rfl)
                go_wp2_with (go_at_call 94; refine (off_any _ _ _ _).mono ?_; rintro e wz ⟨rfl, rfl⟩; rw [ht.out])
                go_ret2
                exact ⟨ret_bi (hV0.out (by rw [h3.out]; simp)).symm h3.out.symm, he⟩
            · have hca : c = a := by omega
              have h0 := hid (show er = 0 by
                have q : anyTo (fun j => !inB (p j 2) 1 6000000) a = false := anyTo_false.2 (by rw [← hca]; exact hq3.out)
                rw [hE3.out, q]; rfl)
              have hpb := hid (show ∀ j, j < a → 1 ≤ p j 2 ∧ p j 2 ≤ 6000000 from fun j hj => by
                have := hq3.out j (by omega)
                simpa [inB] using this)
              have hV1 := hid (show vr = !anyTo (fun i => !(payS p i a == f i)) n by rw [hV.out, h0.out]; rfl)
              clear hE3 hV hV0
              subst hca
              go_upto_region 18 with (go_at_call 56; refine (net56_rd (HR.out.ext he) HD.out).mono ?_; rintro e w1 ⟨A', c', rfl, he1, hR⟩; rw [hf.out] at hR; have HN := hid hR; have E1 := hid (he.trans he1); clear hR he1)
              go_loopw [10] (fun i wx => ∃ d : Nat, d ≤ n ∧ i = .int .i64 (d : Int) ∧ Hid (∀ j : Nat, j < d → (!(payS p (j : Int) c == f j)) = false) ∧ Ext w1 wx) (fun i _ => n - (intOf i).toNat)
              case atStart => exact ⟨0, Nat.zero_le _, rfl, hid fun _ h => absurd h (by omega), Ext.refl _⟩
              case round =>
                obtain ⟨d, hd, rfl, hq4, he4⟩ := hrel
                by_cases hld : d < n
                · go_upto_region 22 with fail
                  obtain ⟨W5, rfl⟩ : ∃ W : World, W = wr := ⟨_, rfl⟩
                  go_loopw [11, 12] (fun s i wx => ∃ (j : Nat) (z : Int), j ≤ c ∧ i = .int .i64 (j : Int) ∧ s = .int .i64 z ∧ Hid (z = payS p (d : Int) j) ∧ Ext W5 wx) (fun _ i _ => c - (intOf i).toNat)
                  case atStart => exact ⟨0, 0, Nat.zero_le _, rfl, rfl, hid rfl, Ext.refl _⟩
                  case round =>
                    obtain ⟨j, z, hj, rfl, rfl, hz, he5⟩ := hrel
                    have hzb := payS_bd (d : Int) hpb.out j hj
                    have hzb2 : -6000000000 ≤ z ∧ z ≤ 6000000000 := by rw [hz.out]; omega
                    clear hzb
                    by_cases hlj : j < c
                    · obtain ⟨b, o, rfl, hb, q0, q1, q2⟩ := (HP.out.ext (E1.out.trans (he4.trans he5))).at3 hlj
                      obtain ⟨x0, hx0⟩ : ∃ x, Hid (p j 0 = x) := ⟨_, hid rfl⟩
                      obtain ⟨x1, hx1⟩ : ∃ x, Hid (p j 1 = x) := ⟨_, hid rfl⟩
                      obtain ⟨x2, hx2⟩ : ∃ x, Hid (p j 2 = x) := ⟨_, hid rfl⟩
                      have hb2 := hpb.out j hlj
                      rw [hx0.out] at q0
                      rw [hx1.out] at q1
                      rw [hx2.out] at q2 hb2
                      have hst := hid (show payS p (d : Int) (j + 1) = z + ((if x1 = (d : Int) then x2 else 0) - (if x0 = (d : Int) then x2 else 0)) by rw [← hx0.out, ← hx1.out, ← hx2.out, hz.out]; rfl)
                      by_cases e1 : x1 = (d : Int)
                      · have t1 : (x1 == (d : Int)) = true := by simpa using e1
                        rw [if_pos e1] at hst
                        clear e1
                        by_cases e0 : x0 = (d : Int)
                        · have t0 : (x0 == (d : Int)) = true := by simpa using e0
                          rw [if_pos e0] at hst
                          clear e0
                          go_wp2_with fail
                          go_roundw
                          case rel => exact ⟨j + 1, z, by omega, by go_num, by first | rfl | go_num, hid (by rw [hst.out]; omega), he5⟩
                          case measure => simp [intOf]; omega
                        · have t0 : (x0 == (d : Int)) = false := by simpa using e0
                          rw [if_neg e0] at hst
                          clear e0
                          go_wp2_with fail
                          go_roundw
                          case rel => exact ⟨j + 1, z + x2, by omega, by go_num, by go_num, hid (by rw [hst.out]; omega), he5⟩
                          case measure => simp [intOf]; omega
                      · have t1 : (x1 == (d : Int)) = false := by simpa using e1
                        rw [if_neg e1] at hst
                        clear e1
                        by_cases e0 : x0 = (d : Int)
                        · have t0 : (x0 == (d : Int)) = true := by simpa using e0
                          rw [if_pos e0] at hst
                          clear e0
                          go_wp2_with fail
                          go_roundw
                          case rel => exact ⟨j + 1, z - x2, by omega, by go_num, by go_num, hid (by rw [hst.out]; omega), he5⟩
                          case measure => simp [intOf]; omega
                        · have t0 : (x0 == (d : Int)) = false := by simpa using e0
                          rw [if_neg e0] at hst
                          clear e0
                          go_wp2_with fail
                          go_roundw
                          case rel => exact ⟨j + 1, z, by omega, by go_num, rfl, hid (by rw [hst.out]; omega), he5⟩
                          case measure => simp [intOf]; omega
                    · have hjc : j = c := by omega
                      obtain ⟨b1, o1, rfl, hb1, hc1⟩ := (HN.out.ext (he4.trans he5)).at1 hld
                      obtain ⟨x, hx⟩ : ∃ x, Hid (f d = x) := ⟨_, hid rfl⟩
                      rw [hx.out] at hc1
                      have hzx := hid (show (payS p (d : Int) c == f d) = (z == x) by rw [hz.out, hx.out, hjc])
                      clear hjc
                      cases e : (z == x)
                      · have tz : (z != x) = true := by simpa using e
                        have hvf := hid (show vr = false by
                          have q : anyTo (fun i => !(payS p i c == f i)) n = true := anyTo_true.2 ⟨d, hld, by rw [hzx.out, e]; rfl⟩
                          rw [hV1.out, q]; rfl)
                        clear e
                        go_wp2_with fail
                        go_ret2
                        exact ⟨ret_bi hvf.out.symm h0.out.symm, E1.out.trans (he4.trans he5)⟩
                      · have tz : (z != x) = false := by simpa using e
                        have hqq := hid (show (!(payS p (d : Int) c == f d)) = false by rw [hzx.out, e]; rfl)
                        clear e
                        go_wp2_with fail
                        go_roundw
                        case rel => exact ⟨d + 1, by omega, by go_num, hid (anyTo_step (p := fun j : Nat => !(payS p (j : Int) c == f j)) hq4.out hqq.out), he4.trans he5⟩
                        case measure => simp [intOf]; omega
                · have hdn : d = n := by omega
                  have hvt := hid (show vr = true by
                    have q : anyTo (fun i : Nat => !(payS p (i : Int) c == f i)) n = false := anyTo_false.2 (by rw [← hdn]; exact hq4.out)
                    rw [hV1.out, q]; rfl)
                  go_wp2_with fail
                  go_ret2
                  exact ⟨ret_bi hvt.out.symm h0.out.symm, E1.out.trans he4⟩
end Go.Proofs.YtbceepjjdfpfmaaGreat
