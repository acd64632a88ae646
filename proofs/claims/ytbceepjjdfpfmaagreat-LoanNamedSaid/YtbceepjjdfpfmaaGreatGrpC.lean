/- Walk of groups (140). The debts are right. -/
import Derived.Test.YtbceepjjdfpfmaaGreatGrpM
import Derived.Test.YtbceepjjdfpfmaaGreatGrpB
import Derived.Test.YtbceepjjdfpfmaaGreatGrpS
namespace Go.Proofs.YtbceepjjdfpfmaaGreat
open Go.RowKit HandSpec
set_option maxHeartbeats 4000000
set_option maxRecDepth 100000
theorem el39g : ElemOk Tryz.prog 39 22 1 24 := ⟨Tryz.underlying39, by
  obtain ⟨i, hi, h1, h2, h3⟩ := info_parts (show (Tryz.prog.info? 22).map (fun i => (i.zero, i.size, i.bytes)) = some (some (.slice none 0 0), 1, 24) by kernel_rfl)
  exact ⟨i, _, hi, h1, h2, h3, rfl⟩, by omega, by omega⟩
theorem look_some {w : World} {r : Nat} {f : Nat → Option Int} {k : Nat} {v : Int} (h : MpI w r f) (hv : f k = some v) : (Instr.lookup 207 (.map (some r)) (.int .i64 (k : Int)) false).run Tryz.prog w = .ok (.int .i64 v) w := by
  have := look207 h k
  rw [hv] at this
  exact this
theorem pow_eq7 : ∀ k : Nat, k < 7 → ∀ s : Nat, s < 128 → ((s : Int) == wrap64 (2 ^ k)) = decide (s = 2 ^ k) := by decide +kernel
theorem bits_prev : ∀ t : Nat, t < 128 → t ≠ 0 → ∀ q : Nat, q < 128 → bits .and .i64 ((t : Int) - 1) (q : Int) = (((t - 1) &&& q : Nat) : Int) := by decide +kernel
/-- What is known of the sums of sets. -/
def sumsM (f : Nat → Int) (n s : Nat) : Nat → Option Int := fun k => if k < s then some (sumB f k n) else none
theorem mapNew (w : World) : (Instr.makeMap 207 none).run Tryz.prog w = .ok (.map (some w.heap.size)) (w.alloc (.map #[] 0)) := rfl
theorem grpM_zero (p : Nat → Option Int) (k : Nat) : grpM p k 0 = [] := by cases k <;> rfl
/-- The first map: the sums of all sets up to the open one. -/
theorem groups140 {w : World} {A : Option Addr} {n cap : Nat} {g : Nat → Nat → Int} (hr : RdN w A n (fun _ => n) g) (hd : DOk n g) : Calls Tryz.prog 140 #[.slice A n cap] w fun e w' => ∃ u, e = .returned u ∧ Ext w w' ∧ ∃ L', L'.Perm (groupsM (netTo g n n) n) ∧ SortedS L' ∧ RdF w' w.heap.size u L' := by
  have HR := hid hr
  have HD := hid hd
  obtain ⟨hn, -, -⟩ := hd
  clear hr
  obtain ⟨F, hF⟩ : ∃ F, Hid (netTo g n n = F) := ⟨_, hid rfl⟩
  rw [hF.out]
  have hFb := hid (show ∀ i, -49000000 ≤ F i ∧ F i ≤ 49000000 by
    intro i
    have := netTo_bd HD.out.hd (by omega) n (Nat.le_refl _) i
    rw [hF.out] at this
    omega)
  have hFt := hid (show totTo F n = 0 by rw [← hF.out]; exact totTo_net g n n (Nat.le_refl _))
  go_enter Tryz.func140, Tryz.ntmps140
  go_upto_region 4 with (go_at_call 108; refine (net108 HR.out HD.out).mono ?_; rintro e w1 ⟨G, rfl, he1, hG, hA⟩; rw [hF.out] at hA; have HA := hid hA; clear hA)
  have E1 := hid he1
  clear he1 HR
  go_loopw [4, 24] (fun a i wr => ∃ k : Nat, k ≤ n ∧ i = .int .i64 (k : Int) ∧ a = .int .i64 (openM F k : Int) ∧ Ext w1 wr) (fun _ i _ => n - (intOf i).toNat)
  case atStart => exact ⟨0, by omega, rfl, rfl, Ext.refl _⟩
  case round =>
    obtain ⟨k, hk, rfl, rfl, he⟩ := hrel
    by_cases hlt : k < n
    · have kc := (HA.out.ext he).cell hlt
      have kl := (HA.out.ext he).lt
      have hO := hid (show openM F (k + 1) = if F k = 0 then openM F k else openM F k ||| 2 ^ k from rfl)
      have hol := openM_lt F k (by omega)
      have hol2 := pow_mono7 k (by omega)
      have hor := or_pow k (by omega) (openM F k) (by omega)
      by_cases h0 : F k = 0
      · have h0' : (F k != 0) = false := by simp [h0]
        rw [if_pos h0] at hO
        clear h0 hor
        go_wp2_with fail
        go_roundw
        case rel => exact ⟨k + 1, by omega, by go_num, by rw [hO.out], he⟩
        case measure => simp [intOf]; omega
      · have h0' : (F k != 0) = true := by simpa using h0
        rw [if_neg h0] at hO
        clear h0
        go_wp2_with fail
        go_roundw
        case rel => exact ⟨k + 1, by omega, by go_num, by rw [hO.out], he⟩
        case measure => simp [intOf]; omega
    · have : k = n := by omega
      subst this
      obtain ⟨n, rfl⟩ : ∃ n, n = k := ⟨_, rfl⟩
      obtain ⟨o, ho⟩ : ∃ o, Hid (openM F n = o) := ⟨_, hid rfl⟩
      rw [ho.out]
      have ho128 : o < 128 := by rw [← ho.out]; exact Nat.lt_of_lt_of_le (openM_lt F n (by omega)) (pow_mono7 n (by omega))
      obtain ⟨w2, hw2, hm2, hb2, hs2, -⟩ := put207 (MpI.new wr) 0 0
      have hmk := mapNew wr
      have hw2 : (Instr.mapUpdate 207 (.map (some wr.heap.size)) (.int .i64 0) (.int .i64 0)).run Tryz.prog (wr.alloc (.map #[] 0)) = .ok () w2 := hw2
      have E2 : Hid (Ext w1 w2) := hid (Below.trans (he.alloc (.map #[] 0)) (hb2 w1.heap.size he.size))
      obtain ⟨m7, hm7⟩ : ∃ m7, Hid (m7 = wr.heap.size) := ⟨_, hid rfl⟩
      rw [← hm7.out] at hmk hw2 hm2
      have hM2 := hid (hm2.congr (f' := sumsM F n 1) fun k => by
        unfold putM sumsM
        by_cases e : k = 0
        · subst e
          rw [if_pos rfl, if_pos (by omega)]
          have : ∀ j, sumB F 0 j = 0 := fun j => by
            induction j with
            | zero => rfl
            | succ j ih => simp only [sumB]; rw [if_neg (by simp), ih]
          rw [this]
        · rw [if_neg e, if_neg (by omega)])
      have hm7l := hid (show w1.heap.size ≤ m7 by rw [hm7.out]; exact he.size)
      clear hm2 hb2 hs2
      go_upto_region 11 with fail
      clear hw2 hmk
      go_loopw [8] (fun i wr => ∃ q : Nat, 1 ≤ q ∧ q ≤ o + 1 ∧ i = .int .i64 (q : Int) ∧ Hid (MpI wr m7 (sumsM F n q)) ∧ Ext w1 wr) (fun i _ => o + 1 - (intOf i).toNat)
      case atStart => exact ⟨1, by omega, by omega, rfl, hM2, E2.out⟩
      case round =>
        obtain ⟨q, hq1, hq2, rfl, hM, he⟩ := hrel
        by_cases hlq : q ≤ o
        · have hlow := bits_low q (by omega)
          obtain ⟨hdl, hll⟩ := low_lt q (by omega) (by omega)
          have hdif := bits_andNot q (by omega) (lowM q) hll
          have hlook := look207 hM.out (dif q (lowM q))
          have hS := hid (sumB_low F (show q < 128 by omega) n (by omega))
          obtain ⟨x, hx⟩ : ∃ x, Hid (sumB F (dif q (lowM q)) n = x) := ⟨_, hid rfl⟩
          have hx0 : (sumsM F n q (dif q (lowM q))).getD 0 = x := by unfold sumsM; rw [if_pos hdl, ← hx.out]; rfl
          rw [hx0] at hlook
          have hxb : -343000000 ≤ x ∧ x ≤ 343000000 := by
            have := sumB_bd hFb.out (by omega) (dif q (lowM q)) n
            rw [hx.out] at this
            have : (n : Int) * 49000000 ≤ 7 * 49000000 := by omega
            omega
          obtain ⟨w5, hput, hm5, hb5, hs5, -⟩ := put207 hM.out q x
          obtain ⟨low, hlow0⟩ : ∃ low, Hid (lowM q = low) := ⟨_, hid rfl⟩
          obtain ⟨d, hd0⟩ : ∃ d, Hid (dif q low = d) := ⟨_, hid rfl⟩
          rw [hlow0.out] at hlow hll hdif hlook hS hdl
          rw [hlow0.out] at hx
          rw [hd0.out] at hdif hlook hS hdl hx
          rw [hx.out] at hS
          have E5 : Hid (Ext w1 w5) := hid (Below.trans he (hb5 w1.heap.size hm7l.out))
          have HM5 := hid hm5
          clear hx0 hb5 hs5 hm5
          go_upto_region 16 with fail
          clear hput hlook
          obtain ⟨W0, rfl⟩ : ∃ W0 : World, W0 = wr := ⟨_, rfl⟩
          go_loopw [56] (fun i ws => ∃ j : Nat, j ≤ n ∧ i = .int .i64 (j : Int) ∧ Hid (MpI ws m7 (putM (sumsM F n q) q (x + lowTo F low j))) ∧ Ext w1 ws) (fun i _ => n - (intOf i).toNat)
          case atStart => exact ⟨0, Nat.zero_le _, rfl, hid (by simpa [lowTo] using HM5.out), E5.out⟩
          case round =>
            clear he hM
            obtain ⟨j, hj, rfl, hM, he⟩ := hrel
            by_cases hlj : j < n
            · have kc := (HA.out.ext he).cell hlj
              have kl := (HA.out.ext he).lt
              have hpe := pow_eq7 j (by omega) low hll
              have hL := hid (show lowTo F low (j + 1) = if low = 2 ^ j then lowTo F low j + F j else lowTo F low j from rfl)
              by_cases hp : low = 2 ^ j
              · rw [if_pos hp] at hL
                rw [decide_eq_true hp] at hpe
                clear hp
                have hlook := look207 hM.out q
                obtain ⟨y, hy⟩ : ∃ y, Hid (x + lowTo F low j = y) := ⟨_, hid rfl⟩
                have hyb : -700000000 ≤ y ∧ y ≤ 700000000 := by
                  have := lowTo_bd hFb.out (by omega) low j
                  have := hy.out
                  have : (j : Int) * 49000000 ≤ 7 * 49000000 := by omega
                  omega
                have hy0 : (putM (sumsM F n q) q (x + lowTo F low j) q).getD 0 = y := by unfold putM; rw [if_pos rfl, hy.out]; rfl
                rw [hy0] at hlook
                obtain ⟨z, hz⟩ : ∃ z, Hid (F j = z) := ⟨_, hid rfl⟩
                have hzb := hFb.out j
                rw [hz.out] at hzb kc
                obtain ⟨w6, hput, hm6, hb6, -, -⟩ := put207 hM.out q (y + z)
                have E6 : Hid (Ext w1 w6) := hid (Below.trans he (hb6 w1.heap.size hm7l.out))
                have HM6 := hid hm6
                clear hb6 hm6 hy0
                go_wp2_with fail
                go_roundw
                case rel =>
                  refine ⟨j + 1, by omega, by go_num, hid (HM6.out.congr fun t => ?_), E6.out⟩
                  rw [hL.out, ← hy.out, ← hz.out]
                  unfold putM
                  split
                  · rw [Int.add_assoc]
                  · rfl
                case measure => simp [intOf]; omega
              · rw [if_neg hp] at hL
                rw [decide_eq_false hp] at hpe
                clear hp
                go_wp2_with fail
                go_roundw
                case rel => exact ⟨j + 1, by omega, by go_num, by rw [hL.out]; exact hM, he⟩
                case measure => simp [intOf]; omega
            · have : j = n := by omega
              subst this
              go_wp2_with fail
              go_roundw
              case rel =>
                refine ⟨q + 1, by omega, by omega, by go_num, hid (hM.out.congr fun t => ?_), he⟩
                rw [← hS.out]
                unfold putM sumsM
                by_cases e : t = q
                · subst e; rw [if_pos rfl, if_pos (by omega)]
                · rw [if_neg e]
                  by_cases e2 : t < q
                  · rw [if_pos e2, if_pos (by omega)]
                  · rw [if_neg e2, if_neg (by omega)]
              case measure => simp [intOf]; omega
        · have HM7 : Hid (MpI wr m7 (sumsM F n (o + 1))) := hid (by rw [← show q = o + 1 by omega]; exact hM.out)
          have E7 := hid he
          clear hM he
          have hmk := mapNew wr
          obtain ⟨w3, hw3, hm3, hb3, hs3, hf3⟩ := put207 (MpI.new wr) 0 0
          have hw3 : (Instr.mapUpdate 207 (.map (some wr.heap.size)) (.int .i64 0) (.int .i64 0)).run Tryz.prog (wr.alloc (.map #[] 0)) = .ok () w3 := hw3
          have hmk2 := mapNew w3
          have hs3' : w3.heap.size = wr.heap.size + 1 := by rw [hs3]; simp
          obtain ⟨m12, h12⟩ : ∃ m12, Hid (m12 = wr.heap.size) := ⟨_, hid rfl⟩
          obtain ⟨m13, h13⟩ : ∃ m13, Hid (m13 = w3.heap.size) := ⟨_, hid rfl⟩
          rw [← h12.out] at hmk hw3 hm3
          rw [← h13.out] at hmk2
          have E3 : Hid (Ext wr w3) := hid (Below.trans ((Ext.refl wr).alloc (.map #[] 0)) (hb3 wr.heap.size (Nat.le_refl _)))
          have E4 : Hid (Ext wr (w3.alloc (.map #[] 0))) := hid (Ext.alloc E3.out (.map #[] 0))
          have hM12 := hid (hm3.ext ((Ext.refl w3).alloc (.map #[] 0)))
          have hM13 : Hid (MpI (w3.alloc (.map #[] 0)) m13 fun _ => none) := hid (by rw [h13.out]; exact MpI.new w3)
          have h1213 := hid (show m12 ≠ m13 by rw [h12.out, h13.out, hs3']; omega)
          have hl12 := hid (show wr.heap.size ≤ m12 by rw [h12.out]; exact Nat.le_refl _)
          have hl13 := hid (show wr.heap.size ≤ m13 by rw [h13.out, hs3']; omega)
          clear hm3 hb3 hs3 hs3' hf3
          go_upto_region 23 with fail
          obtain ⟨W0, rfl⟩ : ∃ W0 : World, W0 = wr := ⟨_, rfl⟩
          clear hw3 hmk hmk2
          go_loopw [14] (fun i wr => ∃ q : Nat, 1 ≤ q ∧ q ≤ o + 1 ∧ i = .int .i64 (q : Int) ∧ Hid (MpI wr m12 (outerM F n (q - 1)).b ∧ MpI wr m13 (outerM F n (q - 1)).p) ∧ Ext W0 wr) (fun i _ => o + 1 - (intOf i).toNat)
          case atStart => exact ⟨1, by omega, by omega, rfl, hid ⟨hM12.out, hM13.out⟩, E4.out⟩
          case round =>
            clear hM12 hM13
            obtain ⟨q, hq1, hq2, rfl, hM, he⟩ := hrel
            by_cases hlq : q ≤ o
            · obtain ⟨d, hd⟩ : ∃ d, Hid (dif q o = d) := ⟨_, hid rfl⟩
              have hdif := bits_andNot q (by omega) o ho128
              rw [hd.out] at hdif
              obtain ⟨y, hy⟩ : ∃ y, Hid (sumB F q n = y) := ⟨_, hid rfl⟩
              have hlook := look207 (HM7.out.ext he) q
              rw [show (sumsM F n (o + 1) q).getD 0 = y by unfold sumsM; rw [if_pos (by omega), hy.out]; rfl] at hlook
              obtain ⟨st0, hst0⟩ : ∃ st0, Hid (outerM F n (q - 1) = st0) := ⟨_, hid rfl⟩
              have hO := hid (show outerM F n (q + 1 - 1) = if d ≠ 0 ∨ y ≠ 0 then st0 else innerM F n q 128 q st0 by
                rw [← hd.out, ← hy.out, ← hst0.out, ← ho.out]
                obtain ⟨s, rfl⟩ : ∃ s, q = s + 1 := ⟨q - 1, by omega⟩
                rfl)
              have hG0 := hid (outerM_good F n (q - 1) (by omega))
              rw [hst0.out] at hM hG0
              by_cases h0 : d = 0
              · by_cases h1 : y = 0
                · rw [if_neg (by rintro (h | h); exact h h0; exact h h1)] at hO
                  have t1 : ((d : Int) != 0) = false := by simp [h0]
                  have t2 : (y != 0) = false := by simp [h1]
                  clear h0 h1
                  go_upto_region 27 with fail
                  obtain ⟨W1, rfl⟩ : ∃ W1 : World, W1 = wr := ⟨_, rfl⟩
                  have HE := hid he
                  clear he hlook hdif
                  go_loopw [15] (fun i ws => ∃ (k t : Nat) (st : StM), t < 128 ∧ i = .int .i64 (t : Int) ∧ Hid (innerM F n q 128 q st0 = innerM F n q k t st ∧ t ≤ k ∧ t &&& q = t ∧ GoodM F n st) ∧ Hid (MpI ws m12 st.b ∧ MpI ws m13 st.p) ∧ Ext W0 ws) (fun i _ => (intOf i).toNat)
                  case atStart => exact ⟨128, q, st0, by omega, rfl, hid ⟨rfl, by omega, Nat.and_self _, hG0.out⟩, hM, HE.out⟩
                  case round =>
                    clear hM
                    obtain ⟨k, t, st, ht, rfl, hI, hM, he⟩ := hrel
                    by_cases h0 : t = 0
                    · subst h0
                      go_wp2_with fail
                      go_roundw
                      case rel => exact ⟨q + 1, by omega, by omega, by go_num, by rw [hO.out, hI.out.1, innerM_zero]; exact hM, he⟩
                      case measure => simp [intOf]; omega
                    · obtain ⟨k, rfl⟩ : ∃ k', k = k' + 1 := ⟨k - 1, by have := hI.out.2.1; omega⟩
                      have hprev := bits_prev t ht h0 q (by omega)
                      obtain ⟨hn1, hn2⟩ := sub_next q (by omega) t ht h0
                      have htq : t ≤ q := by rw [← hI.out.2.2.1]; exact Nat.and_le_right
                      have hG' := hid (hI.out.2.2.2.tryS (sub := t) (by omega) (show q ≠ 0 by omega) hI.out.2.2.1 h0)
                      have hstep := hid (show innerM F n q (k + 1) t st = innerM F n q k ((t - 1) &&& q) (tryS F n q t st) by simp only [innerM]; rw [if_neg h0])
                      obtain ⟨t', ht'⟩ : ∃ t', Hid ((t - 1) &&& q = t') := ⟨_, hid rfl⟩
                      rw [ht'.out] at hprev hn1 hn2 hstep
                      obtain ⟨e, hee⟩ : ∃ e, Hid (dif q t = e) := ⟨_, hid rfl⟩
                      have hdif := bits_andNot q (by omega) t ht
                      rw [hee.out] at hdif
                      have ht0 : (0 : Int) < (t : Int) := by omega
                      have hlok := lookOk207 hM.out.1 e
                      have hHI := hid (show innerM F n q 128 q st0 = innerM F n q k t' (tryS F n q t st) ∧ t' ≤ k ∧ t' &&& q = t' ∧ GoodM F n (tryS F n q t st) from ⟨by rw [hI.out.1, hstep.out], by have := hI.out.2.1; omega, hn2, hG'.out⟩)
                      clear hn2 hstep hG'
                      cases hv : st.b e with
                      | none =>
                        have hTr : tryS F n q t st = st := by unfold YtbceepjjdfpfmaaGreat.tryS; rw [hee.out, hv]
                        rw [hTr] at hHI
                        rw [hv] at hlok
                        simp only [Option.getD_none, Option.isSome_none] at hlok
                        clear hTr hv h0
                        go_wp2_with fail
                        go_roundw
                        case rel => exact ⟨k, t', st, by omega, by go_num, hHI, hM, he⟩
                        case measure => simp [intOf]; omega
                      | some v =>
                        have hvb := hI.out.2.2.2.b e v hv
                        rw [hv] at hlok
                        simp only [Option.getD_some, Option.isSome_some] at hlok
                        obtain ⟨z, hz⟩ : ∃ z, Hid (sumB F t n = z) := ⟨_, hid rfl⟩
                        have hlook := look207 (HM7.out.ext he) t
                        rw [show (sumsM F n (o + 1) t).getD 0 = z by unfold sumsM; rw [if_pos (by omega), hz.out]; rfl] at hlook
                        by_cases hz0 : z = 0
                        · have tz : (z == 0) = true := by simpa using hz0
                          obtain ⟨x, hx⟩ : ∃ x, Hid ((st.b q).getD 0 = x) := ⟨_, hid rfl⟩
                          have hlook2 := look207 hM.out.1 q
                          rw [hx.out] at hlook2
                          have hxb : 0 ≤ x ∧ x ≤ 128 := by
                            rw [← hx.out]
                            cases hq : st.b q with
                            | none => simp
                            | some u => have := hI.out.2.2.2.b q u hq; simp only [Option.getD_some]; omega
                          by_cases hlt2 : x < v + 1
                          · have hTr : tryS F n q t st = ⟨putM st.b q (v + 1), putM st.p q (t : Int)⟩ := by unfold YtbceepjjdfpfmaaGreat.tryS; rw [hee.out, hv]; dsimp only; rw [if_pos ⟨by rw [hz.out, hz0], by rw [hx.out]; exact hlt2⟩]
                            rw [hTr] at hHI
                            obtain ⟨w5, hp5, hm5, hb5, -, hf5⟩ := put207 hM.out.1 q (v + 1)
                            obtain ⟨w6, hp6, hm6, hb6, -, hf6⟩ := put207 (hM.out.2.same (hf5 m13 fun e => h1213.out e.symm)) q (t : Int)
                            have E6 : Hid (Ext W0 w6) := hid (Below.trans (Below.trans he (hb5 _ hl12.out)) (hb6 _ hl13.out))
                            have HM6 : Hid (MpI w6 m12 (putM st.b q (v + 1)) ∧ MpI w6 m13 (putM st.p q (t : Int))) := hid ⟨hm5.same (hf6 m12 h1213.out), hm6⟩
                            clear hm5 hm6 hb5 hb6 hf5 hf6 hTr hv hz0 h0
                            go_wp2_with fail
                            go_roundw
                            case rel => exact ⟨k, t', _, by omega, by go_num, hHI, HM6, E6.out⟩
                            case measure => simp [intOf]; omega
                          · have hTr : tryS F n q t st = st := by unfold YtbceepjjdfpfmaaGreat.tryS; rw [hee.out, hv]; dsimp only; rw [if_neg (fun h => hlt2 (by rw [← hx.out]; exact h.2))]
                            rw [hTr] at hHI
                            clear hTr hv hz0 h0
                            go_wp2_with fail
                            go_roundw
                            case rel => exact ⟨k, t', st, by omega, by go_num, hHI, hM, he⟩
                            case measure => simp [intOf]; omega
                        · have tz : (z == 0) = false := by simpa using hz0
                          have hTr : tryS F n q t st = st := by unfold YtbceepjjdfpfmaaGreat.tryS; rw [hee.out, hv]; dsimp only; rw [if_neg (fun h => hz0 (by rw [← hz.out]; exact h.1))]
                          rw [hTr] at hHI
                          clear hTr hv hz0 h0
                          go_wp2_with fail
                          go_roundw
                          case rel => exact ⟨k, t', st, by omega, by go_num, hHI, hM, he⟩
                          case measure => simp [intOf]; omega
                · rw [if_pos (.inr h1)] at hO
                  have t1 : ((d : Int) != 0) = false := by simp [h0]
                  have t2 : (y != 0) = true := by simpa using h1
                  clear h0 h1
                  go_wp2_with fail
                  go_roundw
                  case rel => exact ⟨q + 1, by omega, by omega, by go_num, by rw [hO.out]; exact hM, he⟩
                  case measure => simp [intOf]; omega
              · rw [if_pos (.inl h0)] at hO
                have t1 : ((d : Int) != 0) = true := by simpa using h0
                clear h0
                go_wp2_with fail
                go_roundw
                case rel => exact ⟨q + 1, by omega, by omega, by go_num, by rw [hO.out]; exact hM, he⟩
                case measure => simp [intOf]; omega
            · rw [show q - 1 = o by omega] at hM
              obtain ⟨st, hst⟩ : ∃ st, Hid (outerM F n o = st) := ⟨_, hid rfl⟩
              have hG := hid (outerM_good F n o ho128)
              have hop := hid (outerM_open (f := F) (n := n) (by omega) hFt.out)
              rw [ho.out] at hop
              have hgr := hid (show groupsM F n = grpM st.p 128 o by unfold groupsM; rw [ho.out, hst.out])
              rw [hst.out] at hM hG hop
              have hgok := hid (grpM_ok hG.out 128 o (by omega) ho128 hop.out)
              have hM13 := hid hM.out.2
              have HE := hid he
              clear hM he
              go_upto_region 34 with fail
              obtain ⟨W3, rfl⟩ : ∃ W3 : World, W3 = wr := ⟨_, rfl⟩
              go_loopw [18, 19] (fun a i ws => ∃ (k t : Nat) (L : List Nat) (V : List Value), t < 128 ∧ i = .int .i64 (t : Int) ∧ Hid (groupsM F n = L ++ grpM st.p k t ∧ t ≤ k ∧ ∃ v, st.b t = some v) ∧ Hid (GrS ws W3.heap.size a V L) ∧ Ext W3 ws) (fun _ i _ => (intOf i).toNat)
              case atStart => exact ⟨128, o, [], [], ho128, rfl, hid ⟨hgr.out, by omega, hop.out⟩, hid ⟨OwnV.nil, rfl, fun i hi => absurd hi (by simp)⟩, Ext.refl _⟩
              case round =>
                obtain ⟨k, t, L, V, ht, rfl, hI, hS, he⟩ := hrel
                by_cases h0 : t = 0
                · subst h0
                  have hLe := hid (show groupsM F n = L by rw [hI.out.1, grpM_zero, List.append_nil])
                  have hso := hid (sort_grp hS.out he (Nat.le_refl _) (fun s hs => hgok.out.1 s (by rw [← hgr.out, hLe.out]; exact hs)) (by
                    have h1 := hgok.out.2
                    rw [← hgr.out, hLe.out] at h1
                    have h2 := places_seven o ho128
                    omega))
                  go_wp2_with (go_at_call 177; refine hso.out.mono ?_; rintro e w9 ⟨rfl, he9, hx9⟩)
                  go_ret
                  rw [hLe.out]
                  obtain ⟨L', x1, x2, x3⟩ := hx9
                  exact ⟨_, rfl, E1.out.trans (E7.out.trans (HE.out.trans he9)), L', x1, x2, x3.base (E1.out.trans (E7.out.trans HE.out)).size⟩
                · obtain ⟨k, rfl⟩ : ∃ k', k = k' + 1 := ⟨k - 1, by have := hI.out.2.1; omega⟩
                  obtain ⟨v, hv⟩ := hI.out.2.2
                  obtain ⟨q, p1, p2, p3, p4⟩ := hG.out.p t v h0 hv
                  have hqt : q ≤ t := by rw [← p3]; exact Nat.and_le_right
                  have hdt := (sub_facts t ht q (by omega) p3 p2).1
                  have hstep := hid (show grpM st.p (k + 1) t = q :: grpM st.p k (dif t q) by simp only [grpM]; rw [if_neg h0, p1]; rfl)
                  obtain ⟨d, hd⟩ : ∃ d, Hid (dif t q = d) := ⟨_, hid rfl⟩
                  have hdif := bits_andNot t ht q (by omega)
                  rw [hd.out] at hdif hdt hstep p4
                  have hlook := look207 (hM13.out.ext he) t
                  rw [p1] at hlook
                  simp only [Option.getD_some] at hlook
                  have hI' := hid (show groupsM F n = (L ++ [q]) ++ grpM st.p k d ∧ d ≤ k ∧ ∃ v, st.b d = some v from ⟨by rw [hI.out.1, hstep.out, List.append_assoc]; rfl, by have := hI.out.2.1; omega, p4⟩)
                  have hpl := places_some q (by omega) p2
                  have ht0 : (0 : Int) < (t : Int) := by omega
                  have hVl := hid (show V.length ≤ 7 by
                    have h1 := hgok.out.2
                    rw [← hgr.out, hI.out.1, List.length_append] at h1
                    have h2 := places_seven o ho128
                    have h3 := hS.out.ll
                    omega)
                  have hWs := he.size
                  have P1 := hid p1
                  clear hstep p1 p3 p4 hv
                  go_wp2_with (first | (go_at_call 176; refine (list176 q (by omega) _).mono ?_; rintro e w4 ⟨u, rfl, he4, ho4⟩; obtain ⟨b, cap4, rfl, hb4, ha4, hcp4⟩ := list_arr ho4 hpl.1; have HA4 := hid ha4; have HS4 := hid (hS.out.ext he4); have hW4 := he4.size; clear ha4 ho4) | (at_builtin; refine wpList_append_val rfl _ _ 39 rfl el39g rfl (HS4.out.o.ext (Ext.alloc (Ext.refl _) _)) _ 1 1 [.slice (some ⟨b, 0, none⟩) (places q).length cap4] rfl rfl (by simp [Value.oneCell']) (by intro j; simp) (by have := hVl.out; omega) (by simp; omega) ?_; intro v' w8 hv8 hg8; have E8 := hid (((he.trans he4).alloc (.cells #[.slice (some ⟨b, 0, none⟩) (places q).length cap4] 22)).grown hg8 (fun q hq => HS4.out.o.block hq)); have hlook8 := look_some (hM13.out.ext E8.out) P1.out; have HS8 := hid ((HS4.out.ext (Ext.alloc (Ext.refl _) (.cells #[.slice (some ⟨b, 0, none⟩) (places q).length cap4] 22))).app hcp4 (by omega) (HA4.out.ext (Ext.alloc (Ext.refl _) _)) hv8 hg8)))
                  go_roundw
                  case rel => exact ⟨k, d, _, _, by omega, by go_num, hI', HS8, E8.out⟩
                  case measure => simp [intOf]; omega
end Go.Proofs.YtbceepjjdfpfmaaGreat
