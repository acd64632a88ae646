/- Walk of Settle (58) and Fewest (59). -/
import Derived.Test.YtbceepjjdfpfmaaGreatGrpC
import Derived.Test.YtbceepjjdfpfmaaGreatSetM
import Derived.Test.YtbceepjjdfpfmaaGreatBook
import Derived.Test.YtbceepjjdfpfmaaGreatLawA
namespace Go.Proofs.YtbceepjjdfpfmaaGreat
open Go.RowKit HandSpec
set_option maxHeartbeats 2000000
set_option maxRecDepth 100000
theorem mem_getD0 {l : List Nat} {j : Nat} (h : j < l.length) : l.getD j 0 ∈ l := by
  rw [List.getD_eq_getElem?_getD, List.getElem?_eq_getElem h]
  exact List.getElem_mem _
theorem settle58 {w : World} {A : Option Addr} {n cap : Nat} {m : Nat → Nat} {g : Nat → Nat → Int} (hr : RdN w A n m g) (hn : n ≤ 1000) (hm : ∀ k, k < n → m k ≤ 1000) :
    Calls Tryz.prog 58 #[.slice A n cap] w (fun e w' => ∃ u, e = .returned (.tuple #[u, .int .i64 (chkD n m g)]) ∧ Ext w w' ∧ (chkD n m g ≠ 0 → u = .slice none 0 0) ∧ (chkD n m g = 0 → ∃ L', L'.Perm (groupsM (netTo g n n) n) ∧ SortedS L' ∧ OwnR w' w.heap.size 64 3 u (settleM L' (netTo g n n)).l)) := by
  have HR := hid hr
  have HM := hid hm
  clear hr hm
  obtain ⟨s, hs⟩ : ∃ s, Hid (chkD n m g = s) := ⟨_, hid rfl⟩
  rw [hs.out]
  by_cases h0 : s = 0
  · subst h0
    obtain ⟨hd, hsq⟩ := chkD_zero hs.out
    have hR := HR.out.congr (m' := fun _ => n) (g' := g) fun k hk => ⟨hsq k hk, fun _ _ => rfl⟩
    have HR2 := hid hR
    have HD := hid hd
    clear hR hd hsq
    go_enter Tryz.func58, Tryz.ntmps58
    go_upto_region 7 with (first | (go_at_call 33; refine (checkDebts33 HR.out hn HM.out).mono ?_; rintro e w1 ⟨rfl, he1⟩; rw [hs.out]; have E1 := hid he1; clear he1) | (go_at_call 108; refine (net108 (HR2.out.ext E1.out) HD.out).mono ?_; rintro e w2 ⟨G, rfl, he2, hG, hA⟩; have HA := hid hA; have E2 := hid (E1.out.trans he2); have hGw := hid hG; have he12 := hid (E1.out.size); clear hA hG he2) | (go_at_call 140; refine (groups140 (HR2.out.ext E2.out) HD.out).mono ?_; rintro e w3 ⟨u, rfl, he3, L, hp, hso, hF⟩; obtain ⟨Au, cu, D, C, rfl, hC, hF⟩ := hF; have HF := hid hF; have HC := hid hC; have HP := hid hp; have HS := hid hso; have E3 := hid he3; clear hF hC hp hso he3))
    obtain ⟨W2, rfl⟩ : ∃ W : World, W = w3 := ⟨_, rfl⟩
    have hG2 : G < w2.heap.size := HA.out.lt
    have h23 := E3.out.size
    have hgo := groups_ok (n := n) (by have := HD.out.hn; omega) (totTo_net g n n (Nat.le_refl _)) HP.out
    have hL7 := hid hgo.1
    have hLp := hid hgo.2.1
    have hLl := hgo.2.2
    clear hgo
    have HW := hid (show ∀ wr : World, Ch (fun b => b = G) W2 wr → ∀ b, w2.heap.size ≤ b → b < W2.heap.size → wr.heap[b]? = W2.heap[b]? from fun wr hc b h1 h2 => hc.block b h2 (by omega))
    have hB0 : Hid (BdS 49000000 0 ⟨netTo g n n, []⟩) := hid ⟨fun i => by
      have h1 := netTo_bd HD.out.hd (by have := HD.out.hn; omega) n (Nat.le_refl _) i
      have h2 := HD.out.hn
      dsimp only
      omega, Nat.le_refl _⟩
    have hBd := hid (fun k hk => BdS.set_ hL7.out hB0.out k hk)
    obtain ⟨s0, hs0⟩ : ∃ s0 : SS, Hid (s0 = ⟨netTo g n n, []⟩) := ⟨_, hid rfl⟩
    rw [← hs0.out] at hBd
    have hE := hid (show settleM L (netTo g n n) = setM L s0 L.length by rw [hs0.out]; rfl)
    have hA0 : Hid (ArrB W2 G 3 n (setM L s0 0).f) := hid (by rw [hs0.out]; exact HA.out.ext E3.out)
    go_loopw [6, 25] (fun o i wr => ∃ k : Nat, k ≤ L.length ∧ i = .int .i64 (k : Int) ∧ Hid (OwnR wr W2.heap.size 64 3 o (setM L s0 k).l ∧ ArrB wr G 3 n (setM L s0 k).f ∧ Ch (fun b => b = G) W2 wr ∧ Ext w wr)) (fun _ i _ => L.length - (intOf i).toNat)
    case atStart => exact ⟨0, Nat.zero_le _, rfl, hid ⟨by rw [hs0.out]; exact OwnR.nil, hA0.out, Ch.refl _ _, E2.out.trans E3.out⟩⟩
    case round =>
      obtain ⟨k, hk, rfl, HI⟩ := hrel
      by_cases hlt : k < L.length
      · obtain ⟨v1, v2⟩ := HF.out wr (HW.out wr HI.out.2.2.1)
        obtain ⟨b, o, rfl, hb, hc⟩ := v1.at_ hlt
        have hm7 := places_seven' L hL7.out hlt
        have hCk := HC.out k hlt
        have hbd0 := hBd.out k (by omega)
        have hstp := hid (show setM L s0 (k + 1) = outM (fun j => (places (L.getD k 0)).getD j 0) (places (L.getD k 0)).length (places (L.getD k 0)).length (setM L s0 k) from rfl)
        have HR1 := hid (fun wx hx => (HF.out wx (HW.out wx hx)).2 k hlt)
        have hpl : Hid (∀ j, j < (places (L.getD k 0)).length → (places (L.getD k 0)).getD j 0 < n) := hid fun j hj => hLp.out (L.getD k 0) (mem_getD0 hlt) _ (mem_getD0 hj)
        obtain ⟨M, hM⟩ : ∃ M, Hid (M = (places (L.getD k 0)).length) := ⟨_, hid rfl⟩
        obtain ⟨l, hl⟩ : ∃ l : Nat → Nat, Hid (l = fun j => (places (L.getD k 0)).getD j 0) := ⟨_, hid rfl⟩
        rw [← hM.out] at hc hm7 hCk hstp hpl
        have HR1' : Hid (∀ wx : World, Ch (fun b => b = G) W2 wx → Rd wx (D k) M 1 (fun j _ => (l j : Nat))) := hid fun wx hx => by rw [hM.out, hl.out]; exact HR1.out wx hx
        have hpl' : Hid (∀ j, j < M → l j < n) := hid fun j hj => by rw [hl.out]; exact hpl.out j hj
        rw [← hl.out] at hstp
        obtain ⟨s1, hs1⟩ : ∃ s1, Hid (setM L s0 k = s1) := ⟨_, hid rfl⟩
        rw [hs1.out] at HI hbd0 hstp
        have hn7 := HD.out.hn
        go_upto_region 10 with fail
        clear hb hc HR1 hpl v1 v2 hM hl hs1
        have hBd1 := hid (fun i hi => hbd0.out_ l hm7 i hi)
        go_loopw [6, 31] (fun o i wr => ∃ q : Nat, q ≤ M ∧ i = .int .i64 (q : Int) ∧ Hid (OwnR wr W2.heap.size 64 3 o (outM l M q s1).l ∧ ArrB wr G 3 n (outM l M q s1).f ∧ Ch (fun b => b = G) W2 wr ∧ Ext w wr)) (fun _ i _ => M - (intOf i).toNat)
        case atStart => exact ⟨0, Nat.zero_le _, rfl, HI⟩
        case round =>
          obtain ⟨i, hi, rfl, HI⟩ := hrel
          by_cases hli : i < M
          · obtain ⟨b, o, hDk, hb, hc⟩ := (HR1'.out wr HI.out.2.2.1).at1 hli
            have hla := hpl'.out i hli
            obtain ⟨a, ha⟩ : ∃ a, Hid (l i = a) := ⟨_, hid rfl⟩
            have hbd1 := hBd1.out i hi
            have hst2 := hid (show outM l M (i + 1) s1 = inM l i (M - (i + 1)) (outM l M i s1) from rfl)
            obtain ⟨s2, hs2⟩ : ∃ s2, Hid (outM l M i s1 = s2) := ⟨_, hid rfl⟩
            rw [hs2.out] at HI hbd1 hst2
            rw [ha.out] at hc hla
            have HR2' : Hid (∀ wx : World, Ch (fun b => b = G) W2 wx → ∀ j, j < M → b < wx.heap.size ∧ wx.cell? ⟨b, o + j, none⟩ = some (.int .i64 (l j : Nat))) := hid fun wx hx j hj => by
              obtain ⟨b', o', e, h1, h2⟩ := (HR1'.out wx hx).at1 hj
              rw [hDk] at e
              cases e
              exact ⟨h1, h2⟩
            rw [hDk]
            clear hDk hs2
            by_cases hq : C k = i + 1
            · have hMi : M = i + 1 := by omega
              subst hMi
              rw [hq]
              rw [show i + 1 - (i + 1) = 0 by omega] at hst2
              go_upto_region 13 with fail
              go_loopw [6, 41] (fun o i wr => i = .int .i64 (0 : Int) ∧ Hid (OwnR wr W2.heap.size 64 3 o s2.l ∧ ArrB wr G 3 n s2.f ∧ Ch (fun b => b = G) W2 wr ∧ Ext w wr)) (fun _ i _ => 0)
              case atStart => exact ⟨rfl, HI⟩
              case round =>
                obtain ⟨rfl, HI⟩ := hrel
                go_wp2_with fail
                go_roundw
                case rel => exact ⟨i + 1, by omega, by go_num, by rw [hst2.out]; exact HI⟩
                case measure => simp [intOf] <;> omega
            · go_upto_region 13 with fail
              obtain ⟨J, hJ⟩ : ∃ J, Hid (J = M - (i + 1)) := ⟨_, hid rfl⟩
              rw [← hJ.out] at hst2 ⊢
              have hBd2 := hid (fun j => hbd1.in_ l i j)
              have hJ7 : J ≤ 7 := by have := hJ.out; omega
              go_loopw [6, 41] (fun o i' wr => ∃ j : Nat, j ≤ J ∧ i' = .int .i64 (j : Int) ∧ Hid (OwnR wr W2.heap.size 64 3 o (inM l i j s2).l ∧ ArrB wr G 3 n (inM l i j s2).f ∧ Ch (fun b => b = G) W2 wr ∧ Ext w wr)) (fun _ i' _ => J - (intOf i').toNat)
              case atStart => exact ⟨0, Nat.zero_le _, rfl, HI⟩
              case round =>
                clear HI
                obtain ⟨j, hj, rfl, HI⟩ := hrel
                by_cases hlj : j < J
                · obtain ⟨hb1, hc1⟩ := HR2'.out wr HI.out.2.2.1 (i + 1 + j) (by have := hJ.out; omega)
                  rw [show o + (i + 1 + j) = o + (i + 1) + j by omega] at hc1
                  have hlc := hpl'.out (i + 1 + j) (by have := hJ.out; omega)
                  obtain ⟨c, hc'⟩ : ∃ c, Hid (l (i + 1 + j) = c) := ⟨_, hid rfl⟩
                  have hbd2 := hBd2.out j
                  have hst3 := hid (show inM l i (j + 1) s2 = payM (l i) (l (i + 1 + j)) (inM l i j s2) from rfl)
                  rw [ha.out, hc'.out] at hst3
                  obtain ⟨s3, hs3⟩ : ∃ s3, Hid (inM l i j s2 = s3) := ⟨_, hid rfl⟩
                  rw [hs3.out] at HI hbd2 hst3
                  rw [hc'.out] at hc1 hlc
                  have ca := HI.out.2.1.cell hla
                  have cc := HI.out.2.1.cell hlc
                  have Gl := HI.out.2.1.lt
                  obtain ⟨x, hx⟩ : ∃ x, Hid (s3.f a = x) := ⟨_, hid rfl⟩
                  obtain ⟨y, hy⟩ : ∃ y, Hid (s3.f c = y) := ⟨_, hid rfl⟩
                  have hxb := hbd2.1 a
                  have hyb := hbd2.1 c
                  rw [hx.out] at ca hxb
                  rw [hy.out] at cc hyb
                  clear hc hb
                  go_upto_region 15 with fail
                  clear hc1 hb1
                  obtain ⟨xm, hxm⟩ : ∃ xm, Hid (xm = max x (-x)) := ⟨_, hid rfl⟩
                  obtain ⟨ym, hym⟩ : ∃ ym, Hid (ym = max y (-y)) := ⟨_, hid rfl⟩
                  have ex : (if x < -x then -x else x) = xm := by rw [hxm.out]; split <;> omega
                  have ey : (if y < -y then -y else y) = ym := by rw [hym.out]; split <;> omega
                  obtain ⟨z, hz⟩ : ∃ z, Hid (z = min xm ym) := ⟨_, hid rfl⟩
                  refine wp_region_mono 22 [(20, S1 ym), (21, fun v _ _ _ => v = .int .i64 z)] (by kernel_rfl) (by kernel_rfl) (by kernel_rfl) ?hS ?_
                  case hS =>
                    simp only [List.forall_mem_cons]
                    exact ⟨fun _ _ _ _ _ e h => S1.ext h e, fun _ _ _ _ _ _ h => h, fun _ h => by simp at h⟩
                  simp only [List.take_succ_cons, List.take_zero, List.drop_succ_cons, List.drop_zero]
                  iterate 20
                    refine wpM_plain rfl ?_
                    go_big_quiet_step (fail)
                    refine wpQuiet_nil ?_
                  clear ex ey
                  refine wpM_spec _ rfl rfl (fun w4 hw4 _ => ?_) (fun va la ha' ga1 ga2 hF15 hva => ?_)
                  · go_wp2
                    exact ⟨_, w4.heap.size, w4.heap.size + 1, rfl, (Ext.refl _).alloc _, Nat.le_refl _, by omega, by simp, _, rfl, Blk.new _ _ _⟩
                  obtain ⟨_, gs, rfl, -⟩ := hva
                  simp only [Act.put, List.setIfInBounds_toArray, List.set_cons_succ, List.set_cons_zero]
                  refine wpM_spec _ rfl rfl (fun w4 hw4 hF => ?_) (fun va lb hb' ga3 ga4 _ hva => ?_)
                  · simp only [List.forall_mem_cons] at hF
                    obtain ⟨-, g2, hq2, hb2⟩ := hF.1 (by kernel_rfl)
                    obtain rfl : gs = g2 := by simpa using hq2
                    go_wp2_with (go_at_call 141; refine (least_one _ hb2).mono ?_; rintro e w5 ⟨rfl, rfl⟩; rw [← hz.out])
                    exact ⟨_, w4.heap.size, w4.heap.size, rfl, Ext.refl _, Nat.le_refl _, Nat.le_refl _, Nat.le_refl _, rfl⟩
                  obtain ⟨_, rfl⟩ := hva
                  simp only [Act.put, List.setIfInBounds_toArray, List.set_cons_succ, List.set_cons_zero]
                  refine wpM_nil fun w6 hw6 _ => ?_
                  have I6 := hid (show OwnR w6 W2.heap.size 64 3 _ s3.l ∧ ArrB w6 G 3 n s3.f ∧ Ch (fun b => b = G) W2 w6 ∧ Ext w w6 from ⟨HI.out.1.ext hw6, HI.out.2.1.ext hw6, HI.out.2.2.1.step (Ch.ofExt hw6) (fun _ _ h => h.elim), HI.out.2.2.2.trans hw6⟩)
                  have ca := I6.out.2.1.cell hla
                  have cc := I6.out.2.1.cell hlc
                  have Gl := I6.out.2.1.lt
                  rw [hx.out] at ca
                  rw [hy.out] at cc
                  clear hw6 HI
                  go_upto_region 16 with fail
                  have hamt := hid (show amtM s3.f a c = z by unfold amtM; rw [hx.out, hy.out, hz.out, hxm.out, hym.out])
                  have hzb : 0 ≤ z ∧ z ≤ 49000000 := by rw [hz.out, hxm.out, hym.out]; omega
                  have hpay := hid (show payM a c s3 = if z = 0 ∨ decide (0 < x) = decide (0 < y) then s3 else if 0 < x then ⟨upd (upd s3.f c (y + z)) a (upd s3.f c (y + z) a - z), s3.l ++ [[(c : Int), (a : Int), z]]⟩ else ⟨upd (upd s3.f a (x + z)) c (upd s3.f a (x + z) c - z), s3.l ++ [[(a : Int), (c : Int), z]]⟩ by unfold payM; rw [hamt.out, hx.out, hy.out])
                  by_cases hx0 : 0 < x
                  · have tx : decide (0 < x) = true := by simpa using hx0
                    go_upto_region 19 with fail
                    refine wp_later fun w7 hw7 => ?_
                    have BX : Hid (Blk w7 w6.heap.size 64 #[.int .i64 (c : Nat), .int .i64 (a : Nat), .int .i64 z]) := by
                      have h0 := Blk.new w6 64 #[.int .i64 (c : Nat), .int .i64 (a : Nat), .int .i64 z]
                      exact hid (h0.ext hw7)
                    have e67 : Ext w6 w7 := ((Ext.refl w6).alloc _).trans hw7
                    have I7 := hid (show OwnR w7 W2.heap.size 64 3 _ s3.l ∧ ArrB w7 G 3 n s3.f ∧ Ch (fun b => b = G) W2 w7 ∧ Ext w w7 from ⟨I6.out.1.ext e67, I6.out.2.1.ext e67, I6.out.2.2.1.step (Ch.ofExt e67) (fun _ _ h => h.elim), I6.out.2.2.2.trans e67⟩)
                    have hz67 := e67.size
                    have hPG : w6.heap.size ≠ G := by have := I6.out.2.1.lt; omega
                    have hPl : W2.heap.size ≤ w6.heap.size := I6.out.2.2.1.size
                    have hPn : Hid (∀ g, u6.ownBlock = some g → g ≠ w6.heap.size) := hid fun g hg => by have := I6.out.1.lt hg; omega
                    clear hw7 e67 I6 ca cc Gl
                    have ca := I7.out.2.1.cell hla
                    have cc := I7.out.2.1.cell hlc
                    have Gl := I7.out.2.1.lt
                    rw [hx.out] at ca
                    rw [hy.out] at cc
                    have bx := BX.out.cell
                    have bxl := BX.out.lt
                    by_cases hz0 : z = 0
                    · have hs4 := hid (show payM a c s3 = s3 by rw [hpay.out, if_pos (.inl hz0)])
                      have tz : (z == 0) = true := by simpa using hz0
                      clear hz0
                      refine wp_region_later (by kernel_rfl) (by kernel_rfl) ?_
                      repeat (go_big_quiet_step (fail))
                      refine wpQuiet_nil ?_
                      rintro w8 ⟨⟨_, he8⟩, rfl⟩
                      have I8 := hid (show OwnR w8 W2.heap.size 64 3 _ s3.l ∧ ArrB w8 G 3 n s3.f ∧ Ch (fun b => b = G) W2 w8 ∧ Ext w w8 from ⟨I7.out.1.ext he8, I7.out.2.1.ext he8, I7.out.2.2.1.step (Ch.ofExt he8) (fun _ _ h => h.elim), I7.out.2.2.2.trans he8⟩)
                      go_wp2_with fail
                      go_roundw
                      case rel => exact ⟨j + 1, by omega, by go_num, by rw [hst3.out, hs4.out]; exact I8⟩
                      case measure => simp [intOf]; omega
                    · have tz : (z == 0) = false := by simpa using hz0
                      by_cases hy0 : 0 < y
                      · have hy1 : decide (0 < y) = true := by simpa using hy0
                        have hs4 := hid (show payM a c s3 = s3 by rw [hpay.out, if_pos (.inr (by rw [tx, hy1]))])
                        clear hz0
                        refine wp_region_later (by kernel_rfl) (by kernel_rfl) ?_
                        repeat (go_big_quiet_step (fail))
                        refine wpQuiet_nil ?_
                        rintro w8 ⟨⟨_, he8⟩, rfl⟩
                        have I8 := hid (show OwnR w8 W2.heap.size 64 3 _ s3.l ∧ ArrB w8 G 3 n s3.f ∧ Ch (fun b => b = G) W2 w8 ∧ Ext w w8 from ⟨I7.out.1.ext he8, I7.out.2.1.ext he8, I7.out.2.2.1.step (Ch.ofExt he8) (fun _ _ h => h.elim), I7.out.2.2.2.trans he8⟩)
                        go_wp2_with fail
                        go_roundw
                        case rel => exact ⟨j + 1, by omega, by go_num, by rw [hst3.out, hs4.out]; exact I8⟩
                        case measure => simp [intOf]; omega
                      · have hy1 : decide (0 < y) = false := by simpa using hy0
                        have hs4 := hid (show payM a c s3 = ⟨upd (upd s3.f c (y + z)) a (upd s3.f c (y + z) a - z), s3.l ++ [[(c : Int), (a : Int), z]]⟩ by rw [hpay.out, if_neg (fun h => h.elim hz0 (by rw [tx, hy1]; decide)), if_pos hx0])
                        clear hz0
                        have hll := hbd2.2
                        refine wp_region_later (by kernel_rfl) (by kernel_rfl) ?_
                        repeat (go_big_quiet_step (fail))
                        refine wpQuiet_nil ?_
                        rintro w8 ⟨⟨_, he8⟩, rfl⟩
                        have I8 := hid (show OwnR w8 W2.heap.size 64 3 _ s3.l ∧ ArrB w8 G 3 n s3.f ∧ Ch (fun b => b = G) W2 w8 ∧ Ext w w8 from ⟨I7.out.1.ext he8, I7.out.2.1.ext he8, I7.out.2.2.1.step (Ch.ofExt he8) (fun _ _ h => h.elim), I7.out.2.2.2.trans he8⟩)
                        have B8 := hid (BX.out.ext he8)
                        clear bx bxl ca cc Gl I7 he8
                        have bx := B8.out.cell
                        have bxl := B8.out.lt
                        have hz8 : W2.heap.size ≤ w8.heap.size := I8.out.2.2.1.size
                        have X8 := hid (show w.heap.size ≤ W2.heap.size from (E2.out.trans E3.out).size)
                        have hne : c ≠ a := fun e => by
                          have : x = y := by rw [← hx.out, ← hy.out, e]
                          omega
                        have hs5 := hid (show payM a c s3 = ⟨upd (upd s3.f c (y + z)) a (x - z), s3.l ++ [[(c : Int), (a : Int), z]]⟩ by rw [hs4.out, upd_other _ _ (fun e => hne e.symm), hx.out])
                        have F8 := hid (show ∀ g, u6.ownBlock = some g → W2.heap.size ≤ g from fun g hg => I8.out.1.block hg)
                        have e8 : Ext w8 (w8.alloc (.cells #[.int .i64 (c : Nat), .int .i64 (a : Nat), .int .i64 z] 64)) := (Ext.refl _).alloc _
                        go_upto_region 21 with (at_builtin; refine wpList_append_rows rfl _ _ 25 rfl el25 rfl (I8.out.1.ext (Ext.alloc (Ext.refl _) _)) _ 1 1 [[(c : Int), (a : Int), z]] rfl rfl (by simp) (by intro j; simp [cellsOf]) (by omega) (by simp; omega) ?_; intro v9 w9 hown9 hg9)
                        have O9 := hid hown9
                        have A9 := hid ((I8.out.2.1.ext e8).same (hg9.block G (Nat.lt_of_lt_of_le I8.out.2.1.lt e8.size) (fun e => by have := F8.out G e.symm; omega)))
                        have B9 := (B8.out.ext e8).grown hg9 (fun e => hPn.out _ e.symm rfl)
                        have C9 := hid ((I8.out.2.2.1.step (Ch.ofExt e8) (T := fun b => b = G) (fun _ _ h => h.elim)).step (Ch.ofGrown hg9) (T := fun b => b = G) (fun b hb h => absurd (F8.out b h.symm) (by omega)))
                        have X9 := hid ((I8.out.2.2.2.trans e8).grown hg9 fun g hg => by have := F8.out g hg; have := X8.out; omega)
                        clear hown9 hg9 e8 bx bxl
                        have cp := A9.out.cell hlc
                        rw [hy.out] at cp
                        have fp := A9.out.frozen c
                        have Gl := A9.out.lt
                        have bx := B9.cell
                        have bxl := B9.lt
                        go_upto_region 22 with fail
                        have A10 := hid (A9.out.set_ c (y + z))
                        have B10 := B9.far (p := ⟨G, c, none⟩) hPG (.int .i64 (y + z))
                        have C10 := hid (C9.out.step (Ch.ofSet w9 G c (.int .i64 (y + z))) (T := fun b => b = G) (fun _ _ h => h))
                        have X10 := hid (X9.out.setCell (p := ⟨G, c, none⟩) (.int .i64 (y + z)) (by have := X8.out; have := hGw.out; have := he12.out; show w.heap.size ≤ G; omega))
                        have O10 := hid (O9.out.far' (p := ⟨G, c, none⟩) (show G < W2.heap.size by omega) (.int .i64 (y + z)))
                        clear cp fp bx bxl B9
                        obtain ⟨w10, hw10⟩ : ∃ W, Hid (W = w9.setCell ⟨G, c, none⟩ (.int .i64 (y + z))) := ⟨_, hid rfl⟩
                        rw [← hw10.out] at A10 B10 C10 X10 O10 ⊢
                        have cq := A10.out.cell hla
                        rw [upd_other _ _ (fun e => hne e.symm), hx.out] at cq
                        have fq := A10.out.frozen a
                        have Gl := A10.out.lt
                        have bx := B10.cell
                        have bxl := B10.lt
                        go_wp2_with fail
                        go_roundw
                        case rel => exact ⟨j + 1, by omega, by go_num, by rw [hst3.out, hs5.out]; exact hid ⟨O10.out.far' (p := ⟨G, a, none⟩) (show G < W2.heap.size by omega) _, A10.out.set_ a (x - z), C10.out.step (Ch.ofSet _ _ _ _) (T := fun b => b = G) (fun _ _ h => h), X10.out.setCell (p := ⟨G, a, none⟩) _ (by have := hGw.out; have := he12.out; show w.heap.size ≤ G; omega)⟩⟩
                        case measure => simp [intOf]; omega
                  · have tx : decide (0 < x) = false := by simpa using hx0
                    go_upto_region 19 with fail
                    refine wp_later fun w7 hw7 => ?_
                    have BX : Hid (Blk w7 w6.heap.size 64 #[.int .i64 (a : Nat), .int .i64 (c : Nat), .int .i64 z]) := by
                      have h0 := Blk.new w6 64 #[.int .i64 (a : Nat), .int .i64 (c : Nat), .int .i64 z]
                      exact hid (h0.ext hw7)
                    have e67 : Ext w6 w7 := ((Ext.refl w6).alloc _).trans hw7
                    have I7 := hid (show OwnR w7 W2.heap.size 64 3 _ s3.l ∧ ArrB w7 G 3 n s3.f ∧ Ch (fun b => b = G) W2 w7 ∧ Ext w w7 from ⟨I6.out.1.ext e67, I6.out.2.1.ext e67, I6.out.2.2.1.step (Ch.ofExt e67) (fun _ _ h => h.elim), I6.out.2.2.2.trans e67⟩)
                    have hz67 := e67.size
                    have hPG : w6.heap.size ≠ G := by have := I6.out.2.1.lt; omega
                    have hPl : W2.heap.size ≤ w6.heap.size := I6.out.2.2.1.size
                    have hPn : Hid (∀ g, u6.ownBlock = some g → g ≠ w6.heap.size) := hid fun g hg => by have := I6.out.1.lt hg; omega
                    clear hw7 e67 I6 ca cc Gl
                    have ca := I7.out.2.1.cell hla
                    have cc := I7.out.2.1.cell hlc
                    have Gl := I7.out.2.1.lt
                    rw [hx.out] at ca
                    rw [hy.out] at cc
                    have bx := BX.out.cell
                    have bxl := BX.out.lt
                    by_cases hz0 : z = 0
                    · have hs4 := hid (show payM a c s3 = s3 by rw [hpay.out, if_pos (.inl hz0)])
                      have tz : (z == 0) = true := by simpa using hz0
                      clear hz0
                      refine wp_region_later (by kernel_rfl) (by kernel_rfl) ?_
                      repeat (go_big_quiet_step (fail))
                      refine wpQuiet_nil ?_
                      rintro w8 ⟨⟨_, he8⟩, rfl⟩
                      have I8 := hid (show OwnR w8 W2.heap.size 64 3 _ s3.l ∧ ArrB w8 G 3 n s3.f ∧ Ch (fun b => b = G) W2 w8 ∧ Ext w w8 from ⟨I7.out.1.ext he8, I7.out.2.1.ext he8, I7.out.2.2.1.step (Ch.ofExt he8) (fun _ _ h => h.elim), I7.out.2.2.2.trans he8⟩)
                      go_wp2_with fail
                      go_roundw
                      case rel => exact ⟨j + 1, by omega, by go_num, by rw [hst3.out, hs4.out]; exact I8⟩
                      case measure => simp [intOf]; omega
                    · have tz : (z == 0) = false := by simpa using hz0
                      by_cases hy0 : ¬ 0 < y
                      · have hy1 : decide (0 < y) = false := by simpa using hy0
                        have hs4 := hid (show payM a c s3 = s3 by rw [hpay.out, if_pos (.inr (by rw [tx, hy1]))])
                        clear hz0
                        refine wp_region_later (by kernel_rfl) (by kernel_rfl) ?_
                        repeat (go_big_quiet_step (fail))
                        refine wpQuiet_nil ?_
                        rintro w8 ⟨⟨_, he8⟩, rfl⟩
                        have I8 := hid (show OwnR w8 W2.heap.size 64 3 _ s3.l ∧ ArrB w8 G 3 n s3.f ∧ Ch (fun b => b = G) W2 w8 ∧ Ext w w8 from ⟨I7.out.1.ext he8, I7.out.2.1.ext he8, I7.out.2.2.1.step (Ch.ofExt he8) (fun _ _ h => h.elim), I7.out.2.2.2.trans he8⟩)
                        go_wp2_with fail
                        go_roundw
                        case rel => exact ⟨j + 1, by omega, by go_num, by rw [hst3.out, hs4.out]; exact I8⟩
                        case measure => simp [intOf]; omega
                      · have hy1 : decide (0 < y) = true := by simpa using hy0
                        have hs4 := hid (show payM a c s3 = ⟨upd (upd s3.f a (x + z)) c (upd s3.f a (x + z) c - z), s3.l ++ [[(a : Int), (c : Int), z]]⟩ by rw [hpay.out, if_neg (fun h => h.elim hz0 (by rw [tx, hy1]; decide)), if_neg hx0])
                        clear hz0
                        have hll := hbd2.2
                        refine wp_region_later (by kernel_rfl) (by kernel_rfl) ?_
                        repeat (go_big_quiet_step (fail))
                        refine wpQuiet_nil ?_
                        rintro w8 ⟨⟨_, he8⟩, rfl⟩
                        have I8 := hid (show OwnR w8 W2.heap.size 64 3 _ s3.l ∧ ArrB w8 G 3 n s3.f ∧ Ch (fun b => b = G) W2 w8 ∧ Ext w w8 from ⟨I7.out.1.ext he8, I7.out.2.1.ext he8, I7.out.2.2.1.step (Ch.ofExt he8) (fun _ _ h => h.elim), I7.out.2.2.2.trans he8⟩)
                        have B8 := hid (BX.out.ext he8)
                        clear bx bxl ca cc Gl I7 he8
                        have bx := B8.out.cell
                        have bxl := B8.out.lt
                        have hz8 : W2.heap.size ≤ w8.heap.size := I8.out.2.2.1.size
                        have X8 := hid (show w.heap.size ≤ W2.heap.size from (E2.out.trans E3.out).size)
                        have hne : a ≠ c := fun e => by
                          have : x = y := by rw [← hx.out, ← hy.out, e]
                          omega
                        have hs5 := hid (show payM a c s3 = ⟨upd (upd s3.f a (x + z)) c (y - z), s3.l ++ [[(a : Int), (c : Int), z]]⟩ by rw [hs4.out, upd_other _ _ (fun e => hne e.symm), hy.out])
                        have F8 := hid (show ∀ g, u6.ownBlock = some g → W2.heap.size ≤ g from fun g hg => I8.out.1.block hg)
                        have e8 : Ext w8 (w8.alloc (.cells #[.int .i64 (a : Nat), .int .i64 (c : Nat), .int .i64 z] 64)) := (Ext.refl _).alloc _
                        go_upto_region 21 with (at_builtin; refine wpList_append_rows rfl _ _ 25 rfl el25 rfl (I8.out.1.ext (Ext.alloc (Ext.refl _) _)) _ 1 1 [[(a : Int), (c : Int), z]] rfl rfl (by simp) (by intro j; simp [cellsOf]) (by omega) (by simp; omega) ?_; intro v9 w9 hown9 hg9)
                        have O9 := hid hown9
                        have A9 := hid ((I8.out.2.1.ext e8).same (hg9.block G (Nat.lt_of_lt_of_le I8.out.2.1.lt e8.size) (fun e => by have := F8.out G e.symm; omega)))
                        have B9 := (B8.out.ext e8).grown hg9 (fun e => hPn.out _ e.symm rfl)
                        have C9 := hid ((I8.out.2.2.1.step (Ch.ofExt e8) (T := fun b => b = G) (fun _ _ h => h.elim)).step (Ch.ofGrown hg9) (T := fun b => b = G) (fun b hb h => absurd (F8.out b h.symm) (by omega)))
                        have X9 := hid ((I8.out.2.2.2.trans e8).grown hg9 fun g hg => by have := F8.out g hg; have := X8.out; omega)
                        clear hown9 hg9 e8 bx bxl
                        have cp := A9.out.cell hla
                        rw [hx.out] at cp
                        have fp := A9.out.frozen a
                        have Gl := A9.out.lt
                        have bx := B9.cell
                        have bxl := B9.lt
                        go_upto_region 22 with fail
                        have A10 := hid (A9.out.set_ a (x + z))
                        have B10 := B9.far (p := ⟨G, a, none⟩) hPG (.int .i64 (x + z))
                        have C10 := hid (C9.out.step (Ch.ofSet w9 G a (.int .i64 (x + z))) (T := fun b => b = G) (fun _ _ h => h))
                        have X10 := hid (X9.out.setCell (p := ⟨G, a, none⟩) (.int .i64 (x + z)) (by have := X8.out; have := hGw.out; have := he12.out; show w.heap.size ≤ G; omega))
                        have O10 := hid (O9.out.far' (p := ⟨G, a, none⟩) (show G < W2.heap.size by omega) (.int .i64 (x + z)))
                        clear cp fp bx bxl B9
                        obtain ⟨w10, hw10⟩ : ∃ W, Hid (W = w9.setCell ⟨G, a, none⟩ (.int .i64 (x + z))) := ⟨_, hid rfl⟩
                        rw [← hw10.out] at A10 B10 C10 X10 O10 ⊢
                        have cq := A10.out.cell hlc
                        rw [upd_other _ _ (fun e => hne e.symm), hy.out] at cq
                        have fq := A10.out.frozen c
                        have Gl := A10.out.lt
                        have bx := B10.cell
                        have bxl := B10.lt
                        go_wp2_with fail
                        go_roundw
                        case rel => exact ⟨j + 1, by omega, by go_num, by rw [hst3.out, hs5.out]; exact hid ⟨O10.out.far' (p := ⟨G, c, none⟩) (show G < W2.heap.size by omega) _, A10.out.set_ c (y - z), C10.out.step (Ch.ofSet _ _ _ _) (T := fun b => b = G) (fun _ _ h => h), X10.out.setCell (p := ⟨G, c, none⟩) _ (by have := hGw.out; have := he12.out; show w.heap.size ≤ G; omega)⟩⟩
                        case measure => simp [intOf]; omega
                · have hJe : j = J := by omega
                  subst hJe
                  go_wp2_with fail
                  go_roundw
                  case rel => exact ⟨i + 1, by omega, by go_num, by rw [hst2.out]; exact HI⟩
                  case measure => simp [intOf]; omega
          · have hMe : i = M := by omega
            subst hMe
            go_wp2_with fail
            go_roundw
            case rel => exact ⟨k + 1, by omega, by go_num, by rw [hstp.out]; exact HI⟩
            case measure => simp [intOf]; omega
      · have hke : k = L.length := by omega
        subst hke
        have hz2 := (E2.out.trans E3.out).size
        go_wp2_with fail
        go_ret2
        exact ⟨_, rfl, HI.out.2.2.2, fun h => absurd rfl h, fun _ => ⟨L, HP.out, HS.out, by rw [hE.out]; exact HI.out.1.base hz2⟩⟩
  · have hne : (s != 0) = true := by simpa using h0
    go_enter Tryz.func58, Tryz.ntmps58
    go_wp2_with (go_at_call 33; refine (checkDebts33 HR.out hn HM.out).mono ?_; rintro e w1 ⟨rfl, he1⟩; rw [hs.out])
    go_ret2
    exact ⟨_, rfl, he1, fun _ => rfl, fun h => absurd h h0⟩
theorem fewest59 {w : World} {A : Option Addr} {n cap : Nat} {m : Nat → Nat} {g : Nat → Nat → Int} (hr : RdN w A n m g) (hn : n ≤ 1000) (hm : ∀ k, k < n → m k ≤ 1000) :
    Calls Tryz.prog 59 #[.slice A n cap] w (fun e w' => ∃ z : Int, e = .returned (.tuple #[.int .i64 z, .int .i64 (chkD n m g)]) ∧ Ext w w' ∧ (chkD n m g ≠ 0 → z = 0) ∧ (chkD n m g = 0 → ∃ L', L'.Perm (groupsM (netTo g n n) n) ∧ SortedS L' ∧ z = (settleM L' (netTo g n n)).l.length)) := by
  have HS := hid (settle58 (cap := cap) hr hn hm)
  clear hr hm
  obtain ⟨s, hs⟩ : ∃ s, Hid (chkD n m g = s) := ⟨_, hid rfl⟩
  rw [hs.out] at HS ⊢
  go_enter Tryz.func59, Tryz.ntmps59
  go_wp2_with (go_at_call 58; refine HS.out.mono ?_; rintro e w1 ⟨u, rfl, he1, h1, h2⟩; obtain ⟨q, hq⟩ : ∃ q : Nat, Hid ((s ≠ 0 → (q : Int) = 0) ∧ (s = 0 → ∃ L', L'.Perm (groupsM (netTo g n n) n) ∧ SortedS L' ∧ (q : Int) = (settleM L' (netTo g n n)).l.length) ∧ ∃ A' c', u = .slice A' q c') := (by
    by_cases h0 : s = 0
    · obtain ⟨L', p1, p2, p3⟩ := h2 h0
      obtain ⟨A', c', hu, -⟩ := p3.slR
      exact ⟨_, hid ⟨fun h => absurd h0 h, fun _ => ⟨L', p1, p2, rfl⟩, A', c', hu⟩⟩
    · exact ⟨0, hid ⟨fun _ => rfl, fun h => absurd h h0, none, 0, h1 h0⟩⟩); obtain ⟨A', c', rfl⟩ := hq.out.2.2; have HE := hid he1; clear h1 h2 he1)
  go_ret2
  exact ⟨_, rfl, HE.out, hq.out.1, hq.out.2.1⟩
end Go.Proofs.YtbceepjjdfpfmaaGreat
