/- Walks: Owing (64), which draws debts, and open (65). No condition but that the sack is one. -/
import Derived.Test.YtbceepjjdfpfmaaGreatMkP
import Derived.Test.YtbceepjjdfpfmaaGreatMat
import Derived.Test.YtbceepjjdfpfmaaGreatNetA
import Derived.Test.YtbceepjjdfpfmaaGreatWay
namespace Go.Proofs.YtbceepjjdfpfmaaGreat
open Go.RowKit HandSpec LoanSpec
set_option maxHeartbeats 4000000
set_option maxRecDepth 100000
def DrawZ (n : Int) : MSpec := fun v _ _ _ => ∃ q : Nat, v = .int .i64 (q : Int) ∧ (q = 0 ∨ (q : Int) < n)
theorem Mt.sx {d : SackD} {l : Nat} {w w' : World} {B g n k : Nat} {r c : Nat → Nat} {m : Nat → Nat → Int} (h : Mt w B g n k r c m) (e : Sx d l w w') (hB : d.blk < B) : Mt w' B g n k r c m :=
  ⟨h.hB, h.hk, h.a.same (e.block h.a.1 (by have := h.hB; omega)), h.lo, h.ne, fun i hi => arr_same (h.row i hi) (e.block (h.row i hi).1 (by have := (h.lo i hi).1; omega)), h.cap⟩
/-- What has been drawn of k rows. -/
def EntM (m : Nat → Nat → Int) (n k : Nat) : Prop := ∀ i j, i < k → j < n → 0 ≤ m i j ∧ m i j ≤ 8 ∧ (i = j → m i j = 0)
theorem owing64 {d : SackD} {w : World} (hs : Start d w) :
    Calls Tryz.prog 64 #[.pointer (some ⟨d.blk, 0, none⟩), .int .i64 7] w fun e w' => ∃ A n c m, e = .returned (.slice A n c) ∧ Sx d 100000 w w' ∧ RdN w' A n (fun _ => n) m ∧ DOk n m ∧ ∀ i j, i < n → j < n → m i j ≤ 8 := by
  have H0 := hid hs
  have hlt := hs.lt
  have X := hid (Sx.refl d w)
  clear hs
  go_enter Tryz.func64, Tryz.ntmps64
  go_upto_region 1 with fail
  have hmk48 : ∀ (n : Nat) w, n ≤ 10 → (Instr.makeSlice 48 (.int .i64 (n : Int)) (.int .i64 (n : Int))).run Tryz.prog w = .ok (.slice (some ⟨w.heap.size, 0, none⟩) n n) (w.alloc (.cells (Array.replicate n (.slice none 0 0)) 22)) := fun n w h => make48_run w n h
  have hmk22 : ∀ (n : Nat) w, n ≤ 10 → (Instr.makeSlice 22 (.int .i64 (n : Int)) (.int .i64 (n : Int))).run Tryz.prog w = .ok (.slice (some ⟨w.heap.size, 0, none⟩) n n) (w.alloc (.cells (Array.replicate n (.int .i64 0)) 3)) := fun n w h => make22_run w n h
  go_upto_region 2 with (go_at_call 71; (with_reducible refine (among_b H0.out X.out (by omega) 1 7 (by omega) (by omega) (by omega)).mono ?_); rintro e wa ⟨fo, rfl, ho1, ho2, xa⟩; have X := hid (X.out.trans xa); obtain ⟨n, hn⟩ : ∃ n : Nat, fo = (n : Int) := ⟨fo.toNat, by omega⟩; subst hn; have hn17 : 1 ≤ n ∧ n ≤ 7 := (by omega); have hmk := hmk48 n wa (by omega); clear xa ho1 ho2 hmk48)
  have hM0 := Mt.new wa n 22 (fun _ => 0) (fun _ => 0) (fun _ _ => 0)
  have xw := hid (X.out.trans (Sx.ofExt ((Ext.refl wa).alloc (.cells (Array.replicate n (.slice none 0 0)) 22))))
  obtain ⟨w2, hw2⟩ : ∃ W, Hid (W = wa.alloc (.cells (Array.replicate n (.slice none 0 0)) 22)) := ⟨_, hid rfl⟩
  rw [← hw2.out] at hM0 xw ⊢
  have hdg : d.blk < wa.heap.size := by have := X.out.size; omega
  obtain ⟨G, hG⟩ : ∃ N, Hid (wa.heap.size = N) := ⟨_, hid rfl⟩
  rw [hG.out] at hM0 hdg ⊢
  have HM0 := hid hM0
  have hGd : ¬ G = d.blk := by omega
  have hwG : w.heap.size ≤ G := by have := X.out.size; have := hG.out; omega
  clear hM0 hmk hw2 X
  have hmk22 := hmk22 n
  go_upto_region 3 with fail
  go_loopw [14] (fun i W => ∃ (k : Nat) (r c : Nat → Nat) (m : Nat → Nat → Int), k ≤ n ∧ i = .int .i64 (k : Int) ∧ Hid (Mt W G G n k r c m) ∧ Hid (Sx d (10 + 10000 * k) w W) ∧ Hid (EntM m n k)) (fun i _ => n - (intOf i).toNat)
  case atStart => exact ⟨0, _, _, _, Nat.zero_le _, rfl, HM0, hid (xw.out.mono (by omega)), hid fun i j hi => absurd hi (by omega)⟩
  case round =>
    clear HM0 xw
    obtain ⟨k, r, c, m, hk, rfl, M, X, EM⟩ := hrel
    by_cases hlk : k < n
    · have hkc := M.out.a.cell hlk
      have hkf := M.out.a.frozen hlk
      have hkl := M.out.a.1
      have hmk := hmk22 wr (by omega)
      go_upto_region 6 with fail
      obtain ⟨rr, hrr⟩ : ∃ N, Hid (wr.heap.size = N) := ⟨_, hid rfl⟩
      have hGr : G < rr := by have := hrr.out; omega
      have e1 : Ext wr (wr.alloc (.cells (Array.replicate n (.int .i64 0)) 3)) := (Ext.refl _).alloc _
      have hB : Arr (wr.alloc (.cells (Array.replicate n (.int .i64 0)) 3)) rr n (fun _ => 0) := by
        have hb := Blk.new wr 3 (Array.replicate n (.int .i64 0))
        rw [hrr.out] at hb
        exact ⟨hb.lt, fun i hi => ⟨by rw [hb.cell]; simp [hi], hb.frozen i⟩⟩
      have M1 := hid ((M.out.ext e1).addRow hlk hB (by omega) (by omega) (fun i hi => by have := (M.out.row i hi).1; have := hrr.out; omega) (Nat.le_refl n))
      have X1 := hid ((X.out.trans (Sx.ofExt e1)).set_ G k (.slice (some ⟨rr, 0, none⟩) n n) hwG)
      have EM1 := hid (show EntM (updR m k (fun _ => 0)) n (k + 1) from fun i j hi hj => by
        by_cases e : i = k
        · subst e
          rw [updR_same]
          exact ⟨Int.le_refl _, by omega, fun _ => rfl⟩
        · rw [updR_other _ _ e]
          exact EM.out i j (by omega) hj)
      rw [hrr.out]
      rw [World.setCell_alloc_past _ _ _ _ hkl] at M1 X1
      obtain ⟨w4, hw4⟩ : ∃ W, Hid (W = (wr.setCell ⟨G, k, none⟩ (.slice (some ⟨rr, 0, none⟩) n n)).alloc (.cells (Array.replicate n (.int .i64 0)) 3)) := ⟨_, hid rfl⟩
      rw [← hw4.out] at M1 X1 ⊢
      clear hkc hkf hkl hmk e1 hB M X EM hw4
      go_upto_region 7 with fail
      go_loopw [25] (fun i W => ∃ (b : Nat) (m' : Nat → Nat → Int), b ≤ n ∧ i = .int .i64 (b : Int) ∧ Hid (Mt W G G n (k + 1) (updR r k rr) (updR c k n) m') ∧ Hid (Sx d (20 + 10000 * k + 1200 * b) w W) ∧ Hid (EntM m' n (k + 1))) (fun i _ => n - (intOf i).toNat)
      case atStart => exact ⟨0, _, Nat.zero_le _, rfl, M1, hid (X1.out.mono (by omega)), EM1⟩
      case round =>
        clear M1 X1 EM1
        obtain ⟨b, m', hb, rfl, M, X, EM⟩ := hrel
        by_cases hlb : b < n
        · by_cases hkb : k = b
          · have tk : ((k : Int) != (b : Int)) = false := by simp [hkb]
            clear hkb
            go_wp2_with fail
            go_roundw
            case rel => exact ⟨b + 1, m', by omega, by go_num, M, hid (X.out.mono (by omega)), EM⟩
            case measure => simp [intOf]; omega
          · have tk : ((k : Int) != (b : Int)) = true := by simp; omega
            go_upto_if 34 with (go_at_call 107; (with_reducible refine (rare_b H0.out X.out (by omega) 2 (by omega)).mono ?_); rintro e wz ⟨bb, rfl, hx⟩; have M := hid (M.out.sx hx (by omega)); have X := hid (X.out.trans hx); clear hx)
            cases bb
            · go_wp2_with fail
              go_roundw
              case rel => exact ⟨b + 1, m', by omega, by go_num, M, hid (X.out.mono (by omega)), EM⟩
              case measure => simp [intOf]; omega
            · have hkc := M.out.atRow (Nat.lt_succ_self k)
              rw [updR_same, updR_same] at hkc
              have hkl := M.out.a.1
              have hrl := (M.out.row k (Nat.lt_succ_self k)).1
              rw [updR_same] at hrl
              go_upto_region 10 with fail
              refine wp_region_monoG (d := d) 7 [(6, DrawZ 9)] (by kernel_rfl) (by kernel_rfl) (by kernel_rfl) (by kernel_rfl) ?hS ?_
              case hS =>
                simp only [List.forall_mem_cons]
                exact ⟨fun _ _ _ _ _ _ _ h => h, fun _ h => by simp at h⟩
              simp only [List.take_succ_cons, List.take_zero, List.drop_succ_cons, List.drop_zero]
              iterate 6
                refine wpM_plainG rfl ?_
                go_big_quiet_step (fail)
                refine wpQuiet_nil ?_
              refine wpM_specG _ rfl rfl (fun w2 hw2 _ => ?_) (fun va la ha ga1 ga2 _ hva => ?_)
              · go_wp2_with (go_at_call 67; (with_reducible refine (below_b H0.out (X.out.trans hw2) (by omega) 9 (by omega)).mono ?_); rintro e w' ⟨z, rfl, z1, he⟩)
                exact ⟨_, _, _, rfl, he, Nat.le_refl _, he.size, Nat.le_refl _, z, rfl, z1⟩
              obtain ⟨_, z, rfl, hz⟩ := hva
              simp only [Act.put, List.setIfInBounds_toArray, List.set_cons_succ, List.set_cons_zero]
              refine wpM_nilG fun w6 hw6 _ => ?_
              have M := hid (M.out.sx hw6 (by omega))
              have X := hid (X.out.trans hw6)
              have hA := M.out.row k (Nat.lt_succ_self k)
              have M2 := hid (M.out.put (Nat.lt_succ_self k) hlb (z : Int))
              rw [updR_same] at hA M2
              have kc := hA.cell hlb
              have kf := hA.frozen hlb
              have kl := hA.1
              have EM2 := hid (show EntM (upd2 m' k b (z : Int)) n (k + 1) from fun i j hi hj => by
                unfold upd2
                by_cases e : i = k
                · subst e
                  rw [updR_same]
                  by_cases e' : j = b
                  · subst e'
                    rw [upd_same]
                    exact ⟨by omega, by omega, fun q => absurd q hkb⟩
                  · rw [upd_other _ _ e']
                    exact EM.out i j hi hj
                · rw [updR_other _ _ e]
                  exact EM.out i j hi hj)
              have X2 := hid (X.out.set_ rr b (.int .i64 (z : Int)) (by omega))
              clear hA
              go_wp2_with fail
              go_roundw
              case rel => exact ⟨b + 1, _, by omega, by go_num, M2, hid (X2.out.mono (by omega)), EM2⟩
              case measure => simp [intOf]; omega
        · go_wp2_with fail
          go_roundw
          case rel => exact ⟨k + 1, _, _, m', by omega, by go_num, M, hid (X.out.mono (by omega)), EM⟩
          case measure => simp [intOf]; omega
    · have hkn : k = n := by omega
      subst hkn
      go_wp2_with fail
      go_ret
      exact ⟨_, _, _, m, rfl, X.out.mono (by omega), M.out.rdN, ⟨hn17, fun i j hi hj => ⟨(EM.out i j hi hj).1, by have := (EM.out i j hi hj).2.1; omega⟩, fun i hi => (EM.out i i hi hi).2.2 rfl⟩, fun i j hi hj => (EM.out i j hi hj).2.1⟩
theorem open65 {w : World} {A : Option Addr} {n cap : Nat} {f : Nat → Int} (hr : Rd w A n 1 (fun i _ => f i)) (hn : n ≤ 1000) :
    Calls Tryz.prog 65 #[.slice A n cap] w fun e w' => e = .returned (.int .i64 (cntP (nzB f) n : Int)) ∧ Ext w w' := by
  have HR := hid hr
  clear hr
  go_enter Tryz.func65, Tryz.ntmps65
  go_upto_region 3 with fail
  go_loopw [3, 8] (fun s i wr => ∃ k z : Nat, k ≤ n ∧ i = .int .i64 (k : Int) ∧ s = .int .i64 (z : Int) ∧ z ≤ k ∧ Hid (z = cntP (nzB f) k) ∧ Ext w wr) (fun _ i _ => n - (intOf i).toNat)
  case atStart => exact ⟨0, 0, Nat.zero_le _, rfl, rfl, Nat.le_refl _, hid rfl, Ext.refl _⟩
  case round =>
    obtain ⟨k, z, hk, rfl, rfl, hzk, hz, he⟩ := hrel
    by_cases hlt : k < n
    · obtain ⟨b1, o1, rfl, hb1, hc1⟩ := (HR.out.ext he).at1 hlt
      obtain ⟨x, hx⟩ : ∃ x, Hid (f k = x) := ⟨_, hid rfl⟩
      rw [hx.out] at hc1
      have hst := hid (show cntP (nzB f) (k + 1) = z + if x ≠ 0 then 1 else 0 by
        show cntP (nzB f) k + (if nzB f k = true then 1 else 0) = _
        rw [← hz.out]
        unfold nzB
        rw [hx.out]
        simp)
      by_cases hx0 : x = 0
      · have tx : (x != 0) = false := by simpa using hx0
        go_wp2_with fail
        go_roundw
        case rel => exact ⟨k + 1, z, by omega, by go_num, rfl, by omega, hid (by rw [hst.out, if_neg (by simpa using hx0)]; rfl), he⟩
        case measure => simp [intOf]; omega
      · have tx : (x != 0) = true := by simpa using hx0
        go_wp2_with fail
        go_roundw
        case rel => exact ⟨k + 1, z + 1, by omega, by go_num, by go_num, by omega, hid (by rw [hst.out, if_pos hx0]), he⟩
        case measure => simp [intOf]; omega
    · have hkn : k = n := by omega
      have hzv := hid (show z = cntP (nzB f) n by rw [hz.out, hkn])
      go_wp2_with fail
      go_ret
      exact ⟨ret_int (by rw [hzv.out]), he⟩
end Go.Proofs.YtbceepjjdfpfmaaGreat
