/- Walks: Owing (64), which draws debts, and open (65). No condition but that the sack is one. Plain law of LoanFewest: what groups have, payments that are made one after the other, and groups that are tried. Walks: DeleteFunc (72) over a table of lists, and the closures of LoanFewest (69, 70, 73). Groups that are tried: a table of own lists, each of its own, to one of which an element is appended; and what is kept of it. Walk of Settles (60). The debts' rows are no longer than 1000, nor the list. Walk of Groups (61). -/
import Derived.Test.YtbceepjjdfpfmaaGreatMk
import Derived.Test.YtbceepjjdfpfmaaGreatMat
import Derived.Test.YtbceepjjdfpfmaaGreatNetA
import Derived.Test.YtbceepjjdfpfmaaGreatWay
import Derived.Test.YtbceepjjdfpfmaaGreatRefS
import Derived.Test.YtbceepjjdfpfmaaGreatGenD
import Derived.Test.YtbceepjjdfpfmaaGreatGrpC
namespace Go.Proofs.YtbceepjjdfpfmaaGreat
open Go.RowKit HandSpec LoanSpec
set_option maxHeartbeats 4000000
set_option maxRecDepth 100000
def DrawZ (n : Int) : MSpec := fun v _ _ _ => ∃ q : Nat, v = .int .i64 (q : Int) ∧ (q = 0 ∨ (q : Int) < n)
theorem Mt.sx {d : SackD} {l : Nat} {w w' : World} {B g n k : Nat} {r c : Nat → Nat} {m : Nat → Nat → Int} (h : Mt w B g n k r c m) (e : Sx d l w w') (hB : d.blk < B) : Mt w' B g n k r c m :=
  ⟨h.hB, h.hk, h.a.same (e.block h.a.1 (by have := h.hB; omega)), h.lo, h.ne, fun i hi => arr_same (h.row i hi) (e.block (h.row i hi).1 (by have := (h.lo i hi).1; omega)), h.cap⟩
/-- What has been drawn of k rows. -/
def EntM (m : Nat → Nat → Int) (n k : Nat) : Prop := ∀ i j, i < k → j < n → 0 ≤ m i j ∧ m i j ≤ 8 ∧ (i = j → m i j = 0)
theorem owing64 {d : SackD} {w : World} (hs : Start d w) :
    Calls Tryz.prog 64 #[.pointer (some ⟨d.blk, 0, none⟩), .int .i64 7] w fun e w' => ∃ A n c m, e = .returned (.slice A n c) ∧ Sx d 100000 w w' ∧ RdN w' A n (fun _ => n) m ∧ DOk n m ∧ ∀ i j, i < n → j < n → m i j ≤ 8 := by
  have H0 := hid hs
  have hlt := hs.lt
  have X := hid (Sx.refl d w)
  clear hs
  go_enter Tryz.func64, Tryz.ntmps64
  go_upto_region 1 with fail
  have hmk48 : ∀ (n : Nat) w, n ≤ 10 → (Instr.makeSlice 48 (.int .i64 (n : Int)) (.int .i64 (n : Int))).run Tryz.prog w = .ok (.slice (some ⟨w.heap.size, 0, none⟩) n n) (w.alloc (.cells (Array.replicate n (.slice none 0 0)) 22)) := fun n w h => make48_run w n h
  have hmk22 : ∀ (n : Nat) w, n ≤ 10 → (Instr.makeSlice 22 (.int .i64 (n : Int)) (.int .i64 (n : Int))).run Tryz.prog w = .ok (.slice (some ⟨w.heap.size, 0, none⟩) n n) (w.alloc (.cells (Array.replicate n (.int .i64 0)) 3)) := fun n w h => make22_run w n h
  go_upto_region 2 with (go_at_call 71; (with_reducible refine (among_b H0.out X.out (by omega) 1 7 (by omega) (by omega) (by omega)).mono ?_); rintro e wa ⟨fo, rfl, ho1, ho2, xa⟩; have X := hid (X.out.trans xa); obtain ⟨n, hn⟩ : ∃ n : Nat, fo = (n : Int) := ⟨fo.toNat, by omega⟩; subst hn; have hn17 : 1 ≤ n ∧ n ≤ 7 := (by omega); have hmk := hmk48 n wa (by omega); clear xa ho1 ho2 hmk48)
  have hM0 := Mt.new wa n 22 (fun _ => 0) (fun _ => 0) (fun _ _ => 0)
  have xw := hid (X.out.trans (Sx.ofExt ((Ext.refl wa).alloc (.cells (Array.replicate n (.slice none 0 0)) 22))))
  obtain ⟨w2, hw2⟩ : ∃ W, Hid (W = wa.alloc (.cells (Array.replicate n (.slice none 0 0)) 22)) := ⟨_, hid rfl⟩
  rw [← hw2.out] at hM0 xw ⊢
  have hdg : d.blk < wa.heap.size := by have := X.out.size; omega
  obtain ⟨G, hG⟩ : ∃ N, Hid (wa.heap.size = N) := ⟨_, hid rfl⟩
  rw [hG.out] at hM0 hdg ⊢
  have HM0 := hid hM0
  have hGd : ¬ G = d.blk := by omega
  have hwG : w.heap.size ≤ G := by have := X.out.size; have := hG.out; omega
  clear hM0 hmk hw2 X
  have hmk22 := hmk22 n
  go_upto_region 3 with fail
  go_loopw [14] (fun i W => ∃ (k : Nat) (r c : Nat → Nat) (m : Nat → Nat → Int), k ≤ n ∧ i = .int .i64 (k : Int) ∧ Hid (Mt W G G n k r c m) ∧ Hid (Sx d (10 + 10000 * k) w W) ∧ Hid (EntM m n k)) (fun i _ => n - (intOf i).toNat)
  case atStart => exact ⟨0, _, _, _, Nat.zero_le _, rfl, HM0, hid (xw.out.mono (by omega)), hid fun i j hi => absurd hi (by omega)⟩
  case round =>
    clear HM0 xw
    obtain ⟨k, r, c, m, hk, rfl, M, X, EM⟩ := hrel
    by_cases hlk : k < n
    · have hkc := M.out.a.cell hlk
      have hkf := M.out.a.frozen hlk
      have hkl := M.out.a.1
      have hmk := hmk22 wr (by omega)
      go_upto_region 6 with fail
      obtain ⟨rr, hrr⟩ : ∃ N, Hid (wr.heap.size = N) := ⟨_, hid rfl⟩
      have hGr : G < rr := by have := hrr.out; omega
      have e1 : Ext wr (wr.alloc (.cells (Array.replicate n (.int .i64 0)) 3)) := (Ext.refl _).alloc _
      have hB : Arr (wr.alloc (.cells (Array.replicate n (.int .i64 0)) 3)) rr n (fun _ => 0) := by
        have hb := Blk.new wr 3 (Array.replicate n (.int .i64 0))
        rw [hrr.out] at hb
        exact ⟨hb.lt, fun i hi => ⟨by rw [hb.cell]; simp [hi], hb.frozen i⟩⟩
      have M1 := hid ((M.out.ext e1).addRow hlk hB (by omega) (by omega) (fun i hi => by have := (M.out.row i hi).1; have := hrr.out; omega) (Nat.le_refl n))
      have X1 := hid ((X.out.trans (Sx.ofExt e1)).set_ G k (.slice (some ⟨rr, 0, none⟩) n n) hwG)
      have EM1 := hid (show EntM (updR m k (fun _ => 0)) n (k + 1) from fun i j hi hj => by
        by_cases e : i = k
        · subst e
          rw [updR_same]
          exact ⟨Int.le_refl _, by omega, fun _ => rfl⟩
        · rw [updR_other _ _ e]
          exact EM.out i j (by omega) hj)
      rw [hrr.out]
      rw [World.setCell_alloc_past _ _ _ _ hkl] at M1 X1
      obtain ⟨w4, hw4⟩ : ∃ W, Hid (W = (wr.setCell ⟨G, k, none⟩ (.slice (some ⟨rr, 0, none⟩) n n)).alloc (.cells (Array.replicate n (.int .i64 0)) 3)) := ⟨_, hid rfl⟩
      rw [← hw4.out] at M1 X1 ⊢
      clear hkc hkf hkl hmk e1 hB M X EM hw4
      go_upto_region 7 with fail
      go_loopw [25] (fun i W => ∃ (b : Nat) (m' : Nat → Nat → Int), b ≤ n ∧ i = .int .i64 (b : Int) ∧ Hid (Mt W G G n (k + 1) (updR r k rr) (updR c k n) m') ∧ Hid (Sx d (20 + 10000 * k + 1200 * b) w W) ∧ Hid (EntM m' n (k + 1))) (fun i _ => n - (intOf i).toNat)
      case atStart => exact ⟨0, _, Nat.zero_le _, rfl, M1, hid (X1.out.mono (by omega)), EM1⟩
      case round =>
        clear M1 X1 EM1
        obtain ⟨b, m', hb, rfl, M, X, EM⟩ := hrel
        by_cases hlb : b < n
        · by_cases hkb : k = b
          · have tk : ((k : Int) != (b : Int)) = false := by simp [hkb]
            clear hkb
            go_wp2_with fail
            go_roundw
            case rel => exact ⟨b + 1, m', by omega, by go_num, M, hid (X.out.mono (by omega)), EM⟩
            case measure => simp [intOf]; omega
          · have tk : ((k : Int) != (b : Int)) = true := by simp; omega
            go_upto_if 34 with (go_at_call 107; (with_reducible refine (rare_b H0.out X.out (by omega) 2 (by omega)).mono ?_); rintro e wz ⟨bb, rfl, hx⟩; have M := hid (M.out.sx hx (by omega)); have X := hid (X.out.trans hx); clear hx)
            cases bb
            · go_wp2_with fail
              go_roundw
              case rel => exact ⟨b + 1, m', by omega, by go_num, M, hid (X.out.mono (by omega)), EM⟩
              case measure => simp [intOf]; omega
            · have hkc := M.out.atRow (Nat.lt_succ_self k)
              rw [updR_same, updR_same] at hkc
              have hkl := M.out.a.1
              have hrl := (M.out.row k (Nat.lt_succ_self k)).1
              rw [updR_same] at hrl
              go_upto_region 10 with fail
              refine wp_region_monoG (d := d) 7 [(6, DrawZ 9)] (by kernel_rfl) (by kernel_rfl) (by kernel_rfl) (by kernel_rfl) ?hS ?_
              case hS =>
                simp only [List.forall_mem_cons]
                exact ⟨fun _ _ _ _ _ _ _ h => h, fun _ h => by simp at h⟩
              simp only [List.take_succ_cons, List.take_zero, List.drop_succ_cons, List.drop_zero]
              iterate 6
                refine wpM_plainG rfl ?_
                go_big_quiet_step (fail)
                refine wpQuiet_nil ?_
              refine wpM_specG _ rfl rfl (fun w2 hw2 _ => ?_) (fun va la ha ga1 ga2 _ hva => ?_)
              · go_wp2_with (go_at_call 67; (with_reducible refine (below_b H0.out (X.out.trans hw2) (by omega) 9 (by omega)).mono ?_); rintro e w' ⟨z, rfl, z1, he⟩)
                exact ⟨_, _, _, rfl, he, Nat.le_refl _, he.size, Nat.le_refl _, z, rfl, z1⟩
              obtain ⟨_, z, rfl, hz⟩ := hva
              simp only [Act.put, List.setIfInBounds_toArray, List.set_cons_succ, List.set_cons_zero]
              refine wpM_nilG fun w6 hw6 _ => ?_
              have M := hid (M.out.sx hw6 (by omega))
              have X := hid (X.out.trans hw6)
              have hA := M.out.row k (Nat.lt_succ_self k)
              have M2 := hid (M.out.put (Nat.lt_succ_self k) hlb (z : Int))
              rw [updR_same] at hA M2
              have kc := hA.cell hlb
              have kf := hA.frozen hlb
              have kl := hA.1
              have EM2 := hid (show EntM (upd2 m' k b (z : Int)) n (k + 1) from fun i j hi hj => by
                unfold upd2
                by_cases e : i = k
                · subst e
                  rw [updR_same]
                  by_cases e' : j = b
                  · subst e'
                    rw [upd_same]
                    exact ⟨by omega, by omega, fun q => absurd q hkb⟩
                  · rw [upd_other _ _ e']
                    exact EM.out i j hi hj
                · rw [updR_other _ _ e]
                  exact EM.out i j hi hj)
              have X2 := hid (X.out.set_ rr b (.int .i64 (z : Int)) (by omega))
              clear hA
              go_wp2_with fail
              go_roundw
              case rel => exact ⟨b + 1, _, by omega, by go_num, M2, hid (X2.out.mono (by omega)), EM2⟩
              case measure => simp [intOf]; omega
        · go_wp2_with fail
          go_roundw
          case rel => exact ⟨k + 1, _, _, m', by omega, by go_num, M, hid (X.out.mono (by omega)), EM⟩
          case measure => simp [intOf]; omega
    · have hkn : k = n := by omega
      subst hkn
      go_wp2_with fail
      go_ret
      exact ⟨_, _, _, m, rfl, X.out.mono (by omega), M.out.rdN, ⟨hn17, fun i j hi hj => ⟨(EM.out i j hi hj).1, by have := (EM.out i j hi hj).2.1; omega⟩, fun i hi => (EM.out i i hi hi).2.2 rfl⟩, fun i j hi hj => (EM.out i j hi hj).2.1⟩
theorem open65 {w : World} {A : Option Addr} {n cap : Nat} {f : Nat → Int} (hr : Rd w A n 1 (fun i _ => f i)) (hn : n ≤ 1000) :
    Calls Tryz.prog 65 #[.slice A n cap] w fun e w' => e = .returned (.int .i64 (cntP (nzB f) n : Int)) ∧ Ext w w' := by
  have HR := hid hr
  clear hr
  go_enter Tryz.func65, Tryz.ntmps65
  go_upto_region 3 with fail
  go_loopw [3, 8] (fun s i wr => ∃ k z : Nat, k ≤ n ∧ i = .int .i64 (k : Int) ∧ s = .int .i64 (z : Int) ∧ z ≤ k ∧ Hid (z = cntP (nzB f) k) ∧ Ext w wr) (fun _ i _ => n - (intOf i).toNat)
  case atStart => exact ⟨0, 0, Nat.zero_le _, rfl, rfl, Nat.le_refl _, hid rfl, Ext.refl _⟩
  case round =>
    obtain ⟨k, z, hk, rfl, rfl, hzk, hz, he⟩ := hrel
    by_cases hlt : k < n
    · obtain ⟨b1, o1, rfl, hb1, hc1⟩ := (HR.out.ext he).at1 hlt
      obtain ⟨x, hx⟩ : ∃ x, Hid (f k = x) := ⟨_, hid rfl⟩
      rw [hx.out] at hc1
      have hst := hid (show cntP (nzB f) (k + 1) = z + if x ≠ 0 then 1 else 0 by
        show cntP (nzB f) k + (if nzB f k = true then 1 else 0) = _
        rw [← hz.out]
        unfold nzB
        rw [hx.out]
        simp)
      by_cases hx0 : x = 0
      · have tx : (x != 0) = false := by simpa using hx0
        go_wp2_with fail
        go_roundw
        case rel => exact ⟨k + 1, z, by omega, by go_num, rfl, by omega, hid (by rw [hst.out, if_neg (by simpa using hx0)]; rfl), he⟩
        case measure => simp [intOf]; omega
      · have tx : (x != 0) = true := by simpa using hx0
        go_wp2_with fail
        go_roundw
        case rel => exact ⟨k + 1, z + 1, by omega, by go_num, by go_num, by omega, hid (by rw [hst.out, if_pos hx0]), he⟩
        case measure => simp [intOf]; omega
    · have hkn : k = n := by omega
      have hzv := hid (show z = cntP (nzB f) n by rw [hz.out, hkn])
      go_wp2_with fail
      go_ret
      exact ⟨ret_int (by rw [hzv.out]), he⟩
end Go.Proofs.YtbceepjjdfpfmaaGreat
namespace Go.Proofs.YtbceepjjdfpfmaaGreat
open Go.RowKit HandSpec LoanSpec
set_option maxHeartbeats 2000000
set_option maxRecDepth 100000
/-- Those who are in the first k groups. -/
def metN (L : List Nat) (k : Nat) : List Nat := (L.take k).flatMap places
theorem places_mem_iff : ∀ q : Nat, q < 128 → ∀ i : Nat, i < 7 → (i ∈ places q ↔ q.testBit i = true) := by decide +kernel
theorem places_lt7 : ∀ q : Nat, q < 128 → ∀ i, i ∈ places q → i < 7 := by decide +kernel
theorem metN_step {L : List Nat} {k : Nat} (hk : k < L.length) : metN L (k + 1) = metN L k ++ places (L.getD k 0) := by
  unfold metN
  rw [List.take_succ_eq_append_getElem hk, List.flatMap_append, List.getD_eq_getElem?_getD, List.getElem?_eq_getElem hk]
  simp
theorem metN_not {L : List Nat} (hL : ∀ q, q ∈ L → q < 128) {i : Nat} (hi : i < 7) : ∀ k, k ≤ L.length → cntM (L.take k) i = 0 → i ∉ metN L k
  | 0, _, _ => by simp [metN]
  | k + 1, hk, h => by
    rw [cntM_take L i k (by omega)] at h
    have ih := metN_not hL hi k (by omega) (by omega)
    rw [metN_step (by omega), List.mem_append]
    rintro (q | q)
    · exact ih q
    · have hm : L.getD k 0 ∈ L := by rw [List.getD_eq_getElem?_getD, List.getElem?_eq_getElem (by omega)]; exact List.getElem_mem _
      rw [places_mem_iff _ (hL _ hm) i hi] at q
      rw [if_pos q] at h
      omega
/-- How many places of the first n a set has. -/
theorem placesTo_cnt (q : Nat) : ∀ n, (placesTo q n).length = cntP (fun i => q.testBit i) n
  | 0 => rfl
  | n + 1 => by
    have ih := placesTo_cnt q n
    simp only [placesTo, cntP]
    split
    · rw [List.length_append, List.length_singleton, ih]
    · rw [ih]; omega
theorem cntP_add {p q r : Nat → Bool} (h : ∀ i, (if r i = true then 1 else 0) = (if p i = true then 1 else 0) + (if q i = true then 1 else 0 : Nat)) : ∀ n, cntP r n = cntP p n + cntP q n
  | 0 => rfl
  | n + 1 => by
    have := h n
    simp only [cntP]
    rw [cntP_add h n]
    omega
theorem metN_len (L : List Nat) : ∀ (k : Nat), k ≤ L.length → (∀ i, i < 7 → cntM (L.take k) i ≤ 1) → (metN L k).length = cntP (fun i => cntM (L.take k) i == 1) 7
  | 0, _, _ => by
    have : ∀ m, cntP (fun i => cntM (L.take 0) i == 1) m = 0 := fun m => by
      induction m with
      | zero => rfl
      | succ m ih => simp only [cntP, ih]; simp [cntM]
    rw [this]
    rfl
  | k + 1, hk, h => by
    have ht := fun i => cntM_take L i k (by omega)
    have ih := metN_len L k (by omega) fun i hi => by have := h i hi; rw [ht i] at this; omega
    rw [metN_step (by omega), List.length_append, ih]
    have e : (places (L.getD k 0)).length = cntP (fun i => (L.getD k 0).testBit i) 7 := placesTo_cnt _ 7
    rw [e]
    have key : ∀ n, n ≤ 7 → cntP (fun i => cntM (L.take (k + 1)) i == 1) n = cntP (fun i => cntM (L.take k) i == 1) n + cntP (fun i => (L.getD k 0).testBit i) n := fun n => by
      induction n with
      | zero => exact fun _ => rfl
      | succ n ih =>
        intro hn
        have h1 := h n (by omega)
        have h2 := ht n
        simp only [cntP]
        rw [ih (by omega)]
        by_cases hb : (L.getD k 0).testBit n = true
        · rw [if_pos hb] at h2
          have a1 : cntM (L.take (k + 1)) n = 1 := by omega
          have a0 : cntM (L.take k) n = 0 := by omega
          simp only [a1, a0, hb]
          simp
          omega
        · rw [if_neg hb] at h2
          have a1 : cntM (L.take (k + 1)) n = cntM (L.take k) n := by omega
          have hb' : (L.getD k 0).testBit n = false := by simpa using hb
          simp only [a1, hb']
          simp
          omega
    exact (key 7 (Nat.le_refl _)).symm
theorem two_places : ∀ q : Nat, q < 128 → (places q).length = 1 → ∃ i : Nat, i < 7 ∧ q = 2 ^ i := by decide +kernel
/-- What the law asks of the groups. -/
structure GrL (f : Nat → Int) (n : Nat) (L : List Nat) : Prop where
  mem : ∀ k j, k < L.length → j < grC L k → ∃ t : Nat, (places (L.getD k 0)).getD j 0 = t ∧ t < n ∧ f t ≠ 0 ∧ t ∉ metN L k ∧ ∀ i, i < j → (places (L.getD k 0)).getD i 0 ≠ t
  sum : ∀ k, k < L.length → sumTo (fun j => f ((places (L.getD k 0)).getD j 0)) (grC L k) = 0
  two : ∀ k, k < L.length → 2 ≤ grC L k ∧ grC L k ≤ 7
  len : (metN L L.length).length = cntP (nzB f) n
  bd : ∀ k, k ≤ L.length → (metN L k).length ≤ 7 * k
  some : 0 < cntP (nzB f) n → 0 < L.length
theorem grl_ok {f : Nat → Int} {n : Nat} (hn : n ≤ 7) (ht : totTo f n = 0) {L : List Nat} (hp : L.Perm (groupsM f n)) : GrL f n L := by
  obtain ⟨h1, h2, h3, h4⟩ := groups_best hn ht hp
  have hmem : ∀ k, k < L.length → L.getD k 0 ∈ L := fun k hk => by
    rw [List.getD_eq_getElem?_getD, List.getElem?_eq_getElem hk]
    exact List.getElem_mem _
  have hbit : ∀ k, k < L.length → ∀ i, (L.getD k 0).testBit i = true → i < n ∧ f i ≠ 0 := fun k hk i hi => by
    have := (h3 _ (hmem k hk)).2.2.1
    rw [← this, Nat.testBit_and, openM_bit] at hi
    simp at hi
    exact hi.2
  have hle : ∀ k i, i < 7 → cntM (L.take k) i ≤ 1 := fun k i hi => by
    have := cntM_take_le L i k
    rw [h4 i hi] at this
    split at this <;> omega
  have hsum : ∀ k, k < L.length → sumTo (fun j => f ((places (L.getD k 0)).getD j 0)) (grC L k) = 0 := fun k hk => by
    have h5 := h3 _ (hmem k hk)
    have q1 := places_sum f (L.getD k 0) 7
    have q2 := sumB_more f (q := L.getD k 0) (n := n) (fun i hi => (hbit k hk i hi).1) (7 - n)
    rw [show n + (7 - n) = 7 by omega, h5.2.2.2] at q2
    rw [q2] at q1
    exact q1
  have hmem2 : ∀ k j, k < L.length → j < grC L k → (L.getD k 0).testBit ((places (L.getD k 0)).getD j 0) = true ∧ (places (L.getD k 0)).getD j 0 < 7 := fun k j hk hj => by
    have h5 := h3 _ (hmem k hk)
    have h7 := places_seven _ h5.2.1
    unfold grC at hj
    exact places_mem _ h5.2.1 j (by omega) hj
  refine ⟨fun k j hk hj => ?_, hsum, fun k hk => ?_, ?_, fun k hk => ?_, fun hO => ?_⟩
  · have h5 := h3 _ (hmem k hk)
    have h7 := places_seven _ h5.2.1
    obtain ⟨b1, b2⟩ := hmem2 k j hk hj
    obtain ⟨b3, b4⟩ := hbit k hk _ b1
    refine ⟨_, rfl, b3, b4, metN_not (fun q hq => (h3 q hq).2.1) b2 k (by omega) ?_, fun i hi e => ?_⟩
    · have := hle (k + 1) _ b2
      rw [cntM_take L _ k hk, if_pos b1] at this
      omega
    · unfold grC at hj
      have := places_inj _ h5.2.1 i (by omega) j (by omega) ⟨by omega, hj, e⟩
      omega
  · have h5 := h3 _ (hmem k hk)
    have h6 := some_place _ h5.2.1 h5.1
    have h7 := places_seven _ h5.2.1
    refine ⟨?_, by unfold grC; exact h7⟩
    rcases Nat.lt_or_ge 1 (grC L k) with e | e
    · exact e
    · have e1 : grC L k = 1 := by unfold grC at e ⊢; omega
      have h8 := hsum k hk
      rw [e1] at h8
      have h8 : 0 + f ((places (L.getD k 0)).getD 0 0) = 0 := h8
      have h9 := hbit k hk _ (hmem2 k 0 hk (by omega)).1
      exact absurd (by omega) h9.2
  · rw [metN_len L L.length (Nat.le_refl _) (fun i hi => hle _ i hi), List.take_length]
    have key : ∀ m, m ≤ 7 → cntP (fun i => cntM L i == 1) m = cntP (fun i => decide (i < n) && nzB f i) m := fun m hm => cntP_congr fun i hi => by
      rw [h4 i (by omega), openM_bit]
      unfold nzB
      by_cases q : f i = 0 <;> by_cases q2 : i < n <;> simp [q, q2]
    rw [key 7 (Nat.le_refl _)]
    have key2 : ∀ d, cntP (fun i => decide (i < n) && nzB f i) (n + d) = cntP (nzB f) n := fun d => by
      induction d with
      | zero => exact cntP_congr fun i hi => by simp [show i < n from hi]
      | succ d ih =>
        show cntP (fun i => decide (i < n) && nzB f i) (n + d) + (if (decide (n + d < n) && nzB f (n + d)) = true then 1 else 0) = _
        rw [ih, if_neg (by simp only [Bool.and_eq_true, decide_eq_true_eq]; omega)]
        rfl
    have := key2 (7 - n)
    rwa [show n + (7 - n) = 7 by omega] at this
  · have : ∀ k, k ≤ L.length → (metN L k).length ≤ 7 * k := fun k => by
      induction k with
      | zero => exact fun _ => by simp [metN]
      | succ k ih =>
        intro hk
        have := ih (by omega)
        have h7 := places_seven _ (h3 _ (hmem k (by omega))).2.1
        rw [metN_step (by omega), List.length_append]
        omega
    exact this k hk
  · obtain ⟨r, hr, hb, _⟩ := cntP_at hO
    have := h4 r (by omega)
    rw [openM_bit] at this
    rw [nzB_yes] at hb
    simp [hr, hb] at this
    cases L with
    | nil => simp [cntM] at this
    | cons q l => simp
/-- One who is owed and one who owes, while not all are even. -/
theorem some_sides {f : Nat → Int} {n : Nat} (hs : sumTo f n = 0) (hc : 0 < cntP (nzB f) n) : (∃ i, i < n ∧ f i < 0) ∧ ∃ i, i < n ∧ 0 < f i := by
  obtain ⟨r, hr, hb, _⟩ := cntP_at hc
  rw [nzB_yes] at hb
  refine ⟨Classical.byContradiction fun h => hb ?_, Classical.byContradiction fun h => hb ?_⟩
  · exact sum_zero_pos (fun i hi => Int.not_lt.1 fun q => h ⟨i, hi, q⟩) hs r hr
  · have e : sumTo (fun i => -(f i)) n = 0 := by
      have e1 : sumTo (fun i => -(f i) + f i) n = 0 := Eq.trans (sumTo_congr fun i _ => by omega) (sumTo_zero n)
      rw [sumTo_add, hs] at e1
      omega
    have := sum_zero_pos (h := fun i => -(f i)) (fun i hi => by
      have : ¬ 0 < f i := fun q => h ⟨i, hi, q⟩
      omega) e r hr
    omega
/-- Payments that are made one after the other. -/
structure TryI (f : Nat → Int) (n : Nat) (B : Int) (O : Nat) (s : SS) : Prop where
  p : PayI f n B s
  c : s.l.length + cntP (nzB s.f) n ≤ O
  s : sumTo s.f n = 0
theorem TryI.pay {f : Nat → Int} {n O : Nat} {B : Int} {s : SS} (h : TryI f n B O s) {a b : Nat} (ha : a < n) (hb : b < n) (h1 : s.f a < 0) (h2 : 0 < s.f b) :
    TryI f n B O (payM a b s) ∧ cntP (nzB (payM a b s).f) n < cntP (nzB s.f) n ∧ (payM a b s).l = s.l ++ [[(a : Int), (b : Int), min (-(s.f a)) (s.f b)]] ∧ ∀ i, (payM a b s).f i = upd (upd s.f a (s.f a + min (-(s.f a)) (s.f b))) b (s.f b - min (-(s.f a)) (s.f b)) i := by
  have hab : a ≠ b := fun e => by subst e; omega
  have hz : amtM s.f a b = min (-(s.f a)) (s.f b) := by unfold amtM; omega
  have he : payM a b s = ⟨upd (upd s.f a (s.f a + amtM s.f a b)) b (upd s.f a (s.f a + amtM s.f a b) b - amtM s.f a b), s.l ++ [[(a : Int), (b : Int), amtM s.f a b]]⟩ := by
    unfold payM
    rw [if_neg, if_neg (by omega)]
    rintro (e | e)
    · omega
    · have : decide (0 < s.f a) = false := decide_eq_false (by omega)
      rw [this, decide_eq_true h2] at e
      cases e
  rw [upd_other _ _ (fun e => hab e.symm)] at he
  have hP := h.p.pay hab ha hb
  have hsub : ∀ i, i < n → nzB (payM a b s).f i = true → nzB s.f i = true := fun i _ hi => by
    rw [nzB_yes] at hi ⊢
    rw [he] at hi
    dsimp only at hi
    by_cases e : i = b
    · subst e; omega
    · rw [upd_other _ _ e] at hi
      by_cases e' : i = a
      · subst e'; omega
      · rw [upd_other _ _ e'] at hi
        exact hi
  have hl : cntP (nzB (payM a b s).f) n + 1 ≤ cntP (nzB s.f) n := by
    rcases Int.le_total (-(s.f a)) (s.f b) with q | q
    · refine (cntP_sub (e := a) hsub).2 ha (nzB_yes.2 (by omega)) ?_
      rw [he]
      unfold nzB
      simp only [upd_other _ _ hab, upd_same]
      simp
      omega
    · refine (cntP_sub (e := b) hsub).2 hb (nzB_yes.2 (by omega)) ?_
      rw [he]
      unfold nzB
      simp only [upd_same]
      simp
      omega
  have hlen : (payM a b s).l.length = s.l.length + 1 := by rw [he]; simp
  refine ⟨⟨hP, by have := h.c; omega, ?_⟩, by omega, by rw [he, hz], fun i => by rw [he, hz]⟩
  have e1 : sumTo (payM a b s).f n = sumTo (fun i => s.f i + ((if True then (if a = i then amtM s.f a b else 0) else 0) + (if True then (if b = i then -(amtM s.f a b) else 0) else 0))) n := sumTo_congr fun i _ => by
    rw [he]
    dsimp only
    by_cases e : i = b
    · subst e
      rw [upd_same, if_pos trivial, if_pos trivial, if_neg hab, if_pos rfl]
      omega
    · rw [upd_other _ _ e]
      by_cases e' : i = a
      · subst e'
        rw [upd_same, if_pos trivial, if_pos trivial, if_pos rfl, if_neg (fun q => e q.symm)]
        omega
      · rw [upd_other _ _ e', if_pos trivial, if_pos trivial, if_neg (fun q => e' q.symm), if_neg (fun q => e q.symm)]
        omega
  rw [e1, sumTo_add, sumTo_add, h.s, sum_at (fun _ => True), sum_at (fun _ => True), if_pos ⟨ha, trivial⟩, if_pos ⟨hb, trivial⟩]
  omega
/-- Payments that settle all are found right, and are no fewer than there are open ones less the most groups. -/
theorem pays_ok {f : Nat → Int} {n : Nat} {B : Int} {s : SS} {K : Nat} (h : PayI f n B s) (hB : B ≤ 6000000) (hz : ∀ i, i < n → s.f i = 0) (hK : ∀ k, WayS f n (openM f n) k → k ≤ K) :
    settE n s.l.length (rowsAt s.l) = 0 ∧ settV n s.l.length (rowsAt s.l) f = true ∧ cntP (nzB f) n ≤ K + s.l.length := by
  have hE : settE n s.l.length (rowsAt s.l) = 0 := by
    have q1 : anyTo (fun j => !(inB (rowsAt s.l j 0) 0 ((n : Int) - 1) && inB (rowsAt s.l j 1) 0 ((n : Int) - 1))) s.l.length = false := anyTo_false.2 fun j hj => by
      obtain ⟨p, q, a1, a2, a3, a4, a5, a6⟩ := h.row j hj
      rw [a4, a5, show inB (p : Int) 0 ((n : Int) - 1) = true from decide_eq_true (by omega), show inB (q : Int) 0 ((n : Int) - 1) = true from decide_eq_true (by omega)]
      rfl
    have q2 : anyTo (fun j => rowsAt s.l j 0 == rowsAt s.l j 1) s.l.length = false := anyTo_false.2 fun j hj => by
      obtain ⟨p, q, a1, a2, a3, a4, a5, a6⟩ := h.row j hj
      rw [a4, a5]
      simp
      omega
    have q3 : anyTo (fun j => !inB (rowsAt s.l j 2) 1 6000000) s.l.length = false := anyTo_false.2 fun j hj => by
      obtain ⟨p, q, a1, a2, a3, a4, a5, a6, a7⟩ := h.row j hj
      rw [show inB (rowsAt s.l j 2) 1 6000000 = true from decide_eq_true (by omega)]
      rfl
    unfold settE
    rw [q1, q2, q3]
    rfl
  refine ⟨hE, ?_, ?_⟩
  · unfold settV
    rw [hE, anyTo_false.2 fun i hi => ?_]
    · rfl
    · have := h.bal i
      rw [hz i hi] at this
      have e : payS (rowsAt s.l) (i : Int) s.l.length = f i := by
        unfold payS
        rw [this]
        omega
      rw [e]
      simp
  · obtain ⟨k, k1, k2⟩ := merge_way (f := f) (n := n) (m := s.l.length) (a := fun j => (rowsAt s.l j 0).toNat) (b := fun j => (rowsAt s.l j 1).toNat) (z := fun j => rowsAt s.l j 2) (fun j hj => by
      obtain ⟨p, q, a1, a2, _, a3, a4, _⟩ := h.row j hj
      rw [a3, a4]
      simp [a1, a2]) (fun i hi => by
      have := h.bal i
      rw [hz i hi] at this
      rw [Int.sub_zero] at this
      rw [← this]
      refine sumTo_congr fun j hj => ?_
      obtain ⟨p, q, a1, a2, _, a3, a4, _⟩ := h.row j hj
      rw [a3, a4]
      simp only [Int.toNat_natCast]
      have e1 : ((q : Int) = (i : Int)) ↔ q = i := by omega
      have e2 : ((p : Int) = (i : Int)) ↔ p = i := by omega
      simp only [e1, e2])
    have := hK k k1
    have k2 : cntP (nzB f) n ≤ k + s.l.length := k2
    omega
/-- A bushel more in the first payment. -/
def plusR (p : Nat → Nat → Int) (j c : Nat) : Int := if j = 0 ∧ c = 2 then p 0 2 + 1 else p j c
theorem plus_no {f : Nat → Int} {n : Nat} {B : Int} {s : SS} (h : PayI f n B s) (hB : B ≤ 5000000) (hz : ∀ i, i < n → s.f i = 0) (h0 : 0 < s.l.length) :
    settE n s.l.length (plusR (rowsAt s.l)) = 0 ∧ settV n s.l.length (plusR (rowsAt s.l)) f = false := by
  have p0 : ∀ j, plusR (rowsAt s.l) j 0 = rowsAt s.l j 0 := fun j => by unfold plusR; rw [if_neg (by omega)]
  have p1 : ∀ j, plusR (rowsAt s.l) j 1 = rowsAt s.l j 1 := fun j => by unfold plusR; rw [if_neg (by omega)]
  have p2 : ∀ j, plusR (rowsAt s.l) j 2 = rowsAt s.l j 2 + if j = 0 then 1 else 0 := fun j => by
    unfold plusR
    by_cases e : j = 0
    · subst e; simp
    · rw [if_neg (fun q => e q.1), if_neg e]; omega
  have hE : settE n s.l.length (plusR (rowsAt s.l)) = 0 := by
    have q1 : anyTo (fun j => !(inB (plusR (rowsAt s.l) j 0) 0 ((n : Int) - 1) && inB (plusR (rowsAt s.l) j 1) 0 ((n : Int) - 1))) s.l.length = false := anyTo_false.2 fun j hj => by
      obtain ⟨p, q, a1, a2, a3, a4, a5, a6⟩ := h.row j hj
      rw [p0, p1, a4, a5, show inB (p : Int) 0 ((n : Int) - 1) = true from decide_eq_true (by omega), show inB (q : Int) 0 ((n : Int) - 1) = true from decide_eq_true (by omega)]
      rfl
    have q2 : anyTo (fun j => plusR (rowsAt s.l) j 0 == plusR (rowsAt s.l) j 1) s.l.length = false := anyTo_false.2 fun j hj => by
      obtain ⟨p, q, a1, a2, a3, a4, a5, a6⟩ := h.row j hj
      rw [p0, p1, a4, a5]
      simp
      omega
    have q3 : anyTo (fun j => !inB (plusR (rowsAt s.l) j 2) 1 6000000) s.l.length = false := anyTo_false.2 fun j hj => by
      obtain ⟨p, q, a1, a2, a3, a4, a5, a6, a7⟩ := h.row j hj
      rw [p2, show inB (rowsAt s.l j 2 + if j = 0 then 1 else 0) 1 6000000 = true from decide_eq_true (by split <;> omega)]
      rfl
    unfold settE
    rw [q1, q2, q3]
    rfl
  refine ⟨hE, ?_⟩
  obtain ⟨p, q, a1, a2, a3, a4, a5, a6⟩ := h.row 0 h0
  unfold settV
  rw [hE, anyTo_true.2 ⟨p, a1, ?_⟩]
  · rfl
  · have hb := h.bal p
    rw [hz p a1] at hb
    have e1 : payS (plusR (rowsAt s.l)) (p : Int) s.l.length = sumTo (fun j => ((if rowsAt s.l j 1 = (p : Int) then rowsAt s.l j 2 else 0) - (if rowsAt s.l j 0 = (p : Int) then rowsAt s.l j 2 else 0)) + (if True then (if 0 = j then -1 else 0) else 0)) s.l.length := sumTo_congr fun j hj => by
      rw [p0, p1, p2]
      by_cases e : j = 0
      · subst e
        have e2 : ¬ (q : Int) = (p : Int) := by omega
        simp [a4, a5, e2]
        omega
      · have e3 : (if j = 0 then (1 : Int) else 0) = 0 := if_neg e
        have e4 : (if 0 = j then (-1 : Int) else 0) = 0 := if_neg (fun q => e q.symm)
        rw [e3, if_pos trivial, e4, Int.add_zero, Int.add_zero]
    rw [e1, sumTo_add, hb, sum_at (fun _ => True), if_pos ⟨h0, trivial⟩]
    simp
    omega
theorem occ_one {c : Nat → Nat} {gr : Nat → Nat → Int} {z : Int} : ∀ {q : Nat}, occS c gr z q = 1 → ∃ k, k < q ∧ timesTo (gr k) z (c k) = 1 ∧ ∀ i, i < q → i ≠ k → timesTo (gr i) z (c i) = 0
  | 0, h => by simp [occS] at h
  | q + 1, h => by
    simp only [occS] at h
    by_cases e : occS c gr z q = 1
    · obtain ⟨k, h1, h2, h3⟩ := occ_one e
      exact ⟨k, by omega, h2, fun i hi hne => by
        by_cases e' : i = q
        · subst e'; omega
        · exact h3 i (by omega) hne⟩
    · have e0 : occS c gr z q = 0 := by omega
      refine ⟨q, Nat.lt_succ_self q, by omega, fun i hi hne => ?_⟩
      have : ∀ m, occS c gr z m = 0 → ∀ i, i < m → timesTo (gr i) z (c i) = 0 := fun m => by
        induction m with
        | zero => intro _ i hi; omega
        | succ m ih =>
          intro h i hi
          simp only [occS] at h
          by_cases e' : i = m
          · subst e'; omega
          · exact ih (by omega) i (by omega)
      exact this q e0 i (by omega)
theorem sum_times {f : Nat → Int} {n : Nat} {r : Nat → Int} : ∀ m, (∀ j, j < m → ∃ t : Nat, r j = (t : Int) ∧ t < n) → sumTo (fun i => if timesTo r (i : Int) m = 0 then 0 else f i * (timesTo r (i : Int) m : Int)) n = sumTo (fun j => f (r j).toNat) m
  | 0, _ => Eq.trans (sumTo_congr fun i _ => by simp [timesTo]) (sumTo_zero n)
  | m + 1, h => by
    have ih := sum_times (f := f) m fun j hj => h j (by omega)
    obtain ⟨t, ht, htn⟩ := h m (by omega)
    rw [sumTo_succ, ← ih, ht, Int.toNat_natCast]
    have e : sumTo (fun i => if timesTo r (i : Int) (m + 1) = 0 then 0 else f i * (timesTo r (i : Int) (m + 1) : Int)) n = sumTo (fun i => (if timesTo r (i : Int) m = 0 then 0 else f i * (timesTo r (i : Int) m : Int)) + (if True then (if t = i then f t else 0) else 0)) n := sumTo_congr fun i hi => by
      have e1 : timesTo r (i : Int) (m + 1) = timesTo r (i : Int) m + if r m = (i : Int) then 1 else 0 := rfl
      rw [e1, ht]
      by_cases q : t = i
      · subst q
        have e2 : (if (t : Int) = (t : Int) then 1 else 0 : Nat) = 1 := if_pos rfl
        rw [e2, if_neg (by omega), if_pos trivial, if_pos rfl]
        push_cast
        rw [Int.mul_add, Int.mul_one]
        by_cases z : timesTo r (t : Int) m = 0
        · rw [if_pos z, z]; simp
        · rw [if_neg z]
      · have e2 : (if (t : Int) = (i : Int) then 1 else 0 : Nat) = 0 := if_neg (by omega)
        rw [e2, if_pos trivial, if_neg q, Nat.add_zero, Int.add_zero]
    rw [e, sumTo_add, sum_at (fun _ => True), if_pos ⟨htn, trivial⟩]
/-- Groups that are tried: they show no fewer payments, or are found wrong. -/
theorem tried_ok {n : Nat} {m : Nat → Nat} {g : Nat → Nat → Int} (h0 : chkD n m g = 0) {K q : Nat} (hK : ∀ k, WayS (netTo g n n) n (openM (netTo g n n) n) k → k ≤ K) {c : Nat → Nat} {gr : Nat → Nat → Int}
    (hm : ∀ k j, k < q → j < c k → ∃ t : Nat, gr k j = (t : Int) ∧ t < n ∧ netTo g n n t ≠ 0) (hr : ∀ k, k < q → 0 < c k ∧ ∀ j, j + 1 < c k → gr k j < gr k (j + 1)) :
    showE n m g q c gr = 8 ∨ (showE n m g q c gr = 0 ∧ showV n m g q c gr = (cntP (nzB (netTo g n n)) n : Int) - q ∧ q ≤ K) := by
  obtain ⟨f, hf⟩ : ∃ f, netTo g n n = f := ⟨_, rfl⟩
  rw [hf] at hK hm ⊢
  have e1 : outG n q c gr = false := by
    rw [outG_eq]
    refine anyTo_false.2 fun k hk => anyTo_false.2 fun j hj => ?_
    obtain ⟨t, h1, h2, _⟩ := hm k j hk hj
    rw [h1, show inB (t : Int) 0 ((n : Int) - 1) = true from decide_eq_true (by omega)]
    rfl
  have e2 : offG q c gr = false := by
    refine anyTo_false.2 fun k hk => ?_
    have e : fallB (gr k) (c k) = false := anyTo_false.2 fun j hj => decide_eq_false (by have := (hr k hk).2 j (by omega); omega)
    unfold ordB
    rw [e, show decide (0 < c k) = true from decide_eq_true (hr k hk).1]
    rfl
  have hE : showE n m g q c gr = if anyTo (badG f c gr) q then 8 else if anyTo (fun k : Nat => !(f k == 0) && !(occS c gr (k : Int) q == 1)) n then 8 else 0 := by
    unfold showE
    rw [if_neg (by rw [h0]; simp), if_neg (by rw [e1]; simp), if_neg (by rw [e2]; simp), hf]
    congr 1
    congr 1
    rw [eq_iff_iff]
    rw [anyTo_same (n := n) fun k _ => show offT f (fun i => rowsAt (allR c gr q) i 0) (allR c gr q).length k = (!(f k == 0) && !(occS c gr (k : Int) q == 1)) by unfold offT; rw [occS_eq]]
  cases b1 : anyTo (badG f c gr) q
  case true => rw [b1] at hE; exact .inl hE
  cases b2 : anyTo (fun k : Nat => !(f k == 0) && !(occS c gr (k : Int) q == 1)) n
  case true => rw [b1, b2] at hE; exact .inl hE
  rw [b1, b2] at hE
  have hE : showE n m g q c gr = 0 := hE
  refine .inr ⟨hE, ?_, hK q ?_⟩
  · unfold showV
    rw [if_pos hE, many_cnt, hf]
  · have hone : ∀ i, i < n → f i ≠ 0 → occS c gr (i : Int) q = 1 := fun i hi h => by
      have := anyTo_false.1 b2 i hi
      simpa [h] using this
    have hsum : ∀ k, k < q → sumTo (fun j => f (gr k j).toNat) (c k) = 0 := fun k hk => by
      have := anyTo_false.1 b1 k hk
      unfold badG at this
      rw [Bool.or_eq_false_iff] at this
      simpa using this.2
    have hch : ∀ i : Nat, ∃ k : Nat, i < n → f i ≠ 0 → k < q ∧ timesTo (gr k) (i : Int) (c k) = 1 ∧ ∀ j, j < q → j ≠ k → timesTo (gr j) (i : Int) (c j) = 0 := fun i => by
      by_cases h : i < n ∧ f i ≠ 0
      · obtain ⟨k, h1⟩ := occ_one (hone i h.1 h.2)
        exact ⟨k, fun _ _ => h1⟩
      · exact ⟨0, fun h1 h2 => absurd ⟨h1, h2⟩ h⟩
    obtain ⟨col, hcol⟩ := Classical.axiomOfChoice hch
    have hob : ∀ i, i < n → ((openM f n).testBit i = true ↔ f i ≠ 0) := fun i hi => by rw [openM_bit]; simp [hi]
    have hpos : ∀ k (r : Nat → Int) (t : Nat) mm j, j < mm → r j = (t : Int) → k = timesTo r (t : Int) mm → 0 < k := fun k r t mm => by
      induction mm generalizing k with
      | zero => intro j hj; omega
      | succ mm ih =>
        intro j hj hr hk
        simp only [timesTo] at hk
        by_cases e : j = mm
        · subst e; rw [if_pos hr] at hk; omega
        · have := ih _ j (by omega) hr rfl
          omega
    refine ⟨col, fun i hi hb => (hcol i hi ((hob i hi).1 hb)).1, fun k hk => ?_, fun k hk => ?_⟩
    · obtain ⟨t, h1, h2, h3⟩ := hm k 0 hk (hr k hk).1
      refine ⟨t, h2, (hob t h2).2 h3, ?_⟩
      have h4 := hcol t h2 h3
      by_cases e : col t = k
      · exact e
      · have := h4.2.2 k hk (fun q => e q.symm)
        have := hpos _ (gr k) t (c k) 0 (hr k hk).1 h1 rfl
        omega
    · refine Eq.trans (sumTo_congr fun i hi => ?_) ((sum_times (f := f) (n := n) (c k) (fun j hj => by obtain ⟨t, h1, h2, _⟩ := hm k j hk hj; exact ⟨t, h1, h2⟩)).trans (hsum k hk))
      by_cases h0 : f i = 0
      · rw [h0]; simp
      · have h4 := hcol i hi h0
        by_cases e : col i = k
        · subst e
          rw [if_pos ⟨(hob i hi).2 h0, rfl⟩, h4.2.1, if_neg (by omega)]
          simp
        · rw [if_neg (fun q => e q.2), if_pos (h4.2.2 k hk (fun q => e q.symm))]
end Go.Proofs.YtbceepjjdfpfmaaGreat
namespace Go.Proofs.YtbceepjjdfpfmaaGreat
open Go.RowKit HandSpec LoanSpec
set_option maxHeartbeats 2000000
set_option maxRecDepth 100000
theorem heap_cells (b : Nat) {b' : Nat} (h : b' ≠ b) : ∀ (vs : List Value) (o : Nat) (w : World), (w.setCells b o vs).heap[b']? = w.heap[b']?
  | [], _, _ => rfl
  | v :: r, o, w => by
    rw [World.setCells, heap_cells b h r]
    exact Below.heap_setCell w ⟨b, o, none⟩ v b' h
/-- 'clear' of a piece of a block of slices. -/
theorem wpList_clear_val {P : Program} {w : World} {ops : Array Oper} {rest : List Oper} {o : Oper} {a : Act} {Q : Exit → Act → World → Prop} (hgd : o.guard = none) (x : Operand) (T : TypeId)
    (ho : o.op = .call { callee := .builtin .clear, args := #[x], argTypes := #[T] }) {e : TypeId} (hE : P.underlying T = some (.slice e)) {z : Value} (hz : ∀ w, (zeroValue e).run P w = .ok z w) (hzc : z.cells = #[z]) (hz1 : z.oneCell' = true)
    {g N s n cap : Nat} {v : Nat → Value} (hx : a.eval x = .slice (some ⟨g, s, none⟩) n cap) (ha : ArrV w g N v) (hn : s + n ≤ N)
    (hk : ∀ w', ArrV w' g N (fun i => if s ≤ i ∧ i < s + n then z else v i) → (∀ w0, Ext w0 w → w0.heap.size ≤ g → Ext w0 w') → Ch (fun b => b = g) w w' → wpList P ops Q rest (a.put o.dst (.tuple #[])) w') :
    wpList P ops Q (o :: rest) a w := by
  refine wpList_plain hgd fun K hK => ?_
  have fin : ∀ w', (Builtin.clear_ #[T] o.type #[.slice (some ⟨g, s, none⟩) n cap]).run P w = .ok (.tuple #[]) w' → K (a.put o.dst (.tuple #[])) w' → Oper.wp P o a w K Q := by
    intro w' hrun hw
    unfold Oper.wp
    simp [execOp, ho, resolve, invoke, builtin, hx, hrun, Result.andThen]
    exact hw
  rcases Nat.eq_zero_or_pos n with h0 | h0
  · subst h0
    exact fin w (by simp [Builtin.clear_, run_underlying hE]) (hK _ _ (hk w (ha.congr fun i _ => by rw [if_neg (by omega)]) (fun _ h _ => h) (Ch.refl _ _)))
  · obtain ⟨m, rfl⟩ : ∃ m, n = m + 1 := ⟨n - 1, by omega⟩
    have hlen : (Builtin.zeroCells z.cells (m + 1)).toList.length = m + 1 := by simp [Builtin.zeroCells, hzc]
    have hall : ∀ u ∈ (Builtin.zeroCells z.cells (m + 1)).toList, u = z := by
      intro u hu
      simp [Builtin.zeroCells, hzc] at hu
      obtain ⟨i, hi, hu⟩ := hu
      rw [← hu, Nat.mod_one]
      rfl
    have hst := run_storeCells_cells (P := P) g s (Builtin.zeroCells z.cells (m + 1)).toList 0 w (by intro j hj; rw [ha.cell (by omega)]; rfl) (by intro j hj; exact ha.frozen (by omega)) (by intro u hu; rw [hall u hu]; exact hz1)
    simp only [Nat.add_zero] at hst
    refine fin (w.setCells g s (Builtin.zeroCells z.cells (m + 1)).toList) (by simp [Builtin.clear_, run_underlying hE, hz, hst]) (hK _ _ (hk _ ⟨?_, fun i hi => ⟨?_, ?_⟩⟩ (fun w0 h0 hg => ?_) ⟨?_, fun b _ hb => heap_cells g hb _ _ _⟩))
    · rw [size_cells]; exact ha.1
    · by_cases hin : s ≤ i ∧ i < s + (m + 1)
      · show _ = some (if _ then _ else _)
        rw [if_pos hin]
        have := World.cell?_setCells_in g (Builtin.zeroCells z.cells (m + 1)).toList s w (fun j hj => by rw [ha.cell (by omega)]; rfl) (i - s) (by omega)
        rw [show s + (i - s) = i by omega] at this
        rw [this, hall _ (List.getElem_mem _)]
      · show _ = some (if _ then _ else _)
        rw [if_neg hin, World.cell?_setCells_out _ _ _ _ _ (fun _ _ => by simp only; omega)]
        exact ha.cell hi
    · rw [World.frozen?_setCells]; exact ha.frozen hi
    · exact below_setCells hg _ _ _ h0
    · rw [size_cells]; exact Nat.le_refl _
theorem asks69 (w : World) (p : Nat → Nat → Int) (L : Nat) : Asks w (.func (.func 69) #[] #[]) L (enc1 p) (fun k => decide (p k 0 < 0)) := by
  refine ⟨_, _, rfl, enters_ Tryz.func69 (by kernel_rfl) rfl, fun k hk w' he => ?_⟩
  unfold enc1
  go_enter Tryz.func69, Tryz.ntmps69
  go_wp2_with fail
  go_ret
  exact ⟨rfl, Ext.refl _⟩
theorem asks70 (w : World) (p : Nat → Nat → Int) (L : Nat) : Asks w (.func (.func 70) #[] #[]) L (enc1 p) (fun k => decide (0 < p k 0)) := by
  refine ⟨_, _, rfl, enters_ Tryz.func70 (by kernel_rfl) rfl, fun k hk w' he => ?_⟩
  unfold enc1
  go_enter Tryz.func70, Tryz.ntmps70
  go_wp2_with fail
  go_ret
  exact ⟨rfl, Ext.refl _⟩
theorem asks73 (w : World) (B : Nat → Option Addr) (m C : Nat → Nat) (L : Nat) : Asks w (.func (.func 73) #[] #[]) L (fun k => .slice (B k) (m k) (C k)) (fun k => (m k : Int) == 0) := by
  refine ⟨_, _, rfl, enters_ Tryz.func73 (by kernel_rfl) rfl, fun k hk w' he => ?_⟩
  go_enter Tryz.func73, Tryz.ntmps73
  go_wp2_with fail
  go_ret
  exact ⟨rfl, Ext.refl _⟩
theorem firstI_some {p : Nat → Bool} {n : Nat} (h : anyTo p n = true) : ∃ k, k < n ∧ (∀ j, j < k → p j = false) ∧ firstI p n = (k : Int) := by
  induction n with
  | zero => cases h
  | succ n ih =>
    by_cases e : anyTo p n = true
    · obtain ⟨k, h1, h2, h3⟩ := ih e
      have hp : p k = true := by
        cases q : p k
        · have := firstI_any p n
          rw [e] at this
          obtain ⟨a, b, c⟩ := anyTo_true.1 e
          exact absurd h3 (by
            intro h3
            have hfi : ∃ i, i < n ∧ p i = true ∧ (∀ j, j < i → p j = false) := by
              have : ∀ m, (∃ i, i < m ∧ i < n ∧ p i = true) → ∃ i, i < n ∧ p i = true ∧ (∀ j, j < i → p j = false) := fun m => by
                induction m with
                | zero => rintro ⟨i, h, _⟩; omega
                | succ m ihm =>
                  rintro ⟨i, h4, h5, h6⟩
                  by_cases z : ∃ i, i < m ∧ i < n ∧ p i = true
                  · exact ihm z
                  · refine ⟨i, h5, h6, fun j hj => ?_⟩
                    cases y : p j
                    · rfl
                    · exact absurd ⟨j, by omega, by omega, y⟩ z
              exact this n ⟨a, b, b, c⟩
            obtain ⟨i, i1, i2, i3⟩ := hfi
            have := firstI_yes i1 i3 i2
            rw [h3] at this
            have : k = i := by omega
            rw [this, i2] at q
            cases q)
        · rfl
      exact ⟨k, by omega, h2, firstI_yes (by omega) h2 hp⟩
    · have e' : anyTo p n = false := by simpa using e
      have hp : p n = true := by
        simp only [anyTo, e', Bool.false_or] at h
        exact h
      exact ⟨n, Nat.lt_succ_self n, anyTo_false.1 e', firstI_yes (Nat.lt_succ_self n) (anyTo_false.1 e') hp⟩
theorem run73 (A : Option Addr) (n c : Nat) (w : World) : Calls Tryz.prog 73 #[.slice A n c] w fun e w' => e = .returned (.bool ((n : Int) == 0)) ∧ w = w' := by
  go_enter Tryz.func73, Tryz.ntmps73
  go_wp2_with fail
  go_ret
  exact ⟨rfl, rfl⟩
/-- What is kept of a table of lists. -/
theorem delete72 {w : World} {G c cap : Nat} {B : Nat → Option Addr} {m C : Nat → Nat} (ha : ArrV w G c (fun k => .slice (B k) (m k) (C k))) (hc : c ≤ 100) (hcap : c ≤ cap) (hcc : cap ≤ 100) :
    Calls Tryz.prog 72 #[.slice (some ⟨G, 0, none⟩) c cap, .func (.func 73) #[] #[]] w fun e w' => ∃ (q : Nat) (sel : Nat → Nat), e = .returned (.slice (some ⟨G, 0, none⟩) q cap) ∧ q ≤ c ∧ (∀ k, k < q → sel k < c ∧ 0 < m (sel k)) ∧ RdV w' (some ⟨G, 0, none⟩) q (fun k => .slice (B (sel k)) (m (sel k)) (C (sel k))) ∧
      Ch (fun b => b = G) w w' ∧ ∀ w0, Ext w0 w → w0.heap.size ≤ G → Ext w0 w' := by
  have HA := hid ha
  clear ha
  have hrv : RdV w (some ⟨G, 0, none⟩) c (fun k => .slice (B k) (m k) (C k)) := fun _ => ⟨G, 0, rfl, fun k hk => by rw [Nat.zero_add]; exact HA.out.cell hk⟩
  have HV := hid hrv
  clear hrv
  have hz : ∀ w, (zeroValue 22).run Tryz.prog w = .ok (.slice none 0 0) w := fun w => by kernel_rfl
  cases hany : anyTo (fun k => (m k : Int) == 0) c
  · have hno := hid (anyTo_false.1 hany)
    have hf := hid (firstI_no hno.out)
    clear hany
    go_enter Tryz.func72, Tryz.ntmps72
    go_wp2_with (go_at_call 151; refine (indexFunc151 HV.out (by omega) (asks73 w B m C c)).mono ?_; rintro e w1 ⟨rfl, he1⟩; rw [hf.out])
    go_ret
    exact ⟨c, fun k => k, rfl, Nat.le_refl _, fun k hk => ⟨hk, by have := hno.out k hk; simp at this; show 0 < m k; omega⟩, HV.out.ext he1, (Ch.ofExt he1).mono (fun _ h => h.elim), fun w0 h _ => h.trans he1⟩
  · obtain ⟨k0, h1, h2, h3⟩ := firstI_some hany
    have hf := hid h3
    have hpre := hid h2
    have hk0 : ((k0 : Int) == -1) = false := by simp
    clear hany h2 h3
    go_enter Tryz.func72, Tryz.ntmps72
    go_upto_region 5 with (go_at_call 151; refine (indexFunc151 HV.out (by omega) (asks73 w B m C c)).mono ?_; rintro e w1 ⟨rfl, he1⟩; rw [hf.out]; have HA1 := hid (HA.out.ext he1); have E1 := hid he1; clear he1)
    go_loopw [5, 6] (fun a i W => ∃ (q j : Nat) (V : Nat → Value) (sel : Nat → Nat), q < j ∧ j ≤ c ∧ a = .int .i64 (q : Int) ∧ i = .int .i64 (j : Int) ∧ Hid (ArrV W G c V) ∧ Hid (∀ k, k < q → V k = .slice (B (sel k)) (m (sel k)) (C (sel k)) ∧ sel k < c ∧ 0 < m (sel k)) ∧ Hid (∀ k, j ≤ k → k < c → V k = .slice (B k) (m k) (C k)) ∧ Hid (Ch (fun b => b = G) w W) ∧ Hid (∀ w0, Ext w0 w → w0.heap.size ≤ G → Ext w0 W)) (fun _ i _ => c - (intOf i).toNat)
    case atStart =>
      exact ⟨k0, k0 + 1, _, fun k => k, by omega, by omega, rfl, by go_num, HA1, hid fun k hk => ⟨rfl, show k < c by omega, by have := hpre.out k hk; simp at this; show 0 < m k; omega⟩, hid fun _ _ _ => rfl, hid ((Ch.ofExt E1.out).mono (fun _ h => h.elim)), hid fun w0 h _ => h.trans E1.out⟩
    case round =>
      clear HA1 E1
      obtain ⟨q, j, V, sel, hqj, hj, rfl, rfl, HA1, hS, hV, C1, E1⟩ := hrel
      by_cases hlj : j < c
      · have kc := HA1.out.cell hlj
        rw [hV.out j (Nat.le_refl _) hlj] at kc
        have kl := HA1.out.1
        have kq := HA1.out.cell (show q < c by omega)
        have kf := HA1.out.frozen (show q < c by omega)
        obtain ⟨M, hM⟩ : ∃ M, Hid (m j = M) := ⟨_, hid rfl⟩
        rw [hM.out] at kc
        by_cases h0 : M = 0
        · have t0 : ((M : Int) == 0) = true := by simp [h0]
          clear h0
          go_wp2_with (go_at_call 73; refine (run73 _ _ _ _).mono ?_; rintro e w1 ⟨rfl, rfl⟩; rw [t0])
          go_roundw
          case rel => exact ⟨q, j + 1, V, sel, by omega, by omega, rfl, by go_num, HA1, hS, hid fun k h1 h2 => hV.out k (by omega) h2, C1, E1⟩
          case measure => simp [intOf]; omega
        · have t0 : ((M : Int) == 0) = false := by simpa using h0
          go_wp2_with (go_at_call 73; refine (run73 _ _ _ _).mono ?_; rintro e w1 ⟨rfl, rfl⟩; rw [t0])
          go_roundw
          case rel =>
            refine ⟨q + 1, j + 1, _, fun k => if k = q then j else sel k, by omega, by omega, by go_num, by go_num, hid (HA1.out.set_ q _ (by omega)), hid fun k hk => ?_, hid fun k h1 h2 => ?_, hid (C1.out.step (Ch.ofSet _ _ _ _) (fun _ _ h => h)), hid fun w0 h hg => (E1.out w0 h hg).setCell _ hg⟩
            · by_cases e : k = q
              · subst e
                simp only [if_true]
                exact ⟨by rw [hM.out], hlj, by rw [hM.out]; omega⟩
              · simp only [if_neg e]
                exact hS.out k (by omega)
            · simp only [if_neg (show ¬ k = q by omega)]
              exact hV.out k (by omega) h2
          case measure => simp [intOf]; omega
      · have hjc : j = c := by omega
        have hqc : q < c := by omega
        clear hlj
        go_wp2_with (refine wpList_here { dst := none, op := .call { callee := .builtin .clear, args := #[.tmp 38], argTypes := #[39] }, type := _, pos := _, after := _, guard := none } ?_; refine wpList_clear_val (n := c - q) (cap := cap - q) (s := q) rfl _ 39 rfl Tryz.underlying39 hz rfl rfl (by first | rfl | (simp; omega)) HA1.out (by omega) ?_; intro w2 ha2 hb2 hc2)
        go_ret
        refine ⟨q, sel, rfl, by omega, fun k hk => (hS.out k hk).2, fun _ => ⟨G, 0, rfl, fun k hk => ?_⟩, C1.out.step hc2 (fun _ _ h => h), fun w0 h hg => hb2 w0 (E1.out w0 h hg) hg⟩
        rw [Nat.zero_add, ha2.cell (show k < c by omega)]
        rw [if_neg (by omega), (hS.out k hk).1]
end Go.Proofs.YtbceepjjdfpfmaaGreat
namespace Go
open Go.RowKit
theorem wpList_append_rows_at {P : Program} {w : World} {ops : Array Oper} {rest : List Oper} {o : Oper} {a : Act} {Q : Exit → Act → World → Prop} (hgd : o.guard = none) (s x : Operand) (T : TypeId)
    (ho : o.op = .call { callee := .builtin .append, args := #[s, x], argTypes := #[T, T] }) {e : TypeId} {c bytes : Nat} (hE : ElemOk P T e c bytes)
    {B : Nat} {v : Value} {l : List (List Int)} (hs : a.eval s = v) (hown : OwnR w B e c v l) (g m cap : Nat) (r : List (List Int)) (hx : a.eval x = .slice (some ⟨g, 0, none⟩) m cap)
    (hm : r.length = m) (hrc : ∀ q ∈ r, q.length = c) (hb : ∀ i, w.cell? ⟨g, i, none⟩ = (cellsOf r)[i]?) (hlen : l.length + m ≤ 1000000) (hB : B ≤ w.heap.size)
    (h : ∀ v' w', OwnR w' B e c v' (l ++ r) → w.grownBy w' v.ownBlock → (v'.ownBlock = v.ownBlock ∨ v'.ownBlock = some w.heap.size) → wpList P ops Q rest (a.put o.dst v') w') :
    wpList P ops Q (o :: rest) a w := by
  refine wpList_plain hgd fun K hK => ?_
  obtain ⟨i, z, hi, hz, h1, h2, h3⟩ := hE.i
  have hb0 := hE.b
  obtain ⟨v', w', hr, h4, h5, -, h6⟩ := run_append_own_at (P := P) w B T o.type e i z c bytes hE.u hi hz h1 h2 h3 hE.c0 v l.length (cellsOf l) hown.2 ⟨g, 0, none⟩ m cap (cellsOf r) (by rw [cellsOf_length hrc, hm]) (by
    intro j u hu
    rw [show (⟨g, 0, none⟩ : Addr).add j = ⟨g, j, none⟩ from by unfold Addr.add; by_cases h0 : j = 0 <;> simp [h0], hb, hu]) cellsOf_one (by unfold maxLen; omega) (by have := Nat.mul_le_mul hlen hb0; omega) hB
  unfold Oper.wp execOp
  simp only [ho, resolve, invoke, builtin, Sem.run_bind, Sem.run_pure, Result.andThen_ok, List.map_toArray, List.map_cons, List.map_nil, hs, hx, hr]
  exact hK _ _ (h v' w' ⟨fun q hq => (List.mem_append.1 hq).elim (hown.1 q) (hrc q), by rw [List.length_append, hm, cellsOf_append]; exact h4⟩ h5 h6)
end Go
namespace Go.Proofs.YtbceepjjdfpfmaaGreat
theorem rd_chg {S : Nat → Prop} {w w' : World} {A : Option Addr} {n c : Nat} {g : Nat → Nat → Int} (h : Rd w A n c g) (k : Ch S w w') (hA : ∀ b o, A = some ⟨b, o, none⟩ → b < w.heap.size ∧ ¬ S b) : Rd w' A n c g := fun hn => by
  obtain ⟨b, o, e, hc⟩ := h hn
  obtain ⟨h1, h2⟩ := hA b o e
  refine ⟨b, o, e, fun i hi j hj => ?_⟩
  rw [← hc i hi j hj]
  simp only [World.cell?, k.block b h1 h2]
open Go.RowKit HandSpec LoanSpec
set_option maxHeartbeats 2000000
set_option maxRecDepth 100000
/-- q own lists in one table, each in memory of its own. -/
structure TrS (W : World) (B Gt q : Nat) (V : Nat → Value) (tl : Nat → List Nat) : Prop where
  a : ArrV W Gt q V
  lt : Gt < B
  row : ∀ k, k < q → OwnR W B 3 1 (V k) (rows1 (tl k))
  ne : ∀ i j, i < q → j < q → i ≠ j → ∀ g, (V i).ownBlock = some g → (V j).ownBlock ≠ some g
namespace TrS
variable {W W' : World} {B Gt q : Nat} {V : Nat → Value} {tl : Nat → List Nat}
theorem ext (h : TrS W B Gt q V tl) (e : Ext W W') : TrS W' B Gt q V tl := ⟨h.a.ext e, h.lt, fun k hk => (h.row k hk).ext e, h.ne⟩
theorem sx {d : SackD} {l : Nat} (h : TrS W B Gt q V tl) (x : Sx d l W W') (h1 : d.blk < Gt) : TrS W' B Gt q V tl :=
  ⟨h.a.same (x.block h.a.1 (by omega)), h.lt, fun k hk => (h.row k hk).sx x (fun e => by have := (h.row k hk).block e; have := h.lt; omega), h.ne⟩
/-- One element more in list i. -/
theorem put (h : TrS W B Gt q V tl) {i t : Nat} (hi : i < q) {w8 w9 : World} {vo : Value} (e : Ext W w8) (hown : OwnR w9 B 3 1 vo (rows1 (tl i) ++ [[(t : Int)]])) (hg : w8.grownBy w9 (V i).ownBlock)
    (hat : vo.ownBlock = (V i).ownBlock ∨ vo.ownBlock = some w8.heap.size) :
    TrS (w9.setCell ⟨Gt, i, none⟩ vo) B Gt q (fun k => if k = i then vo else V k) (fun k => if k = i then tl i ++ [t] else tl k) := by
  have hlt := h.lt
  have hrow := (h.row i hi)
  refine ⟨(((h.a.ext e).same (hg.block Gt (h.a.ext e).1 (fun q => by have := hrow.block q.symm; omega))).set_ i vo hi), hlt, fun k hk => ?_, fun a b ha hb hab g hga => ?_⟩
  · by_cases hk' : k = i
    · subst hk'
      simp only [if_true]
      rw [rows1_append]
      exact hown.far' (p := ⟨Gt, k, none⟩) hlt vo
    · simp only [if_neg hk']
      exact (((h.row k hk).ext e).grownBy_other hg (fun g hg' hq => h.ne i k hi hk (fun z => hk' z.symm) g hq.symm hg')).far' (p := ⟨Gt, i, none⟩) hlt vo
  · have hsz := e.size
    by_cases ea : a = i
    · subst ea
      simp only [if_true] at hga
      simp only [if_neg (show ¬ b = a from fun z => hab z.symm)]
      rcases hat with q | q
      · rw [q] at hga
        exact h.ne a b ha hb hab g hga
      · rw [q, Option.some.injEq] at hga
        subst hga
        intro z
        have := (h.row b hb).lt z
        omega
    · simp only [if_neg ea] at hga
      by_cases eb : b = i
      · subst eb
        simp only [if_true]
        rcases hat with q | q
        · rw [q]
          exact h.ne a b ha hb hab g hga
        · rw [q, ne_eq, Option.some.injEq]
          have := (h.row a ha).lt hga
          omega
      · simp only [if_neg eb]
        exact h.ne a b ha hb hab g hga
end TrS
theorem Sx.cut {d : SackD} {k B : Nat} {w W : World} (x : Sx d k w W) (h1 : w.heap.size ≤ B) (h2 : d.blk < B) (h3 : B ≤ W.heap.size) : Sx d k w (cutW W B) :=
  ⟨x.1, by rw [cutW_size h3]; exact h1, fun b hb hs => (cutW_block (by omega)).trans (x.block hb hs), fun t ht => by
    obtain ⟨t', a1, a2, m, a3⟩ := x.2.2.2 t ht
    exact ⟨t', a1, a2, m, (cutW_block h2).trans a3⟩⟩
/-- A call that writes only blocks from B on. -/
theorem Sx.above {d : SackD} {k B : Nat} {w W W' : World} (x : Sx d k w W) (h1 : w.heap.size ≤ B) (h2 : d.blk < B) (h3 : B ≤ W.heap.size) (e : ∀ w0, Ext w0 W → w0.heap.size ≤ B → Ext w0 W') : Sx d k w W' :=
  ((Sx.cut x h1 h2 h3).trans (Sx.ofExt (e _ (cutW_ext h3) (by rw [cutW_size h3]; exact Nat.le_refl _)))).mono (by omega)
/-- Where a slice lies, and how much it can hold. -/
def adrV : Value → Option Addr
  | .slice a _ _ => a
  | _ => none
def capV : Value → Nat
  | .slice _ _ c => c
  | _ => 0
theorem TrS.slV {W : World} {B Gt q : Nat} {V : Nat → Value} {tl : Nat → List Nat} (h : TrS W B Gt q V tl) : ArrV W Gt q (fun k => .slice (adrV (V k)) ((tl k).length) (capV (V k))) :=
  h.a.congr fun k hk => by
    obtain ⟨A, c, e, -⟩ := (h.row k hk).slR
    rw [rows1_length] at e
    rw [e]
    rfl
/-- What is kept of them, when only the table was written. -/
theorem TrS.kept {W W' : World} {B Gt q q' : Nat} {V : Nat → Value} {tl : Nat → List Nat} {sel : Nat → Nat} (h : TrS W B Gt q V tl) (hc : Ch (fun b => b = Gt) W W')
    (hs : ∀ k, k < q' → sel k < q ∧ 0 < (tl (sel k)).length) (hr : RdV W' (some ⟨Gt, 0, none⟩) q' (fun k => .slice (adrV (V (sel k))) ((tl (sel k)).length) (capV (V (sel k))))) :
    RdN W' (some ⟨Gt, 0, none⟩) q' (fun k => (tl (sel k)).length) (fun k j => (((tl (sel k)).getD j 0 : Nat) : Int)) := by
  refine ⟨_, _, hr, fun k hk => ?_⟩
  obtain ⟨h1, h2⟩ := hs k hk
  have hrow := h.row _ h1
  obtain ⟨A, c, e, hrd⟩ := hrow.slR
  rw [rows1_length] at e hrd
  have hlt := h.lt
  have key : Rd W' A ((tl (sel k)).length) 1 (fun j _ => (((tl (sel k)).getD j 0 : Nat) : Int)) := by
    refine (rd_chg hrd hc fun b o hA => ?_).congr fun i hi j hj => ?_
    · rcases hrow.2.2 with ⟨q1, q2⟩ | ⟨g, cap', cur, q1, q2, q3, _⟩
      · rw [rows1_length] at q2; omega
      · rw [e] at q1
        simp only [Value.slice.injEq] at q1
        rw [hA] at q1
        have : b = g := by
          have := q1.1
          simp only [Option.some.injEq, Addr.mk.injEq] at this
          exact this.1
        subst this
        refine ⟨?_, by omega⟩
        rcases Nat.lt_or_ge b W.heap.size with z | z
        · exact z
        · rw [Array.getElem?_eq_none z] at q3; cases q3
    · obtain rfl : j = 0 := by omega
      simp [rowsAt, rows1, hi]
  show Rd W' (adrV (V (sel k))) _ 1 _
  rw [e]
  exact key
/-- What has been put into the lists: open ones below i, in increasing order. -/
structure TlS (f : Nat → Int) (i q : Nat) (tl : Nat → List Nat) : Prop where
  mem : ∀ k, k < q → ∀ j, j < (tl k).length → (tl k).getD j 0 < i ∧ f ((tl k).getD j 0) ≠ 0
  inc : ∀ k, k < q → ∀ j, j + 1 < (tl k).length → (tl k).getD j 0 < (tl k).getD (j + 1) 0
  len : ∀ k, k < q → (tl k).length ≤ i
theorem TlS.next {f : Nat → Int} {i q : Nat} {tl : Nat → List Nat} (h : TlS f i q tl) : TlS f (i + 1) q tl :=
  ⟨fun k hk j hj => ⟨by have := (h.mem k hk j hj).1; omega, (h.mem k hk j hj).2⟩, h.inc, fun k hk => by have := h.len k hk; omega⟩
theorem TlS.put {f : Nat → Int} {i q p : Nat} {tl : Nat → List Nat} (h : TlS f i q tl) (hp : p < q) (hf : f i ≠ 0) : TlS f (i + 1) q (fun k => if k = p then tl p ++ [i] else tl k) := by
  have hg : ∀ j, (tl p ++ [i]).getD j 0 = if j < (tl p).length then (tl p).getD j 0 else [i].getD (j - (tl p).length) 0 := fun j => by
    simp only [List.getD_eq_getElem?_getD, List.getElem?_append]
    split <;> rfl
  refine ⟨fun k hk j hj => ?_, fun k hk j hj => ?_, fun k hk => ?_⟩
  · by_cases e : k = p
    · subst e
      simp only [if_true] at hj ⊢
      rw [List.length_append, List.length_singleton] at hj
      rw [hg]
      by_cases q : j < (tl k).length
      · rw [if_pos q]
        exact ⟨by have := (h.mem k hk j q).1; omega, (h.mem k hk j q).2⟩
      · rw [if_neg q, show j - (tl k).length = 0 by omega]
        exact ⟨Nat.lt_succ_self i, hf⟩
    · simp only [if_neg e] at hj ⊢
      exact ⟨by have := (h.mem k hk j hj).1; omega, (h.mem k hk j hj).2⟩
  · by_cases e : k = p
    · subst e
      simp only [if_true] at hj ⊢
      rw [List.length_append, List.length_singleton] at hj
      rw [hg, hg, if_pos (by omega)]
      by_cases q : j + 1 < (tl k).length
      · rw [if_pos q]
        exact h.inc k hk j q
      · rw [if_neg q, show j + 1 - (tl k).length = 0 by omega]
        exact (h.mem k hk j (by omega)).1
    · simp only [if_neg e] at hj ⊢
      exact h.inc k hk j hj
  · by_cases e : k = p
    · subst e
      simp only [if_true]
      rw [List.length_append, List.length_singleton]
      have := h.len k hk
      omega
    · simp only [if_neg e]
      have := h.len k hk
      omega
theorem firstI_is {p : Nat → Bool} {n : Nat} (h : anyTo p n = true) : ∃ k, k < n ∧ p k = true ∧ firstI p n = (k : Int) := by
  obtain ⟨a, ha, hp⟩ := anyTo_true.1 h
  have : ∀ m, (∃ i, i < m ∧ i < n ∧ p i = true) → ∃ i, i < n ∧ p i = true ∧ ∀ j, j < i → p j = false := fun m => by
    induction m with
    | zero => rintro ⟨i, h, _⟩; omega
    | succ m ihm =>
      rintro ⟨i, h4, h5, h6⟩
      by_cases z : ∃ i, i < m ∧ i < n ∧ p i = true
      · exact ihm z
      · refine ⟨i, h5, h6, fun j hj => ?_⟩
        cases y : p j
        · rfl
        · exact absurd ⟨j, by omega, by omega, y⟩ z
  obtain ⟨i, i1, i2, i3⟩ := this n ⟨a, ha, ha, hp⟩
  exact ⟨i, i1, i2, firstI_yes i1 i3 i2⟩
end Go.Proofs.YtbceepjjdfpfmaaGreat
namespace Go.Proofs.YtbceepjjdfpfmaaGreat
open Go.RowKit HandSpec LoanSpec
set_option maxHeartbeats 2000000
set_option maxRecDepth 100000
theorem anyTo_same2 {p q : Nat → Bool} : ∀ {n : Nat}, (∀ i, i < n → p i = q i) → anyTo p n = anyTo q n
  | 0, _ => rfl
  | n + 1, h => by
    simp only [anyTo]
    rw [anyTo_same2 fun i hi => h i (by omega), h n (by omega)]
theorem asks142 {w : World} {A : Option Addr} {n cap L : Nat} {p : Nat → Nat → Int} {b : Nat} {t : TypeId} (hn : n ≤ 1000) (hb : Blk w b t #[.slice A n cap]) :
    Asks w (.func (.func 142) #[] #[.pointer (some ⟨b, 0, none⟩)]) L (enc3 p) (fun k => inB (p k 0) 0 ((n : Int) - 1) && inB (p k 1) 0 ((n : Int) - 1)) := by
  refine ⟨_, _, rfl, enters_ Tryz.func142 (by kernel_rfl) rfl, fun k hk w' he => ?_⟩
  unfold enc3
  show Calls Tryz.prog 142 _ w' fun e w'' => e = .returned (.bool (inB (p k 0) 0 ((n : Int) - 1) && inB (p k 1) 0 ((n : Int) - 1))) ∧ Ext w' w''
  have B0 := hid (hb.ext he)
  obtain ⟨x, hx⟩ : ∃ x, Hid (p k 0 = x) := ⟨_, hid rfl⟩
  obtain ⟨y, hy⟩ : ∃ x, Hid (p k 1 = x) := ⟨_, hid rfl⟩
  obtain ⟨z, hz⟩ : ∃ x, Hid (p k 2 = x) := ⟨_, hid rfl⟩
  rw [hx.out, hy.out, hz.out]
  obtain ⟨s, hs⟩ : ∃ s, Hid (inB x 0 ((n : Int) - 1) = s) := ⟨_, hid rfl⟩
  obtain ⟨u, hu⟩ : ∃ u, Hid (inB y 0 ((n : Int) - 1) = u) := ⟨_, hid rfl⟩
  rw [hs.out, hu.out]
  go_enter Tryz.func142, Tryz.ntmps142
  go_upto_region 1 with fail
  refine wp_later fun w1 hw1 => ?_
  obtain ⟨E1, b2⟩ := hw1.newB
  have k2 := b2.cell
  have k2l := b2.lt
  have k0 := (B0.out.ext E1).cell
  have hlt := (B0.out.ext E1).lt
  clear hw1 b2
  cases s
  · go_wp2_with (go_at_call 101; refine (in_any _ _ _ _).mono ?_; rintro e w2 ⟨rfl, rfl⟩; (first | rw [hs.out] | rw [hu.out]))
    go_ret
    exact ⟨rfl, E1⟩
  · go_wp2_with (go_at_call 101; refine (in_any _ _ _ _).mono ?_; rintro e w2 ⟨rfl, rfl⟩; (first | rw [hs.out] | rw [hu.out]))
    go_ret
    exact ⟨rfl, E1⟩
theorem asks143 (w : World) (p : Nat → Nat → Int) (L : Nat) : Asks w (.func (.func 143) #[] #[]) L (enc3 p) (fun k => p k 0 != p k 1) := by
  refine ⟨_, _, rfl, enters_ Tryz.func143 (by kernel_rfl) rfl, fun k hk w' he => ?_⟩
  unfold enc3
  go_enter Tryz.func143, Tryz.ntmps143
  go_wp2_with fail
  go_ret
  exact ⟨rfl, (Ext.refl _).alloc _⟩
theorem asks144 (w : World) (p : Nat → Nat → Int) (L : Nat) : Asks w (.func (.func 144) #[] #[]) L (enc3 p) (fun k => inB (p k 2) 1 6000000) := by
  refine ⟨_, _, rfl, enters_ Tryz.func144 (by kernel_rfl) rfl, fun k hk w' he => ?_⟩
  unfold enc3
  go_enter Tryz.func144, Tryz.ntmps144
  go_upto_region 1 with fail
  refine wp_later fun w1 hw1 => ?_
  obtain ⟨E1, b2⟩ := hw1.newB
  have k2 := b2.cell
  have k2l := b2.lt
  clear hw1 b2
  go_wp2_with (go_at_call 101; refine (in_any _ _ _ _).mono ?_; rintro e w2 ⟨rfl, rfl⟩)
  go_ret
  exact ⟨rfl, E1⟩
theorem asks145 (w : World) (p : Nat → Nat → Int) (L : Nat) : Asks w (.func (.func 145) #[] #[]) L (enc1 p) (fun k => p k 0 == 0) := by
  refine ⟨_, _, rfl, enters_ Tryz.func145 (by kernel_rfl) rfl, fun k hk w' he => ?_⟩
  unfold enc1
  go_enter Tryz.func145, Tryz.ntmps145
  go_wp2_with fail
  go_ret
  exact ⟨rfl, Ext.refl _⟩
theorem settles60 {w : World} {A Ap : Option Addr} {n cap L capp : Nat} {m : Nat → Nat} {g p : Nat → Nat → Int} (hr : RdN w A n m g) (hn : n ≤ 1000) (hm : ∀ k, k < n → m k ≤ 1000) (hp : Rd w Ap L 3 p) (hL : L ≤ 1000) :
    Calls Tryz.prog 60 #[.slice A n cap, .slice Ap L capp] w fun e w' => e = .returned (.tuple #[.bool (if chkD n m g = 0 then settV n L p (netTo g n n) else false), .int .i64 (if chkD n m g = 0 then settE n L p else chkD n m g)]) ∧ Ext w w' := by
  have hmf : ∀ (fn : Fn) (first cap : Array Value) (w : World), (Instr.makeFunc fn first cap).run Tryz.prog w = .ok (.func fn first cap) w := fun _ _ _ _ => rfl
  have HR := hid hr
  have HM := hid hm
  have HP := hid hp
  clear hr hm hp
  obtain ⟨s, hs⟩ : ∃ s, Hid (chkD n m g = s) := ⟨_, hid rfl⟩
  rw [hs.out]
  have B1 := hid (Blk.new w 48 #[.slice A n cap])
  have E1 : Ext w (w.alloc (.cells #[.slice A n cap] 48)) := (Ext.refl _).alloc _
  have E1 := hid E1
  rcases (Decidable.em (s = 0)).symm with h0 | h0
  · have hne : (s != 0) = true := by simpa using h0
    rw [if_neg h0, if_neg h0]
    clear h0
    go_enter Tryz.func60, Tryz.ntmps60
    go_wp2_with (go_at_call 33; refine (checkDebts33 (HR.out.ext E1.out) hn HM.out).mono ?_; rintro e w1 ⟨rfl, he1⟩; rw [hs.out])
    go_ret2
    exact ⟨rfl, E1.out.trans he1⟩
  subst h0
  rw [if_pos rfl, if_pos rfl]
  obtain ⟨hd, hsq⟩ := chkD_zero hs.out
  have HD := hid hd
  have HR2 := hid (HR.out.congr (m' := fun _ => n) (g' := g) fun k hk => ⟨hsq k hk, fun _ _ => rfl⟩)
  have hn7 := hd.hn
  clear hd hsq
  obtain ⟨f, hf⟩ : ∃ f, Hid (netTo g n n = f) := ⟨_, hid rfl⟩
  have hfb := hid (show ∀ i, i < n → -6000000 ≤ f i ∧ f i ≤ 6000000 from fun i hi => by rw [← hf.out]; exact net_bd HD.out hi)
  rw [hf.out]
  obtain ⟨er, her⟩ : ∃ er, Hid (settE n L p = er) := ⟨_, hid rfl⟩
  obtain ⟨vr, hvr⟩ : ∃ vr, Hid (settV n L p f = vr) := ⟨_, hid rfl⟩
  obtain ⟨q1, hq1⟩ : ∃ x, Hid (anyTo (fun j => !(inB (p j 0) 0 ((n : Int) - 1) && inB (p j 1) 0 ((n : Int) - 1))) L = x) := ⟨_, hid rfl⟩
  obtain ⟨q2, hq2⟩ : ∃ x, Hid (anyTo (fun j => p j 0 == p j 1) L = x) := ⟨_, hid rfl⟩
  have hq2' := hid (show anyTo (fun k => !(p k 0 != p k 1)) L = q2 by rw [← hq2.out]; exact anyTo_same2 fun k _ => by simp [bne])
  obtain ⟨q3, hq3⟩ : ∃ x, Hid (anyTo (fun j => !inB (p j 2) 1 6000000) L = x) := ⟨_, hid rfl⟩
  have hE := hid (show er = if q1 then 1 else if q2 then 5 else if q3 then 3 else 0 by rw [← her.out]; unfold settE; rw [hq1.out, hq2.out, hq3.out])
  have hV := hid (show vr = ((er == 0) && !anyTo (fun i => !(payS p i L == f i)) n) by rw [← hvr.out, ← her.out]; rfl)
  have hV0 := hid (show er ≠ 0 → vr = false from fun h => by rw [hV.out, show (er == 0) = false by simpa using h]; rfl)
  rw [her.out, hvr.out]
  clear her hvr
  go_enter Tryz.func60, Tryz.ntmps60
  cases q1
  case true =>
    have h1 := hid (show er = 1 by rw [hE.out]; rfl)
    go_wp2_with (first | (go_at_call 33; refine (checkDebts33 (HR.out.ext E1.out) hn HM.out).mono ?_; rintro e w1 ⟨rfl, he1⟩; rw [hs.out]; have E2 := hid (E1.out.trans he1); have k1 := (B1.out.ext he1).cell; have k1l := (B1.out.ext he1).lt; have B2 := hid (B1.out.ext he1); clear he1) | (go_at_call 124; refine (every124 (HP.out.ext E2.out) hL (asks142 hn B2.out)).mono ?_; rintro e w3 ⟨rfl, he3⟩; rw [hq1.out]))
    go_ret2
    exact ⟨ret_bi (hV0.out (by rw [h1.out]; simp)).symm h1.out.symm, E2.out.trans he3⟩
  case false =>
    have hin := hid (show ∀ j, j < L → 0 ≤ p j 0 ∧ p j 0 < n ∧ 0 ≤ p j 1 ∧ p j 1 < n from fun j hj => by
      have := anyTo_false.1 hq1.out j hj
      simp [inB] at this
      omega)
    cases q2
    case true =>
      have h5 := hid (show er = 5 by rw [hE.out]; rfl)
      go_upto_region 6 with (first | (go_at_call 33; refine (checkDebts33 (HR.out.ext E1.out) hn HM.out).mono ?_; rintro e w1 ⟨rfl, he1⟩; rw [hs.out]; have E2 := hid (E1.out.trans he1); have k1 := (B1.out.ext he1).cell; have k1l := (B1.out.ext he1).lt; have B2 := hid (B1.out.ext he1); clear he1) | (go_at_call 124; refine (every124 (HP.out.ext E2.out) hL (asks142 hn B2.out)).mono ?_; rintro e w3 ⟨rfl, he3⟩; rw [hq1.out]; have E3 := hid (E2.out.trans he3); clear he3))
      go_wp2_with (go_at_call 124; refine (every124 (HP.out.ext E3.out) hL (asks143 _ p L)).mono ?_; rintro e w4 ⟨rfl, he4⟩; rw [hq2'.out])
      go_ret2
      exact ⟨ret_bi (hV0.out (by rw [h5.out]; simp)).symm h5.out.symm, E3.out.trans he4⟩
    case false =>
      cases q3
      case true =>
        have h3 := hid (show er = 3 by rw [hE.out]; rfl)
        go_upto_region 6 with (first | (go_at_call 33; refine (checkDebts33 (HR.out.ext E1.out) hn HM.out).mono ?_; rintro e w1 ⟨rfl, he1⟩; rw [hs.out]; have E2 := hid (E1.out.trans he1); have k1 := (B1.out.ext he1).cell; have k1l := (B1.out.ext he1).lt; have B2 := hid (B1.out.ext he1); clear he1) | (go_at_call 124; refine (every124 (HP.out.ext E2.out) hL (asks142 hn B2.out)).mono ?_; rintro e w3 ⟨rfl, he3⟩; rw [hq1.out]; have E3 := hid (E2.out.trans he3); clear he3))
        go_upto_region 8 with (go_at_call 124; refine (every124 (HP.out.ext E3.out) hL (asks143 _ p L)).mono ?_; rintro e w4 ⟨rfl, he4⟩; rw [hq2'.out]; have E4 := hid (E3.out.trans he4); clear he4)
        go_wp2_with (go_at_call 124; refine (every124 (HP.out.ext E4.out) hL (asks144 _ p L)).mono ?_; rintro e w5 ⟨rfl, he5⟩; rw [hq3.out])
        go_ret2
        exact ⟨ret_bi (hV0.out (by rw [h3.out]; simp)).symm h3.out.symm, E4.out.trans he5⟩
      case false =>
        have h0 := hid (show er = 0 by rw [hE.out]; rfl)
        have hpb := hid (show ∀ j, j < L → 1 ≤ p j 2 ∧ p j 2 ≤ 6000000 from fun j hj => by
          have := anyTo_false.1 hq3.out j hj
          simpa [inB] using this)
        have hne := hid (show ∀ j, j < L → p j 0 ≠ p j 1 from fun j hj => by
          have := anyTo_false.1 hq2.out j hj
          simpa using this)
        have hV1 := hid (show vr = !anyTo (fun i : Nat => !(payS p (i : Int) L == f i)) n by rw [hV.out, h0.out]; rfl)
        clear hE hV hV0
        go_upto_region 6 with (first | (go_at_call 33; refine (checkDebts33 (HR.out.ext E1.out) hn HM.out).mono ?_; rintro e w1 ⟨rfl, he1⟩; rw [hs.out]; have E2 := hid (E1.out.trans he1); have k1 := (B1.out.ext he1).cell; have k1l := (B1.out.ext he1).lt; have B2 := hid (B1.out.ext he1); clear he1) | (go_at_call 124; refine (every124 (HP.out.ext E2.out) hL (asks142 hn B2.out)).mono ?_; rintro e w3 ⟨rfl, he3⟩; rw [hq1.out]; have E3 := hid (E2.out.trans he3); have B3 := hid (B2.out.ext he3); clear he3))
        go_upto_region 8 with (go_at_call 124; refine (every124 (HP.out.ext E3.out) hL (asks143 _ p L)).mono ?_; rintro e w4 ⟨rfl, he4⟩; rw [hq2'.out]; have E4 := hid (E3.out.trans he4); have B4 := hid (B3.out.ext he4); clear he4)
        go_upto_region 10 with (go_at_call 124; refine (every124 (HP.out.ext E4.out) hL (asks144 _ p L)).mono ?_; rintro e w5 ⟨rfl, he5⟩; rw [hq3.out]; have E5 := hid (E4.out.trans he5); have B5 := B4.out.ext he5; have k1 := B5.cell; have k1l := B5.lt; clear he5)
        go_upto_region 11 with (go_at_call 108; refine (net108 (HR2.out.ext E5.out) HD.out).mono ?_; rintro e w6 ⟨G, rfl, he6, hG, hA⟩; rw [hf.out] at hA; have HN := hid (hA.congr (h' := fun i => f i - payS p (i : Int) 0) fun i hi => by show f i = f i - 0; omega); have E6 := hid (E5.out.trans he6); have hGw := hid (Nat.le_trans E5.out.size hG); clear hA hG he6)
        clear B5 k1 k1l B1 B2 B3 B4
        go_upto_region 12 with fail
        go_loopw [33] (fun i wr => ∃ k : Nat, k ≤ L ∧ i = .int .i64 (k : Int) ∧ Hid (ArrB wr G 3 n (fun i => f i - payS p (i : Int) k)) ∧ Hid (Ext w wr)) (fun i _ => L - (intOf i).toNat)
        case atStart => exact ⟨0, Nat.zero_le _, rfl, HN, E6⟩
        case round =>
          clear HN E6
          obtain ⟨k, hk, rfl, hA, he⟩ := hrel
          have hpk := payS_bd (p := p) (L := L)
          by_cases hlt : k < L
          · obtain ⟨b, o, rfl, hb, z0, z1, z2⟩ := (HP.out.ext he.out).at3 hlt
            obtain ⟨i0, i1, i2, i3⟩ := hin.out k hlt
            have hb2 := hpb.out k hlt
            have hn2 := hne.out k hlt
            obtain ⟨a, ha⟩ : ∃ a : Nat, Hid (p k 0 = (a : Int)) := ⟨(p k 0).toNat, hid (by omega)⟩
            obtain ⟨t, ht⟩ : ∃ a : Nat, Hid (p k 1 = (a : Int)) := ⟨(p k 1).toNat, hid (by omega)⟩
            obtain ⟨x, hx⟩ : ∃ x, Hid (p k 2 = x) := ⟨_, hid rfl⟩
            rw [ha.out] at z0 i0 i1 hn2
            rw [ht.out] at z1 i2 i3 hn2
            rw [hx.out] at z2 hb2
            have han : a < n := by omega
            have htn : t < n := by omega
            have hat : a ≠ t := by omega
            have hst := hid (show ∀ i : Nat, f i - payS p (i : Int) (k + 1) = f i - payS p (i : Int) k - ((if t = i then x else 0) - (if a = i then x else 0)) from fun i => by
              have e : payS p (i : Int) (k + 1) = payS p (i : Int) k + ((if p k 1 = (i : Int) then p k 2 else 0) - (if p k 0 = (i : Int) then p k 2 else 0)) := rfl
              rw [e, ha.out, ht.out, hx.out]
              have e1 : ((t : Int) = (i : Int)) ↔ t = i := by omega
              have e2 : ((a : Int) = (i : Int)) ↔ a = i := by omega
              simp only [e1, e2]
              omega)
            go_upto_region 14 with fail
            refine wp_later fun w7 hw7 => ?_
            obtain ⟨E7, b9⟩ := hw7.newB
            have hA7 := hid (hA.out.ext E7)
            have he7 := hid (he.out.trans E7)
            have hgs := hid (show G < wr.heap.size from hA.out.lt)
            have k9 := b9.cell
            have k9l := b9.lt
            have B9 := hid b9
            clear hw7 b9 z0 z1 z2 hb i0 i1 i2 i3 hn2
            obtain ⟨ya, hya⟩ : ∃ y, Hid (f a - payS p (a : Int) k = y) := ⟨_, hid rfl⟩
            have hyab : -7000000000 ≤ ya ∧ ya ≤ 7000000000 := by
              have h1 := hfb.out a han
              have h2 := hpk (a : Int) hpb.out k hk
              rw [← hya.out]
              omega
            obtain ⟨yt, hyt⟩ : ∃ y, Hid (f t - payS p (t : Int) k = y) := ⟨_, hid rfl⟩
            have hytb : -7000000000 ≤ yt ∧ yt ≤ 7000000000 := by
              have h1 := hfb.out t htn
              have h2 := hpk (t : Int) hpb.out k hk
              rw [← hyt.out]
              omega
            clear hpk
            have ca := hA7.out.cell han
            have fa := hA7.out.frozen a
            have Gl := hA7.out.lt
            rw [hya.out] at ca
            refine wp_region_tail 9 (by kernel_rfl) (by kernel_rfl) ?_
            simp only [List.take_succ_cons, List.take_zero, List.drop_succ_cons, List.drop_zero]
            repeat (go_big_quiet_step (fail))
            refine wpQuiet_nil ?_
            rintro w8 ⟨⟨_, he8⟩, rfl⟩
            have hA8 := hA7.out.ext he8
            have fa := hA8.frozen a
            have Gl := hA8.lt
            have B8 := hid (B9.out.ext he8)
            clear ca k9 k9l
            have ca := hA8.cell han
            rw [hya.out] at ca
            go_upto_region 15 with fail
            have hA9 := hid (hA8.set_ a (ya + x))
            have b10 := B8.out.far (p := ⟨G, a, none⟩) (by have := hgs.out; show wr.heap.size ≠ G; omega) (.int .i64 (ya + x))
            have he9 := hid ((he7.out.trans he8).setCell (p := ⟨G, a, none⟩) (.int .i64 (ya + x)) hGw.out)
            obtain ⟨w9, hw9⟩ : ∃ W : World, Hid (W = w8.setCell ⟨G, a, none⟩ (.int .i64 (ya + x))) := ⟨_, hid rfl⟩
            rw [← hw9.out] at hA9 b10 he9 ⊢
            have k10 := b10.cell
            have k10l := b10.lt
            have ct := hA9.out.cell htn
            have ft := hA9.out.frozen t
            have Gl := hA9.out.lt
            rw [upd_other _ _ (fun e => hat e.symm), hyt.out] at ct
            clear hA8 fa ca
            refine wp_region_tail 9 (by kernel_rfl) (by kernel_rfl) ?_
            simp only [List.take_succ_cons, List.take_zero, List.drop_succ_cons, List.drop_zero]
            repeat (go_big_quiet_step (fail))
            refine wpQuiet_nil ?_
            rintro w10 ⟨⟨_, he10⟩, rfl⟩
            have hA10 := hA9.out.ext he10
            have ft := hA10.frozen t
            have Gl := hA10.lt
            clear k10 k10l b10 ct
            have ct := hA10.cell htn
            rw [upd_other _ _ (fun e => hat e.symm), hyt.out] at ct
            go_wp2_with fail
            go_roundw
            case rel =>
              refine ⟨k + 1, by omega, by go_num, hid ((hA10.set_ t (yt - x)).congr fun i hi => ?_), hid ((he9.out.trans he10).setCell _ hGw.out)⟩
              rw [hst.out]
              by_cases e : i = t
              · subst e
                rw [upd_same, if_pos rfl, if_neg hat, ← hyt.out]
                omega
              · rw [upd_other _ _ e, if_neg (fun q => e q.symm)]
                by_cases e' : i = a
                · subst e'
                  rw [upd_same, if_pos rfl, ← hya.out]
                  omega
                · rw [upd_other _ _ e', if_neg (fun q => e' q.symm)]
                  omega
            case measure => simp [intOf]; omega
          · have hkL : k = L := by omega
            have HN := hid (hA.out.rd (A := some ⟨G, 0, none⟩) fun _ => rfl)
            have hz := hid (show (!anyTo (fun i : Nat => !(f i - payS p (i : Int) k == 0)) n) = vr by
              rw [hV1.out, ← hkL]
              congr 1
              exact anyTo_same2 fun i _ => by
                rw [Bool.eq_iff_iff]
                simp
                omega)
            go_wp2_with (go_at_call 112; refine (every112 HN.out (by omega) (asks145 _ (fun i _ => f i - payS p (i : Int) k) n)).mono ?_; rintro e wz ⟨heq, he6⟩; obtain rfl : e = .returned (.bool vr) := heq.trans (congrArg (fun b => Ending.returned (.bool b)) hz.out))
            go_ret2
            exact ⟨ret_bi rfl h0.out.symm, he.out.trans he6⟩
end Go.Proofs.YtbceepjjdfpfmaaGreat
namespace Go.Proofs.YtbceepjjdfpfmaaGreat
open Go.RowKit HandSpec
set_option maxHeartbeats 2000000
set_option maxRecDepth 100000
theorem groups61 {w : World} {A : Option Addr} {n cap : Nat} {m : Nat → Nat} {g : Nat → Nat → Int} (hr : RdN w A n m g) (hn : n ≤ 1000) (hm : ∀ k, k < n → m k ≤ 1000) :
    Calls Tryz.prog 61 #[.slice A n cap] w (fun e w' => ∃ u, e = .returned (.tuple #[u, .int .i64 (chkD n m g)]) ∧ Ext w w' ∧ (chkD n m g ≠ 0 → u = .slice none 0 0) ∧ (chkD n m g = 0 → ∃ L', L'.Perm (groupsM (netTo g n n) n) ∧ SortedS L' ∧ RdF w' w.heap.size u L')) := by
  have HR := hid hr
  have HM := hid hm
  clear hr hm
  obtain ⟨s, hs⟩ : ∃ s, Hid (chkD n m g = s) := ⟨_, hid rfl⟩
  rw [hs.out]
  by_cases h0 : s = 0
  · subst h0
    obtain ⟨hd, hsq⟩ := chkD_zero hs.out
    have hR := HR.out.congr (m' := fun _ => n) (g' := g) fun k hk => ⟨hsq k hk, fun _ _ => rfl⟩
    have HR2 := hid hR
    have HD := hid hd
    clear hR hd hsq
    go_enter Tryz.func61, Tryz.ntmps61
    go_wp2_with (first | (go_at_call 33; refine (checkDebts33 HR.out hn HM.out).mono ?_; rintro e w1 ⟨rfl, he1⟩; rw [hs.out]; have E1 := hid he1; clear he1) | (go_at_call 140; refine (groups140 (HR2.out.ext E1.out) HD.out).mono ?_; rintro e w2 ⟨u, rfl, he2, hX⟩; have HX := hid hX; clear hX))
    go_ret2
    exact ⟨_, rfl, E1.out.trans he2, fun h => absurd rfl h, fun _ => by
      obtain ⟨L', x1, x2, x3⟩ := HX.out
      exact ⟨L', x1, x2, x3.base E1.out.size⟩⟩
  · have hne : (s != 0) = true := by simpa using h0
    go_enter Tryz.func61, Tryz.ntmps61
    go_wp2_with (go_at_call 33; refine (checkDebts33 HR.out hn HM.out).mono ?_; rintro e w1 ⟨rfl, he1⟩; rw [hs.out])
    go_ret2
    exact ⟨_, rfl, he1, fun _ => rfl, fun h => absurd h h0⟩
end Go.Proofs.YtbceepjjdfpfmaaGreat
