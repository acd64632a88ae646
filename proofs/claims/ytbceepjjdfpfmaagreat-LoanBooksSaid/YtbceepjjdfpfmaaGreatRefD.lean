/- Walk of the reference's debts. The ledger is right. -/
import Derived.Test.YtbceepjjdfpfmaaGreatRefB
import Derived.Test.YtbceepjjdfpfmaaGreatRefC
namespace Go.Proofs.YtbceepjjdfpfmaaGreat
open Go.RowKit HandSpec LoanSpec
set_option maxHeartbeats 4000000
set_option maxRecDepth 100000
/-- An own slice of k rows of n numbers each, in blocks r from B on. -/
structure Rws (w : World) (B : Nat) (v : Value) (L : List Value) (r : Nat → Nat) (n k : Nat) (m : Nat → Nat → Int) : Prop where
  o : OwnV w B 22 v L
  ll : L.length = k
  rr : ∀ i, i < k → L[i]? = some (.slice (some ⟨r i, 0, none⟩) n n) ∧ ArrB w (r i) 3 n (m i)
namespace Rws
variable {w w' : World} {B : Nat} {v v' : Value} {L : List Value} {r : Nat → Nat} {n k : Nat} {m : Nat → Nat → Int}
theorem ext (h : Rws w B v L r n k m) (e : Ext w w') : Rws w' B v L r n k m := ⟨h.o.ext e, h.ll, fun i hi => ⟨(h.rr i hi).1, (h.rr i hi).2.ext e⟩⟩
theorem app {g : Nat} {f : Nat → Int} (h : Rws w B v L r n k m) (ha : ArrB w g 3 n f) (hv : OwnV w' B 22 v' (L ++ [.slice (some ⟨g, 0, none⟩) n n])) (hg : w.grownBy w' v.ownBlock) : Rws w' B v' (L ++ [.slice (some ⟨g, 0, none⟩) n n]) (updR r k g) n (k + 1) (updR m k f) := by
  refine ⟨hv, by rw [List.length_append, h.ll]; rfl, fun i hi => ?_⟩
  by_cases e : i = k
  · subst e
    rw [updR_same, updR_same]
    exact ⟨by rw [List.getElem?_append_right (by rw [h.ll]; exact Nat.le_refl _), h.ll]; simp, ha.same (hg.block _ ha.lt fun q => ha.ne h.o (by decide) q.symm)⟩
  · obtain ⟨h1, h2⟩ := h.rr i (by omega)
    rw [updR_other _ _ e, updR_other _ _ e]
    exact ⟨by rw [List.getElem?_append_left (by rw [h.ll]; omega)]; exact h1, h2.same (hg.block _ h2.lt fun q => h2.ne h.o (by decide) q.symm)⟩
theorem rdN (h : Rws w B v L r n k m) : ∃ A c, v = .slice A k c ∧ RdN w A k (fun _ => n) m := by
  obtain ⟨A, cap, hv, -, hr⟩ := h.o.rd
  rw [h.ll] at hv hr
  refine ⟨A, cap, hv, fun i => some ⟨r i, 0, none⟩, fun _ => n, hr.congr fun i hi => ?_, fun i hi => (h.rr i hi).2.rd fun _ => rfl⟩
  rw [List.getD_eq_getElem?_getD, (h.rr i hi).1]; rfl
theorem congr {m' : Nat → Nat → Int} (h : Rws w B v L r n k m) (e : ∀ i, i < k → ∀ j, j < n → m i j = m' i j) : Rws w B v L r n k m' := ⟨h.o, h.ll, fun i hi => ⟨(h.rr i hi).1, (h.rr i hi).2.congr (e i hi)⟩⟩
end Rws
theorem R.owedTo_bd {x : LD} (hx : Ok x) {k : Nat} (hk : k ≤ x.mn) (a b : Nat) : 0 ≤ R.owedTo x k a b ∧ R.owedTo x k a b ≤ 60000 := by
  have h1 := P.owedTo_bd hx k hk a b
  have := hx.mn
  rw [P.owedTo_eq hx] at h1
  omega
/-- A call hands back a table of n rows of n numbers. -/
def TabP (w : World) (n : Nat) (m : Nat → Nat → Int) (e : Ending) (w' : World) : Prop := ∃ A c, e = .returned (.slice A n c) ∧ Ext w w' ∧ RdN w' A n (fun _ => n) m
theorem owed22 {x : LD} (hx : Ok x) {w : World} {v : Value} (hv : IsL w v x) (hf : x.fn ≤ 1000) (hbn : x.bn ≤ 1000) :
    Calls Tryz.prog 22 #[v] w (TabP w x.folk.toNat (R.owed x)) := by
  have HV := hid hv
  obtain ⟨A1, c1, A2, c2, A3, c3, A4, c4, A5, c5, rfl, r1, r2, r3, r4, r5⟩ := hv
  have R5 := hid r5
  have hfo := hx.folk
  have hyr := hx.years
  have hmn := hx.mn
  clear r1 r2 r3 r4 r5
  obtain ⟨n, hn⟩ : ∃ n, Hid (n = x.folk.toNat) := ⟨_, hid rfl⟩
  have hnf : Hid (x.folk = (n : Int)) := hid (by have := hn.out; omega)
  have hn1 : 1 ≤ n ∧ n ≤ 7 := by have := hn.out; omega
  have hmk2 : ∀ w, (Instr.makeSlice 22 (.int .i64 x.folk) (.int .i64 x.folk)).run Tryz.prog w = .ok (.slice (some ⟨w.heap.size, 0, none⟩) n n) (w.alloc (.cells (Array.replicate n (.int .i64 0)) 3)) := fun w => by rw [hnf.out]; exact make22_run w n (by omega)
  rw [← hn.out]
  go_enter Tryz.func22, Tryz.ntmps22
  go_upto_region 2 with fail
  refine wp_later fun w1 hw1 => ?_
  obtain ⟨E1, b1⟩ := hw1.newB
  have B1 := hid b1
  have k1 := b1.cell
  have k1l := b1.lt
  clear hw1 b1
  go_upto_region 3 with (go_at_call 24; refine (booked24 hx (HV.out.ext E1) hf).mono ?_; rintro e w2 ⟨Ap, cp, Ao, co, rfl, he2, hp2, ho2⟩; have HBk := hid (show IsB w2 (.agg #[.slice Ap x.pn cp, .slice Ao x.pn co]) x from ⟨Ap, cp, Ao, co, rfl, hp2, ho2⟩); clear hp2 ho2)
  refine wp_later fun w3 hw3 => ?_
  obtain ⟨E3, b4⟩ := hw3.newB
  have B4 := hid b4
  have B1 := hid (B1.out.ext (he2.trans E3))
  have HBk := hid (HBk.out.ext E3)
  have E13 := hid (E1.trans (he2.trans E3))
  clear hw3 b4 k1 k1l
  go_upto_region 4 with fail
  go_loopw [3, 5] (fun a c wr => ∃ (k : Nat) (L : List Value) (r : Nat → Nat), k ≤ n ∧ c = .int .i64 (k : Int) ∧ Hid (Rws wr w3.heap.size a L r n k (R.owed x)) ∧ Ext w3 wr) (fun _ c _ => n - (intOf c).toNat)
  case atStart => exact ⟨0, [], fun _ => 0, by omega, rfl, hid ⟨OwnV.nil, rfl, fun i hi => absurd hi (by omega)⟩, Ext.refl _⟩
  case round =>
    obtain ⟨k, L, r, hk, rfl, hO, he⟩ := hrel
    have k1 := (B1.out.ext he).cell
    have k1l := (B1.out.ext he).lt
    have k4 := (B4.out.ext he).cell
    have k4l := (B4.out.ext he).lt
    have hkf : Hid (((k : Int) < x.folk) ↔ k < n) := hid (by have := hnf.out; omega)
    by_cases hlt : k < n
    · have hki : (k : Int) < x.folk := hkf.out.2 hlt
      go_upto_region 7 with fail
      refine wp_later fun w4 hw4 => ?_
      obtain ⟨E4, bo⟩ := hw4.newB
      have hR0 : ArrB w4 wr.heap.size 3 n (fun _ => 0) := ⟨_, bo, fun i hi => by simp [hi]⟩
      obtain ⟨g, hg⟩ : ∃ g, Hid (g = wr.heap.size) := ⟨_, hid rfl⟩
      rw [← hg.out] at hR0 ⊢
      clear hw4 bo k1 k1l k4 k4l hki
      have hg3 : w3.heap.size ≤ g := by have := hg.out; have := he.size; omega
      have k1 := (B1.out.ext (he.trans E4)).cell
      have k1l := (B1.out.ext (he.trans E4)).lt
      have k4 := (B4.out.ext (he.trans E4)).cell
      have k4l := (B4.out.ext (he.trans E4)).lt
      have hrow : Hid (∀ b, R.owedTo x 0 k b = if 0 < k ∧ b = 0 then R.owes x (k : Int) (x.years - 1) else 0) := hid fun b => rfl
      obtain ⟨o, ho⟩ : ∃ o, Hid (o = R.owes x (k : Int) (x.years - 1)) := ⟨_, hid rfl⟩
      have hn0 : (0 : Int) < (n : Int) := by omega
      have hO4 := hid (hO.out.ext E4)
      have hR0l := hR0.lt
      have HR0 := hid hR0
      clear hR0
      go_upto_if 21 with fail
      go_cut [] (fun wx => Ext w3 wx ∧ Hid (Rws wx w3.heap.size u3 L r n k (R.owed x)) ∧ Hid (ArrB wx g 3 n (R.owedTo x 0 k)))
      case first =>
        by_cases hk0 : 0 < k
        · have hki : (k : Int) > 0 := by omega
          go_wp2_with (go_at_call 23; refine (owes23 hx (HV.out.ext (E13.out.trans (he.trans E4))) (HBk.out.ext (he.trans E4)) hf hbn (k : Int) (x.years - 1)).mono ?_; rintro e w5 ⟨rfl, he5⟩; rw [← ho.out]; have hR5 := HR0.out.ext he5; have c5 := hR5.cell (show 0 < n by omega); have f5 := hR5.frozen 0; have l5 := hR5.lt; have HR5 := hid hR5; clear hR5)
          go_meet
          refine ⟨(he.trans (E4.trans he5)).setCell _ (by show w3.heap.size ≤ g; omega), hid ⟨(hO4.out.ext he5).o.same fun q hq => Below.heap_setCell _ _ _ _ (fun e => HR5.out.ne (hO4.out.ext he5).o (by decide) (by rw [hq, e])), (hO4.out).ll, fun i hi => ⟨((hO4.out).rr i hi).1, (((hO4.out.ext he5).rr i hi).2).far (p := ⟨g, 0, none⟩) (by have := (hO.out.rr i hi).2.lt; have := hg.out; show r i ≠ g; omega) _⟩⟩, hid ((HR5.out.set_ 0 o).congr fun i hi => ?_)⟩
          rw [hrow.out]
          by_cases e : i = 0
          · subst e; rw [upd_same, if_pos ⟨hk0, rfl⟩, ho.out]
          · rw [upd_other _ _ e, if_neg (fun h => e h.2)]
        · have hki : ¬ (k : Int) > 0 := by omega
          go_wp2_with fail
          go_meet
          exact ⟨he.trans E4, hO4, hid (HR0.out.congr fun i hi => by rw [hrow.out, if_neg (fun h => hk0 h.1)])⟩
      case rest =>
        obtain ⟨hex, hOx, hRx⟩ := hcut
        obtain ⟨wk, rfl⟩ : ∃ wk : World, wk = wr := ⟨_, rfl⟩
        clear k1 k1l k4 k4l
        go_upto_region 10 with fail
        go_loopw [7] (fun c ws => ∃ j : Nat, j ≤ x.mn ∧ c = .int .i64 (j : Int) ∧ Ext w3 ws ∧ Hid (Rws ws w3.heap.size u3 L r n k (R.owed x)) ∧ Hid (ArrB ws g 3 n (R.owedTo x j k))) (fun c _ => x.mn - (intOf c).toNat)
        case atStart => exact ⟨0, by omega, rfl, hex, hOx, hRx⟩
        case round =>
          obtain ⟨j, hj, rfl, hej, hOj, hRj⟩ := hrel
          have k1 := (B1.out.ext hej).cell
          have k1l := (B1.out.ext hej).lt
          by_cases hjm : j < x.mn
          · obtain ⟨ga, oa, rfl, hga, q0, q1, q2⟩ := (R5.out.ext (E13.out.trans hej)).at3 hjm
            have hji : (j : Int) < (x.mn : Int) := by omega
            have hto := hx.mto j hjm
            have hsk := hx.msack j hjm
            have hst : ∀ b, R.owedTo x (j+1) k b = R.owedTo x j k b + if x.pr j 0 = (k : Int) ∧ x.pr j 1 = (b : Int) then x.pr j 2 else 0 := fun b => rfl
            have HST := hid hst
            clear hst
            obtain ⟨f, hf'⟩ : ∃ f, Hid (f = x.pr j 0) := ⟨_, hid rfl⟩
            obtain ⟨t, ht⟩ : ∃ f : Nat, Hid (x.pr j 1 = (f : Int)) := ⟨(x.pr j 1).toNat, hid (by omega)⟩
            obtain ⟨s, hs⟩ : ∃ f : Int, Hid (f = x.pr j 2) := ⟨_, hid rfl⟩
            rw [← hf'.out] at q0
            rw [ht.out] at q1 hto
            rw [← hs.out] at q2 hsk
            have htn : t < n := by have := hnf.out; omega
            have hti : (t : Int) < (n : Int) := by omega
            go_upto_region 13 with fail
            refine wp_later fun w6 hw6 => ?_
            obtain ⟨E6, b8⟩ := hw6.newB
            have k8 := b8.cell
            have k8l := b8.lt
            have hO6 := hid (hOj.out.ext E6)
            have hR6 := hid (hRj.out.ext E6)
            clear hw6 q0 q1 q2 k1 k1l b8
            by_cases hfk : f = (k : Int)
            · have hfb : (f == (k : Int)) = true := by simpa using hfk
              have HFK := hid hfk
              clear hfk
              have hbd := R.owedTo_bd hx (show j ≤ x.mn by omega) k t
              obtain ⟨z, hz⟩ : ∃ z, Hid (z = R.owedTo x j k t) := ⟨_, hid rfl⟩
              rw [← hz.out] at hbd
              have kr := hR6.out.cell htn
              have krl := hR6.out.lt
              rw [← hz.out] at kr
              go_upto_region 14 with fail
              refine wp_region_tail 12 (by kernel_rfl) (by kernel_rfl) ?_
              simp only [List.take_succ_cons, List.take_zero, List.drop_succ_cons, List.drop_zero]
              repeat (go_big_quiet_step (fail))
              refine wpQuiet_nil ?_
              rintro w7 ⟨⟨_, he7⟩, rfl⟩
              have hR7 := hid (hR6.out.ext he7)
              have hO7 := hid (hO6.out.ext he7)
              have kr := hR7.out.cell htn
              have krl := hR7.out.lt
              have krf := hR7.out.frozen t
              rw [← hz.out] at kr
              go_wp2_with fail
              have hR8 := hid (hR7.out.set_ t (z + s))
              have hri : ∀ i, i < k → r i ≠ g := fun i hi => by have := (hO.out.rr i hi).2.lt; have := hg.out; omega
              have hO8 : Hid (Rws (w7.setCell ⟨g, t, none⟩ (.int .i64 (z + s))) w3.heap.size u3 L r n k (R.owed x)) := hid ⟨hO7.out.o.same fun q hq => Below.heap_setCell _ _ _ _ (fun e => hR7.out.ne hO7.out.o (by decide) (by rw [hq, e])), hO7.out.ll, fun i hi => ⟨(hO7.out.rr i hi).1, ((hO7.out.rr i hi).2).far (p := ⟨g, t, none⟩) (hri i hi) _⟩⟩
              clear hri
              go_roundw
              case rel =>
                refine ⟨j + 1, by omega, by go_num, (hej.trans (E6.trans he7)).setCell _ (by show w3.heap.size ≤ g; omega), hO8, hid (hR8.out.congr fun i hi => ?_)⟩
                rw [HST.out]
                by_cases e : i = t
                · subst e
                  rw [upd_same, if_pos ⟨by rw [← hf'.out]; exact HFK.out, ht.out⟩, hz.out, hs.out]
                · rw [upd_other _ _ e, if_neg (fun h => by rw [ht.out] at h; omega)]; omega
              case measure => simp [intOf]; omega
            · have hfb : (f == (k : Int)) = false := by simpa using hfk
              have HFK := hid hfk
              clear hfk
              go_wp2_with fail
              go_roundw
              case rel => exact ⟨j + 1, by omega, by go_num, hej.trans E6, hO6, hid (hR6.out.congr fun i hi => by rw [HST.out, if_neg (fun h => HFK.out (by rw [hf'.out]; exact h.1))]; omega)⟩
              case measure => simp [intOf]; omega
          · obtain rfl : j = x.mn := by omega
            have hsz := hej.size
            go_wp2_with (at_builtin; refine wpList_append_val rfl _ _ 39 rfl el39 rfl (hOj.out.o.ext (Ext.alloc (Ext.refl _) _)) _ 1 1 [.slice (some ⟨g, 0, none⟩) n n] rfl rfl (by simp [Value.oneCell']) (by intro j; simp) (by have := hOj.out.ll; omega) (by simp; omega) ?_; intro v' w8 hv8 hg8)
            have hRR := hid ((hOj.out.ext (Ext.alloc (Ext.refl _) (.cells #[.slice (some ⟨g, 0, none⟩) n n] 22))).app (hRj.out.ext (Ext.alloc (Ext.refl _) _)) hv8 hg8)
            go_roundw
            case rel => exact ⟨k + 1, _, _, by omega, by go_num, hid (hRR.out.congr fun i hi j hj => by
              by_cases e : i = k
              · subst e; rw [updR_same]; rfl
              · rw [updR_other _ _ e]), (hej.alloc _).grown hg8 (fun q hq => hOj.out.o.block hq)⟩
            case measure => simp [intOf]; omega
    · have hki : ¬ (k : Int) < x.folk := fun h => hlt (hkf.out.1 h)
      obtain rfl : k = n := by omega
      go_wp2_with fail
      go_ret
      obtain ⟨A, c, hv3, hr⟩ := hO.out.rdN
      subst hv3
      exact ⟨A, c, rfl, E13.out.trans he, hr⟩
end Go.Proofs.YtbceepjjdfpfmaaGreat
