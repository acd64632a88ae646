/- Walk of the reference's Can: the hands that can have taken something. The watch is right, as Ok says, and has a truth; its first slice has room for its counts, as IsWC says. -/
import Derived.Test.YtkhjmedfhobebaaGreatRefV
namespace Go.Proofs.YtkhjmedfhobebaaGreat
open Go.RowKit HandSpec
set_option maxHeartbeats 1600000
set_option maxRecDepth 100000
/-- A block of bools. -/
def BA (w : World) (g n : Nat) (f : Nat → Bool) : Prop := ∃ cur, Blk w g 4 cur ∧ ∀ i, i < n → cur[i]? = some (.bool (f i))
namespace BA
variable {w w' : World} {g n : Nat} {f : Nat → Bool}
theorem ext (a : BA w g n f) (e : Ext w w') : BA w' g n f := by obtain ⟨C, h1, h2⟩ := a; exact ⟨C, h1.ext e, h2⟩
theorem lt (a : BA w g n f) : g < w.heap.size := by obtain ⟨C, h1, _⟩ := a; exact h1.lt
theorem cell (a : BA w g n f) {i : Nat} (hi : i < n) : w.cell? ⟨g, i, none⟩ = some (.bool (f i)) := by obtain ⟨C, h1, h2⟩ := a; rw [h1.cell]; exact h2 i hi
theorem frozen (a : BA w g n f) (i : Nat) : w.frozen? ⟨g, i, none⟩ = false := by obtain ⟨C, h1, _⟩ := a; exact h1.frozen i
theorem congr {f' : Nat → Bool} (a : BA w g n f) (e : ∀ i, i < n → f i = f' i) : BA w g n f' := by obtain ⟨C, h1, h2⟩ := a; exact ⟨C, h1, fun i hi => by rw [← e i hi]; exact h2 i hi⟩
theorem grown (a : BA w g n f) {row : Option Nat} (hg : w.grownBy w' row) (hr : some g ≠ row) : BA w' g n f := by obtain ⟨C, h1, h2⟩ := a; exact ⟨C, h1.grown hg hr, h2⟩
theorem set_ (a : BA w g n f) {k : Nat} (hk : k < n) (b : Bool) : BA (w.setCell ⟨g, k, none⟩ (.bool b)) g n (fun i => if i = k then b else f i) := by
  obtain ⟨C, h1, h2⟩ := a
  refine ⟨_, h1.set_ k _, fun i hi => ?_⟩
  have hs : k < C.size := by
    rcases Nat.lt_or_ge k C.size with q | q
    · exact q
    · have := h2 k hk
      rw [Array.getElem?_eq_none q] at this; cases this
  rw [Array.getElem?_setIfInBounds]
  by_cases e : k = i
  · subst e; rw [if_pos rfl, if_pos hs]; simp
  · rw [if_neg e, h2 i hi]; simp [Ne.symm e]
end BA
/-- A slice of bools, made at once. -/
theorem wpList_make165 {w : World} {ops : Array Oper} {rest : List Oper} {o : Oper} {a : Act} {Q : Exit → Act → World → Prop} (hg : o.guard = none) (l c : Operand) (ho : o.op = Op.makeSlice 165 l c) (n : Nat) (L C : Int) (hl : a.eval l = .int .i64 L) (hc : a.eval c = .int .i64 C) (hL : L = (n : Int)) (hC : C = (n : Int)) (hn : n ≤ 100000)
    (h : ∀ w', Ext w w' → BA w' w.heap.size n (fun _ => false) → wpList Tryz.prog ops Q rest (a.put o.dst (.slice (some ⟨w.heap.size, 0, none⟩) n n)) w') : wpList Tryz.prog ops Q (o :: rest) a w := by
  obtain ⟨i, hi, hz, h1, h2⟩ := info_parts (show (Tryz.prog.info? 4).map (fun i => (i.zero, i.size, i.bytes)) = some (some (.bool false), 1, 1) by kernel_rfl)
  refine wpList_make_full w hg l c 165 ho w.heap.size 4 i (.bool false) 1 Tryz.underlying165 hi hz h1 .i64 .i64 L C n hl hc hL hC (by rw [h2]; omega) (by unfold maxLen; omega) (Nat.le_refl _) fun w' hown hg' => ?_
  refine h w' ((Ext.refl _).grown hg' (fun k hk => by cases hk)) ?_
  rcases hown.2 with ⟨h3, _⟩ | ⟨g, cap, cur, h3, _, hb, _, _, _, ht⟩
  · cases h3
  · simp only [Value.slice.injEq, Option.some.injEq, Addr.mk.injEq, and_true] at h3
    obtain ⟨rfl, -⟩ := h3
    refine ⟨cur, hb, fun j hj => ?_⟩
    have h4 := congrArg (fun l => l[j]?) ht
    simp only [Nat.mul_one] at h4
    rw [List.getElem?_take_of_lt hj] at h4
    rw [← Array.getElem?_toList, h4]
    simp [madeCells, hj, Value.cells, Nat.mod_one]
/-- The worlds of the walk. -/
structure FR (x : WD) (w W : World) (A1 : Option Addr) (c1 : Nat) (A2 : Option Addr) (c2 : Nat) (A3 : Option Addr) (c3 : Nat) (gb B : Nat) (u : Value) (f : Nat → Bool) : Prop where
  e : Ext w W
  b : Blk W w.heap.size 34 #[.int .i64 x.hours, .int .i64 x.allow, .int .i64 x.hands, .slice A1 x.cn c1, .slice A2 x.bn c2, .slice A3 x.sn c3]
  g : w.heap.size < gb ∧ gb < B ∧ B ≤ W.heap.size
  r : OwnR W B 67 2 u (R.rowsF x (R.whole x) (x.cn - 1))
  a : BA W gb x.hands.toNat f
namespace FR
variable {x : WD} {w W W' : World} {A1 : Option Addr} {c1 : Nat} {A2 : Option Addr} {c2 : Nat} {A3 : Option Addr} {c3 : Nat} {gb B : Nat} {u : Value} {f : Nat → Bool}
theorem ext (h : FR x w W A1 c1 A2 c2 A3 c3 gb B u f) (e : Ext W W') : FR x w W' A1 c1 A2 c2 A3 c3 gb B u f := ⟨h.e.trans e, h.b.ext e, ⟨h.g.1, h.g.2.1, Nat.le_trans h.g.2.2 e.size⟩, h.r.ext e, h.a.ext e⟩
theorem congr {f' : Nat → Bool} (h : FR x w W A1 c1 A2 c2 A3 c3 gb B u f) (e : ∀ i, i < x.hands.toNat → f i = f' i) : FR x w W A1 c1 A2 c2 A3 c3 gb B u f' := ⟨h.e, h.b, h.g, h.r, h.a.congr e⟩
theorem set_ (h : FR x w W A1 c1 A2 c2 A3 c3 gb B u f) {k : Nat} (hk : k < x.hands.toNat) (b : Bool) : FR x w (W.setCell ⟨gb, k, none⟩ (.bool b)) A1 c1 A2 c2 A3 c3 gb B u (fun i => if i = k then b else f i) :=
  ⟨h.e.setCell _ (p := ⟨gb, k, none⟩) (Nat.le_of_lt h.g.1), h.b.far (p := ⟨gb, k, none⟩) (Nat.ne_of_lt h.g.1) _, ⟨h.g.1, h.g.2.1, by have := h.g.2.2; simpa using this⟩, OwnR.far h.r (p := ⟨gb, k, none⟩) h.g.2.1 _, h.a.set_ hk b⟩
end FR
theorem canTo_no {x : WD} {i t : Nat} (h : R.canQ x i = false) : R.canTo x i t = R.canTo x (i+1) t := by
  show _ = (R.canTo x i t || (R.canQ x i && R.is x i (i+1) (t : Int)))
  rw [h]; simp
/-- Which hands are found, while an interval is gone through. -/
def cAt (x : WD) (i h : Nat) (t : Nat) : Bool := R.canTo x i t || (decide (t < h) && R.is x i (i+1) (t : Int))
theorem cAt_zero (x : WD) (i t : Nat) : R.canTo x i t = cAt x i 0 t := by simp [cAt]
theorem cAt_end {x : WD} {i n t : Nat} (h : R.canQ x i = true) (ht : t < n) : cAt x i n t = R.canTo x (i+1) t := by
  show _ = (R.canTo x i t || (R.canQ x i && R.is x i (i+1) (t : Int)))
  unfold cAt
  rw [h, decide_eq_true ht]
theorem cAt_self (x : WD) (i h : Nat) : cAt x i h h = R.canTo x i h := by simp [cAt]
theorem cAt_set {x : WD} {i h : Nat} {b : Bool} (hb : b = (R.canTo x i h || R.is x i (i+1) (h : Int))) (t : Nat) : (if t = h then b else cAt x i h t) = cAt x i (h+1) t := by
  unfold cAt
  by_cases e : t = h
  · subst e
    rw [if_pos rfl, hb, decide_eq_true (Nat.lt_succ_self t)]; simp
  · rw [if_neg e]
    have : decide (t < h) = decide (t < h + 1) := by simp; omega
    rw [this]
theorem canR_any {x : WD} (hx : Ok x) (hw : R.fwOk x (R.whole x) = true) {w : World} {v : Value} (hv : IsWC w v x) :
    Calls Tryz.prog 34 #[v] w fun e w' => ∃ u, e = .returned u ∧ Ext w w' ∧ SlR w' 1 u (rows1 (R.can' x)) := by
  have HC := hid hv
  have HV := hid hv.isW
  obtain ⟨A1, c1, A2, c2, A3, c3, rfl, r1, r2, r3, hcap⟩ := hv
  have hcn := hx.cn
  have hhd := hx.hands
  have hwb := whole_bd hx
  have R1 := hid r1
  have HW := hid hw
  have hwm := hid (show R.whole x < 2 ^ 62 from Nat.lt_of_lt_of_le hwb.1 (by decide))
  clear r1 r2 r3 hw
  go_enter Tryz.func34, Tryz.ntmps34
  go_upto_region 1 with fail
  refine wp_later fun w1 hw1 => ?_
  obtain ⟨E1, b1⟩ := hw1.newB
  have k1 := b1.cell
  have k1l := b1.lt
  clear hw1
  go_upto_region 2 with (at_make; refine wpList_make165 rfl _ _ rfl x.hands.toNat _ _ rfl rfl (by omega) (by omega) (by omega) ?_; intro w2 he2 ha2)
  have B1 := hid (b1.ext he2)
  have k1 := (b1.ext he2).cell
  have k1l := (b1.ext he2).lt
  have HA := hid ha2
  have E2 := hid (E1.trans he2)
  have hb2 : w.heap.size < w1.heap.size := b1.lt
  have hb3 : w1.heap.size < w2.heap.size := ha2.lt
  clear ha2 b1 E1 he2
  refine wp_region_mono 9 [(2, fun v _ _ _ => v = .int .i64 ((R.whole x : Nat) : Int)), (3, fun v lo _ w => ∃ u, v = .tuple #[u, .bool true] ∧ OwnR w lo 67 2 u (R.rowsF x (R.whole x) (x.cn - 1)))] (by kernel_rfl) (by kernel_rfl) (by kernel_rfl) ?hS ?_
  case hS =>
    simp only [List.forall_mem_cons]
    exact ⟨fun _ _ _ _ _ _ h => h, fun _ _ _ _ _ e h => by obtain ⟨u, h1, h2⟩ := h; exact ⟨u, h1, h2.ext e⟩, fun _ h => by simp at h⟩
  simp only [List.take_succ_cons, List.drop_succ_cons, List.take_nil, List.drop_nil]
  iterate 2
    refine wpM_plain rfl ?_
    go_big_quiet_step (fail)
    refine wpQuiet_nil ?_
  refine wpM_spec _ rfl rfl (fun w3 hw3 _ => ?_) (fun va la ha ga1 ga2 _ hva => ?_)
  · go_wp2_with (go_at_call 23; refine (whole_any hx (HV.out.ext (E2.out.trans hw3))).mono ?_; rintro e w5 ⟨rfl, he5⟩)
    exact ⟨_, _, _, rfl, he5, Nat.le_refl _, he5.size, Nat.le_refl _, rfl⟩
  obtain ⟨_, rfl⟩ := hva
  simp only [Act.put, List.setIfInBounds_toArray, List.set_cons_succ, List.set_cons_zero]
  refine wpM_spec _ rfl rfl (fun w3 hw3 _ => ?_) (fun vb lb hb gb1 gb2 _ hvb => ?_)
  · go_wp2_with (go_at_call 22; refine (forward_any hx (HV.out.ext (E2.out.trans hw3)) (R.whole x) hwm.out).mono ?_; rintro e w5 ⟨u, rfl, he5, ho5⟩; rw [HW.out])
    exact ⟨_, _, _, rfl, he5, Nat.le_refl _, he5.size, Nat.le_refl _, u, rfl, ho5 HW.out⟩
  obtain ⟨_, u, rfl, -⟩ := hvb
  simp only [Act.put, List.setIfInBounds_toArray, List.set_cons_succ, List.set_cons_zero]
  iterate 5
    refine wpM_plain rfl ?_
    go_big_quiet_step (fail)
    refine wpQuiet_nil ?_
  refine wpM_nil fun w4 hw4 hF => ?_
  simp only [List.forall_mem_cons] at hF
  obtain ⟨⟨hz4, u', hu', ho⟩, -⟩ := hF
  obtain rfl : u = u' := by simpa using hu'
  have hlb : w2.heap.size ≤ lb := gb1
  have FR0 : Hid (FR x w w4 A1 c1 A2 c2 A3 c3 w1.heap.size w2.heap.size u (R.canTo x 0)) := hid ⟨E2.out.trans hw4, B1.out.ext hw4, ⟨hb2, hb3, hw4.size⟩, ho.base hlb, (HA.out.ext hw4).congr fun _ _ => rfl⟩
  obtain ⟨FA, fq, rfl, -⟩ := ho.slR
  rw [R.rowsF_length] at FR0 ⊢
  have hfn : x.cn - 1 + 1 = x.cn := by omega
  rw [hfn] at FR0 ⊢
  clear hu' ho hz4 B1 HA k1 k1l hfn
  go_wp2_with fail
  go_loopw [6] (fun s6 wr => ∃ i : Nat, i + 1 ≤ x.cn ∧ s6 = .int .i64 (i : Int) ∧ Hid (FR x w wr A1 c1 A2 c2 A3 c3 w1.heap.size w2.heap.size (.slice FA x.cn fq) (R.canTo x i))) (fun s6 _ => x.cn - (intOf s6).toNat)
  case atStart => exact ⟨0, by omega, rfl, FR0⟩
  case round =>
    clear FR0
    obtain ⟨i, hi, rfl, HI⟩ := hrel
    have k1 := HI.out.b.cell
    have k1l := HI.out.b.lt
    by_cases hlt : i + 1 < x.cn
    · obtain ⟨cb, co, rfl, hcb, a0, a1, a2⟩ := (R1.out.ext HI.out.e).at3 hlt
      have g1 := hx.lo (i+1) hlt
      have g2 := hx.hi (i+1) hlt
      obtain ⟨g3, g4⟩ := R.low_bd hx HW.out hlt
      have hki : (i : Int) + 1 < (x.cn : Int) := by omega
      have HCA := hid (show (i : Int) + 1 = ((i + 1 : Nat) : Int) by omega)
      go_upto_region 7 with fail
      go_loopw [7] (fun s7 wq => ∃ z : Int, x.c (i+1) 1 ≤ z ∧ z ≤ R.low x (i+1) ∧ s7 = .int .i64 z ∧ Hid (FR x w wq (some ⟨cb, co, none⟩) c1 A2 c2 A3 c3 w1.heap.size w2.heap.size (.slice FA x.cn fq) (R.canTo x i))) (fun s7 _ => (R.low x (i+1) - intOf s7).toNat)
      case atStart => exact ⟨_, Int.le_refl _, g3, rfl, HI⟩
      case round =>
        clear HI k1 k1l a0 a1 a2 hcb
        obtain ⟨z, hz1, hz2, rfl, HJ⟩ := hrel
        have k1 := HJ.out.b.cell
        have k1l := HJ.out.b.lt
        have hbh : ∀ w9 : World, Ext wr w9 → Calls Tryz.prog 129 #[.agg #[.int .i64 x.hours, .int .i64 x.allow, .int .i64 x.hands, .slice (some ⟨cb, co, none⟩) x.cn c1, .slice A2 x.bn c2, .slice A3 x.sn c3], .int .i64 ((i : Int) + 1), .int .i64 z] w9 fun e w' => e = .returned (.bool (decide (z = R.low x (i+1)))) ∧ Ext w9 w' := fun w9 hw9 => by
          have h := behind_any hx (HC.out.ext (HJ.out.e.trans hw9)) hlt (s := z) ⟨by omega, by omega⟩
          rw [R.behind_eq hx HW.out hlt hz1 hz2] at h
          exact h
        by_cases hzl : z = R.low x (i+1)
        · subst hzl
          have g5 := R.booked_bound hx i (i+1)
          have g6 := L.fw_ok hx HW.out (show i < x.cn by omega)
          have g7 := hx.hi i (by omega)
          have g8 := hx.lo i (by omega)
          go_upto_region 9 with (go_at_call 129; refine (hbh _ (Ext.refl _)).mono ?_; rintro e w5 ⟨rfl, he5⟩; rw [decide_eq_true rfl])
          have HJ := hid (HJ.out.ext he5)
          obtain ⟨FA', fq', hfe, hfr⟩ := HJ.out.r.slR
          rw [R.rowsF_length, show x.cn - 1 + 1 = x.cn by omega] at hfe hfr
          obtain ⟨rfl, rfl⟩ : FA = FA' ∧ fq = fq' := by simpa using hfe
          obtain ⟨fb, fo, rfl, hfb, f0, f1⟩ := hfr.at2 (k := i) (by omega)
          unfold rowsAt at f0 f1
          rw [R.rowsF_at x _ _ i (by omega)] at f0 f1
          have f1' : w5.cell? ⟨fb, fo + i * 2 + 1, none⟩ = some (.int .i64 (R.fw x (R.whole x) i).2) := f1
          have k1 := HJ.out.b.cell
          have k1l := HJ.out.b.lt
          have hki2 : (i : Int) < (x.cn : Int) := by omega
          clear f0 f1 hfe hfr hbh
          by_cases hq : 1 ≤ (R.fw x (R.whole x) i).2 + R.booked x i (i+1) - R.low x (i+1)
          · have HQ := hid (show R.canQ x i = true from decide_eq_true hq)
            have hq' : ¬ (R.fw x (R.whole x) i).2 + R.booked x i (i+1) - R.low x (i+1) < 1 := by omega
            refine wp_region_later (by kernel_rfl) (by kernel_rfl) ?_
            repeat (go_big_quiet_step ((go_at_call 56; exact Calls.later (booked_any hx ((HV.out.ext HJ.out.e).ext (Later.ext _)) i (i+1) (by omega) hlt))))
            refine wpQuiet_nil ?_
            rintro _ ⟨⟨w7, he7⟩, rfl⟩
            have HJ := hid (HJ.out.ext he7)
            clear k1 k1l f1'
            go_wp2_with fail
            go_loopw [8] (fun s8 wq => ∃ h : Nat, (h : Int) ≤ x.hands ∧ s8 = .int .i64 (h : Int) ∧ Hid (FR x w wq (some ⟨cb, co, none⟩) c1 A2 c2 A3 c3 w1.heap.size w2.heap.size (.slice (some ⟨fb, fo, none⟩) x.cn fq) (cAt x i h))) (fun s8 _ => x.hands.toNat - (intOf s8).toNat)
            case atStart => exact ⟨0, by omega, rfl, hid (HJ.out.congr fun t _ => cAt_zero x i t)⟩
            case round =>
              clear HJ
              obtain ⟨h, hh, rfl, HK⟩ := hrel
              have k1 := HK.out.b.cell
              have k1l := HK.out.b.lt
              by_cases hlh : (h : Int) < x.hands
              · have hhn : h < x.hands.toNat := by omega
                have hhi : (h : Int) < (x.hands.toNat : Int) := by omega
                have c0 := HK.out.a.cell hhn
                rw [cAt_self] at c0
                have cf := HK.out.a.frozen h
                have cl := HK.out.a.lt
                cases hc : R.canTo x i h
                · rw [hc] at c0
                  have HCT := hid hc
                  clear hc
                  go_wp2_with (go_at_call 126; refine (is_any hx (HV.out.ext HK.out.e) i (i+1) (by omega) hlt (h : Int)).mono ?_; rintro e w8 ⟨rfl, he8⟩; have c0 := ((HK.out.ext he8).a.cell hhn); rw [cAt_self, HCT.out] at c0; have cf := (HK.out.ext he8).a.frozen h; have cl := (HK.out.ext he8).a.lt)
                  go_roundw
                  case rel => exact ⟨h + 1, by omega, by go_num, hid (((HK.out.ext he8).set_ hhn _).congr fun t _ => cAt_set (by rw [HCT.out]; rfl) t)⟩
                  case measure => simp [intOf]; omega
                · rw [hc] at c0
                  have HCT := hid hc
                  clear hc
                  go_wp2_with fail
                  go_roundw
                  case rel => exact ⟨h + 1, by omega, by go_num, hid ((HK.out.set_ hhn _).congr fun t _ => cAt_set (by rw [HCT.out]; rfl) t)⟩
                  case measure => simp [intOf]; omega
              · go_wp2_with fail
                go_roundw
                case rel => exact ⟨i + 1, by omega, by go_num, hid (HK.out.congr fun t ht => by
                  obtain rfl : h = x.hands.toNat := by omega
                  exact cAt_end HQ.out ht)⟩
                case measure => simp [intOf]; omega
          · have HQ := hid (show R.canQ x i = false from decide_eq_false hq)
            have hq' : (R.fw x (R.whole x) i).2 + R.booked x i (i+1) - R.low x (i+1) < 1 := by omega
            refine wp_region_later (by kernel_rfl) (by kernel_rfl) ?_
            repeat (go_big_quiet_step ((go_at_call 56; exact Calls.later (booked_any hx ((HV.out.ext HJ.out.e).ext (Later.ext _)) i (i+1) (by omega) hlt))))
            refine wpQuiet_nil ?_
            rintro _ ⟨⟨w7, he7⟩, rfl⟩
            go_wp2_with fail
            go_roundw
            case rel => exact ⟨i + 1, by omega, by go_num, hid ((HJ.out.ext he7).congr fun t _ => canTo_no HQ.out)⟩
            case measure => simp [intOf]; omega
        · have hd : decide (z = R.low x (i+1)) = false := decide_eq_false hzl
          go_wp2_with (go_at_call 129; refine (hbh _ (Ext.refl _)).mono ?_; rintro e w5 ⟨rfl, he5⟩; rw [hd])
          go_roundw
          case rel => exact ⟨z + 1, by omega, by omega, rfl, hid (HJ.out.ext he5)⟩
          case measure => simp [intOf]; omega
    · obtain rfl : i = x.cn - 1 := by omega
      have hki : ¬ ((x.cn - 1 : Nat) : Int) + 1 < (x.cn : Int) := by omega
      obtain ⟨wo, rfl⟩ : ∃ wo : World, wo = wr := ⟨_, rfl⟩
      have hwo1 : w.heap.size < wo.heap.size := k1l
      have hwo2 : w1.heap.size < wo.heap.size := HI.out.a.lt
      go_wp2_with fail
      go_loopw [9, 10] (fun s9 s10 wq => ∃ h : Nat, (h : Int) ≤ x.hands ∧ s10 = .int .i64 (h : Int) ∧ OwnR wq wo.heap.size 3 1 s9 (rows1 (R.canL x h)) ∧ Ext w wq ∧ Blk wq w.heap.size 34 #[.int .i64 x.hours, .int .i64 x.allow, .int .i64 x.hands, .slice A1 x.cn c1, .slice A2 x.bn c2, .slice A3 x.sn c3] ∧ BA wq w1.heap.size x.hands.toNat (R.canTo x (x.cn - 1)) ∧ wo.heap.size ≤ wq.heap.size) (fun _ s10 _ => x.hands.toNat - (intOf s10).toNat)
      case atStart => exact ⟨0, by omega, rfl, OwnR.nil, HI.out.e, HI.out.b, HI.out.a, Nat.le_refl _⟩
      case round =>
        clear HI k1 k1l
        obtain ⟨h, hh, rfl, hown, he, hb, ha, hsz⟩ := hrel
        have k1 := hb.cell
        have k1l := hb.lt
        have HOWN := hid hown
        clear hown
        by_cases hlh : (h : Int) < x.hands
        · have hhn : h < x.hands.toNat := by omega
          have hhi : (h : Int) < (x.hands.toNat : Int) := by omega
          have c0 := ha.cell hhn
          have cl := ha.lt
          have hml := R.canL_length x h
          have HS := hid (R.canL_succ x h)
          cases hc : R.canTo x (x.cn - 1) h
          · rw [hc] at c0
            have HCT := hid hc
            clear hc
            go_wp2_with fail
            go_roundw
            case rel => exact ⟨h + 1, by omega, by go_num, by rw [HS.out, HCT.out, if_neg Bool.false_ne_true, List.append_nil]; exact HOWN.out, he, hb, ha, hsz⟩
            case measure => simp [intOf]; omega
          · rw [hc] at c0
            have HCT := hid hc
            clear hc
            go_wp2_with (at_builtin; refine wpList_append_rows rfl _ _ 56 rfl elem56 rfl (HOWN.out.ext (Ext.alloc (Ext.refl _) _)) _ 1 1 [[(h : Int)]] rfl rfl (by simp) (by intro j; simp [cellsOf]) (by rw [rows1_length]; omega) (by simp; omega) ?_; intro v' w8 hown2 hg2)
            have hbl := fun g hg => HOWN.out.block (g := g) hg
            go_roundw
            case rel => exact ⟨h + 1, by omega, by go_num, by rw [HS.out, HCT.out, if_pos rfl, rows1_append]; exact hown2, (he.alloc _).grown hg2 fun g hg => by have := hbl g hg; omega, (hb.ext (Ext.alloc (Ext.refl _) _)).grown hg2 (fun e => by have := hbl _ e.symm; omega), (ha.ext (Ext.alloc (Ext.refl _) _)).grown hg2 (fun e => by have := hbl _ e.symm; omega), by have := hg2.size; simp at this; omega⟩
            case measure => simp [intOf]; omega
        · go_wp2_with fail
          go_ret
          obtain rfl : h = x.hands.toNat := by omega
          exact ⟨_, rfl, he, HOWN.out.slR⟩
end Go.Proofs.YtkhjmedfhobebaaGreat
