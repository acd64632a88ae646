/- An own copy of a watch, whose parts lie in blocks of their own; the bytes that come in; is a number in a list. No condition. -/
import Derived.Test.YtkhjmedfhobebaaGreatMade
import Derived.Test.YtkhjmedfhobebaaGreatLawD
import Derived.Test.YtkhjmedfhobebaaGreatOpen
namespace Go.Proofs.YtkhjmedfhobebaaGreat
open Go.RowKit HandSpec
set_option maxHeartbeats 3200000
set_option maxRecDepth 100000
/-- A watch whose slices are own ones, from block lo on. -/
def IsWO (lo : Nat) (w : World) (v : Value) (x : WD) : Prop :=
  ∃ D1 q1 D2 q2 D3 q3, v = .agg #[.int .i64 x.hours, .int .i64 x.allow, .int .i64 x.hands, .slice D1 x.cn q1, .slice D2 x.bn q2, .slice D3 x.sn q3] ∧
    OwnR w lo 79 3 (.slice D1 x.cn q1) (rowsG 3 x.cn x.c) ∧ OwnR w lo 119 2 (.slice D2 x.bn q2) (rowsG 2 x.bn x.b) ∧ OwnR w lo 114 3 (.slice D3 x.sn q3) (rowsG 3 x.sn x.s)
theorem rd_of {w : World} {B c n q : Nat} {e : TypeId} {D : Option Addr} {g : Nat → Nat → Int} (h : OwnR w B e c (.slice D n q) (rowsG c n g)) : Rd w D n c g := by
  have hr := h.rd
  exact hr.congr fun k hk j hj => rowsG_at hk hj
theorem IsWO.isW {lo : Nat} {w : World} {v : Value} {x : WD} (h : IsWO lo w v x) : IsW w v x := by
  obtain ⟨A1, c1, A2, c2, A3, c3, hv, h1, h2, h3⟩ := h
  exact ⟨A1, c1, A2, c2, A3, c3, hv, rd_of h1, rd_of h2, rd_of h3⟩
theorem IsWO.ext {lo : Nat} {w w' : World} {v : Value} {x : WD} (h : IsWO lo w v x) (e : Ext w w') : IsWO lo w' v x := by
  obtain ⟨A1, c1, A2, c2, A3, c3, hv, h1, h2, h3⟩ := h
  exact ⟨A1, c1, A2, c2, A3, c3, hv, h1.ext e, h2.ext e, h3.ext e⟩
/-- One count's bounds are both set to one number. -/
theorem setC {lo g q1 q2 q3 : Nat} {w : World} {x : WD} {D2 D3 : Option Addr} {k : Nat} (hk : k < x.cn) (s : Int) (o1 : OwnR w lo 79 3 (.slice (some ⟨g, 0, none⟩) x.cn q1) (rowsG 3 x.cn x.c)) (o2 : OwnR w lo 119 2 (.slice D2 x.bn q2) (rowsG 2 x.bn x.b)) (o3 : OwnR w lo 114 3 (.slice D3 x.sn q3) (rowsG 3 x.sn x.s)) :
    IsW ((w.setCell ⟨g, k * 3 + 1, none⟩ (.int .i64 s)).setCell ⟨g, k * 3 + 2, none⟩ (.int .i64 s)) (.agg #[.int .i64 x.hours, .int .i64 x.allow, .int .i64 x.hands, .slice (some ⟨g, 0, none⟩) x.cn q1, .slice D2 x.bn q2, .slice D3 x.sn q3]) (setc x k s) := by
  have ha : Arr w g (x.cn * 3) (fun i => x.c (i / 3) (i % 3)) := by
    rcases OwnR.arr o1 with ⟨h1, -⟩ | ⟨g', cap, h1, -, -, h4⟩
    · cases h1
    · simp only [Value.slice.injEq, Option.some.injEq, Addr.mk.injEq] at h1
      obtain ⟨⟨rfl, -, -⟩, -, -⟩ := h1
      rw [rowsG_length] at h4
      exact h4.congr fun i hi => rowsG_at (by omega) (Nat.mod_lt _ (by omega))
  have a2 := (ha.set_ (k * 3 + 1) s (by omega)).set_ (k * 3 + 2) s (by omega)
  have c2 := (Ch.ofSet w g (k * 3 + 1) (.int .i64 s)).trans (Ch.ofSet _ g (k * 3 + 2) (.int .i64 s)) fun _ _ h => h
  refine ⟨_, _, _, _, _, _, rfl, ?_, rd_of (c2.own o2 fun b hb e => o2.apart' o1 (by decide) b hb (by rw [show b = g from e]; rfl)), rd_of (c2.own o3 fun b hb e => o3.apart' o1 (by decide) b hb (by rw [show b = g from e]; rfl))⟩
  refine (a2.rd (o := 0) (n := x.cn) (c := 3) (by omega)).congr fun i hi j hj => ?_
  rw [Nat.zero_add]
  have hd : (i * 3 + j) / 3 = i ∧ (i * 3 + j) % 3 = j := by omega
  by_cases e : i = k
  · subst e
    match j, hj with
    | 0, _ => rw [upd_other _ _ (by omega), upd_other _ _ (by omega), hd.1, hd.2, setc_hour]
    | 1, _ => rw [upd_other _ _ (by omega), upd_same, setc_at x i s (by omega)]
    | 2, _ => rw [upd_same, setc_at x i s (by omega)]
  · rw [upd_other _ _ (by omega), upd_other _ _ (by omega), hd.1, hd.2, setc_ne x s j e]
theorem own_endO {x : WD} {w w7 W' : World} (e : Ext w W') (k : KpM w7.heap.size (fun k => k = w.heap.size ∨ k = w.heap.size + 1) w7 W') {B5 B6 B7 q5 q6 q7 : Nat} {D1 D2 D3 : Option Addr}
    (o5 : OwnR w7 B5 79 3 (.slice D1 (rowsG 3 x.cn x.c).length q5) (rowsG 3 x.cn x.c)) (o6 : OwnR w7 B6 119 2 (.slice D2 (rowsG 2 x.bn x.b).length q6) (rowsG 2 x.bn x.b)) (o7 : OwnR w7 B7 114 3 (.slice D3 (rowsG 3 x.sn x.s).length q7) (rowsG 3 x.sn x.s))
    (h5 : w.heap.size + 2 ≤ B5) (h6 : w.heap.size + 2 ≤ B6) (h7 : w.heap.size + 2 ≤ B7) :
    ∃ u, Ending.returned (.agg #[.int .i64 x.hours, .int .i64 x.allow, .int .i64 x.hands, .slice D1 x.cn q5, .slice D2 x.bn q6, .slice D3 x.sn q7]) = .returned u ∧ Ext w W' ∧ IsWO w.heap.size W' u x := by
  have key : ∀ {e : TypeId} {c B : Nat} {v : Value} {l : List (List Int)}, OwnR w7 B e c v l → w.heap.size + 2 ≤ B → OwnR W' w.heap.size e c v l := fun o hB =>
    (o.same fun g hg => k.2 g (o.lt hg) (by have := o.block hg; rintro (rfl | rfl) <;> omega)).base (by omega)
  have k5 := key o5 h5
  have k6 := key o6 h6
  have k7 := key o7 h7
  rw [rowsG_length] at k5 k6 k7
  exact ⟨_, rfl, e, _, _, _, _, _, _, rfl, k5, k6, k7⟩
theorem own19O {x : WD} {w : World} {v : Value} (hv : IsW w v x) (h1 : x.cn ≤ 1000) (h2 : x.bn ≤ 1000) (h3 : x.sn ≤ 1000) :
  Calls Tryz.prog 19 #[v] w fun e w' => ∃ u, e = .returned u ∧ Ext w w' ∧ IsWO w.heap.size w' u x := by
 obtain ⟨A1, c1, A2, c2, A3, c3, rfl, r1, r2, r3⟩ := hv
 have R1 := hid r1
 have R2 := hid r2
 have R3 := hid r3
 clear r1 r2 r3
 go_enter Tryz.func19, Tryz.ntmps19
 go_upto_region 1 with fail
 refine wp_later fun w1 hw1 => ?_
 obtain ⟨E0, b1, b2⟩ := hw1.newB2
 have k1 := b1.cell
 have k1l := b1.lt
 have f1 := b1.frozen
 have k2l := b2.lt
 clear hw1
 go_region_law
  (first
   | (go_simp; go_at_call 114; refine (dup114 (R1.out.ext (E0.trans (by repeat (first | exact Ext.refl _ | assumption | refine Ext.drew ?_)))) h1).mono ?_; rintro e w5 ⟨va, rfl, he5, ho5⟩; have HO5 := hid ho5; obtain ⟨D1, q5, rfl, -⟩ := ho5.slR; clear ho5; rw [rowsG_length]; have hx5 : Ext w1 w5 := Ext.trans (by repeat (first | exact Ext.refl _ | assumption | refine Ext.drew ?_)) he5; have hy5 : Ext w w5 := E0.trans hx5; have f5 := (b1.ext hx5).frozen; have k5 := (b1.ext hx5).cell; have l5 := (b1.ext hx5).lt)
   | (go_simp; go_at_call 115; refine (dup115 (R2.out.ext (E0.trans (by repeat (first | exact Ext.refl _ | assumption | refine Ext.drew ?_)))) h2).mono ?_; rintro e w6 ⟨vb, rfl, he6, ho6⟩; have HO6 := hid ho6; obtain ⟨D2, q6, rfl, -⟩ := ho6.slR; clear ho6; rw [rowsG_length]; have hx6 : Ext w1 w6 := Ext.trans (by repeat (first | exact Ext.refl _ | assumption | refine Ext.drew ?_)) he6; have hy6 : Ext w w6 := E0.trans hx6; have f6 := (b1.ext hx6).frozen; have k6 := (b1.ext hx6).cell; have l6 := (b1.ext hx6).lt)
   | (go_simp; go_at_call 116; refine (dup116 (R3.out.ext (E0.trans (by repeat (first | exact Ext.refl _ | assumption | refine Ext.drew ?_)))) h3).mono ?_; rintro e w7 ⟨vc, rfl, he7, ho7⟩; have HO7 := hid ho7; obtain ⟨D3, q7, rfl, -⟩ := ho7.slR; clear ho7; rw [rowsG_length]; have hx7 : Ext w1 w7 := Ext.trans (by repeat (first | exact Ext.refl _ | assumption | refine Ext.drew ?_)) he7; have hy7 : Ext w w7 := E0.trans hx7; have f7 := (b1.ext hx7).frozen; have k7 := (b1.ext hx7).cell; have l7 := (b1.ext hx7).lt))
 all_goals
  have hx57 : Ext w5 w7 := Ext.trans (by repeat (first | exact Ext.refl _ | assumption | refine Ext.drew ?_)) (Ext.trans (by repeat (first | exact Ext.refl _ | assumption | refine Ext.drew ?_)) he7)
  have hx67 : Ext w6 w7 := Ext.trans (by repeat (first | exact Ext.refl _ | assumption | refine Ext.drew ?_)) he7
  have k8 := (b2.ext hx7).cell
  have l8 := (b2.ext hx7).lt
  have f8 := (b2.ext hx7).frozen
  clear k1 k1l f1 k5 l5 f5 k6 l6 f6 he5 he6 he7
  have hz1 : w.heap.size + 2 ≤ w1.drew.heap.size := k2l
  have hz5 : w.heap.size + 2 ≤ w5.heap.size := Nat.le_trans hz1 hx5.size
  have hz6 : w.heap.size + 2 ≤ w6.heap.size := Nat.le_trans hz1 hx6.size
  go_wp2
  exact bodyPost_ret (v := .agg #[.int .i64 x.hours, .int .i64 x.allow, .int .i64 x.hands, .slice D1 x.cn q5, .slice D2 x.bn q6, .slice D3 x.sn q7]) (by simp [results, Tryz.results19, go_sem, k8]) rfl (own_endO (ext9 hy7 _ _ _ _ _ _ _ _ _) (set9 _ _ _ _ _ _ _ _ _ _) (HO5.out.ext hx57) (HO6.out.ext hx67) HO7.out hz1 hz5 hz6)
/-- The bytes that come in. -/
def ByteS (w : World) (A : Option Addr) (n : Nat) : Prop := 0 < n → ∃ b o, A = some ⟨b, o, none⟩ ∧ b < w.heap.size ∧ ∀ k, k < n → ∃ c : Int, w.cell? ⟨b, o + k, none⟩ = some (.int .u8 c)
/-- A sack is filled of them. -/
theorem start_of {w w' : World} {A : Option Addr} {n cap : Nat} (h : ByteS w A n) (e : Ext w w') (hs : SackD.at ⟨w.heap.size, A, n, cap⟩ w' 0) : Start ⟨w.heap.size, A, n, cap⟩ w' :=
  ⟨hs, fun hn => by
    obtain ⟨b, o, h1, h2, h3⟩ := h hn
    exact ⟨b, o, h1, by show b ≠ w.heap.size; omega, fun k hk => by
      obtain ⟨c, hc⟩ := h3 k hk
      exact ⟨c, e.some_ hc⟩⟩⟩
/-- Is a hand in a list of hands. -/
theorem inList {w : World} {u : Value} {l : List Nat} (hu : SlR w 1 u (rows1 l)) (hn : l.length ≤ 1000) (h : Nat) :
    Calls Tryz.prog 87 #[u, .int .i64 (h : Int)] w fun e w' => e = .returned (.bool (decide (h ∈ l))) ∧ Ext w w' := by
  obtain ⟨A, cap, rfl, hr⟩ := hu
  rw [rows1_length] at hr ⊢
  refine (contains87 hr hn (h : Int)).mono ?_
  rintro e w' ⟨rfl, he⟩
  refine ⟨ret_bool ?_, he⟩
  rw [Bool.eq_iff_iff, anyTo_true, decide_eq_true_iff]
  have hat : ∀ k, (hk : k < l.length) → rowsAt (rows1 l) k 0 = (l[k] : Int) := fun k hk => by
    unfold rowsAt rows1
    simp [hk]
  constructor
  · rintro ⟨k, hk, h1⟩
    rw [hat k hk] at h1
    have : (h : Int) = (l[k] : Int) := by simpa using h1
    exact (show h = l[k] by omega) ▸ List.getElem_mem hk
  · intro hm
    obtain ⟨k, hk, h1⟩ := List.getElem_of_mem hm
    exact ⟨k, hk, by rw [hat k hk, h1]; simp⟩
section
open Go.Deep Go.WideShapes Go.ChangeShapes
variable {H : Type} {enc : TypeId × Value → H} {w : World} {base : Nat} {spare : Nat → Bool} {held : Bool}
theorem cells5 : Tryz.prog.cellsOf 5 = 1 := by kernel_rfl
/-- A list of bytes. -/
theorem open99 {r : Reach} {b0 : Nat} {v : Value} {d : DataW H} {p : List MemPlace} (hv : Value.okWide Tryz.prog w r b0 99 v) (h : DataW.Trod enc Tryz.prog w base spare held 99 v d p) : ∃ A n cap, v = .slice A n cap ∧ ByteS w A n := by
  obtain ⟨a, len, cap, rfl⟩ := okWide_slice Tryz.underlying99 hv
  obtain ⟨fuel, hf⟩ := h
  refine ⟨a, len, cap, rfl, fun h0 => ?_⟩
  rcases open_slice Tryz.underlying99 hf with ⟨e, -⟩ | ⟨a', len', cap', m, n, D, Pl, e, -, hl, -, hm, -, hel⟩
  · simp [Value.cells] at e; omega
  · simp [Value.cells] at e
    obtain ⟨rfl, rfl, rfl⟩ := e
    have hlm : len ≤ m := by rw [hm]; split <;> omega
    rw [cells5] at hel
    have hc : ∀ i, i < m → ∃ z, w.cell? ((a'.add (i * 1)).add 0) = some (.int .u8 z) := fun i hi => by
      obtain ⟨cs, h1, h2⟩ := hel i hi
      obtain ⟨z, rfl, -⟩ := DataW.trod_int Tryz.underlying5 h2
      exact ⟨z, (World.cells?_some h1).2.2 0 (by simp)⟩
    obtain ⟨b, o, spot⟩ := a'
    obtain ⟨z, hz⟩ := hc 0 (by omega)
    have hspot : spot = none := by simpa [Addr.add] using World.cell?_spot hz
    subst hspot
    have hat : ∀ i, i < m → ∃ z, w.cell? ⟨b, o + i, none⟩ = some (.int .u8 z) := fun i hi => by
      obtain ⟨z, hz⟩ := hc i hi
      rw [Go.WideShapes.add_plain, Go.WideShapes.add_plain, Nat.mul_one] at hz
      exact ⟨z, hz⟩
    obtain ⟨z0, hz0⟩ := hat 0 (by omega)
    exact ⟨b, o, rfl, World.block_lt_of_cell? w _ hz0, fun k hk => hat k (by omega)⟩
end
end Go.Proofs.YtkhjmedfhobebaaGreat
