/- Walks of the laws copies and comparisons. No condition. -/
import Derived.Test.YtkhjmedfhobebaaGreatLawA
import Derived.Deep.RegionLaw
import Derived.Deep.DrawnRows
import Derived.Test.YtkhjmedfhobebaaGreatGenC
import Derived.Test.YtkhjmedfhobebaaGreatCore
namespace Go.Proofs.YtkhjmedfhobebaaGreat
open Go.RowKit HandSpec
attribute [local go_sem ↓] Go.wp_at_zero Go.wp_at_succ
set_option maxHeartbeats 800000
set_option maxRecDepth 100000
theorem _root_.Go.KpM.cell {N : Nat} {M : Nat → Prop} {W W' : World} (k : KpM N M W W') {b o : Nat} (hb : b < N) (hm : ¬ M b) : W'.cell? ⟨b, o, none⟩ = W.cell? ⟨b, o, none⟩ := by
 unfold World.cell?
 rw [k.2 b hb hm]
theorem _root_.Go.OwnR.rd_kpm {W W' : World} {B : Nat} {e : TypeId} {c : Nat} {A : Option Addr} {n q : Nat} {g : Nat → Nat → Int} {M : Nat → Prop} {m : Nat} (h : OwnR W B e c (.slice A n q) (rowsG c m g)) (k : KpM W.heap.size M W W') (hM : ∀ b, M b → b < B) (hn : n = m) : Rd W' A m c g := by
 intro hm
 rcases OwnR.arr h with ⟨h1, h2⟩ | ⟨b, cap, h1, hB, _, ha⟩
 ·have := congrArg List.length h2
  rw [rowsG_length] at this
  simp at this
  omega
 ·cases h1
  rw [rowsG_length] at ha
  refine ⟨b, 0, rfl, fun i hi j hj => ?_⟩
  rw [k.cell ha.1 (fun hb => by have := hM b hb; omega), Nat.zero_add]
  have hc : i * c + j < m * c := by
   have := Nat.mul_le_mul_right c (Nat.succ_le_of_lt hi)
   simp only [Nat.succ_eq_add_one, Nat.add_mul] at this
   omega
  rw [ha.cell hc]
  have h0 : 0 < c := by omega
  rw [show (i * c + j) / c = i by rw [Nat.add_comm, Nat.add_mul_div_right _ _ h0, Nat.div_eq_of_lt hj]; omega, show (i * c + j) % c = j by rw [Nat.add_comm, Nat.add_mul_mod_self_right, Nat.mod_eq_of_lt hj], rowsG_at hi hj]
/-- Where an own slice lies. -/
theorem _root_.Go.OwnR.place {w : World} {B : Nat} {e : TypeId} {c : Nat} {A : Option Addr} {n q : Nat} {l : List (List Int)} (h : OwnR w B e c (.slice A n q) l) : ∀ b o, A = some ⟨b, o, none⟩ → B ≤ b ∧ b < w.heap.size := by
 intro b o hA
 subst hA
 have h1 := h.block (g := b) rfl
 have h2 := h.lt (g := b) rfl
 exact ⟨h1, h2⟩
theorem _root_.Go.Rd.kpm {W W' : World} {N : Nat} {M : Nat → Prop} {A : Option Addr} {n c : Nat} {g : Nat → Nat → Int} (h : Rd W A n c g) (k : KpM N M W W') (hA : ∀ b o, A = some ⟨b, o, none⟩ → b < N ∧ ¬ M b) : Rd W' A n c g := fun hn => by
 obtain ⟨b, o, e, hc⟩ := h hn
 obtain ⟨h1, h2⟩ := hA b o e
 exact ⟨b, o, e, fun i hi j hj => by rw [k.cell h1 h2]; exact hc i hi j hj⟩
/-- A slice's block lies from lo on. -/
def Lies (lo : Nat) (w : World) (A : Option Addr) : Prop := ∀ b o, A = some ⟨b, o, none⟩ → lo ≤ b ∧ b < w.heap.size
/-- A watch whose slices lie from block lo on. -/
def IsWF (lo : Nat) (w : World) (v : Value) (x : WD) : Prop :=
 ∃ A1 c1 A2 c2 A3 c3, v = .agg #[.int .i64 x.hours, .int .i64 x.allow, .int .i64 x.hands, .slice A1 x.cn c1, .slice A2 x.bn c2, .slice A3 x.sn c3] ∧
  Rd w A1 x.cn 3 x.c ∧ Rd w A2 x.bn 2 x.b ∧ Rd w A3 x.sn 3 x.s ∧ Lies lo w A1 ∧ Lies lo w A2 ∧ Lies lo w A3 ∧ x.cn ≤ c1
theorem IsWF.isW {lo : Nat} {w : World} {v : Value} {x : WD} (h : IsWF lo w v x) : IsW w v x := by
 obtain ⟨A1, c1, A2, c2, A3, c3, hv, h1, h2, h3, -, -, -⟩ := h
 exact ⟨A1, c1, A2, c2, A3, c3, hv, h1, h2, h3⟩
theorem OwnR.cap {w : World} {B : Nat} {e : TypeId} {c n q : Nat} {D : Option Addr} {l : List (List Int)} (h : OwnR w B e c (.slice D n q) l) : n ≤ q := by
 rcases h.2.2 with ⟨h1, _⟩ | ⟨g, cap, cur, h1, _, _, h2, _⟩
 ·injection h1 with _ h3 h4
  omega
 ·injection h1 with _ h3 h4
  omega
theorem IsWF.kpm {lo : Nat} {W W' : World} {v : Value} {x : WD} {M : Nat → Prop} (h : IsWF lo W v x) (k : KpM W.heap.size M W W') (hM : ∀ b, lo ≤ b → b < W.heap.size → ¬ M b) : IsW W' v x := by
 obtain ⟨A1, c1, A2, c2, A3, c3, hv, h1, h2, h3, l1, l2, l3, -⟩ := h
 exact ⟨A1, c1, A2, c2, A3, c3, hv, h1.kpm k fun b o e => ⟨(l1 b o e).2, hM b (l1 b o e).1 (l1 b o e).2⟩, h2.kpm k fun b o e => ⟨(l2 b o e).2, hM b (l2 b o e).1 (l2 b o e).2⟩, h3.kpm k fun b o e => ⟨(l3 b o e).2, hM b (l3 b o e).1 (l3 b o e).2⟩⟩
theorem Lies.of {B lo : Nat} {w W' : World} {A : Option Addr} (h : ∀ b o, A = some ⟨b, o, none⟩ → B ≤ b ∧ b < w.heap.size) (hl : lo ≤ B) (hs : w.heap.size ≤ W'.heap.size) : Lies lo W' A := fun b o e => ⟨Nat.le_trans hl (h b o e).1, Nat.lt_of_lt_of_le (h b o e).2 hs⟩
theorem own_end {x : WD} {w w7 W' : World} (e : Ext w W') (k : KpM w7.heap.size (fun k => k = w.heap.size ∨ k = w.heap.size + 1) w7 W') {B5 B6 B7 q5 q6 q7 : Nat} {D1 D2 D3 : Option Addr}
  (o5 : OwnR w7 B5 79 3 (.slice D1 (rowsG 3 x.cn x.c).length q5) (rowsG 3 x.cn x.c)) (o6 : OwnR w7 B6 119 2 (.slice D2 (rowsG 2 x.bn x.b).length q6) (rowsG 2 x.bn x.b)) (o7 : OwnR w7 B7 114 3 (.slice D3 (rowsG 3 x.sn x.s).length q7) (rowsG 3 x.sn x.s))
  (h5 : w.heap.size + 2 ≤ B5) (h6 : w.heap.size + 2 ≤ B6) (h7 : w.heap.size + 2 ≤ B7) :
  ∃ u, Ending.returned (.agg #[.int .i64 x.hours, .int .i64 x.allow, .int .i64 x.hands, .slice D1 x.cn q5, .slice D2 x.bn q6, .slice D3 x.sn q7]) = .returned u ∧ Ext w W' ∧ IsWF w.heap.size W' u x :=
 ⟨_, rfl, e, _, _, _, _, _, _, rfl, o5.rd_kpm k (by rintro b (rfl | rfl) <;> omega) (rowsG_length _ _ _), o6.rd_kpm k (by rintro b (rfl | rfl) <;> omega) (rowsG_length _ _ _), o7.rd_kpm k (by rintro b (rfl | rfl) <;> omega) (rowsG_length _ _ _), Lies.of o5.place (by omega) k.1, Lies.of o6.place (by omega) k.1, Lies.of o7.place (by omega) k.1, by have := OwnR.cap o5; rwa [rowsG_length] at this⟩
theorem set9 {n : Nat} {H : Nat} (W : World) (a b c d e f g h i : Value) :
  KpM n (fun k => k = H ∨ k = H + 1) W (((((((((W.setCell ⟨H, 3, none⟩ a).setCell ⟨H, 4, none⟩ b).setCell ⟨H, 5, none⟩ c).setCell ⟨H + 1, 0, none⟩ d).setCell ⟨H + 1, 1, none⟩ e).setCell ⟨H + 1, 2, none⟩ f).setCell ⟨H + 1, 3, none⟩ g).setCell ⟨H + 1, 4, none⟩ h).setCell ⟨H + 1, 5, none⟩ i) :=
 ((((((((KpM.setCell W a (p := ⟨H, 3, none⟩) (.inr (.inl rfl))).trans (KpM.setCell _ b (p := ⟨H, 4, none⟩) (.inr (.inl rfl)))).trans (KpM.setCell _ c (p := ⟨H, 5, none⟩) (.inr (.inl rfl)))).trans (KpM.setCell _ d (p := ⟨H + 1, 0, none⟩) (.inr (.inr rfl)))).trans (KpM.setCell _ e (p := ⟨H + 1, 1, none⟩) (.inr (.inr rfl)))).trans (KpM.setCell _ f (p := ⟨H + 1, 2, none⟩) (.inr (.inr rfl)))).trans (KpM.setCell _ g (p := ⟨H + 1, 3, none⟩) (.inr (.inr rfl)))).trans (KpM.setCell _ h (p := ⟨H + 1, 4, none⟩) (.inr (.inr rfl)))).trans (KpM.setCell _ i (p := ⟨H + 1, 5, none⟩) (.inr (.inr rfl)))
theorem ext9 {w W : World} (hw : Ext w W) (a b c d e f g h i : Value) :
  Ext w (((((((((W.setCell ⟨w.heap.size, 3, none⟩ a).setCell ⟨w.heap.size, 4, none⟩ b).setCell ⟨w.heap.size, 5, none⟩ c).setCell ⟨w.heap.size + 1, 0, none⟩ d).setCell ⟨w.heap.size + 1, 1, none⟩ e).setCell ⟨w.heap.size + 1, 2, none⟩ f).setCell ⟨w.heap.size + 1, 3, none⟩ g).setCell ⟨w.heap.size + 1, 4, none⟩ h).setCell ⟨w.heap.size + 1, 5, none⟩ i) :=
 ((((((((hw.setCell a (p := ⟨w.heap.size, 3, none⟩) (Nat.le_refl _)).setCell b (p := ⟨w.heap.size, 4, none⟩) (Nat.le_refl _)).setCell c (p := ⟨w.heap.size, 5, none⟩) (Nat.le_refl _)).setCell d (p := ⟨w.heap.size + 1, 0, none⟩) (Nat.le_succ _)).setCell e (p := ⟨w.heap.size + 1, 1, none⟩) (Nat.le_succ _)).setCell f (p := ⟨w.heap.size + 1, 2, none⟩) (Nat.le_succ _)).setCell g (p := ⟨w.heap.size + 1, 3, none⟩) (Nat.le_succ _)).setCell h (p := ⟨w.heap.size + 1, 4, none⟩) (Nat.le_succ _)).setCell i (p := ⟨w.heap.size + 1, 5, none⟩) (Nat.le_succ _)
theorem own19 {x : WD} {w : World} {v : Value} (hv : IsW w v x) (h1 : x.cn ≤ 1000) (h2 : x.bn ≤ 1000) (h3 : x.sn ≤ 1000) :
  Calls Tryz.prog 19 #[v] w fun e w' => ∃ u, e = .returned u ∧ Ext w w' ∧ IsWF w.heap.size w' u x := by
 obtain ⟨A1, c1, A2, c2, A3, c3, rfl, r1, r2, r3⟩ := hv
 have R1 := hid r1
 have R2 := hid r2
 have R3 := hid r3
 clear r1 r2 r3
 go_enter Tryz.func19, Tryz.ntmps19
 go_upto_region 1 with fail
 refine wp_later fun w1 hw1 => ?_
 obtain ⟨E0, b1, b2⟩ := hw1.newB2
 have k1 := b1.cell
 have k1l := b1.lt
 have f1 := b1.frozen
 have k2l := b2.lt
 clear hw1
 go_region_law
  (first
   | (go_simp; go_at_call 114; refine (dup114 (R1.out.ext (E0.trans (by repeat (first | exact Ext.refl _ | assumption | refine Ext.drew ?_)))) h1).mono ?_; rintro e w5 ⟨va, rfl, he5, ho5⟩; have HO5 := hid ho5; obtain ⟨D1, q5, rfl, -⟩ := ho5.slR; clear ho5; rw [rowsG_length]; have hx5 : Ext w1 w5 := Ext.trans (by repeat (first | exact Ext.refl _ | assumption | refine Ext.drew ?_)) he5; have hy5 : Ext w w5 := E0.trans hx5; have f5 := (b1.ext hx5).frozen; have k5 := (b1.ext hx5).cell; have l5 := (b1.ext hx5).lt)
   | (go_simp; go_at_call 115; refine (dup115 (R2.out.ext (E0.trans (by repeat (first | exact Ext.refl _ | assumption | refine Ext.drew ?_)))) h2).mono ?_; rintro e w6 ⟨vb, rfl, he6, ho6⟩; have HO6 := hid ho6; obtain ⟨D2, q6, rfl, -⟩ := ho6.slR; clear ho6; rw [rowsG_length]; have hx6 : Ext w1 w6 := Ext.trans (by repeat (first | exact Ext.refl _ | assumption | refine Ext.drew ?_)) he6; have hy6 : Ext w w6 := E0.trans hx6; have f6 := (b1.ext hx6).frozen; have k6 := (b1.ext hx6).cell; have l6 := (b1.ext hx6).lt)
   | (go_simp; go_at_call 116; refine (dup116 (R3.out.ext (E0.trans (by repeat (first | exact Ext.refl _ | assumption | refine Ext.drew ?_)))) h3).mono ?_; rintro e w7 ⟨vc, rfl, he7, ho7⟩; have HO7 := hid ho7; obtain ⟨D3, q7, rfl, -⟩ := ho7.slR; clear ho7; rw [rowsG_length]; have hx7 : Ext w1 w7 := Ext.trans (by repeat (first | exact Ext.refl _ | assumption | refine Ext.drew ?_)) he7; have hy7 : Ext w w7 := E0.trans hx7; have f7 := (b1.ext hx7).frozen; have k7 := (b1.ext hx7).cell; have l7 := (b1.ext hx7).lt))
 all_goals
  have hx57 : Ext w5 w7 := Ext.trans (by repeat (first | exact Ext.refl _ | assumption | refine Ext.drew ?_)) (Ext.trans (by repeat (first | exact Ext.refl _ | assumption | refine Ext.drew ?_)) he7)
  have hx67 : Ext w6 w7 := Ext.trans (by repeat (first | exact Ext.refl _ | assumption | refine Ext.drew ?_)) he7
  have k8 := (b2.ext hx7).cell
  have l8 := (b2.ext hx7).lt
  have f8 := (b2.ext hx7).frozen
  clear k1 k1l f1 k5 l5 f5 k6 l6 f6 he5 he6 he7
  have hz1 : w.heap.size + 2 ≤ w1.drew.heap.size := k2l
  have hz5 : w.heap.size + 2 ≤ w5.heap.size := Nat.le_trans hz1 hx5.size
  have hz6 : w.heap.size + 2 ≤ w6.heap.size := Nat.le_trans hz1 hx6.size
  go_wp2
  exact bodyPost_ret (v := .agg #[.int .i64 x.hours, .int .i64 x.allow, .int .i64 x.hands, .slice D1 x.cn q5, .slice D2 x.bn q6, .slice D3 x.sn q7]) (by simp [results, Tryz.results19, go_sem, k8]) rfl (own_end (ext9 hy7 _ _ _ _ _ _ _ _ _) (set9 _ _ _ _ _ _ _ _ _ _) (HO5.out.ext hx57) (HO6.out.ext hx67) HO7.out hz1 hz5 hz6)
end Go.Proofs.YtkhjmedfhobebaaGreat
namespace Go
open Go.RowKit
theorem OwnR.far {w : World} {B : Nat} {e : TypeId} {c : Nat} {v : Value} {l : List (List Int)} (h : OwnR w B e c v l) {p : Addr} (hp : p.block < B) (u : Value) : OwnR (w.setCell p u) B e c v l :=
 ⟨h.1, h.2.1, by
  rcases h.2.2 with h0 | ⟨g, cap, cur, rfl, hb, hh, hr⟩
  ·exact .inl h0
  ·refine .inr ⟨g, cap, cur, rfl, hb, ?_, hr⟩
   rw [Below.heap_setCell w p u g (by omega)]
   exact hh⟩
end Go
namespace Go.Proofs.YtkhjmedfhobebaaGreat
open Go.RowKit HandSpec
set_option maxHeartbeats 1600000
set_option maxRecDepth 100000
theorem el82 : ElemOk Tryz.prog 30 82 3 24 := ⟨Tryz.underlying30, by
 obtain ⟨i, hi, h1, h2, h3⟩ := info_parts (show (Tryz.prog.info? 82).map (fun i => (i.zero, i.size, i.bytes)) = some (some (.agg #[.int .i64 0, .int .i64 0, .int .i64 0]), 3, 24) by kernel_rfl)
 exact ⟨i, _, hi, h1, h2, h3, rfl⟩, by omega, by omega⟩
theorem el94 : ElemOk Tryz.prog 31 94 2 16 := ⟨Tryz.underlying31, by
 obtain ⟨i, hi, h1, h2, h3⟩ := info_parts (show (Tryz.prog.info? 94).map (fun i => (i.zero, i.size, i.bytes)) = some (some (.agg #[.int .i64 0, .int .i64 0]), 2, 16) by kernel_rfl)
 exact ⟨i, _, hi, h1, h2, h3, rfl⟩, by omega, by omega⟩
theorem el97 : ElemOk Tryz.prog 32 97 3 24 := ⟨Tryz.underlying32, by
 obtain ⟨i, hi, h1, h2, h3⟩ := info_parts (show (Tryz.prog.info? 97).map (fun i => (i.zero, i.size, i.bytes)) = some (some (.agg #[.int .i64 0, .int .i64 0, .int .i64 0]), 3, 24) by kernel_rfl)
 exact ⟨i, _, hi, h1, h2, h3, rfl⟩, by omega, by omega⟩
theorem rowsG3_succ (k : Nat) (g : Nat → Nat → Int) : rowsG 3 (k+1) g = rowsG 3 k g ++ [[g k 0, g k 1, g k 2]] := by unfold rowsG; rw [List.range_succ (n := k), List.map_append]; rfl
theorem rowsG2_succ (k : Nat) (g : Nat → Nat → Int) : rowsG 2 (k+1) g = rowsG 2 k g ++ [[g k 0, g k 1]] := by unfold rowsG; rw [List.range_succ (n := k), List.map_append]; rfl
/-- The boxes of the function. -/
structure TB (x : WD) (w W : World) (A1 : Option Addr) (c1 : Nat) (A2 : Option Addr) (c2 : Nat) (A3 : Option Addr) (c3 : Nat) (s1 s2 s3 : Value) : Prop where
 e : Ext w W
 b0 : Blk W w.heap.size 26 #[.int .i64 x.hours, .int .i64 x.allow, .int .i64 x.hands, .slice A1 x.cn c1, .slice A2 x.bn c2, .slice A3 x.sn c3]
 b1 : Blk W (w.heap.size + 1) 34 #[.int .i64 0, .int .i64 0, .int .i64 0, .slice none 0 0, .slice none 0 0, .slice none 0 0]
 b2 : Blk W (w.heap.size + 2) 34 #[.int .i64 x.hours, .int .i64 x.allow, .int .i64 x.hands, s1, s2, s3]
namespace TB
variable {x : WD} {w W W' : World} {A1 : Option Addr} {c1 : Nat} {A2 : Option Addr} {c2 : Nat} {A3 : Option Addr} {c3 : Nat} {s1 s2 s3 : Value}
theorem ext (h : TB x w W A1 c1 A2 c2 A3 c3 s1 s2 s3) (e : Ext W W') : TB x w W' A1 c1 A2 c2 A3 c3 s1 s2 s3 := ⟨h.e.trans e, h.b0.ext e, h.b1.ext e, h.b2.ext e⟩
theorem grown (h : TB x w W A1 c1 A2 c2 A3 c3 s1 s2 s3) {row : Option Nat} (hg : W.grownBy W' row) (hr : ∀ k, row = some k → w.heap.size + 3 ≤ k) : TB x w W' A1 c1 A2 c2 A3 c3 s1 s2 s3 :=
 ⟨h.e.grown hg fun k hk => by have := hr k hk; omega, h.b0.grown hg fun e => by have := hr _ e.symm; omega, h.b1.grown hg fun e => by have := hr _ e.symm; omega, h.b2.grown hg fun e => by have := hr _ e.symm; omega⟩
theorem set3 (h : TB x w W A1 c1 A2 c2 A3 c3 s1 s2 s3) (v : Value) : TB x w (W.setCell ⟨w.heap.size + 2, 3, none⟩ v) A1 c1 A2 c2 A3 c3 v s2 s3 := ⟨h.e.setCell _ (by simp), h.b0.far (by simp) _, h.b1.far (by simp) _, h.b2.set_ 3 v⟩
theorem set4 (h : TB x w W A1 c1 A2 c2 A3 c3 s1 s2 s3) (v : Value) : TB x w (W.setCell ⟨w.heap.size + 2, 4, none⟩ v) A1 c1 A2 c2 A3 c3 s1 v s3 := ⟨h.e.setCell _ (by simp), h.b0.far (by simp) _, h.b1.far (by simp) _, h.b2.set_ 4 v⟩
theorem set5 (h : TB x w W A1 c1 A2 c2 A3 c3 s1 s2 s3) (v : Value) : TB x w (W.setCell ⟨w.heap.size + 2, 5, none⟩ v) A1 c1 A2 c2 A3 c3 s1 s2 v := ⟨h.e.setCell _ (by simp), h.b0.far (by simp) _, h.b1.far (by simp) _, h.b2.set_ 5 v⟩
end TB
theorem _root_.Go.KpM.weaken {N N' : Nat} {M M' : Nat → Prop} {W W' : World} (k : KpM N M W W') (hN : N' ≤ N) (hM : ∀ i, M i → M' i) : KpM N' M' W W' := ⟨k.1, fun i hi hm => k.2 i (Nat.lt_of_lt_of_le hi hN) fun h => hm (hM i h)⟩
theorem set6 {n : Nat} {M : Nat → Prop} {W : World} {H : Nat} (a b c d e f : Value) : KpM n (fun k => k = H ∨ M k) W ((((((W.setCell ⟨H, 0, none⟩ a).setCell ⟨H, 1, none⟩ b).setCell ⟨H, 2, none⟩ c).setCell ⟨H, 3, none⟩ d).setCell ⟨H, 4, none⟩ e).setCell ⟨H, 5, none⟩ f) :=
 (((((KpM.setCell W a (p := ⟨H, 0, none⟩) (.inr (.inl rfl))).trans (KpM.setCell _ b (p := ⟨H, 1, none⟩) (.inr (.inl rfl)))).trans (KpM.setCell _ c (p := ⟨H, 2, none⟩) (.inr (.inl rfl)))).trans (KpM.setCell _ d (p := ⟨H, 3, none⟩) (.inr (.inl rfl)))).trans (KpM.setCell _ e (p := ⟨H, 4, none⟩) (.inr (.inl rfl)))).trans (KpM.setCell _ f (p := ⟨H, 5, none⟩) (.inr (.inl rfl)))
theorem ext6 {w W : World} (hw : Ext w W) (a b c d e f : Value) : Ext w ((((((W.setCell ⟨w.heap.size + 1, 0, none⟩ a).setCell ⟨w.heap.size + 1, 1, none⟩ b).setCell ⟨w.heap.size + 1, 2, none⟩ c).setCell ⟨w.heap.size + 1, 3, none⟩ d).setCell ⟨w.heap.size + 1, 4, none⟩ e).setCell ⟨w.heap.size + 1, 5, none⟩ f) :=
 (((((hw.setCell a (p := ⟨w.heap.size + 1, 0, none⟩) (Nat.le_succ _)).setCell b (p := ⟨w.heap.size + 1, 1, none⟩) (Nat.le_succ _)).setCell c (p := ⟨w.heap.size + 1, 2, none⟩) (Nat.le_succ _)).setCell d (p := ⟨w.heap.size + 1, 3, none⟩) (Nat.le_succ _)).setCell e (p := ⟨w.heap.size + 1, 4, none⟩) (Nat.le_succ _)).setCell f (p := ⟨w.heap.size + 1, 5, none⟩) (Nat.le_succ _)
theorem theirs20 {x : WD} {w : World} {v : Value} (hv : IsW w v x) (h1 : x.cn ≤ 1000) (h2 : x.bn ≤ 1000) (h3 : x.sn ≤ 1000) :
  Calls Tryz.prog 20 #[v] w fun e w' => ∃ u, e = .returned u ∧ Ext w w' ∧ IsWF w.heap.size w' u x := by
 obtain ⟨A1, c1, A2, c2, A3, c3, rfl, r1, r2, r3⟩ := hv
 have R1 := hid r1
 have R2 := hid r2
 have R3 := hid r3
 clear r1 r2 r3
 go_enter Tryz.func20, Tryz.ntmps20
 go_upto_region 2 with fail
 refine wp_later fun w1 hw1 => ?_
 have HT : Hid (TB x w w1 A1 c1 A2 c2 A3 c3 (.slice none 0 0) (.slice none 0 0) (.slice none 0 0)) := by
  obtain ⟨E, b0, b1, b2⟩ := newB3' hw1
  exact hid ⟨E, b0, b1, b2⟩
 clear hw1
 have k0 := HT.out.b0.cell
 have k0l := HT.out.b0.lt
 go_wp2
 clear k0 k0l
 go_loopw [20] (fun i wr => ∃ (k : Nat) (s : Value), k ≤ x.cn ∧ i = .int .i64 (k : Int) ∧ Hid (TB x w wr A1 c1 A2 c2 A3 c3 s (.slice none 0 0) (.slice none 0 0) ∧ OwnR wr (w.heap.size + 3) 82 3 s (rowsG 3 k x.c))) (fun i _ => x.cn - (intOf i).toNat)
 case atStart => exact ⟨0, _, Nat.zero_le _, rfl, hid ⟨HT.out, by simpa [rowsG] using OwnR.nil⟩⟩
 case round =>
  obtain ⟨k, s, hk, rfl, HI⟩ := hrel
  by_cases hlt : k < x.cn
  ·obtain ⟨b, o, rfl, hb, a0, a1, a2⟩ := (R1.out.ext HI.out.1.e).at3 hlt
   have hown := HI.out.2
   obtain ⟨D, q, rfl, -⟩ := HI.out.2.slR
   rw [rowsG_length] at *
   have HOWN := hid hown
   clear hown
   have e2 : Ext wr ((wr.alloc (.cells #[.int .i64 (x.c k 0), .int .i64 (x.c k 1), .int .i64 (x.c k 2)] 79)).alloc (.cells #[.int .i64 (x.c k 0), .int .i64 (x.c k 1), .int .i64 (x.c k 2)] 82)) := ((Ext.refl _).alloc _).alloc _
   have k2 := HI.out.1.b2.cell
   have k2l := HI.out.1.b2.lt
   go_wp2_with (at_builtin; refine wpList_append_rows rfl _ _ 30 rfl el82 rfl (HOWN.out.ext e2) _ 1 1 [[x.c k 0, x.c k 1, x.c k 2]] rfl rfl (by simp) (by intro j; simp [cellsOf]) (by rw [rowsG_length]; omega) (by simp; omega) ?_; intro v' w2 hown2 hg2; have T2 := hid ((HI.out.1.ext e2).grown hg2 (fun g hg => HOWN.out.block hg)); have HO2 := hid hown2; obtain ⟨D2, q2, rfl, -⟩ := hown2.slR; clear hown2; have k3 := T2.out.b2.cell; have f3 := T2.out.b2.frozen; have k3l := T2.out.b2.lt)
   go_roundw
   case rel => exact ⟨k + 1, _, by omega, by go_num, hid ⟨T2.out.set3 _, by rw [rowsG3_succ]; refine OwnR.far (p := ⟨w.heap.size + 2, 3, none⟩) ?_ (show w.heap.size + 2 < w.heap.size + 3 by omega) _; have h := HO2.out; simpa using h⟩⟩
   case measure => simp [intOf]; omega
  ·obtain rfl : k = x.cn := by omega
   obtain ⟨wa, rfl⟩ : ∃ wa : World, wa = wr := ⟨_, rfl⟩
   have HO1 := hid HI.out.2
   have T1 := hid HI.out.1
   obtain ⟨D1, q1, rfl, -⟩ := HI.out.2.slR
   rw [rowsG_length] at *
   have P1 := hid HO1.out.place
   have hsa : w.heap.size + 3 ≤ wa.heap.size := T1.out.b2.lt
   have k0 := T1.out.b0.cell
   have k0l := T1.out.b0.lt
   clear HI
   go_wp2
   clear k0 k0l
   go_loopw [34] (fun i wr => ∃ (k : Nat) (s : Value), k ≤ x.bn ∧ i = .int .i64 (k : Int) ∧ Hid (TB x w wr A1 c1 A2 c2 A3 c3 (.slice D1 x.cn q1) s (.slice none 0 0) ∧ OwnR wr wa.heap.size 94 2 s (rowsG 2 k x.b) ∧ KpM wa.heap.size (fun k => k = w.heap.size + 2) wa wr)) (fun i _ => x.bn - (intOf i).toNat)
   case atStart => exact ⟨0, _, Nat.zero_le _, rfl, hid ⟨T1.out, by simpa [rowsG] using OwnR.nil, KpM.refl _⟩⟩
   case round =>
    obtain ⟨k, s, hk, rfl, HI⟩ := hrel
    by_cases hlt : k < x.bn
    ·obtain ⟨b, o, rfl, hb, a0, a1⟩ := (R2.out.ext HI.out.1.e).at2 hlt
     have hown := HI.out.2.1
     obtain ⟨D, q, rfl, -⟩ := HI.out.2.1.slR
     rw [rowsG_length] at *
     have HOWN := hid hown
     clear hown
     have hsw : wa.heap.size ≤ wr.heap.size := HI.out.2.2.1
     have e2 : Ext wr ((wr.alloc (.cells #[.int .i64 (x.b k 0), .int .i64 (x.b k 1)] 119)).alloc (.cells #[.int .i64 (x.b k 0), .int .i64 (x.b k 1)] 94)) := ((Ext.refl _).alloc _).alloc _
     have k2 := HI.out.1.b2.cell
     have k2l := HI.out.1.b2.lt
     go_wp2_with (at_builtin; refine wpList_append_rows rfl _ _ 31 rfl el94 rfl (HOWN.out.ext e2) _ 1 1 [[x.b k 0, x.b k 1]] rfl rfl (by simp) (by intro j; simp [cellsOf]) (by rw [rowsG_length]; omega) (by simp; omega) ?_; intro v' w2 hown2 hg2; have T2 := hid ((HI.out.1.ext e2).grown hg2 (fun g hg => Nat.le_trans hsa (HOWN.out.block hg))); have K2 := hid ((HI.out.2.2.trans (KpM.ext e2 hsw)).trans (KpM.grown hg2 (Nat.le_trans hsw e2.size) fun k hk => .inl (HOWN.out.block hk))); have HO2 := hid hown2; obtain ⟨D2, q2, rfl, -⟩ := hown2.slR; clear hown2; have k3 := T2.out.b2.cell; have f3 := T2.out.b2.frozen; have k3l := T2.out.b2.lt)
     go_roundw
     case rel => exact ⟨k + 1, _, by omega, by go_num, hid ⟨T2.out.set4 _, by rw [rowsG2_succ]; refine OwnR.far (p := ⟨w.heap.size + 2, 4, none⟩) ?_ (show w.heap.size + 2 < wa.heap.size by omega) _; have h := HO2.out; simpa using h, K2.out.trans (KpM.setCell _ _ (p := ⟨w.heap.size + 2, 4, none⟩) (.inr rfl))⟩⟩
     case measure => simp [intOf]; omega
    ·obtain rfl : k = x.bn := by omega
     obtain ⟨wb, rfl⟩ : ∃ wb : World, wb = wr := ⟨_, rfl⟩
     have HO2 := hid HI.out.2.1
     have T2 := hid HI.out.1
     have K2 := hid HI.out.2.2
     obtain ⟨D2, q2, rfl, -⟩ := HI.out.2.1.slR
     rw [rowsG_length] at *
     have P2 := hid HO2.out.place
     have hsb : wa.heap.size ≤ wb.heap.size := K2.out.1
     have k0 := T2.out.b0.cell
     have k0l := T2.out.b0.lt
     clear HI
     go_wp2
     clear k0 k0l
     go_loopw [48] (fun i wr => ∃ (k : Nat) (s : Value), k ≤ x.sn ∧ i = .int .i64 (k : Int) ∧ Hid (TB x w wr A1 c1 A2 c2 A3 c3 (.slice D1 x.cn q1) (.slice D2 x.bn q2) s ∧ OwnR wr wb.heap.size 97 3 s (rowsG 3 k x.s) ∧ KpM wb.heap.size (fun k => k = w.heap.size + 2) wb wr)) (fun i _ => x.sn - (intOf i).toNat)
     case atStart => exact ⟨0, _, Nat.zero_le _, rfl, hid ⟨T2.out, by simpa [rowsG] using OwnR.nil, KpM.refl _⟩⟩
     case round =>
      obtain ⟨k, s, hk, rfl, HI⟩ := hrel
      have hsw : wb.heap.size ≤ wr.heap.size := HI.out.2.2.1
      by_cases hlt : k < x.sn
      ·obtain ⟨b, o, rfl, hb, a0, a1, a2⟩ := (R3.out.ext HI.out.1.e).at3 hlt
       have hown := HI.out.2.1
       obtain ⟨D, q, rfl, -⟩ := HI.out.2.1.slR
       rw [rowsG_length] at *
       have HOWN := hid hown
       clear hown
       have e2 : Ext wr ((wr.alloc (.cells #[.int .i64 (x.s k 0), .int .i64 (x.s k 1), .int .i64 (x.s k 2)] 114)).alloc (.cells #[.int .i64 (x.s k 0), .int .i64 (x.s k 1), .int .i64 (x.s k 2)] 97)) := ((Ext.refl _).alloc _).alloc _
       have k2 := HI.out.1.b2.cell
       have k2l := HI.out.1.b2.lt
       go_wp2_with (at_builtin; refine wpList_append_rows rfl _ _ 32 rfl el97 rfl (HOWN.out.ext e2) _ 1 1 [[x.s k 0, x.s k 1, x.s k 2]] rfl rfl (by simp) (by intro j; simp [cellsOf]) (by rw [rowsG_length]; omega) (by simp; omega) ?_; intro v' w2 hown2 hg2; have T3 := hid ((HI.out.1.ext e2).grown hg2 (fun g hg => Nat.le_trans hsa (Nat.le_trans hsb (HOWN.out.block hg)))); have K3 := hid ((HI.out.2.2.trans (KpM.ext e2 hsw)).trans (KpM.grown hg2 (Nat.le_trans hsw e2.size) fun k hk => .inl (HOWN.out.block hk))); have HO3 := hid hown2; obtain ⟨D3, q3, rfl, -⟩ := hown2.slR; clear hown2; have k3 := T3.out.b2.cell; have f3 := T3.out.b2.frozen; have k3l := T3.out.b2.lt)
       go_roundw
       case rel => exact ⟨k + 1, _, by omega, by go_num, hid ⟨T3.out.set5 _, by rw [rowsG3_succ]; refine OwnR.far (p := ⟨w.heap.size + 2, 5, none⟩) ?_ (show w.heap.size + 2 < wb.heap.size by omega) _; have h := HO3.out; simpa using h, K3.out.trans (KpM.setCell _ _ (p := ⟨w.heap.size + 2, 5, none⟩) (.inr rfl))⟩⟩
       case measure => simp [intOf]; omega
      ·obtain rfl : k = x.sn := by omega
       have HO3 := hid HI.out.2.1
       have T3 := hid HI.out.1
       have K3 := hid HI.out.2.2
       obtain ⟨D3, q3, rfl, -⟩ := HI.out.2.1.slR
       rw [rowsG_length] at *
       have P3 := hid HO3.out.place
       have k2 := T3.out.b2.cell
       have k2l := T3.out.b2.lt
       have k1 := T3.out.b1.cell
       have f1 := T3.out.b1.frozen
       have k1l := T3.out.b1.lt
       clear HI
       go_wp2
       have K4 : ∀ (a b c d e f : Value), KpM wr.heap.size (fun k => k = w.heap.size + 1 ∨ k = w.heap.size + 2) wr ((((((wr.setCell ⟨w.heap.size + 1, 0, none⟩ a).setCell ⟨w.heap.size + 1, 1, none⟩ b).setCell ⟨w.heap.size + 1, 2, none⟩ c).setCell ⟨w.heap.size + 1, 3, none⟩ d).setCell ⟨w.heap.size + 1, 4, none⟩ e).setCell ⟨w.heap.size + 1, 5, none⟩ f) := set6
       have X4 : ∀ (a b c d e f : Value), Ext w ((((((wr.setCell ⟨w.heap.size + 1, 0, none⟩ a).setCell ⟨w.heap.size + 1, 1, none⟩ b).setCell ⟨w.heap.size + 1, 2, none⟩ c).setCell ⟨w.heap.size + 1, 3, none⟩ d).setCell ⟨w.heap.size + 1, 4, none⟩ e).setCell ⟨w.heap.size + 1, 5, none⟩ f) := ext6 T3.out.e
       refine bodyPost_ret (v := .agg #[.int .i64 x.hours, .int .i64 x.allow, .int .i64 x.hands, .slice D1 x.cn q1, .slice D2 x.bn q2, .slice D3 x.sn q3]) (by simp [results, Tryz.results20, go_sem, k1]) rfl ⟨_, rfl, X4 _ _ _ _ _ _, _, _, _, _, _, _, rfl, ?_, ?_, ?_, Lies.of P1.out (by omega) (Nat.le_trans hsb (Nat.le_trans hsw (K4 _ _ _ _ _ _).1)), Lies.of P2.out (by omega) (Nat.le_trans hsw (K4 _ _ _ _ _ _).1), Lies.of P3.out (by omega) (K4 _ _ _ _ _ _).1, OwnR.cap HO1.out⟩
       ·exact OwnR.rd_kpm HO1.out (((K2.out.weaken (Nat.le_refl _) fun _ h => .inr h).trans (K3.out.weaken hsb fun _ h => .inr h)).trans ((K4 _ _ _ _ _ _).weaken (Nat.le_trans hsb hsw) fun _ h => h)) (by rintro b (rfl | rfl) <;> omega) rfl
       ·exact OwnR.rd_kpm HO2.out ((K3.out.weaken (Nat.le_refl _) fun _ h => .inr h).trans ((K4 _ _ _ _ _ _).weaken hsw fun _ h => h)) (by rintro b (rfl | rfl) <;> omega) rfl
       ·exact OwnR.rd_kpm HO3.out (K4 _ _ _ _ _ _) (by rintro b (rfl | rfl) <;> omega) rfl
end Go.Proofs.YtkhjmedfhobebaaGreat
namespace Go.Proofs.YtkhjmedfhobebaaGreat
open Go.RowKit HandSpec
set_option maxHeartbeats 800000
set_option maxRecDepth 100000
theorem parts30 {w : World} {v : Value} {l : List (List Int)} (hv : SlR w 2 v l) (hn : l.length ≤ 1000) :
  Calls Tryz.prog 30 #[v] w fun e w' => ∃ u, e = .returned u ∧ Ext w w' ∧ ∃ l', SlR w' 2 u l' ∧ l'.length = l.length ∧ ∀ k, k < l.length → ∀ j, j < 2 → rowsAt l' k j = rowsAt l k j := by
 obtain ⟨A, cap, rfl, hr⟩ := hv
 go_enter Tryz.func30, Tryz.ntmps30
 go_wp2
 go_loopw [3, 8] (fun o i wr => ∃ k : Nat, k ≤ l.length ∧ i = .int .i64 (k : Int) ∧ OwnR wr w.heap.size 65 2 o (rowsG 2 k (rowsAt l)) ∧ Ext w wr) (fun _ i _ => l.length - (intOf i).toNat)
 case atStart => exact ⟨0, Nat.zero_le _, rfl, by simpa [rowsG] using OwnR.nil, Ext.refl _⟩
 case round =>
  obtain ⟨k, hk, rfl, hown, he⟩ := hrel
  by_cases hlt : k < l.length
  ·obtain ⟨b, o, rfl, hb, c0, c1⟩ := (hr.ext he).at2 hlt
   have HS := hid (show rowsG 2 (k+1) (rowsAt l) = rowsG 2 k (rowsAt l) ++ [[rowsAt l k 0, rowsAt l k 1]] by unfold rowsG; rw [List.range_succ (n := k), List.map_append]; rfl)
   clear hr
   go_wp2_with (at_builtin; refine wpList_append_rows rfl _ _ 53 rfl elem53 rfl (hown.ext (Ext.alloc (Ext.alloc (Ext.refl _) _) _)) _ 1 1 [[rowsAt l k 0, rowsAt l k 1]] rfl rfl (by simp) (by intro i; simp [cellsOf]) (by rw [rowsG_length]; omega) (by have := he.size; simp; omega) ?_; intro v' w2 hown2 hg2)
   go_roundw
   case rel => exact ⟨k + 1, by omega, by go_num, by rw [HS.out]; exact hown2, ((he.alloc _).alloc _).grown hg2 fun g hg => hown.block hg⟩
   case measure => simp [intOf]; omega
  ·go_wp2
   go_ret
   obtain rfl : k = l.length := by omega
   exact ⟨_, rfl, he, _, hown.slR, rowsG_length _ _ _, fun k hk j hj => rowsG_at hk hj⟩
def sameB (x y : WD) : Bool := decide (x.hours = y.hours) && decide (x.allow = y.allow) && decide (x.hands = y.hands) && eqB 3 x.cn y.cn x.c y.c && eqB 2 x.bn y.bn x.b y.b && eqB 3 x.sn y.sn x.s y.s
/-- Two watches of the same numbers are the same. -/
theorem same28 {x y : WD} {w : World} {u v : Value} (hu : IsW w u x) (hv : IsW w v y) (h1 : x.cn ≤ 1000) (h2 : x.bn ≤ 1000) (h3 : x.sn ≤ 1000) (h4 : x.hours = y.hours) (h5 : x.allow = y.allow) (h6 : x.hands = y.hands)
  (h7 : eqB 3 x.cn y.cn x.c y.c = true) (h8 : eqB 2 x.bn y.bn x.b y.b = true) (h9 : eqB 3 x.sn y.sn x.s y.s = true) :
  Calls Tryz.prog 28 #[u, v] w fun e w' => e = .returned (.bool true) ∧ Ext w w' := by
 obtain ⟨A1, c1, A2, c2, A3, c3, rfl, r1, r2, r3⟩ := hu
 obtain ⟨B1, d1, B2, d2, B3, d3, rfl, s1, s2, s3⟩ := hv
 have g1 : y.cn ≤ 1000 := by simp [eqB] at h7; omega
 have g2 : y.bn ≤ 1000 := by simp [eqB] at h8; omega
 have g3 : y.sn ≤ 1000 := by simp [eqB] at h9; omega
 have e4 : (x.hours == y.hours) = true := by simpa using h4
 have e5 : (x.allow == y.allow) = true := by simpa using h5
 have e6 : (x.hands == y.hands) = true := by simpa using h6
 have R1 := hid r1
 have R2 := hid r2
 have R3 := hid r3
 have S1 := hid s1
 have S2 := hid s2
 have S3 := hid s3
 have H7 := hid h7
 have H8 := hid h8
 have H9 := hid h9
 clear r1 r2 r3 s1 s2 s3 h4 h5 h6 h7 h8 h9
 go_enter Tryz.func28, Tryz.ntmps28
 go_upto_region 1 with fail
 refine wp_later fun w1 hw1 => ?_
 obtain ⟨E0, b1, b2⟩ := hw1.newB2
 have E := hid (Ext.refl w1)
 have k1 := b1.cell
 have k1l := b1.lt
 have k2 := b2.cell
 have k2l := b2.lt
 clear hw1
 go_wp2_with (first
  | (go_at_call 123; refine (eq123 (R1.out.ext (E0.trans E.out)) (S1.out.ext (E0.trans E.out)) h1 g1).mono ?_; rintro e w2 ⟨rfl, he2⟩; rw [H7.out]; have E := hid (E.out.trans he2); have k1 := (b1.ext E.out).cell; have k1l := (b1.ext E.out).lt; have k2 := (b2.ext E.out).cell; have k2l := (b2.ext E.out).lt)
  | (go_at_call 124; refine (eq124 (R2.out.ext (E0.trans E.out)) (S2.out.ext (E0.trans E.out)) h2 g2).mono ?_; rintro e w3 ⟨rfl, he3⟩; rw [H8.out]; have E := hid (E.out.trans he3); have k1 := (b1.ext E.out).cell; have k1l := (b1.ext E.out).lt; have k2 := (b2.ext E.out).cell; have k2l := (b2.ext E.out).lt)
  | (go_at_call 125; refine (eq125 (R3.out.ext (E0.trans E.out)) (S3.out.ext (E0.trans E.out)) h3 g3).mono ?_; rintro e w4 ⟨rfl, he4⟩; rw [H9.out]; have E := hid (E.out.trans he4)))
 go_ret
 exact ⟨rfl, E0.trans E.out⟩
end Go.Proofs.YtkhjmedfhobebaaGreat
namespace Go.Proofs.YtkhjmedfhobebaaGreat
open Go.RowKit HandSpec
set_option maxHeartbeats 800000
set_option maxRecDepth 100000
/-- A rule for sizes. -/
theorem _root_.Go.Ext.less {w w' : World} (e : Ext w w') : ∀ n, n < w.heap.size → n < w'.heap.size := fun _ h => Nat.lt_of_lt_of_le h e.size
theorem sz_drew (w : World) : w.drew.heap.size = w.heap.size := rfl
theorem sz_alloc (w : World) (o : Obj) : (w.alloc o).heap.size = w.heap.size + 1 := by simp
theorem set12 {n : Nat} {G H : Nat} (W : World) (a b c d e f a' b' c' d' e' f' : Value) :
  KpM n (fun k => k = G ∨ k = H) W ((((((((((((W.setCell ⟨G, 0, none⟩ a).setCell ⟨G, 1, none⟩ b).setCell ⟨G, 2, none⟩ c).setCell ⟨G, 3, none⟩ d).setCell ⟨G, 4, none⟩ e).setCell ⟨G, 5, none⟩ f).setCell ⟨H, 0, none⟩ a').setCell ⟨H, 1, none⟩ b').setCell ⟨H, 2, none⟩ c').setCell ⟨H, 3, none⟩ d').setCell ⟨H, 4, none⟩ e').setCell ⟨H, 5, none⟩ f') :=
 (((((((((((KpM.setCell W a (p := ⟨G, 0, none⟩) (.inr (.inl rfl))).trans (KpM.setCell _ b (p := ⟨G, 1, none⟩) (.inr (.inl rfl)))).trans (KpM.setCell _ c (p := ⟨G, 2, none⟩) (.inr (.inl rfl)))).trans (KpM.setCell _ d (p := ⟨G, 3, none⟩) (.inr (.inl rfl)))).trans (KpM.setCell _ e (p := ⟨G, 4, none⟩) (.inr (.inl rfl)))).trans (KpM.setCell _ f (p := ⟨G, 5, none⟩) (.inr (.inl rfl)))).trans
  (KpM.setCell _ a' (p := ⟨H, 0, none⟩) (.inr (.inr rfl)))).trans (KpM.setCell _ b' (p := ⟨H, 1, none⟩) (.inr (.inr rfl)))).trans (KpM.setCell _ c' (p := ⟨H, 2, none⟩) (.inr (.inr rfl)))).trans (KpM.setCell _ d' (p := ⟨H, 3, none⟩) (.inr (.inr rfl)))).trans (KpM.setCell _ e' (p := ⟨H, 4, none⟩) (.inr (.inr rfl)))).trans (KpM.setCell _ f' (p := ⟨H, 5, none⟩) (.inr (.inr rfl)))
theorem ext12 {w W : World} (hw : Ext w W) {G H : Nat} (hG : w.heap.size ≤ G) (hH : w.heap.size ≤ H) (a b c d e f a' b' c' d' e' f' : Value) :
  Ext w ((((((((((((W.setCell ⟨G, 0, none⟩ a).setCell ⟨G, 1, none⟩ b).setCell ⟨G, 2, none⟩ c).setCell ⟨G, 3, none⟩ d).setCell ⟨G, 4, none⟩ e).setCell ⟨G, 5, none⟩ f).setCell ⟨H, 0, none⟩ a').setCell ⟨H, 1, none⟩ b').setCell ⟨H, 2, none⟩ c').setCell ⟨H, 3, none⟩ d').setCell ⟨H, 4, none⟩ e').setCell ⟨H, 5, none⟩ f') :=
 (((((((((((hw.setCell a (p := ⟨G, 0, none⟩) hG).setCell b (p := ⟨G, 1, none⟩) hG).setCell c (p := ⟨G, 2, none⟩) hG).setCell d (p := ⟨G, 3, none⟩) hG).setCell e (p := ⟨G, 4, none⟩) hG).setCell f (p := ⟨G, 5, none⟩) hG).setCell a' (p := ⟨H, 0, none⟩) hH).setCell b' (p := ⟨H, 1, none⟩) hH).setCell c' (p := ⟨H, 2, none⟩) hH).setCell d' (p := ⟨H, 3, none⟩) hH).setCell e' (p := ⟨H, 4, none⟩) hH).setCell f' (p := ⟨H, 5, none⟩) hH
theorem blk12 {W : World} {G H : Nat} {t u : TypeId} {z0 z1 z2 z3 z4 z5 y0 y1 y2 y3 y4 y5 : Value} (h1 : Blk W G t #[z0, z1, z2, z3, z4, z5]) (h2 : Blk W H u #[y0, y1, y2, y3, y4, y5]) (hne : G ≠ H) (a b c d e f a' b' c' d' e' f' : Value) :
  Blk ((((((((((((W.setCell ⟨G, 0, none⟩ a).setCell ⟨G, 1, none⟩ b).setCell ⟨G, 2, none⟩ c).setCell ⟨G, 3, none⟩ d).setCell ⟨G, 4, none⟩ e).setCell ⟨G, 5, none⟩ f).setCell ⟨H, 0, none⟩ a').setCell ⟨H, 1, none⟩ b').setCell ⟨H, 2, none⟩ c').setCell ⟨H, 3, none⟩ d').setCell ⟨H, 4, none⟩ e').setCell ⟨H, 5, none⟩ f') G t #[a, b, c, d, e, f] ∧
  Blk ((((((((((((W.setCell ⟨G, 0, none⟩ a).setCell ⟨G, 1, none⟩ b).setCell ⟨G, 2, none⟩ c).setCell ⟨G, 3, none⟩ d).setCell ⟨G, 4, none⟩ e).setCell ⟨G, 5, none⟩ f).setCell ⟨H, 0, none⟩ a').setCell ⟨H, 1, none⟩ b').setCell ⟨H, 2, none⟩ c').setCell ⟨H, 3, none⟩ d').setCell ⟨H, 4, none⟩ e').setCell ⟨H, 5, none⟩ f') H u #[a', b', c', d', e', f'] := by
 have n2 : H ≠ G := fun h => hne h.symm
 constructor
 ·exact ((((((((((((h1.set_ 0 a).set_ 1 b).set_ 2 c).set_ 3 d).set_ 4 e).set_ 5 f).far (p := ⟨H, 0, none⟩) hne a').far (p := ⟨H, 1, none⟩) hne b').far (p := ⟨H, 2, none⟩) hne c').far (p := ⟨H, 3, none⟩) hne d').far (p := ⟨H, 4, none⟩) hne e').far (p := ⟨H, 5, none⟩) hne f')
 ·exact ((((((((((((h2.far (p := ⟨G, 0, none⟩) n2 a).far (p := ⟨G, 1, none⟩) n2 b).far (p := ⟨G, 2, none⟩) n2 c).far (p := ⟨G, 3, none⟩) n2 d).far (p := ⟨G, 4, none⟩) n2 e).far (p := ⟨G, 5, none⟩) n2 f).set_ 0 a').set_ 1 b').set_ 2 c').set_ 3 d').set_ 4 e').set_ 5 f')
/-- A box that holds a watch. -/
def Box6 (t : TypeId) (W : World) (g : Nat) (x : WD) : Prop :=
 ∃ A1 c1 A2 c2 A3 c3, Blk W g t #[.int .i64 x.hours, .int .i64 x.allow, .int .i64 x.hands, .slice A1 x.cn c1, .slice A2 x.bn c2, .slice A3 x.sn c3] ∧ IsW W (.agg #[.int .i64 x.hours, .int .i64 x.allow, .int .i64 x.hands, .slice A1 x.cn c1, .slice A2 x.bn c2, .slice A3 x.sn c3]) x
end Go.Proofs.YtkhjmedfhobebaaGreat
namespace Go.Proofs.YtkhjmedfhobebaaGreat
open Go.RowKit HandSpec
set_option maxRecDepth 100000
/-- A slice's block lies between two numbers. -/
def InI (lo hi : Nat) (A : Option Addr) : Prop := ∀ b o, A = some ⟨b, o, none⟩ → lo ≤ b ∧ b < hi
/-- A watch whose slices lie between two numbers. -/
def IsWI (lo hi : Nat) (w : World) (v : Value) (x : WD) : Prop :=
 ∃ A1 c1 A2 c2 A3 c3, v = .agg #[.int .i64 x.hours, .int .i64 x.allow, .int .i64 x.hands, .slice A1 x.cn c1, .slice A2 x.bn c2, .slice A3 x.sn c3] ∧
  Rd w A1 x.cn 3 x.c ∧ Rd w A2 x.bn 2 x.b ∧ Rd w A3 x.sn 3 x.s ∧ InI lo hi A1 ∧ InI lo hi A2 ∧ InI lo hi A3
theorem IsWI.of {lo : Nat} {w : World} {v : Value} {x : WD} (h : IsWF lo w v x) : IsWI lo w.heap.size w v x := by
 obtain ⟨A1, c1, A2, c2, A3, c3, hv, h1, h2, h3, l1, l2, l3, -⟩ := h
 exact ⟨A1, c1, A2, c2, A3, c3, hv, h1, h2, h3, l1, l2, l3⟩
theorem IsWI.ext {lo hi : Nat} {w w' : World} {v : Value} {x : WD} (h : IsWI lo hi w v x) (e : Ext w w') : IsWI lo hi w' v x := by
 obtain ⟨A1, c1, A2, c2, A3, c3, hv, h1, h2, h3, l1, l2, l3⟩ := h
 exact ⟨A1, c1, A2, c2, A3, c3, hv, h1.ext e, h2.ext e, h3.ext e, l1, l2, l3⟩
theorem IsWI.isW {lo hi : Nat} {w : World} {v : Value} {x : WD} (h : IsWI lo hi w v x) : IsW w v x := by
 obtain ⟨A1, c1, A2, c2, A3, c3, hv, h1, h2, h3, -, -, -⟩ := h
 exact ⟨A1, c1, A2, c2, A3, c3, hv, h1, h2, h3⟩
theorem IsWI.kpm {lo hi : Nat} {W W' : World} {v : Value} {x : WD} {M : Nat → Prop} (h : IsWI lo hi W v x) (k : KpM W.heap.size M W W') (hh : hi ≤ W.heap.size) (hM : ∀ b, lo ≤ b → b < hi → ¬ M b) : IsWI lo hi W' v x := by
 obtain ⟨A1, c1, A2, c2, A3, c3, hv, h1, h2, h3, l1, l2, l3⟩ := h
 exact ⟨A1, c1, A2, c2, A3, c3, hv, h1.kpm k fun b o e => ⟨by have := (l1 b o e).2; omega, hM b (l1 b o e).1 (l1 b o e).2⟩, h2.kpm k fun b o e => ⟨by have := (l2 b o e).2; omega, hM b (l2 b o e).1 (l2 b o e).2⟩, h3.kpm k fun b o e => ⟨by have := (l3 b o e).2; omega, hM b (l3 b o e).1 (l3 b o e).2⟩, l1, l2, l3⟩
/-- A slice of rows between two numbers. -/
def SlI (n c : Nat) (g : Nat → Nat → Int) : MSpec := fun v lo hi w => ∃ D q, v = .slice D n q ∧ Rd w D n c g ∧ InI lo hi D
theorem SlI.ext {n c : Nat} {g : Nat → Nat → Int} {v : Value} {lo hi : Nat} {w w' : World} (h : SlI n c g v lo hi w) (e : Ext w w') : SlI n c g v lo hi w' := by
 obtain ⟨D, q, hv, hr, hi⟩ := h
 exact ⟨D, q, hv, hr.ext e, hi⟩
theorem SlI.of {B : Nat} {w : World} {t : TypeId} {c n : Nat} {g : Nat → Nat → Int} {v : Value} (h : OwnR w B t c v (rowsG c n g)) : SlI n c g v B w.heap.size w := by
 obtain ⟨D, q, rfl, -⟩ := h.slR
 have hd := OwnR.rd_kpm (M := fun _ => False) h (KpM.refl _) (fun _ h => h.elim) (rowsG_length _ _ _)
 exact ⟨D, q, by rw [rowsG_length], hd, h.place⟩
/-- A new box of these cells. -/
def PtI (t : TypeId) (C : Array Value) : MSpec := fun v lo hi w => v = .pointer (some ⟨lo, 0, none⟩) ∧ hi = lo + 1 ∧ Blk w lo t C
theorem PtI.ext {t : TypeId} {C : Array Value} {v : Value} {lo hi : Nat} {w w' : World} (h : PtI t C v lo hi w) (e : Ext w w') : PtI t C v lo hi w' := ⟨h.1, h.2.1, h.2.2.ext e⟩
/-- The two boxes behind the stores. -/
def Boxes (x : WD) (w1 : World) (G H : Nat) (M : Nat → Prop) (W W' : World) : Prop := Ext w1 W' ∧ Box6 26 W' G x ∧ Box6 34 W' H x ∧ KpM W.heap.size M W W'
theorem boxes {x : WD} {w1 W : World} {la ha lb hb G H : Nat} {A1 A2 A3 D1 D2 D3 : Option Addr} {q1 q2 q3 p1 p2 p3 : Nat} {z0 z1 z2 z3 z4 z5 y0 y1 y2 y3 y4 y5 : Value} (e1 : Ext w1 W)
  (va : IsWI la ha W (.agg #[.int .i64 x.hours, .int .i64 x.allow, .int .i64 x.hands, .slice A1 x.cn q1, .slice A2 x.bn q2, .slice A3 x.sn q3]) x) (vb : IsWI lb hb W (.agg #[.int .i64 x.hours, .int .i64 x.allow, .int .i64 x.hands, .slice D1 x.cn p1, .slice D2 x.bn p2, .slice D3 x.sn p3]) x)
  (sa : ha ≤ W.heap.size) (sb : hb ≤ W.heap.size) (hG : Blk W G 26 #[z0, z1, z2, z3, z4, z5]) (hH : Blk W H 34 #[y0, y1, y2, y3, y4, y5]) (hn : G ≠ H) (hG1 : w1.heap.size ≤ G) (hH1 : w1.heap.size ≤ H)
  (maG : ha ≤ G ∨ G < la) (maH : ha ≤ H ∨ H < la) (mbG : hb ≤ G ∨ G < lb) (mbH : hb ≤ H ∨ H < lb) :
  Boxes x w1 G H (fun b => b = G ∨ b = H) W ((((((((((((W.setCell ⟨G, 0, none⟩ (.int .i64 x.hours)).setCell ⟨G, 1, none⟩ (.int .i64 x.allow)).setCell ⟨G, 2, none⟩ (.int .i64 x.hands)).setCell ⟨G, 3, none⟩ (.slice A1 x.cn q1)).setCell ⟨G, 4, none⟩ (.slice A2 x.bn q2)).setCell ⟨G, 5, none⟩ (.slice A3 x.sn q3)).setCell ⟨H, 0, none⟩ (.int .i64 x.hours)).setCell ⟨H, 1, none⟩ (.int .i64 x.allow)).setCell ⟨H, 2, none⟩ (.int .i64 x.hands)).setCell ⟨H, 3, none⟩ (.slice D1 x.cn p1)).setCell ⟨H, 4, none⟩ (.slice D2 x.bn p2)).setCell ⟨H, 5, none⟩ (.slice D3 x.sn p3)) := by
 obtain ⟨k1, k2⟩ := blk12 hG hH hn (.int .i64 x.hours) (.int .i64 x.allow) (.int .i64 x.hands) (.slice A1 x.cn q1) (.slice A2 x.bn q2) (.slice A3 x.sn q3) (.int .i64 x.hours) (.int .i64 x.allow) (.int .i64 x.hands) (.slice D1 x.cn p1) (.slice D2 x.bn p2) (.slice D3 x.sn p3)
 have hk := set12 (n := W.heap.size) (G := G) (H := H) W (.int .i64 x.hours) (.int .i64 x.allow) (.int .i64 x.hands) (.slice A1 x.cn q1) (.slice A2 x.bn q2) (.slice A3 x.sn q3) (.int .i64 x.hours) (.int .i64 x.allow) (.int .i64 x.hands) (.slice D1 x.cn p1) (.slice D2 x.bn p2) (.slice D3 x.sn p3)
 refine ⟨ext12 e1 hG1 hH1 _ _ _ _ _ _ _ _ _ _ _ _, ⟨_, _, _, _, _, _, k1, ?_⟩, ⟨_, _, _, _, _, _, k2, ?_⟩, hk⟩
 ·exact (va.kpm hk sa (by rintro b h1 h2 (rfl | rfl) <;> omega)).isW
 ·exact (vb.kpm hk sb (by rintro b h1 h2 (rfl | rfl) <;> omega)).isW
theorem SlI.kpm {n c : Nat} {g : Nat → Nat → Int} {v : Value} {lo hi : Nat} {W W' : World} {M : Nat → Prop} (h : SlI n c g v lo hi W) (k : KpM W.heap.size M W W') (hh : hi ≤ W.heap.size) (hM : ∀ b, lo ≤ b → b < hi → ¬ M b) : SlI n c g v lo hi W' := by
 obtain ⟨D, q, hv, hr, l⟩ := h
 exact ⟨D, q, hv, hr.kpm k fun b o e => ⟨by have := (l b o e).2; omega, hM b (l b o e).1 (l b o e).2⟩, l⟩
def z26 : Array Value := #[.int .i64 0, .int .i64 0, .int .i64 0, .slice none 0 0, .slice none 0 0, .slice none 0 0]
/-- A slice of rows. -/
def SlV (n c : Nat) (g : Nat → Nat → Int) : MSpec := fun v _ _ w => ∃ D q, v = .slice D n q ∧ Rd w D n c g
theorem SlV.ext {n c : Nat} {g : Nat → Nat → Int} {v : Value} {lo hi : Nat} {w w' : World} (h : SlV n c g v lo hi w) (e : Ext w w') : SlV n c g v lo hi w' := by
 obtain ⟨D, q, hv, hr⟩ := h
 exact ⟨D, q, hv, hr.ext e⟩
theorem SlR.of_rd {w : World} {A : Option Addr} {n c cap : Nat} {g : Nat → Nat → Int} (h : Rd w A n c g) : SlR w c (.slice A n cap) (rowsG c n g) :=
 ⟨A, cap, by rw [rowsG_length], by rw [rowsG_length]; exact h.congr fun k hk j hj => (rowsG_at hk hj).symm⟩
theorem parts30v {w : World} {A : Option Addr} {n cap : Nat} {g : Nat → Nat → Int} (h : Rd w A n 2 g) (hn : n ≤ 1000) :
  Calls Tryz.prog 30 #[.slice A n cap] w fun e w' => ∃ u, e = .returned u ∧ Ext w w' ∧ SlV n 2 g u w.heap.size w'.heap.size w' := by
 refine (parts30 (SlR.of_rd (cap := cap) h) (by rw [rowsG_length]; exact hn)).mono ?_
 rintro e w' ⟨u, rfl, he, l', ⟨D, q, rfl, hr⟩, hl, hg⟩
 rw [rowsG_length] at hl hg
 refine ⟨_, rfl, he, D, q, by rw [hl], ?_⟩
 rw [hl] at hr
 exact hr.congr fun k hk j hj => by rw [hg k hk j hj, rowsG_at hk hj]
theorem eqB_refl (c n : Nat) (g : Nat → Nat → Int) : eqB c n n g g = true := by
 unfold eqB
 rw [decide_eq_true rfl, anyTo_false.2 fun k _ => ?_]
 ·rfl
 ·unfold neB
  rw [anyTo_false]
  intro j _
  simp
end Go.Proofs.YtkhjmedfhobebaaGreat
