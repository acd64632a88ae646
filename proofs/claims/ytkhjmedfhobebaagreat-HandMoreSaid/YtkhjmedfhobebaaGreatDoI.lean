/- The walk of the program's proof by stretches. The watch is right, as Ok says. -/
import Derived.Test.YtkhjmedfhobebaaGreatDoF
import Derived.Test.YtkhjmedfhobebaaGreatDoH
import Derived.Test.YtkhjmedfhobebaaGreatDoK
import Derived.Test.YtkhjmedfhobebaaGreatDoL
import Derived.Deep.LoopGhost
namespace Go
open Go.RowKit
/-- The first N cells of block g, which is of cells alone, are the numbers h. -/
def ArrB (W : World) (g : Nat) (t : TypeId) (N : Nat) (h : Nat → Int) : Prop := ∃ C, Blk W g t C ∧ ∀ i, i < N → C[i]? = some (.int .i64 (h i))
namespace ArrB
variable {W W' : World} {g N : Nat} {t : TypeId} {h : Nat → Int}
theorem ext (a : ArrB W g t N h) (e : Ext W W') : ArrB W' g t N h := by obtain ⟨C, h1, h2⟩ := a; exact ⟨C, h1.ext e, h2⟩
theorem kc {B : Nat} (a : ArrB W g t N h) (k : Kc B W W') : ArrB W' g t N h := by obtain ⟨C, h1, h2⟩ := a; exact ⟨C, h1.kc k, h2⟩
theorem lt (a : ArrB W g t N h) : g < W.heap.size := by obtain ⟨C, h1, h2⟩ := a; exact h1.lt
theorem cell (a : ArrB W g t N h) {i : Nat} (hi : i < N) : W.cell? ⟨g, i, none⟩ = some (.int .i64 (h i)) := by obtain ⟨C, h1, h2⟩ := a; rw [h1.cell]; exact h2 i hi
theorem frozen (a : ArrB W g t N h) (i : Nat) : W.frozen? ⟨g, i, none⟩ = false := by obtain ⟨C, h1, h2⟩ := a; exact h1.frozen i
theorem congr {h' : Nat → Int} (a : ArrB W g t N h) (e : ∀ i, i < N → h i = h' i) : ArrB W g t N h' := by obtain ⟨C, h1, h2⟩ := a; exact ⟨C, h1, fun i hi => by rw [← e i hi]; exact h2 i hi⟩
theorem far (a : ArrB W g t N h) {p : Addr} (hp : g ≠ p.block) (u : Value) : ArrB (W.setCell p u) g t N h := by obtain ⟨C, h1, h2⟩ := a; exact ⟨C, h1.far hp u, h2⟩
theorem set_ (a : ArrB W g t N h) (k : Nat) (z : Int) : ArrB (W.setCell ⟨g, k, none⟩ (.int .i64 z)) g t N (fun i => if i = k then z else h i) := by
 obtain ⟨C, h1, h2⟩ := a
 refine ⟨_, h1.set_ k _, fun i hi => ?_⟩
 have := h2 i hi
 obtain ⟨hlt, hv⟩ := Array.getElem?_eq_some_iff.1 this
 by_cases e : i = k
 ·subst e
  simp [hlt]
 ·show _ = some (Value.int .i64 (if i = k then z else h i))
  rw [Array.getElem?_setIfInBounds_ne (fun e' => e e'.symm), if_neg e]
  exact this
end ArrB
/-- The marks of loops over functions that have run. -/
def Marks (B : Nat) (ds : List Deferred) (W : World) : Prop := ds.Nodup ∧ ∀ d, d ∈ ds → ∃ r, r < B ∧ d = { target := .collected r, args := #[] } ∧ W.heap[r]? = some (.deferred (some []))
namespace Marks
variable {B B' : Nat} {ds : List Deferred} {W W' : World}
theorem nil (B : Nat) (W : World) : Marks B [] W := ⟨List.nodup_nil, fun d h => absurd h (by simp)⟩
theorem mono (h : Marks B ds W) (hB : B ≤ B') : Marks B' ds W := ⟨h.1, fun d hd => by obtain ⟨r, h1, h2, h3⟩ := h.2 d hd; exact ⟨r, by omega, h2, h3⟩⟩
theorem kc (h : Marks B ds W) (k : Kc B W W') : Marks B ds W' := ⟨h.1, fun d hd => by obtain ⟨r, h1, h2, h3⟩ := h.2 d hd; exact ⟨r, h1, h2, k.2.2.2.2 r _ h3 (.inr h1)⟩⟩
theorem ext (h : Marks B ds W) (e : Ext W W') : Marks B ds W' := ⟨h.1, fun d hd => by
 obtain ⟨r, h1, h2, h3⟩ := h.2 d hd
 refine ⟨r, h1, h2, ?_⟩
 rw [e.block]
 ·exact h3
 ·rcases Nat.lt_or_ge r W.heap.size with h | h
  ·exact h
  ·rw [Array.getElem?_eq_none h] at h3; cases h3⟩
theorem set_ (h : Marks B ds W) {g : Nat} {t : TypeId} {C : Array Value} (hb : Blk W g t C) (i : Nat) (u : Value) : Marks B ds (W.setCell ⟨g, i, none⟩ u) := ⟨h.1, fun d hd => by
 obtain ⟨r, h1, h2, h3⟩ := h.2 d hd
 refine ⟨r, h1, h2, ?_⟩
 rw [Below.heap_setCell W ⟨g, i, none⟩ u r (fun e => ?_)]
 ·exact h3
 ·subst e
  unfold Blk at hb
  rw [hb] at h3; cases h3⟩
theorem setA (h : Marks B ds W) {g : Nat} {t : TypeId} {N : Nat} {v : Nat → Int} (hb : ArrB W g t N v) (i : Nat) (u : Value) : Marks B ds (W.setCell ⟨g, i, none⟩ u) := by obtain ⟨C, hC, _⟩ := hb; exact h.set_ hC i u
theorem put4 (h : Marks B ds W) {g : Nat} {t : TypeId} {N : Nat} {v : Nat → Int} (hb : ArrB W g t N v) (i : Nat) (z0 z1 z2 z3 : Int) :
  Marks B ds ((((W.setCell ⟨g, i, none⟩ (.int .i64 z0)).setCell ⟨g, i + 1, none⟩ (.int .i64 z1)).setCell ⟨g, i + 2, none⟩ (.int .i64 z2)).setCell ⟨g, i + 3, none⟩ (.int .i64 z3)) :=
 (((h.setA hb i _).setA (hb.set_ i z0) (i + 1) _).setA ((hb.set_ i z0).set_ (i + 1) z1) (i + 2) _).setA (((hb.set_ i z0).set_ (i + 1) z1).set_ (i + 2) z2) (i + 3) _
theorem cons (h : Marks B ds W) {D : Nat} (hD : B ≤ D) (hk : W.heap[D]? = some (.deferred (some []))) : Marks (D + 1) ({ target := .collected D, args := #[] } :: ds) W := by
 refine ⟨List.nodup_cons.2 ⟨fun hm => ?_, h.1⟩, fun d hd => ?_⟩
 ·obtain ⟨r, h1, h2, _⟩ := h.2 _ hm
  cases h2
  omega
 ·rcases List.mem_cons.1 hd with rfl | hd
  ·exact ⟨D, by omega, rfl, hk⟩
  ·obtain ⟨r, h1, h2, h3⟩ := h.2 d hd
   exact ⟨r, by omega, h2, h3⟩
end Marks
theorem KpM.set4 {n : Nat} {M : Nat → Prop} (W : World) (g i : Nat) (u0 u1 u2 u3 : Value) (hM : M g) : KpM n M W ((((W.setCell ⟨g, i, none⟩ u0).setCell ⟨g, i + 1, none⟩ u1).setCell ⟨g, i + 2, none⟩ u2).setCell ⟨g, i + 3, none⟩ u3) :=
 (((KpM.setCell W u0 (p := ⟨g, i, none⟩) (.inr hM)).trans (KpM.setCell _ u1 (p := ⟨g, i + 1, none⟩) (.inr hM))).trans (KpM.setCell _ u2 (p := ⟨g, i + 2, none⟩) (.inr hM))).trans (KpM.setCell _ u3 (p := ⟨g, i + 3, none⟩) (.inr hM))
theorem KeepsFrom.set4 {B : Nat} (W : World) (g i : Nat) (u0 u1 u2 u3 : Value) : KeepsFrom B W ((((W.setCell ⟨g, i, none⟩ u0).setCell ⟨g, i + 1, none⟩ u1).setCell ⟨g, i + 2, none⟩ u2).setCell ⟨g, i + 3, none⟩ u3) :=
 (((KeepsFrom.set W ⟨g, i, none⟩ u0).trans (KeepsFrom.set _ ⟨g, i + 1, none⟩ u1)).trans (KeepsFrom.set _ ⟨g, i + 2, none⟩ u2)).trans (KeepsFrom.set _ ⟨g, i + 3, none⟩ u3)
theorem Blk.far4 {W : World} {g g' : Nat} {t : TypeId} {C : Array Value} (h : Blk W g' t C) (hne : g' ≠ g) (i : Nat) (u0 u1 u2 u3 : Value) : Blk ((((W.setCell ⟨g, i, none⟩ u0).setCell ⟨g, i + 1, none⟩ u1).setCell ⟨g, i + 2, none⟩ u2).setCell ⟨g, i + 3, none⟩ u3) g' t C :=
 (((h.far (p := ⟨g, i, none⟩) hne u0).far (p := ⟨g, i + 1, none⟩) hne u1).far (p := ⟨g, i + 2, none⟩) hne u2).far (p := ⟨g, i + 3, none⟩) hne u3
/-- A function that has run loops over functions returns. -/
theorem leaves_marks {F : Fence} {n : Nat} {P : Program} {fn : Func} {tmps : Array Value} {R : Ending → World → Prop} {w0 : Nat} : ∀ {ds : List Deferred} {B : Nat} {W : World}, Marks B ds W → (∀ d, d ∈ ds → ∃ r, w0 ≤ r ∧ d = { target := .collected r, args := #[] }) →
  (∀ W', Kc w0 W W' → ∃ v, (results fn tmps).run P W' = .ok v W' ∧ R (.returned v) W') → LeavesInM F n P fn tmps R ds .returning W
 | [], _, W, _, _, h => h W ⟨Nat.le_refl _, rfl, rfl, rfl, fun _ _ hk _ => hk⟩
 | d :: ds, B, W, hm, hw, h => by
  obtain ⟨r, hr1, hr2⟩ := hw d (List.mem_cons_self ..)
  obtain ⟨r', h1, h2, h3⟩ := hm.2 d (List.mem_cons_self ..)
  subst hr2
  cases h2
  have kp : Kc w0 W (W.putObj r (.deferred none)) := Kc.put (.deferred none) hr1 h3 rfl
  refine ⟨by simp, .inl ⟨r, _, rfl, run_takeDeferred h3, ?_⟩⟩
  have hnd := List.nodup_cons.1 hm.1
  refine leaves_marks (w0 := w0) (B := B) ⟨hnd.2, fun d hd => ?_⟩ (fun d hd => hw d (List.mem_cons_of_mem _ hd)) (fun W' k => h W' ⟨Nat.le_trans kp.1 k.1, k.2.1.trans kp.2.1, k.2.2.1.trans kp.2.2.1, k.2.2.2.1.trans kp.2.2.2.1, fun i o hi ho => k.2.2.2.2 i o (kp.2.2.2.2 i o hi ho) ho⟩)
  obtain ⟨q, q1, q2, q3⟩ := hm.2 d (List.mem_cons_of_mem _ hd)
  refine ⟨q, q1, q2, ?_⟩
  rw [World.putObj_heap_other]
  ·exact q3
  ·rintro rfl
   subst q2
   exact hnd.1 hd
end Go
namespace Go.Proofs.YtkhjmedfhobebaaGreat
open Go.RowKit HandSpec
attribute [local go_sem] Oper.semAt_some
set_option maxHeartbeats 2000000
set_option maxRecDepth 100000
theorem set4 {b : Nat → P.Plan} {k : Nat} {p : P.Plan} (i : Nat) :
  (if i = k * 4 + 3 then (p.rest : Int) else if i = k * 4 + 2 then (p.st.2 : Int) else if i = k * 4 + 1 then (p.st.1 : Int) else if i = k * 4 then p.sum else P.pcell b i) = P.pcell (P.updP b k p) i := by
 obtain ⟨a, ha⟩ : ∃ a, i = a * 4 ∨ i = a * 4 + 1 ∨ i = a * 4 + 2 ∨ i = a * 4 + 3 := ⟨i / 4, by omega⟩
 by_cases hk : a = k
 ·subst hk
  rcases ha with rfl | rfl | rfl | rfl
  ·rw [if_neg (by omega), if_neg (by omega), if_neg (by omega), if_pos rfl, P.pcell0, P.updP_same]
  ·rw [if_neg (by omega), if_neg (by omega), if_pos rfl, P.pcell1, P.updP_same]
  ·rw [if_neg (by omega), if_pos rfl, P.pcell2, P.updP_same]
  ·rw [if_pos rfl, P.pcell3, P.updP_same]
 ·rw [if_neg (by omega), if_neg (by omega), if_neg (by omega), if_neg (by omega)]
  rcases ha with rfl | rfl | rfl | rfl
  ·rw [P.pcell0, P.pcell0, P.updP_other _ _ hk]
  ·rw [P.pcell1, P.pcell1, P.updP_other _ _ hk]
  ·rw [P.pcell2, P.pcell2, P.updP_other _ _ hk]
  ·rw [P.pcell3, P.pcell3, P.updP_other _ _ hk]
/-- The call's own blocks, while it works. -/
structure PV (x : WD) (m : Nat) (u : Value) (w : World) (N : Nat) (W : World) (h : Nat → Int) : Prop where
 lt : w.heap.size + 1 < N
 e : Ext w W
 b2 : Blk W w.heap.size 170 #[u]
 b3 : Blk W (w.heap.size + 1) 3 #[.int .i64 (m : Int)]
 b6 : Blk W N 194 (boolsC (P.spot x m))
 a : ArrB W (N + 1) 232 (x.cn * 4) h
 b7 : Blk W (N + 2) 230 #[.slice (some ⟨N + 1, 0, none⟩) x.cn x.cn]
namespace PV
variable {x : WD} {m : Nat} {u : Value} {w W W' : World} {N : Nat} {h : Nat → Int}
theorem ext (p : PV x m u w N W h) (e : Ext W W') : PV x m u w N W' h := ⟨p.lt, p.e.trans e, p.b2.ext e, p.b3.ext e, p.b6.ext e, p.a.ext e, p.b7.ext e⟩
theorem kc {B : Nat} (p : PV x m u w N W h) (k : Kc B W W') (hB : w.heap.size ≤ B) : PV x m u w N W' h := ⟨p.lt, p.e.kc k hB, p.b2.kc k, p.b3.kc k, p.b6.kc k, p.a.kc k, p.b7.kc k⟩
theorem set_ (p : PV x m u w N W h) (k : Nat) (z : Int) : PV x m u w N (W.setCell ⟨N + 1, k, none⟩ (.int .i64 z)) (fun i => if i = k then z else h i) := by
 have := p.lt
 exact ⟨p.lt, p.e.setCell _ (by simp; omega), p.b2.far (by simp; omega) _, p.b3.far (by simp; omega) _, p.b6.far (by simp) _, p.a.set_ k z, p.b7.far (by simp) _⟩
/-- A plan is stored. -/
theorem put {b : Nat → P.Plan} (p : PV x m u w N W (P.pcell b)) (k : Nat) (q : P.Plan) : PV x m u w N ((((W.setCell ⟨N + 1, k * 4, none⟩ (.int .i64 q.sum)).setCell ⟨N + 1, k * 4 + 1, none⟩ (.int .i64 (q.st.1 : Int))).setCell ⟨N + 1, k * 4 + 2, none⟩ (.int .i64 (q.st.2 : Int))).setCell ⟨N + 1, k * 4 + 3, none⟩ (.int .i64 (q.rest : Int))) (P.pcell (P.updP b k q)) := by
 have h := (((p.set_ (k * 4) q.sum).set_ (k * 4 + 1) (q.st.1 : Int)).set_ (k * 4 + 2) (q.st.2 : Int)).set_ (k * 4 + 3) (q.rest : Int)
 exact ⟨h.lt, h.e, h.b2, h.b3, h.b6, h.a.congr fun i _ => set4 (b := b) (k := k) (p := q) i, h.b7⟩
theorem congr {h' : Nat → Int} (p : PV x m u w N W h) (e : ∀ i, i < x.cn * 4 → h i = h' i) : PV x m u w N W h' := ⟨p.lt, p.e, p.b2, p.b3, p.b6, p.a.congr e, p.b7⟩
end PV
def zeros4 (n : Nat) : Array Value := (List.replicate (n * 4) (.int .i64 0)).toArray
theorem make230_run (w : World) : ∀ n : Nat, n ≤ 8 → (Instr.makeSlice 230 (.int .i64 (n : Int)) (.int .i64 (n : Int))).run Tryz.prog w = .ok (.slice (some ⟨w.heap.size, 0, none⟩) n n) (w.alloc (.cells (zeros4 n) 232))
 | 0, _ => by kernel_rfl
 | 1, _ => by kernel_rfl
 | 2, _ => by kernel_rfl
 | 3, _ => by kernel_rfl
 | 4, _ => by kernel_rfl
 | 5, _ => by kernel_rfl
 | 6, _ => by kernel_rfl
 | 7, _ => by kernel_rfl
 | 8, _ => by kernel_rfl
 | n + 9, h => absurd h (by omega)
theorem make230 {n : Nat} (hn : n ≤ 8) : ∃ Z : Array Value, (∀ i, i < n * 4 → Z[i]? = some (.int .i64 0)) ∧ ∀ w, (Instr.makeSlice 230 (.int .i64 (n : Int)) (.int .i64 (n : Int))).run Tryz.prog w = .ok (.slice (some ⟨w.heap.size, 0, none⟩) n n) (w.alloc (.cells Z 232)) :=
 ⟨zeros4 n, fun i hi => by simp [zeros4, hi], fun w => make230_run w n hn⟩
theorem eq194 (a0 a1 a2 a3 a4 a5 a6 a7 : Bool) (w : World) : (Op.equalIn 10000 194 (.agg #[.bool a0, .bool a1, .bool a2, .bool a3, .bool a4, .bool a5, .bool a6, .bool a7]) (.agg #[.bool false, .bool false, .bool false, .bool false, .bool false, .bool false, .bool false, .bool false])).run Tryz.prog w
  = .ok (!(a0 || a1 || a2 || a3 || a4 || a5 || a6 || a7)) w := by
 cases a0 <;> cases a1 <;> cases a2 <;> cases a3 <;> cases a4 <;> cases a5 <;> cases a6 <;> cases a7 <;> kernel_rfl
theorem noOwn_or (x : WD) (m : Nat) : P.noOwn x m = !(P.spot x m 0 || P.spot x m 1 || P.spot x m 2 || P.spot x m 3 || P.spot x m 4 || P.spot x m 5 || P.spot x m 6 || P.spot x m 7) := by
 simp [P.noOwn, anyTo]
theorem prove_none {x : WD} (hx : Ok x) {w : World} {v : Value} (hv : IsD w v x) {m : Nat} (hm : m < 64) (hno : P.noOwn x m = true) :
  Calls Tryz.prog 122 #[v, .int .i64 (m : Int)] w fun e w' => e = .returned (.tuple #[.slice none 0 0, .int .i64 0]) ∧ Ext w w' := by
 have HV := hid hv
 obtain ⟨db, A1, c1, A2, c2, A3, c3, mb, L, rfl, -, -, -, -, -, -⟩ := hv
 have heq := eq194 (P.spot x m 0) (P.spot x m 1) (P.spot x m 2) (P.spot x m 3) (P.spot x m 4) (P.spot x m 5) (P.spot x m 6) (P.spot x m 7)
 rw [← noOwn_or, hno] at heq
 clear hno
 go_enter Tryz.func122, Tryz.ntmps122
 go_wp2_with (go_at_call 139; refine (spots_any hx (HV.out.ext (((Ext.refl _).alloc _).alloc _)) hm).mono ?_; rintro e w1 ⟨rfl, he1⟩; unfold boolsC)
 go_ret2
 exact ⟨rfl, ((((Ext.refl _).alloc _).alloc _).trans he1).alloc _⟩
theorem arr150 (T : Array Value) (h : T.size = 150) : ∃ U : Nat → Value, T = ((List.range 150).map U).toArray := by
 refine ⟨fun i => T.getD i undef, ?_⟩
 apply Array.ext_getElem?
 intro i
 rcases Nat.lt_or_ge i 150 with hi | hi
 ·simp [hi, h]
 ·simp [hi, h]
theorem lit150 (U : Nat → Value) : ((List.range 150).map U).toArray = List.toArray (U 0 :: U 1 :: U 2 :: U 3 :: U 4 :: U 5 :: U 6 :: U 7 :: U 8 :: U 9 :: U 10 :: U 11 :: U 12 :: U 13 :: U 14 :: U 15 :: U 16 :: U 17 :: U 18 :: U 19 :: U 20 :: U 21 :: U 22 :: U 23 :: U 24 :: U 25 :: U 26 :: U 27 :: U 28 :: U 29 :: U 30 :: U 31 :: U 32 :: U 33 :: U 34 :: U 35 :: U 36 :: U 37 :: U 38 :: U 39 :: U 40 :: U 41 :: U 42 :: U 43 :: U 44 :: U 45 :: U 46 :: U 47 :: U 48 :: U 49 :: U 50 :: U 51 :: U 52 :: U 53 :: U 54 :: U 55 :: U 56 :: U 57 :: U 58 :: U 59 :: U 60 :: U 61 :: U 62 :: U 63 :: U 64 :: U 65 :: U 66 :: U 67 :: U 68 :: U 69 :: U 70 :: U 71 :: U 72 :: U 73 :: U 74 :: U 75 :: U 76 :: U 77 :: U 78 :: U 79 :: U 80 :: U 81 :: U 82 :: U 83 :: U 84 :: U 85 :: U 86 :: U 87 :: U 88 :: U 89 :: U 90 :: U 91 :: U 92 :: U 93 :: U 94 :: U 95 :: U 96 :: U 97 :: U 98 :: U 99 :: U 100 :: U 101 :: U 102 :: U 103 :: U 104 :: U 105 :: U 106 :: U 107 :: U 108 :: U 109 :: U 110 :: U 111 :: U 112 :: U 113 :: U 114 :: U 115 :: U 116 :: U 117 :: U 118 :: U 119 :: U 120 :: U 121 :: U 122 :: U 123 :: U 124 :: U 125 :: U 126 :: U 127 :: U 128 :: U 129 :: U 130 :: U 131 :: U 132 :: U 133 :: U 134 :: U 135 :: U 136 :: U 137 :: U 138 :: U 139 :: U 140 :: U 141 :: U 142 :: U 143 :: U 144 :: U 145 :: U 146 :: U 147 :: U 148 :: U 149 :: []) := rfl
/-- The loop over the ends. -/
structure LE (x : WD) (m : Nat) (u : Value) (w : World) (N : Nat) (e : Nat) (a : Act) (W : World) : Prop where
 size : a.tmps.size = 150
 t2 : a.tmps[2]? = some (.pointer (some ⟨w.heap.size, 0, none⟩))
 t3 : a.tmps[3]? = some (.pointer (some ⟨w.heap.size + 1, 0, none⟩))
 t6 : a.tmps[6]? = some (.pointer (some ⟨N, 0, none⟩))
 t7 : a.tmps[7]? = some (.pointer (some ⟨N + 2, 0, none⟩))
 t8 : ∃ g8, N + 2 < g8 ∧ a.tmps[8]? = some (.pointer (some ⟨g8, 0, none⟩)) ∧ Blk W g8 3 #[.int .i64 ((e + 1 : Nat) : Int)]
 p : PV x m u w N W (P.pcell (P.bestTo x m e))
 d : Marks W.heap.size a.defers W ∧ ∀ d, d ∈ a.defers → ∃ r, w.heap.size ≤ r ∧ d = { target := .collected r, args := #[] }
theorem prove_some {x : WD} (hx : Ok x) {w : World} {v : Value} (hv : IsD w v x) {m : Nat} (hm : m < 64) (hno : P.noOwn x m = false) :
  Calls Tryz.prog 122 #[v, .int .i64 (m : Int)] w fun e w' => ∃ u l', e = .returned (.tuple #[u, .int .i64 (P.best x m (x.cn - 1)).sum]) ∧ Ext w w' ∧ l'.Perm (P.chain (P.best x m) x.cn (x.cn - 1)) ∧ SortedTo l' l'.length ∧ OwnR w' w.heap.size 51 2 u (rows2 l') := by
 have HV := hid hv
 obtain ⟨db, A1, c1, A2, c2, A3, c3, mb, L, rfl, hk, -, -, -, hmp, hl⟩ := hv
 have HL := hid hl
 have hcn := hx.cn
 have heq := eq194 (P.spot x m 0) (P.spot x m 1) (P.spot x m 2) (P.spot x m 3) (P.spot x m 4) (P.spot x m 5) (P.spot x m 6) (P.spot x m 7)
 rw [← noOwn_or, hno] at heq
 obtain ⟨Z, hZ, hmk⟩ := make230 (n := x.cn) (by omega)
 have HZ := hid hZ
 clear hno hl hZ
 have hdb := hk.lt
 refine (callsIn_wide (n := 3)).1 (callsIn_of_wp_marks Tryz.func122 rfl trivial (wpIn_wide.2 ?_) rfl)
 simp only [Tryz.ntmps122, List.size_toArray, List.length_cons, List.length_nil, Nat.reduceAdd, Nat.reduceSub, Array.replicate_succ, Array.replicate_zero, List.push_toArray, List.append_toArray, List.nil_append, List.cons_append]
 go_upto_region 4 with (go_at_call 139; refine (spots_any hx (HV.out.ext (((Ext.refl _).alloc _).alloc _)) hm).mono ?_; rintro e w1 ⟨rfl, he1⟩; unfold boolsC; have hs1 := he1.size; simp only [World.size_alloc] at hs1; obtain ⟨he1, b2, b3⟩ := he1.newB2; have k2 := b2.cell; have k2l := b2.lt; have k3 := b3.cell; have k3l := b3.lt; have kd := (hk.ext he1).cell; have kdl := (hk.ext he1).lt)
 go_wp2
 refine wp_later fun w2 hw2 => ?_
 obtain ⟨e12, b6, bg, b7, b8⟩ := newB4 hw2
 have pv0 : PV x m (.pointer (some ⟨db, 0, none⟩)) w w1.heap.size w2 (P.pcell (P.bestTo x m 0)) := ⟨by omega, he1.trans e12, b2.ext e12, b3.ext e12, b6, ⟨Z, bg, fun i hi => by
  rw [HZ.out i hi]
  have : P.pcell (P.bestTo x m 0) i = 0 := by unfold P.pcell P.bestTo; simp
  rw [this]⟩, b7⟩
 clear hw2 k2 k2l k3 k3l kd kdl hmk heq
 have HPV := hid pv0
 have HB8 := hid b8
 clear pv0 b8 b6 bg b7 b2 b3
 refine wp_loop_ghost (fun gn a W => ∃ e, e + gn = x.cn - 1 ∧ LE x m (.pointer (some ⟨db, 0, none⟩)) w w1.heap.size e a W) (x.cn - 1) ⟨0, by omega, ⟨rfl, rfl, rfl, rfl, rfl, ⟨w1.heap.size + 3, by omega, rfl, HB8.out⟩, HPV.out, ⟨Marks.nil _ _, fun d h => absurd h (by simp)⟩⟩⟩ ?_
 rintro gn ⟨T, ds⟩ W ⟨e, heg, ⟨hsz, t2, t3, t6, t7, ⟨g8, hg8, t8, B8⟩, p, hd1, hd2⟩⟩
 obtain ⟨U, rfl⟩ := arr150 T hsz
 have t2 : U 2 = .pointer (some ⟨w.heap.size, 0, none⟩) := by simpa using t2
 have t3 : U 3 = .pointer (some ⟨w.heap.size + 1, 0, none⟩) := by simpa using t3
 have t6 : U 6 = .pointer (some ⟨w1.heap.size, 0, none⟩) := by simpa using t6
 have t7 : U 7 = .pointer (some ⟨w1.heap.size + 2, 0, none⟩) := by simpa using t7
 have t8 : U 8 = .pointer (some ⟨g8, 0, none⟩) := by simpa using t8
 rw [lit150, t2, t3, t6, t7, t8]
 clear t2 t3 t6 t7 t8 hsz HPV HB8
 have HP := hid p
 have HD1 : Hid (Marks W.heap.size ds W) := hid hd1
 have HD2 : Hid (∀ d, d ∈ ds → ∃ r, w.heap.size ≤ r ∧ d = { target := .collected r, args := #[] }) := hid hd2
 have HB := hid B8
 clear p hd1 hd2 B8
 have hk7 := HP.out.b7.cell
 have k7l := HP.out.b7.lt
 have k2 := HP.out.b2.cell
 have k2l := HP.out.b2.lt
 have k8 := HB.out.cell
 have k8l := HB.out.lt
 have kd := (hk.ext HP.out.e).cell
 have kdl := (hk.ext HP.out.e).lt
 have hlt := HP.out.lt
 by_cases hend : e + 1 < x.cn
 ·have hei : ((e : Int) + 1) < (x.cn : Int) := by omega
  go_upto_region 6 with fail
  refine wp_region_later (by kernel_rfl) (by kernel_rfl) ?_
  repeat (go_big_quiet_step (fail))
  refine wpQuiet_nil ?_
  rintro _ ⟨⟨W2, e2⟩, rfl⟩
  have HP2 := hid (HP.out.ext e2)
  have HB2 := hid (HB.out.ext e2)
  have HM2 := hid (HD1.out.ext e2)
  have hG := P.Good.bestTo hx m e
  have HG := hid hG
  clear hk7 k7l k2 k2l k8 k8l kd kdl hG
  have k7 := HP2.out.b7.cell
  have k7l := HP2.out.b7.lt
  have k8 := HB2.out.cell
  have k8l := HB2.out.lt
  have ca := HP2.out.a.cell (i := e * 4) (by omega)
  rw [P.pcell0] at ca
  have kal := HP2.out.a.lt
  have hw1 : IntKind.i64.wrap ((e : Int) + 1 - 1) = (e : Int) := by rw [show (e : Int) + 1 - 1 = (e : Int) by omega]; exact IntWalk.i64_in _ (by omega)
  have hei2 : (e : Int) < (x.cn : Int) := by omega
  go_upto_region 8 with fail
  refine wp_region_tail 11 (by kernel_rfl) (by kernel_rfl) ?_
  simp only [List.take_succ_cons, List.take_zero, List.drop_succ_cons, List.drop_zero]
  repeat (go_big_quiet_step (fail))
  refine wpQuiet_nil ?_
  rintro _ ⟨⟨W3, e3⟩, rfl⟩
  have HP3 := hid (HP2.out.ext e3)
  have HB3 := hid (HB2.out.ext e3)
  have HM3 := hid (HM2.out.ext e3)
  clear k7 k7l k8 k8l ca kal hw1
  have a0 := HP3.out.a.cell (i := (e + 1) * 4) (by omega)
  have a1 := HP3.out.a.cell (i := (e + 1) * 4 + 1) (by omega)
  have a2 := HP3.out.a.cell (i := (e + 1) * 4 + 2) (by omega)
  have a3 := HP3.out.a.cell (i := (e + 1) * 4 + 3) (by omega)
  have f0 := HP3.out.a.frozen ((e + 1) * 4)
  have f1 := HP3.out.a.frozen ((e + 1) * 4 + 1)
  have f2 := HP3.out.a.frozen ((e + 1) * 4 + 2)
  have f3 := HP3.out.a.frozen ((e + 1) * 4 + 3)
  have kal := HP3.out.a.lt
  go_upto_region 9 with fail
  refine wp_later fun W4 hW4 => ?_
  have HP4 : Hid (PV x m (.pointer (some ⟨db, 0, none⟩)) w w1.heap.size W4 (P.pcell (P.initP (P.bestTo x m e) (e + 1)))) := hid ((HP3.out.put (e + 1) ⟨(P.bestTo x m e e).sum, (0, 0), e⟩).ext hW4)
  have HM4 : Hid (Marks W.heap.size ds W4) := hid ((HM3.out.put4 HP3.out.a ((e + 1) * 4) (P.bestTo x m e e).sum 0 0 (e : Int)).ext hW4)
  have HB4 : Hid (Blk W4 g8 3 #[.int .i64 ((e + 1 : Nat) : Int)]) := hid ((((((HB3.out.far (by simp; omega) _).far (by simp; omega) _).far (by simp; omega) _).far (by simp; omega) _)).ext hW4)
  have hsW4 : W.heap.size ≤ W4.heap.size := by have h1 := e2.size; have h2 := e3.size; have h3 := hW4.size; simp only [World.size_setCell] at h3; omega
  clear a0 a1 a2 a3 f0 f1 f2 f3 kal hW4 HP3 HM3 HB3 HP2 HM2 HB2 HP HD1 HB
  have k8 := HB4.out.cell
  have k8l := HB4.out.lt
  have c6 : W4.cell? ⟨w1.heap.size, e, none⟩ = some (.bool (P.spot x m e)) := by rw [HP4.out.b6.cell, boolsC_at _ (by omega)]
  have k6l := HP4.out.b6.lt
  have hwe : (e : Int) + 1 - 1 = (e : Int) := by omega
  have he8 : (e : Int) < 8 := by omega
  cases hsp : P.spot x m e
  ·have HSP := hid hsp
   rw [hsp] at c6
   clear hsp
   go_wp2
   have hbt : P.bestTo x m (e + 1) = P.initP (P.bestTo x m e) (e + 1) := by
    show P.roundP x m (P.bestTo x m e) (e + 1) = _
    unfold P.roundP
    rw [if_neg (by rw [Nat.add_sub_cancel, HSP.out]; simp)]
   refine ⟨gn - 1, by omega, e + 1, by omega, ⟨rfl, rfl, rfl, rfl, rfl, ⟨W4.heap.size, by omega, rfl, Blk.new _ _ _⟩, by rw [hbt]; exact HP4.out.ext ((Ext.refl _).alloc _), (HM4.out.ext ((Ext.refl _).alloc _)).mono (by simp; omega), HD2.out⟩⟩
  ·have HSP := hid hsp
   rw [hsp] at c6
   clear hsp
   have k2 := HP4.out.b2.cell
   have k2l := HP4.out.b2.lt
   have kd := (hk.ext HP4.out.e).cell
   have kdl := (hk.ext HP4.out.e).lt
   go_wp2_with (go_at_call 193; refine (stretches_any _).mono ?_; rintro e5 W5 ⟨rfl, he5, hb5⟩)
   clear k8 k8l c6 k6l k2 k2l kd kdl
   have hbl := hb5.lt
   have hs5 := he5.size
   have hNl : w1.heap.size + 2 < W4.heap.size := HP4.out.b7.lt
   refine wp_range (gf := 236) rfl (enters_ Tryz.func236 (by kernel_rfl) rfl) (fun y : Str x.cn => .agg #[.int .i64 (y.1.1 : Int), .int .i64 (y.1.2 : Int)]) (fun k => k = w1.heap.size + 1) (stretches1_stops (by omega) hb5 hbl (by omega)) (Ext.refl _)
    (fun (pre : List (Str x.cn)) W => W5.heap.size ≤ W.heap.size ∧ PV x m (.pointer (some ⟨db, 0, none⟩)) w w1.heap.size W (P.pcell ((fsts pre).foldl (P.stepP x m (e + 1)) (P.initP (P.bestTo x m e) (e + 1)))) ∧ Blk W g8 3 #[.int .i64 ((e + 1 : Nat) : Int)] ∧ Marks W5.heap.size ds W)
    (ownFrom_of fun pre W W' k ⟨i0, i1, i2, i3⟩ => ⟨Nat.le_trans i0 k.1, i1.kc k (by omega), i2.kc k, i3.kc k⟩) ⟨Nat.le_refl _, HP4.out.ext he5, HB4.out.ext he5, (HM4.out.ext he5).mono (by omega)⟩
    (fun (y : Str x.cn) tm a' W => ∃ g, a' = { tmps := (tm.setIfInBounds 61 (.agg #[.int .i64 (y.1.1 : Int), .int .i64 (y.1.2 : Int)])).setIfInBounds 9 (.pointer (some ⟨g, 0, none⟩)), defers := [] } ∧ Blk W g 51 #[.int .i64 (y.1.1 : Int), .int .i64 (y.1.2 : Int)])
    (fun y a' => ownFrom_of fun _ W W' k ⟨g, h1, h2⟩ => ⟨g, h1, h2.kc k⟩) ?_ ?_ ?_
   ·intro l pre y W K hI hK
    simp only [List.setIfInBounds_toArray, List.set_cons_succ, List.set_cons_zero]
    gi_wp2
    obtain ⟨i0, i1, i2, i3⟩ := hI
    have ee : Ext W (W.alloc (.cells #[.int .i64 (y.1.1 : Int), .int .i64 (y.1.2 : Int)] 51)) := (Ext.refl _).alloc _
    exact hK _ _ (KeepsFrom.ext ee) (KpM.ext ee i0) ⟨Nat.le_trans i0 ee.size, i1.ext ee, i2.ext ee, i3.ext ee⟩ ⟨_, rfl, Blk.new _ _ _⟩
   ·rintro l pre y a' W hl - ⟨i0, i1, i2, i3⟩ ⟨g, rfl, hg⟩ hN
    simp only [List.setIfInBounds_toArray, List.set_cons_succ, List.set_cons_zero]
    obtain ⟨p1, p2⟩ := y.2
    have hgood : P.Good x ((fsts pre).foldl (P.stepP x m (e + 1)) (P.initP (P.bestTo x m e) (e + 1))) (e + 1) := P.Good.fold hx (by omega) HG.out.init fun q hq => by
     simp only [fsts, List.mem_map] at hq
     obtain ⟨z, _, rfl⟩ := hq
     exact z.2
    have hfold : (fsts (pre ++ [y])).foldl (P.stepP x m (e + 1)) (P.initP (P.bestTo x m e) (e + 1)) = P.stepP x m (e + 1) ((fsts pre).foldl (P.stepP x m (e + 1)) (P.initP (P.bestTo x m e) (e + 1))) y.1 := by
     simp [fsts, List.foldl_append]
    have HFO := hid hfold
    have HGO := hid hgood
    clear hN hfold hgood
    generalize (fsts pre).foldl (P.stepP x m (e + 1)) (P.initP (P.bestTo x m e) (e + 1)) = b at *
    have I1 := hid i1
    have I2 := hid i2
    have I3 := hid i3
    have kg := hg.cell
    have kgl := hg.lt
    have k2 := i1.b2.cell
    have k2l := i1.b2.lt
    have k6 := i1.b6.cell
    have k6l := i1.b6.lt
    clear i1 i2 i3
    unfold boolsC at k6
    have hends := fun W' => ends_any (own := P.spot x m) (a := y.1.1) (b := y.1.2) (Nat.le_of_lt p1) (by omega) W' (.pointer (some ⟨db, 0, none⟩)) ⟨_, rfl⟩
    rw [P.fst_cast x m y.1, show P.lastTo (P.spot x m) y.1.1 (y.1.2 - y.1.1) = P.lst x m y.1 from rfl] at hends
    unfold boolsC at hends
    have HEN := hid hends
    clear hends
    have hlb : -2 ≤ P.lst x m y.1 ∧ P.lst x m y.1 ≤ y.1.1 + (y.1.2 - y.1.1 : Nat) := P.lastTo_bd (own := P.spot x m) (a := y.1.1) (y.1.2 - y.1.1)
    gi_wp2_with (gi_at_call 194; refine (CallsIn.inRound l (callsIn_wide.2 (HEN.out _))).mono ?_; rintro e6 W6 ⟨rfl, he6⟩)
    have J1 := hid (I1.out.ext he6)
    have J2 := hid (I2.out.ext he6)
    have J3 := hid (I3.out.ext he6)
    have kg := (hg.ext he6).cell
    have kgl := (hg.ext he6).lt
    clear k2 k2l k6 k6l
    have k2 := J1.out.b2.cell
    have k2l := J1.out.b2.lt
    have k3 := J1.out.b3.cell
    have k3l := J1.out.b3.lt
    have k7 := J1.out.b7.cell
    have k7l := J1.out.b7.lt
    have k8 := J2.out.cell
    have k8l := J2.out.lt
    have kd := (hk.ext J1.out.e).cell
    have kdl := (hk.ext J1.out.e).lt
    have D6 := hid (HV.out.ext J1.out.e)
    have hlk : ∀ n : Later W6, (Instr.lookup 187 (.map (some mb)) (.agg #[.int .i64 (y.1.1 : Int), .int .i64 (y.1.2 : Int)]) false).run Tryz.prog n.at_ = .ok (.int .i64 (P.th x y.1.1 y.1.2 : Int)) n.at_ := fun n => by
     rw [lookup_run (hmp.ext (J1.out.e.trans n.ok)), HL.out y.1.1 y.1.2 p1 p2]
    have hwl : IntKind.i64.wrap (P.lst x m y.1 + 1) = P.lst x m y.1 + 1 := IntWalk.i64_in _ (by omega)
    have hand := andNot64 (P.th_lt hx y.1.1 y.1.2) hm
    have hxz := xor_zero (P.th x y.1.1 y.1.2) m
    have HXZ := hid hxz
    clear hxz
    by_cases o1 : P.lst x m y.1 + 1 = ((e + 1 : Nat) : Int)
    ·have q1 : (P.lst x m y.1 + 1 != (e : Int) + 1) = false := by rw [bne_eq_false_iff_eq]; omega
     have q1' : (P.lst x m y.1 != (e : Int)) = false := by rw [bne_eq_false_iff_eq]; omega
     have O1 := hid o1
     clear o1
     by_cases o2 : P.th x y.1.1 y.1.2 &&& m = P.th x y.1.1 y.1.2
     ·have q2 : (((P.th x y.1.1 y.1.2 ^^^ (P.th x y.1.1 y.1.2 &&& m) : Nat) : Int) != 0) = false := by rw [HXZ.out.2 o2]; rfl
      have O2 := hid o2
      clear o2
      by_cases o3 : P.gap x y.1.1 y.1.2 ≤ 0
      ·have q3 : decide (P.gap x y.1.1 y.1.2 ≤ 0) = true := by simpa using o3
       have HNO : Hid (P.okS x m (e + 1) y.1 = false) := hid (by unfold P.okS; rw [decide_eq_false (show ¬ 0 < P.gap x y.1.1 y.1.2 by omega)]; simp)
       clear o3
       refine wpIn_round_later (by kernel_rfl) (by kernel_rfl) (by kernel_rfl) (by rintro ⟨a, w, h⟩; exact h) ?_
       repeat (go_big_quiet_step ((go_at_call 138; exact Calls.later (gapP_any hx (D6.out.ext (Later.ext _)) y.1.1 y.1.2 (Nat.le_of_lt p1) p2))))
       refine wpQuiet_nil ?_
       rintro _ ⟨⟨W7, he7⟩, rfl⟩
       gi_wp2
       refine ⟨.ext (he6.trans he7), .ext (he6.trans he7) i0, Nat.le_trans i0 (he6.trans he7).size, ?_, J2.out.ext he7, J3.out.ext he7⟩
       rw [HFO.out, P.stepP_no HNO.out]
       exact J1.out.ext he7
      ·have q3 : decide (P.gap x y.1.1 y.1.2 ≤ 0) = false := by simpa using o3
       have HOK : Hid (P.okS x m (e + 1) y.1 = true) := hid (by
        unfold P.okS
        rw [decide_eq_true (show P.lst x m y.1 + 1 = ((e + 1 : Nat) : Int) from O1.out), decide_eq_true (show P.th x y.1.1 y.1.2 &&& m = P.th x y.1.1 y.1.2 from O2.out), decide_eq_true (show 0 < P.gap x y.1.1 y.1.2 by omega)]; rfl)
       have hgb := P.gap_bd hx (show y.1.1 < x.cn by omega) p2
       have hfl := P.okS_first HOK.out (by omega)
       clear o3
       refine wpIn_round_later (by kernel_rfl) (by kernel_rfl) (by kernel_rfl) (by rintro ⟨a, w, h⟩; exact h) ?_
       repeat (go_big_quiet_step ((go_at_call 138; exact Calls.later (gapP_any hx (D6.out.ext (Later.ext _)) y.1.1 y.1.2 (Nat.le_of_lt p1) p2))))
       refine wpQuiet_nil ?_
       rintro _ ⟨⟨W7, he7⟩, rfl⟩
       have K1 := hid (J1.out.ext he7)
       have K2 := hid (J2.out.ext he7)
       have K3 := hid (J3.out.ext he7)
       have D7 := hid (D6.out.ext he7)
       have hgo := HGO.out (P.fst x m y.1) (by omega)
       clear k2 k2l k3 k3l k7 k7l k8 k8l kd kdl hlk hwl hand q1 q1' q2 q3
       have k2 := K1.out.b2.cell
       have k2l := K1.out.b2.lt
       have k7 := K1.out.b7.cell
       have k7l := K1.out.b7.lt
       have k8 := K2.out.cell
       have k8l := K2.out.lt
       have kg := ((hg.ext he6).ext he7).cell
       have kgl := ((hg.ext he6).ext he7).lt
       have hf8 : (P.fst x m y.1 : Int) < (x.cn : Int) := by omega
       have ca := K1.out.a.cell (i := P.fst x m y.1 * 4) (by omega)
       rw [P.pcell0] at ca
       have kal := K1.out.a.lt
       have hwn : IntKind.i64.wrap ((b (P.fst x m y.1)).sum + P.gap x y.1.1 y.1.2) = (b (P.fst x m y.1)).sum + P.gap x y.1.1 y.1.2 := IntWalk.i64_in _ (by omega)
       gi_wp2
       refine wpIn_round_later (by kernel_rfl) (by kernel_rfl) (by kernel_rfl) (by rintro ⟨a, w, h⟩; exact h) ?_
       repeat (go_big_quiet_step ((go_at_call 138; exact Calls.later (gapP_any hx (D7.out.ext (Later.ext _)) y.1.1 y.1.2 (Nat.le_of_lt p1) p2))))
       refine wpQuiet_nil ?_
       rintro _ ⟨⟨W8, he8'⟩, rfl⟩
       have L1 := hid (K1.out.ext he8')
       have L2 := hid (K2.out.ext he8')
       have L3 := hid (K3.out.ext he8')
       have E8 := hid ((he6.trans he7).trans he8')
       clear k2 k2l k7 k7l k8 k8l kg kgl ca kal hwn
       have k7 := L1.out.b7.cell
       have k7l := L1.out.b7.lt
       have k8 := L2.out.cell
       have k8l := L2.out.lt
       have kg := (hg.ext E8.out).cell
       have kgl := (hg.ext E8.out).lt
       have ce := L1.out.a.cell (i := (e + 1) * 4) (by omega)
       rw [P.pcell0] at ce
       have kal := L1.out.a.lt
       have hfe : (P.fst x m y.1 : Int) ≤ 8 := by omega
       by_cases hgt : (b (e + 1)).sum < (b (P.fst x m y.1)).sum + P.gap x y.1.1 y.1.2
       ·have HGT := hid hgt
        have a1 := L1.out.a.cell (i := (e + 1) * 4 + 1) (by omega)
        have a2 := L1.out.a.cell (i := (e + 1) * 4 + 2) (by omega)
        have a3 := L1.out.a.cell (i := (e + 1) * 4 + 3) (by omega)
        have f0 := L1.out.a.frozen ((e + 1) * 4)
        have f1 := L1.out.a.frozen ((e + 1) * 4 + 1)
        have f2 := L1.out.a.frozen ((e + 1) * 4 + 2)
        have f3 := L1.out.a.frozen ((e + 1) * 4 + 3)
        gi_wp2
        refine ⟨(KeepsFrom.ext E8.out).trans (KeepsFrom.set4 _ _ _ _ _ _ _), (KpM.ext E8.out i0).trans (KpM.set4 _ _ _ _ _ _ _ rfl), ?_, ?_, ?_, ?_⟩
        ·have := E8.out.size
         simp only [World.size_setCell]
         omega
        ·rw [HFO.out, P.stepP_yes HOK.out HGT.out]
         exact L1.out.put (e + 1) ⟨(b (P.fst x m y.1)).sum + P.gap x y.1.1 y.1.2, y.1, P.fst x m y.1⟩
        ·exact L2.out.far4 (by omega) _ _ _ _ _
        ·exact L3.out.put4 L1.out.a ((e + 1) * 4) _ _ _ _
       ·gi_wp2
        refine ⟨.ext E8.out, .ext E8.out i0, Nat.le_trans i0 E8.out.size, ?_, L2.out, L3.out⟩
        rw [HFO.out, P.stepP_le (Int.not_lt.2 hgt)]
        exact L1.out
     ·have q2 : (((P.th x y.1.1 y.1.2 ^^^ (P.th x y.1.1 y.1.2 &&& m) : Nat) : Int) != 0) = true := by
       have : P.th x y.1.1 y.1.2 ^^^ (P.th x y.1.1 y.1.2 &&& m) ≠ 0 := fun h => o2 (HXZ.out.1 h)
       simpa using this
      have HNO : Hid (P.okS x m (e + 1) y.1 = false) := hid (by unfold P.okS; rw [decide_eq_false (show ¬ P.th x y.1.1 y.1.2 &&& m = P.th x y.1.1 y.1.2 from o2)]; simp)
      clear o2
      refine wpIn_round_later (by kernel_rfl) (by kernel_rfl) (by kernel_rfl) (by rintro ⟨a, w, h⟩; exact h) ?_
      repeat (go_big_quiet_step (fail))
      refine wpQuiet_nil ?_
      rintro _ ⟨⟨W7, he7⟩, rfl⟩
      gi_wp2
      refine ⟨.ext (he6.trans he7), .ext (he6.trans he7) i0, Nat.le_trans i0 (he6.trans he7).size, ?_, J2.out.ext he7, J3.out.ext he7⟩
      rw [HFO.out, P.stepP_no HNO.out]
      exact J1.out.ext he7
    ·have q1 : (P.lst x m y.1 + 1 != (e : Int) + 1) = true := by rw [bne_iff_ne]; omega
     have q1' : (P.lst x m y.1 != (e : Int)) = true := by rw [bne_iff_ne]; omega
     have HNO : Hid (P.okS x m (e + 1) y.1 = false) := hid (by unfold P.okS; rw [decide_eq_false o1]; simp)
     clear o1
     refine wpIn_round_later (by kernel_rfl) (by kernel_rfl) (by kernel_rfl) (by rintro ⟨a, w, h⟩; exact h) ?_
     repeat (go_big_quiet_step (fail))
     refine wpQuiet_nil ?_
     rintro _ ⟨⟨W7, he7⟩, rfl⟩
     gi_wp2
     refine ⟨.ext (he6.trans he7), .ext (he6.trans he7) i0, Nat.le_trans i0 (he6.trans he7).size, ?_, J2.out.ext he7, J3.out.ext he7⟩
     rw [HFO.out, P.stepP_no HNO.out]
     exact J1.out.ext he7
   ·rintro D ys W hD hys ⟨i0, i1, i2, i3⟩ hK
    have k8 := i2.cell
    have k8l := i2.lt
    go_wp2
    have hbt : P.bestTo x m (e + 1) = (fsts ys).foldl (P.stepP x m (e + 1)) (P.initP (P.bestTo x m e) (e + 1)) := by
     show P.roundP x m (P.bestTo x m e) (e + 1) = _
     unfold P.roundP
     rw [if_pos (by rw [Nat.add_sub_cancel]; exact HSP.out), show fsts ys = stretches x.cn from hys]
    refine ⟨gn - 1, by omega, e + 1, by omega, ⟨rfl, rfl, rfl, rfl, rfl, ⟨W.heap.size, by omega, rfl, Blk.new _ _ _⟩, by rw [hbt]; exact i1.ext ((Ext.refl _).alloc _), ?_, ?_⟩⟩
    ·refine ((i3.cons hD hK).ext ((Ext.refl _).alloc _)).mono ?_
     have : D < W.heap.size := by
      rcases Nat.lt_or_ge D W.heap.size with h | h
      ·exact h
      ·rw [Array.getElem?_eq_none h] at hK; cases hK
     simp; omega
    ·intro d hd
     rcases List.mem_cons.1 hd with rfl | hd
     ·exact ⟨D, by have := i1.e.size; have := HP4.out.e.size; omega, rfl⟩
     ·exact HD2.out d hd
 ·obtain rfl : e = x.cn - 1 := by omega
  have hei : ¬ (((x.cn - 1 + 1 : Nat) : Int) < (x.cn : Int)) := by omega
  have hc1 : x.cn - 1 + 1 = x.cn := by omega
  rw [hc1] at HB k8 hei
  clear hc1
  go_upto_region 6 with fail
  refine wp_region_later (by kernel_rfl) (by kernel_rfl) ?_
  repeat (go_big_quiet_step (fail))
  refine wpQuiet_nil ?_
  rintro W2 ⟨⟨_, e2⟩, rfl⟩
  have HP2 : Hid (PV x m (.pointer (some ⟨db, 0, none⟩)) w w1.heap.size W2 (P.pcell (P.best x m))) := hid (HP.out.ext e2)
  have HM2 := hid (HD1.out.ext e2)
  have HG : Hid (P.Good x (P.best x m) (x.cn - 1)) := hid (P.Good.bestTo hx m (x.cn - 1))
  clear hk7 k7l k2 k2l k8 k8l kd kdl
  have k7 := HP2.out.b7.cell
  have k7l := HP2.out.b7.lt
  generalize hbb : P.best x m = bb at *
  have HBB := hid hbb
  clear hbb
  have hcast : ((x.cn - 1 : Nat) : Int) = (x.cn : Int) - 1 := by omega
  go_wp2
  go_loopw [13, 14] (fun o en wr => ∃ (k f : Nat) (pre : List (Nat × Nat)), k ≤ f ∧ k < x.cn ∧ pre.length + f ≤ 8 ∧ en = .int .i64 (k : Int) ∧ OwnR wr W2.heap.size 51 2 o (rows2 pre) ∧ Hid (pre ++ P.chain bb f k = P.chain bb x.cn (x.cn - 1) ∧ ∀ p, p ∈ pre → p.1 < p.2 ∧ p.2 < x.cn) ∧ Ext W2 wr) (fun _ en _ => (intOf en).toNat)
  case atStart => exact ⟨x.cn - 1, x.cn, [], by omega, by omega, by simp; omega, by rw [hcast], by simpa [rows2] using OwnR.nil, hid ⟨by simp, fun p h => by simp at h⟩, Ext.refl _⟩
  case round =>
   clear k7 k7l
   obtain ⟨k, f, pre, hkf, hkn, hpf, rfl, hown, HI, he⟩ := hrel
   have k7 := (HP2.out.b7.ext he).cell
   have k7l := (HP2.out.b7.ext he).lt
   rcases Nat.eq_zero_or_pos k with hz | hz
   ·subst hz
    have hpre : pre = P.chain bb x.cn (x.cn - 1) := by
     have := HI.out.1
     rw [P.chain_zero, List.append_nil] at this
     exact this
    have HPRE := hid hpre
    have HOWN := hid hown
    clear hpre hown k7 k7l
    have HV2 : Hid (∀ p, p ∈ pre → p.1 ≤ 100 ∧ p.2 ≤ 100) := hid fun p hp => by have := HI.out.2 p hp; omega
    go_upto_region 27 with (go_at_call 195; refine (sort_own HOWN.out he (Nat.le_refl _) (by omega) HV2.out).mono ?_; rintro e3 W3 ⟨rfl, he3, l', hp, hs, hsl⟩)
    have HSL := hid hsl
    have HP3 := hid (HP2.out.ext he3)
    have HM3 := hid (HM2.out.ext he3)
    have HS := hid hs
    have HPE := hid hp
    obtain ⟨A, cap, rfl, hrd⟩ := HSL.out.slR
    clear hsl hs hp hrd
    have k7 := HP3.out.b7.cell
    have k7l := HP3.out.b7.lt
    obtain ⟨q, hq⟩ : ∃ q : Nat, q = x.cn - 1 := ⟨_, rfl⟩
    have ca := HP3.out.a.cell (i := q * 4) (by omega)
    rw [P.pcell0] at ca
    have kal := HP3.out.a.lt
    have hqn : (q : Int) < (x.cn : Int) := by omega
    have hw2 : IntKind.i64.wrap (q : Int) = (q : Int) := IntWalk.i64_in _ (by omega)
    have hw1 : IntKind.i64.wrap ((x.cn : Int) - 1) = (q : Int) := by rw [show (x.cn : Int) - 1 = (q : Int) by omega]; exact hw2
    have HQ := hid hq
    clear hq hcast
    refine wp_region_later (by kernel_rfl) (by kernel_rfl) ?_
    repeat (go_big_quiet_step (fail))
    refine wpQuiet_nil ?_
    rintro W4 ⟨⟨_, e4⟩, rfl⟩
    clear hw1 hw2
    go_wp2
    refine leaves_marks (w0 := w.heap.size) (B := W.heap.size) (HM3.out.ext e4) HD2.out (fun W' k => ⟨_, results_tmp2 rfl _ _ _, ?_⟩)
    refine ⟨.slice A (rows2 l').length cap, l', by rw [HBB.out, ← HQ.out]; rfl, (HP3.out.e.trans e4).kc k (Nat.le_refl _), by rw [HBB.out, ← HPRE.out]; exact HPE.out, HS.out, ((HSL.out.base HP2.out.e.size).ext e4).kc k⟩
   ·have hkp : (0 : Int) < (k : Int) := by omega
    have hki : (k : Int) < (x.cn : Int) := by omega
    go_upto_region 24 with fail
    refine wp_later fun W3 hW3 => ?_
    obtain ⟨he3, hb15⟩ := hW3.newB
    clear k7 k7l hW3
    have HP3 := hid (HP2.out.ext (he.trans he3))
    have k7 := HP3.out.b7.cell
    have k7l := HP3.out.b7.lt
    have k15 := hb15.cell
    have k15l := hb15.lt
    have ca := HP3.out.a.cell (i := k * 4 + 1) (by omega)
    have cb := HP3.out.a.cell (i := k * 4 + 2) (by omega)
    rw [P.pcell1] at ca
    rw [P.pcell2] at cb
    have kal := HP3.out.a.lt
    have hgk := HG.out k (by omega)
    obtain ⟨f', rfl⟩ : ∃ f', f = f' + 1 := ⟨f - 1, by omega⟩
    have hrk := hgk.2.1 hz
    have hk0 : k ≠ 0 := by omega
    by_cases hst : (bb k).st = (0, 0)
    ·have h1 : (bb k).st.1 = 0 := by rw [hst]
     have h2 : (bb k).st.2 = 0 := by rw [hst]
     have HC : Hid (P.chain bb (f' + 1) k = P.chain bb f' (bb k).rest) := hid (by rw [P.chain]; simp [hk0, hst])
     clear hst hgk
     refine wp_region_later (by kernel_rfl) (by kernel_rfl) ?_
     repeat (go_big_quiet_step (fail))
     refine wpQuiet_nil ?_
     rintro W4 ⟨⟨_, e4⟩, rfl⟩
     have HP4 := hid (HP3.out.ext e4)
     clear k7 k7l k15 k15l ca cb kal h1 h2
     have k7 := HP4.out.b7.cell
     have k7l := HP4.out.b7.lt
     have cr := HP4.out.a.cell (i := k * 4 + 3) (by omega)
     rw [P.pcell3] at cr
     have kal := HP4.out.a.lt
     go_wp2
     go_roundw
     case rel => exact ⟨(bb k).rest, f', pre, by omega, by omega, by omega, rfl, hown.ext (he3.trans e4), hid ⟨by rw [← HC.out]; exact HI.out.1, HI.out.2⟩, he.trans (he3.trans e4)⟩
     case measure => simp [intOf]; omega
    ·have hv2 : (bb k).st.1 < (bb k).st.2 ∧ (bb k).st.2 < x.cn := hgk.2.2.resolve_left hst
     have h2 : ¬ (bb k).st.2 = 0 := by omega
     have HC : Hid (P.chain bb (f' + 1) k = (bb k).st :: P.chain bb f' (bb k).rest) := hid (by rw [P.chain]; simp [hk0, hst])
     clear hst hgk
     refine wp_region_later (by kernel_rfl) (by kernel_rfl) ?_
     repeat (go_big_quiet_step (fail))
     refine wpQuiet_nil ?_
     rintro W4 ⟨⟨_, e4⟩, rfl⟩
     have HP4 := hid (HP3.out.ext e4)
     clear k7 k7l k15 k15l ca cb kal
     have k7 := HP4.out.b7.cell
     have k7l := HP4.out.b7.lt
     have ca := HP4.out.a.cell (i := k * 4 + 1) (by omega)
     have cb := HP4.out.a.cell (i := k * 4 + 2) (by omega)
     rw [P.pcell1] at ca
     rw [P.pcell2] at cb
     have kal := HP4.out.a.lt
     have hs4 := (he.trans (he3.trans e4)).size
     go_wp2_with (at_builtin; refine wpList_append_rows rfl _ _ 45 rfl el45 rfl (hown.ext ((he3.trans e4).alloc _)) W4.heap.size 1 1 [[((bb k).st.1 : Int), ((bb k).st.2 : Int)]] rfl rfl (by simp) (by intro j; simp [cellsOf]) (by rw [rows2_length]; omega) (by simp; omega) ?_; intro v' W5 hown2 hg2; have E5 : Ext W2 W5 := ((he.trans (he3.trans e4)).alloc _).grown hg2 (fun g hg => hown.block hg); have HP5 := hid (HP2.out.ext E5); have k7 := HP5.out.b7.cell; have k7l := HP5.out.b7.lt; have cr := HP5.out.a.cell (i := k * 4 + 3) (by omega); rw [P.pcell3] at cr; have kal := HP5.out.a.lt)
     go_roundw
     case rel => exact ⟨(bb k).rest, f', pre ++ [(bb k).st], by omega, by omega, by simp; omega, rfl, by rw [rows2_append]; simpa [rows2] using hown2, hid ⟨by
      have := HI.out.1
      rw [HC.out] at this
      rw [List.append_assoc]
      exact this, fun p hp => by
      rcases List.mem_append.1 hp with h | h
      ·exact HI.out.2 p h
      ·simp only [List.mem_singleton] at h
       subst h
       exact hv2⟩, E5⟩
     case measure => simp [intOf]; omega
end Go.Proofs.YtkhjmedfhobebaaGreat
