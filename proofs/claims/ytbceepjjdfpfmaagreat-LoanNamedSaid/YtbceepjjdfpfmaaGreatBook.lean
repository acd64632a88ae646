/- The program's booking of a payment. The ledger is right. -/
import Derived.Test.YtbceepjjdfpfmaaGreatDesk
namespace Go.Proofs.YtbceepjjdfpfmaaGreat
open Go.RowKit HandSpec LoanSpec
attribute [local go_sem] Oper.semAt_some
set_option maxHeartbeats 4000000
set_option maxRecDepth 100000
theorem cnts175 {w0 w1 : World} {M : Nat → Prop} {g : Nat} {x : LD} {p : LA} (hl : IsLA w0 x p) {k1 k2 t1 t2 : Nat} {who year n : Int} (h1 : Blk w1 k1 t1 #[.pointer (some ⟨g, 0, none⟩)]) (m1 : ¬ M k1) (h2 : Blk w1 k2 t2 #[.int .i64 who, .int .i64 year, .int .i64 n]) (m2 : ¬ M k2) :
    Cnts w0 w1 M g x p (.func (.func 175) #[] #[.pointer (some ⟨k1, 0, none⟩), .pointer (some ⟨k2, 0, none⟩)]) (fun i => decide (x.lo i 0 = who) && decide (x.lo i 1 ≤ year)) := by
  refine ⟨_, _, rfl, enters_ Tryz.func175 (by kernel_rfl) rfl, fun i hi W hA => ?_⟩
  obtain ⟨b, hb⟩ := hA.d
  have k1c := (hA.blk h1 m1).cell
  have k1l := (hA.blk h1 m1).lt
  have k2c := (hA.blk h2 m2).cell
  have k2l := (hA.blk h2 m2).lt
  have kd := hb.cell
  have kdl := hb.lt
  unfold deskC at kd
  obtain ⟨A1, c1, A2, c2, A3, c3, A4, c4, A5, c5⟩ := p
  obtain ⟨ga, oa, hA3, hga, q0, q1, q2⟩ := (hl.r3.ext hA.e).at3 hi
  dsimp only at hA3
  subst hA3
  have hki : (i : Int) < (x.ln : Int) := by omega
  obtain ⟨z0, hz0⟩ : ∃ z, Hid (z = x.lo i 0) := ⟨_, hid rfl⟩
  obtain ⟨z1, hz1⟩ : ∃ z, Hid (z = x.lo i 1) := ⟨_, hid rfl⟩
  rw [← hz0.out] at q0
  rw [← hz1.out] at q1
  clear hb hA h1 h2 hl
  by_cases e0 : z0 = who
  · have e0b : (z0 == who) = true := by simpa using e0
    have E0 := hid e0
    clear e0
    cases e1 : decide (z1 ≤ year)
    all_goals
      have E1 := hid e1
      go_enter Tryz.func175, Tryz.ntmps175
      go_upto_region 1 with fail
      refine wp_region_later (by kernel_rfl) (by kernel_rfl) ?_
      repeat (go_big_quiet_step (fail))
      refine wpQuiet_nil ?_
      rintro w2 ⟨⟨_, he2⟩, rfl⟩
      go_wp2
      go_ret
      exact ⟨ret_bool (by rw [← hz0.out, ← hz1.out, E1.out, decide_eq_true E0.out]; rfl), he2⟩
  · have e0b : (z0 == who) = false := by simpa using e0
    have E0 := hid e0
    clear e0
    go_enter Tryz.func175, Tryz.ntmps175
    go_upto_region 1 with fail
    refine wp_region_later (by kernel_rfl) (by kernel_rfl) ?_
    repeat (go_big_quiet_step (fail))
    refine wpQuiet_nil ?_
    rintro w2 ⟨⟨_, he2⟩, rfl⟩
    go_wp2
    go_ret
    exact ⟨ret_bool (by rw [← hz0.out, decide_eq_false E0.out]; rfl), he2⟩
/-- A list of one number. -/
def S1 (m : Int) : MSpec := fun v _ _ w => ∃ g, v = .slice (some ⟨g, 0, none⟩) 1 1 ∧ Blk w g 3 #[.int .i64 m]
theorem S1.ext {m : Int} {v : Value} {lo hi : Nat} {w w' : World} (h : S1 m v lo hi w) (e : Ext w w') : S1 m v lo hi w' := by
  obtain ⟨g, h1, h2⟩ := h
  exact ⟨g, h1, h2.ext e⟩
theorem least_one {w : World} {g cap : Nat} (n : Int) {z : Int} {t : TypeId} (h : Blk w g t #[.int .i64 z]) : Calls Tryz.prog 141 #[.int .i64 n, .slice (some ⟨g, 0, none⟩) 1 cap] w fun e w' => e = .returned (.int .i64 (min n z)) ∧ w = w' :=
  least141 n z fun _ => ⟨g, 0, rfl, fun k hk j hj => by
    obtain rfl : k = 0 := by omega
    obtain rfl : j = 0 := by omega
    simp [h.cell]⟩
/-- A box of its own. -/
def PtI (t : TypeId) (C : Array Value) : MSpec := fun v lo hi w => v = .pointer (some ⟨lo, 0, none⟩) ∧ lo < hi ∧ Blk w lo t C
theorem PtI.ext {t : TypeId} {C : Array Value} {v : Value} {lo hi : Nat} {w w' : World} (h : PtI t C v lo hi w) (e : Ext w w') : PtI t C v lo hi w' := ⟨h.1, h.2.1, h.2.2.ext e⟩
/-- Rows of a loan's number and bushels. -/
def rowsP (l : List (Nat × Int)) : List (List Int) := l.map fun p => [(p.1 : Int), p.2]
theorem rowsP_append (a b : List (Nat × Int)) : rowsP (a ++ b) = rowsP a ++ rowsP b := by simp [rowsP]
theorem rowsP_length (a : List (Nat × Int)) : (rowsP a).length = a.length := by simp [rowsP]
theorem el72' : ElemOk Tryz.prog 72 76 2 16 := el72
/-- What stands while a payment is booked: s is booked, t is over, L are the parts. -/
structure Bk (w0 w1 w : World) (g : Nat) (x : LD) (p : LA) (who year n : Int) (s : Nat → Int) (t : Int) (L : List (Nat × Int)) (W : World) : Prop where
  a : AtD w0 w1 (fun k => k = g ∨ k = w.heap.size + 2 ∨ k = w.heap.size + 3) g x p W
  d : Blk W g 177 (deskC x p s)
  ch : ∀ k, k < w.heap.size → k ≠ g → W.heap[k]? = w.heap[k]?
  b2 : Blk W w.heap.size 148 #[.pointer (some ⟨g, 0, none⟩)]
  b3 : Blk W (w.heap.size + 1) 71 #[.int .i64 who, .int .i64 year, .int .i64 n]
  b7 : Blk W (w.heap.size + 3) 3 #[.int .i64 t]
  o : ∃ u, Blk W (w.heap.size + 2) 72 #[u] ∧ OwnR W w1.heap.size 76 2 u (rowsP L)
theorem Kc.same {B : Nat} {W W' : World} (k : Kc B W W') {i : Nat} (hi : i < B) (hW : i < W.heap.size) : W'.heap[i]? = W.heap[i]? := by
  rw [Array.getElem?_eq_getElem hW]
  exact k.2.2.2.2 i _ (Array.getElem?_eq_getElem hW) (.inr hi)
theorem AtD.kc {w0 w1 W W' : World} {M : Nat → Prop} {g : Nat} {x : LD} {p : LA} {B : Nat} (h : AtD w0 w1 M g x p W) (k : Kc B W W') (h0 : w0.heap.size ≤ B) (h1 : w1.heap.size ≤ B) : AtD w0 w1 M g x p W' :=
  ⟨h.e.kc k h0, Nat.le_trans h.sz k.1, fun i hi hm => (Kc.same k (by omega) (Nat.lt_of_lt_of_le hi h.sz)).trans (h.same i hi hm), by obtain ⟨b, hb⟩ := h.d; exact ⟨b, hb.kc k⟩⟩
theorem AtD.set_ {w0 w1 W : World} {M : Nat → Prop} {g : Nat} {x : LD} {p : LA} (h : AtD w0 w1 M g x p W) (a : Addr) (u : Value) (h0 : w0.heap.size ≤ a.block) (h1 : w1.heap.size ≤ a.block ∨ M a.block) (hg : ∃ b, Blk (W.setCell a u) g 177 (deskC x p b)) : AtD w0 w1 M g x p (W.setCell a u) :=
  ⟨h.e.setCell _ h0, by simpa using h.sz, fun i hi hm => (Below.heap_setCell _ _ _ _ fun e => by
    subst e
    rcases h1 with h1 | h1
    · omega
    · exact hm h1).trans (h.same i hi hm), hg⟩
theorem AtD.grown {w0 w1 W W' : World} {M : Nat → Prop} {g : Nat} {x : LD} {p : LA} {row : Option Nat} (h : AtD w0 w1 M g x p W) (hg : W.grownBy W' row) (h0 : w0.heap.size ≤ w1.heap.size) (hr : ∀ k, row = some k → w1.heap.size ≤ k ∧ k ≠ g) : AtD w0 w1 M g x p W' :=
  ⟨h.e.grown hg fun k hk => by have := hr k hk; omega, Nat.le_trans h.sz hg.size, fun i hi hm => (hg.block i (Nat.lt_of_lt_of_le hi h.sz) fun e => by have := hr i e.symm; omega).trans (h.same i hi hm), by obtain ⟨b, hb⟩ := h.d; exact ⟨b, hb.grown hg fun e => (hr g e.symm).2 rfl⟩⟩
namespace Bk
variable {w0 w1 w W W' : World} {g : Nat} {x : LD} {p : LA} {who year n : Int} {s : Nat → Int} {t : Int} {L : List (Nat × Int)}
theorem kc {B : Nat} (h : Bk w0 w1 w g x p who year n s t L W) (k : Kc B W W') (h0 : w0.heap.size ≤ B) (h1 : w1.heap.size ≤ B) (hw : w.heap.size ≤ w1.heap.size) : Bk w0 w1 w g x p who year n s t L W' :=
  ⟨h.a.kc k h0 h1, h.d.kc k, fun i hi hm => (Kc.same k (by omega) (by have := h.a.sz; omega)).trans (h.ch i hi hm), h.b2.kc k, h.b3.kc k, h.b7.kc k, by obtain ⟨u, h1, h2⟩ := h.o; exact ⟨u, h1.kc k, h2.kc k⟩⟩
theorem ext (h : Bk w0 w1 w g x p who year n s t L W) (e : Ext W W') (hw : w.heap.size ≤ w1.heap.size) : Bk w0 w1 w g x p who year n s t L W' :=
  ⟨h.a.ext e, h.d.ext e, fun i hi hm => (e.block (by have := h.a.sz; omega)).trans (h.ch i hi hm), h.b2.ext e, h.b3.ext e, h.b7.ext e, by obtain ⟨u, h1, h2⟩ := h.o; exact ⟨u, h1.ext e, h2.ext e⟩⟩
theorem congr {s' : Nat → Int} {t' : Int} {L' : List (Nat × Int)} (h : Bk w0 w1 w g x p who year n s t L W) (e1 : ∀ i, i < 10 → s i = s' i) (e2 : t = t') (e3 : L = L') : Bk w0 w1 w g x p who year n s' t' L' W := by
  subst e2 e3
  exact ⟨h.a, by rw [← deskC_congr e1]; exact h.d, h.ch, h.b2, h.b3, h.b7, h.o⟩
/-- One part more. -/
theorem app {u v' : Value} {L' : List (Nat × Int)} (h : Bk w0 w1 w g x p who year n s t L W) (hu : OwnR W w1.heap.size 76 2 u (rowsP L)) (hg : W.grownBy W' u.ownBlock) (hv : OwnR W' w1.heap.size 76 2 v' (rowsP L'))
    (h0 : w0.heap.size ≤ w.heap.size) (hgl : g < w.heap.size) (hs : w.heap.size + 4 ≤ w1.heap.size) (hb : Blk W (w.heap.size + 2) 72 #[u]) : Bk w0 w1 w g x p who year n s t L' (W'.setCell ⟨w.heap.size + 2, 0, none⟩ v') := by
  have hr : ∀ k, u.ownBlock = some k → w1.heap.size ≤ k := fun k hk => hu.block hk
  have hn : ∀ k, k < w1.heap.size → some k ≠ u.ownBlock := fun k hk e => by have := hr k e.symm; omega
  have d' : Blk (W'.setCell ⟨w.heap.size + 2, 0, none⟩ v') g 177 (deskC x p s) := (h.d.grown hg (hn _ (by omega))).far (by simp; omega) _
  refine ⟨(h.a.grown hg (by omega) fun k hk => ⟨hr k hk, by have := hr k hk; omega⟩).set_ _ _ (by simp; omega) (.inr (.inr (.inl rfl))) ⟨s, d'⟩, d', fun k hk hm => ?_, (h.b2.grown hg (hn _ (by omega))).far (by simp) _, (h.b3.grown hg (hn _ (by omega))).far (by simp) _, (h.b7.grown hg (hn _ (by omega))).far (by simp) _, v', ?_, ?_⟩
  · rw [Below.heap_setCell _ _ _ _ (by simp; omega)]
    exact (hg.block k (by have := h.a.sz; omega) (hn _ (by omega))).trans (h.ch k hk hm)
  · exact (hb.grown hg (hn _ (by omega))).set_ 0 v'
  · exact hv.set_far (by omega) _
/-- More is booked to a loan. -/
theorem put (h : Bk w0 w1 w g x p who year n s t L W) {i : Nat} (hi : i < 10) (z : Int) (h0 : w0.heap.size ≤ g) (hgl : g < w.heap.size) (hs : w.heap.size + 4 ≤ w1.heap.size) : Bk w0 w1 w g x p who year n (upd s i z) t L (W.setCell ⟨g, 7 + i, none⟩ (.int .i64 z)) := by
  have d' : Blk (W.setCell ⟨g, 7 + i, none⟩ (.int .i64 z)) g 177 (deskC x p (upd s i z)) := by rw [← deskC_set hi]; exact h.d.set_ _ _
  refine ⟨h.a.set_ _ _ h0 (.inr (.inl rfl)) ⟨_, d'⟩, d', fun k hk hm => ?_, h.b2.far (by simp; omega) _, h.b3.far (by simp; omega) _, h.b7.far (by simp; omega) _, ?_⟩
  · rw [Below.heap_setCell _ _ _ _ (by simpa using hm)]
    exact h.ch k hk hm
  · obtain ⟨u, h1, h2⟩ := h.o
    exact ⟨u, h1.far (by simp; omega) _, h2.far' (by simp; omega) _⟩
/-- Less is over. -/
theorem over (h : Bk w0 w1 w g x p who year n s t L W) (z : Int) (h0 : w0.heap.size ≤ w.heap.size) (hgl : g < w.heap.size) (hs : w.heap.size + 4 ≤ w1.heap.size) : Bk w0 w1 w g x p who year n s z L (W.setCell ⟨w.heap.size + 3, 0, none⟩ (.int .i64 z)) := by
  have d' : Blk (W.setCell ⟨w.heap.size + 3, 0, none⟩ (.int .i64 z)) g 177 (deskC x p s) := h.d.far (by simp; omega) _
  refine ⟨h.a.set_ _ _ (by simp; omega) (.inr (.inr (.inr rfl))) ⟨_, d'⟩, d', fun k hk hm => ?_, h.b2.far (by simp) _, h.b3.far (by simp) _, h.b7.set_ 0 _, ?_⟩
  · rw [Below.heap_setCell _ _ _ _ (by simp; omega)]
    exact h.ch k hk hm
  · obtain ⟨u, h1, h2⟩ := h.o
    exact ⟨u, h1.far (by simp) _, h2.set_far (by omega) _⟩
end Bk
theorem book137 {w0 w : World} {g : Nat} {x : LD} {p : LA} (hx : Ok x) (hfn : x.fn ≤ 1000) (hLA : IsLA w0 x p) (he0 : Ext w0 w) (hg : w0.heap.size ≤ g) {b : Nat → Int} (hd : Blk w g 177 (deskC x p b)) {who year n : Int} (hn : 0 ≤ n ∧ n ≤ 500)
    (hb : ∀ i, i < x.ln → 0 ≤ b i ∧ b i ≤ P.asked x i) :
    Calls Tryz.prog 137 #[.pointer (some ⟨g, 0, none⟩), .agg #[.int .i64 who, .int .i64 year, .int .i64 n]] w fun e w' => ∃ u, e = .returned (.tuple #[u, .int .i64 (P.fill (P.asked x) (P.mine x who year) b n).2]) ∧ Ext w0 w' ∧
      Blk w' g 177 (deskC x p (P.fill (P.asked x) (P.mine x who year) b n).1) ∧ OwnR w' w.heap.size 76 2 u (rowsP (P.parts (P.asked x) (P.mine x who year) b n)) ∧ w.heap.size ≤ w'.heap.size ∧ ∀ k, k < w.heap.size → k ≠ g → w'.heap[k]? = w.heap[k]? := by
  have hmf : ∀ (fn : Fn) (first cap : Array Value) (w : World), (Instr.makeFunc fn first cap).run Tryz.prog w = .ok (.func fn first cap) w := fun _ _ _ _ => rfl
  refine (callsIn_wide (n := 3)).1 (callsIn_of_wp_marks Tryz.func137 rfl trivial (wpIn_wide.2 ?_) rfl)
  simp only [Tryz.ntmps137, List.size_toArray, List.length_cons, List.length_nil, Nat.reduceAdd, Nat.reduceSub, Array.replicate_succ, Array.replicate_zero, List.push_toArray, List.append_toArray, List.nil_append, List.cons_append]
  go_wp2_with (go_at_call 162; refine (loans162 _ _ _).mono ?_; rintro e w1 ⟨rfl, he1, hb1, hb2⟩)
  obtain ⟨he, hk7⟩ := he1.newB
  obtain ⟨he, hk6⟩ := he.newB
  obtain ⟨he, hk3⟩ := he.newB
  obtain ⟨he, hk2⟩ := he.newB
  simp only [World.size_alloc, Nat.add_assoc, Nat.reduceAdd] at hk7 hk6 hk3 hb1 hb2
  have hs1 : w.heap.size + 4 ≤ w1.heap.size := by have := he1.size; simp only [World.size_alloc] at this; omega
  have hs2 := hb2.lt
  have hw0 := he0.size
  have hgl := hd.lt
  clear he1
  have HA : AtD w0 w1 (fun k => k = g ∨ k = w.heap.size + 2 ∨ k = w.heap.size + 3) g x p w1 := ⟨he0.trans he, Nat.le_refl _, fun _ _ _ => rfl, b, hd.ext he⟩
  have HC := cnts175 hLA hk2 (M := fun k => k = g ∨ k = w.heap.size + 2 ∨ k = w.heap.size + 3) (by omega) hk3 (by omega) (g := g) (w0 := w0)
  simp only [Nat.add_assoc, Nat.reduceAdd]
  refine wp_rangeK (gf := 190) rfl (enters_ Tryz.func190 (by kernel_rfl) rfl) (fun y : Lo x => .int .i64 (y.1 : Int)) (fun h1 h2 h => h2 (h1 h)) (fun W l o o' hl' ho hc _ h => h.put (by omega) hl' ho hc)
    (loans190_stops hx hLA hb1 (by omega) hb2 (by omega) HA HC) (Ext.refl _)
    (fun pre W => Bk w0 w1 w g x p who year n (P.fill (P.asked x) (los pre) b n).1 (P.fill (P.asked x) (los pre) b n).2 (P.parts (P.asked x) (los pre) b n) W)
    (ownFrom_of fun pre W W' k h => h.kc k (by omega) (Nat.le_refl _) (by omega)) ⟨HA, hd.ext he, fun k hk _ => he.block hk, hk2, hk3, hk7, _, hk6, by simpa [los, P.parts, rowsP] using OwnR.nil⟩
    (fun (y : Lo x) tm a' W => a' = { tmps := (tm.setIfInBounds 16 (.int .i64 (y.1 : Int))).setIfInBounds 8 (.int .i64 (y.1 : Int)), defers := [] })
    (fun y a' => ownFrom_of fun _ W W' k h => h) ?_ ?_ ?_
  · intro l pre y W K hI hK
    simp only [List.setIfInBounds_toArray, List.set_cons_succ, List.set_cons_zero]
    gi_wp2
    exact hK _ _ (KeepsFrom.ext (Ext.refl _)) (fun h => h) hI rfl
  · rintro l pre y a' W hl - hB rfl hN
    simp only [List.setIfInBounds_toArray, List.set_cons_succ, List.set_cons_zero]
    obtain ⟨i, hi⟩ := y
    dsimp only
    have hbd := P.fill_bd (A := P.asked x) (m := x.ln) (fun i hi => (R.asked_nonneg hx hi).1) (los pre) b n hn.1 hb (fun i hm => by
      obtain ⟨z, -, rfl⟩ := List.mem_map.1 hm
      exact z.2)
    have hlen : (P.parts (P.asked x) (los pre) b n).length ≤ 1000 := by
      have h1 := P.parts_len (P.asked x) (los pre) b n
      rw [los_length] at h1
      omega
    have had := hB.a
    have hai := R.asked_nonneg hx hi
    have hbi := hbd.1 i hi
    have hbs := hbd.2
    obtain ⟨L, hL⟩ : ∃ L, L = P.parts (P.asked x) (los pre) b n := ⟨_, rfl⟩
    rw [← hL] at hlen hB
    obtain ⟨s, t, hs⟩ : ∃ s t, P.fill (P.asked x) (los pre) b n = (s, t) := ⟨_, _, rfl⟩
    obtain ⟨a, ha0⟩ : ∃ a, a = P.asked x i := ⟨_, rfl⟩
    obtain ⟨z, hz0⟩ : ∃ z, z = s i := ⟨_, rfl⟩
    obtain ⟨m, hm⟩ : ∃ m, m = min t (a - z) := ⟨_, rfl⟩
    have hst := P.fill_step hs hz0.symm ha0.symm hm.symm
    rw [← hL] at hst
    have HP := hid hst
    rw [hs] at hB hbi hbs
    dsimp only at hB hbi hbs
    have hdd := hB.d
    have h2 := hB.b2
    have h7 := hB.b7
    obtain ⟨u, h6, hu⟩ := hB.o
    have HB := hid hB
    rw [← hz0, ← ha0] at hbi
    rw [← ha0] at hai
    have hmb : 0 ≤ m ∧ m ≤ t ∧ m ≤ a - z := by omega
    have HM := hid hm
    have hz := hid hz0
    have ha := hid ha0
    clear hm hst hz0 ha0
    have hdc := deskC_at (x := x) (p := p) (b := s) (show i < 10 by have := hx.ln; omega)
    have HD := hid hdd
    have kd := hdd.cell
    have kdl := hdd.lt
    have kdi := kd (7 + i)
    rw [hdc, ← hz.out] at kdi
    have kd0 := kd 0
    have kd1 := kd 1
    have kd2 := kd 2
    have kd3 := kd 3
    have kd4 := kd 4
    have kd5 := kd 5
    have kd6 := kd 6
    unfold deskC at kd0 kd1 kd2 kd3 kd4 kd5 kd6
    simp only [List.getElem?_toArray, List.getElem?_cons_zero, List.getElem?_cons_succ] at kd0 kd1 kd2 kd3 kd4 kd5 kd6
    have k2 := h2.cell
    have k2l := h2.lt
    have k7 := h7.cell
    have k7l := h7.lt
    have hii : (i : Int) < 10 := by have := hx.ln; omega
    have HSS := hid hs
    have HLL := hid hL
    clear kd hdc hdd h2 hB hbd hs hL
    gi_wp2
    refine wpIn_round_mono 19 [(3, fun v _ _ _ => v = .pointer (some ⟨g, 0, none⟩)), (7, fun v _ _ _ => v = .int .i64 a), (10, fun v _ _ _ => v = .pointer (some ⟨g, 0, none⟩)), (15, S1 (a - z)), (16, fun v _ _ _ => v = .int .i64 m), (18, PtI 76 #[.int .i64 0, .int .i64 0])] (by kernel_rfl) (by kernel_rfl) (by kernel_rfl) (by kernel_rfl) ?hq ?hS ?_
    case hq => rintro ⟨a, w, h⟩; exact h
    case hS =>
      simp only [List.forall_mem_cons]
      exact ⟨fun _ _ _ _ _ _ h => h, fun _ _ _ _ _ _ h => h, fun _ _ _ _ _ _ h => h, fun _ _ _ _ _ e h => S1.ext h e, fun _ _ _ _ _ _ h => h, fun _ _ _ _ _ e h => PtI.ext h e, fun _ h => by simp at h⟩
    simp only [List.take_succ_cons, List.take_zero, List.drop_succ_cons, List.drop_zero]
    iterate 3 (refine wpM_plain rfl ?_; go_big_quiet_step (fail); refine wpQuiet_nil ?_)
    refine wpM_spec _ rfl rfl (fun w2 hw2 _ => ?_) (fun va la ha' ga1 ga2 _ hva => ?_)
    · go_wp2
      exact ⟨_, w2.heap.size, w2.heap.size, rfl, Ext.refl _, Nat.le_refl _, Nat.le_refl _, Nat.le_refl _, rfl⟩
    obtain ⟨_, rfl⟩ := hva
    simp only [Act.put, List.setIfInBounds_toArray, List.set_cons_succ, List.set_cons_zero]
    iterate 3 (refine wpM_plain rfl ?_; go_big_quiet_step (fail); refine wpQuiet_nil ?_)
    refine wpM_spec _ rfl rfl (fun w2 hw2 _ => ?_) (fun va la ha' ga1 ga2 _ hva => ?_)
    · go_wp2_with (go_at_call 135; refine (asked135 hx ((hLA.ext (had.e.trans hw2)).isL) hfn hi).mono ?_; rintro e w5 ⟨rfl, he5⟩; rw [← ha.out])
      exact ⟨_, _, _, rfl, he5, Nat.le_refl _, he5.size, Nat.le_refl _, rfl⟩
    obtain ⟨_, rfl⟩ := hva
    simp only [Act.put, List.setIfInBounds_toArray, List.set_cons_succ, List.set_cons_zero]
    iterate 2 (refine wpM_plain rfl ?_; go_big_quiet_step (fail); refine wpQuiet_nil ?_)
    refine wpM_spec _ rfl rfl (fun w2 hw2 _ => ?_) (fun va la ha' ga1 ga2 _ hva => ?_)
    · go_wp2
      exact ⟨_, w2.heap.size, w2.heap.size, rfl, Ext.refl _, Nat.le_refl _, Nat.le_refl _, Nat.le_refl _, rfl⟩
    obtain ⟨_, rfl⟩ := hva
    simp only [Act.put, List.setIfInBounds_toArray, List.set_cons_succ, List.set_cons_zero]
    iterate 4 (refine wpM_plain rfl ?_; go_big_quiet_step (fail); refine wpQuiet_nil ?_)
    refine wpM_spec _ rfl rfl (fun w2 hw2 _ => ?_) (fun va la ha' ga1 ga2 hF15 hva => ?_)
    · go_wp2
      exact ⟨_, w2.heap.size, w2.heap.size + 1, rfl, (Ext.refl _).alloc _, Nat.le_refl _, by omega, by simp, _, rfl, Blk.new _ _ _⟩
    obtain ⟨_, gs, rfl, -⟩ := hva
    simp only [Act.put, List.setIfInBounds_toArray, List.set_cons_succ, List.set_cons_zero]
    refine wpM_spec _ rfl rfl (fun w2 hw2 hF => ?_) (fun va lb hb' ga3 ga4 _ hva => ?_)
    · simp only [List.forall_mem_cons] at hF
      obtain ⟨-, g2, hq2, hb2⟩ := hF.1 (by kernel_rfl)
      obtain rfl : gs = g2 := by simpa using hq2
      go_wp2_with (go_at_call 141; refine (least_one t hb2).mono ?_; rintro e w5 ⟨rfl, rfl⟩; rw [← HM.out])
      exact ⟨_, w2.heap.size, w2.heap.size, rfl, Ext.refl _, Nat.le_refl _, Nat.le_refl _, Nat.le_refl _, rfl⟩
    obtain ⟨_, rfl⟩ := hva
    simp only [Act.put, List.setIfInBounds_toArray, List.set_cons_succ, List.set_cons_zero]
    iterate 1 (refine wpM_plain rfl ?_; go_big_quiet_step (fail); refine wpQuiet_nil ?_)
    refine wpM_spec _ rfl rfl (fun w2 hw2 hF => ?_) (fun va lc hc' gc1 gc2 _ hva => ?_)
    · go_wp2
      exact ⟨_, w2.heap.size, w2.heap.size + 1, rfl, (Ext.refl _).alloc _, Nat.le_refl _, by omega, by simp, rfl, by omega, Blk.new _ _ _⟩
    obtain ⟨_, rfl, hlc, -⟩ := hva
    simp only [Act.put, List.setIfInBounds_toArray, List.set_cons_succ, List.set_cons_zero]
    refine wpM_nil fun w6 hw6 hF => ?_
    simp only [List.forall_mem_cons] at hF
    obtain ⟨⟨hcs, -, -, hbox⟩, -⟩ := hF
    have kb := hbox.cell
    have kbl := hbox.lt
    have kbf := hbox.frozen
    by_cases hm0 : m = 0
    · subst hm0
      go_wp2
      gi_wp2
      have E : Ext W ((w6.setCell ⟨lc, 0, none⟩ (.int .i64 (i : Int))).setCell ⟨lc, 1, none⟩ (.int .i64 0)) := (hw6.setCell _ gc1).setCell _ gc1
      refine ⟨KeepsFrom.ext E, fun h => h.ext E, ?_⟩
      show Bk w0 w1 w g x p who year n (P.fill (P.asked x) (los (pre ++ [⟨i, hi⟩])) b n).1 _ _ _
      rw [los_snoc]
      refine (HB.out.ext E (by omega)).congr (fun k hk => ?_) ?_ ?_
      · rw [HP.out.1]
        show s k = upd s i (z + 0) k
        by_cases e : k = i
        · subst e; rw [upd_same, hz.out]; omega
        · rw [upd_other _ _ e]
      · rw [HP.out.1]
        show t = t - 0
        omega
      · rw [HP.out.2]
        simp
    · have hmb0 : (m == 0) = false := by simpa using hm0
      have HM0 := hid hm0
      clear hm0
      go_wp2
      have E7 : Ext W ((w6.setCell ⟨lc, 0, none⟩ (.int .i64 (i : Int))).setCell ⟨lc, 1, none⟩ (.int .i64 m)) := (hw6.setCell _ gc1).setCell _ gc1
      have hb7 := (hbox.set_ 0 (.int .i64 (i : Int))).set_ 1 (.int .i64 m)
      obtain ⟨w7, hw7⟩ : ∃ w7, w7 = (w6.setCell ⟨lc, 0, none⟩ (.int .i64 (i : Int))).setCell ⟨lc, 1, none⟩ (.int .i64 m) := ⟨_, rfl⟩
      rw [← hw7] at E7 hb7 ⊢
      have hb7 : Blk w7 lc 76 #[.int .i64 (i : Int), .int .i64 m] := hb7
      clear hw7 kb kbl kbf hbox hw6
      have kb := hb7.cell
      have kbl := hb7.lt
      have b6 := h6.ext E7
      have k6 := b6.cell
      have k6l := b6.lt
      have u7 := hu.ext E7
      have hz7 := E7.size
      have hz1 := had.sz
      gi_wp2_with (gi_at_builtin; refine wpListIn_append_rows rfl _ _ 72 rfl el72 rfl (u7.ext (Ext.alloc (Ext.refl _) _)) _ 1 1 [[(i : Int), m]] rfl rfl (by simp) (by intro j; simp [cellsOf]) (by rw [rowsP_length]; omega) (by simp; omega) ?_; intro v' w8 hown8 hg8; have b8 := (b6.ext (Ext.alloc (Ext.refl _) (.cells #[.int .i64 (i : Int), .int .i64 m] 76))).grown hg8 (fun e => by have := u7.block e.symm; omega); have kc := b8.cell; have kf := b8.frozen; obtain ⟨A', n', cap', rfl⟩ : ∃ A' n' cap', v' = .slice A' n' cap' := (by obtain ⟨A', cap', e, -⟩ := hown8.slR; exact ⟨_, _, _, e⟩))
      have B8 := (HB.out.ext (E7.trans ((Ext.refl _).alloc (.cells #[.int .i64 (i : Int), .int .i64 m] 76))) (by omega)).app (u7.ext ((Ext.refl _).alloc _)) hg8 (L' := L ++ [(i, m)]) (by rw [rowsP_append]; simpa [rowsP] using hown8) hw0 hgl hs1 (b6.ext ((Ext.refl _).alloc _))
      have q8 : Blk (w8.setCell ⟨w.heap.size + 2, 0, none⟩ (.slice A' n' cap')) lc 76 #[.int .i64 (i : Int), .int .i64 m] := ((hb7.ext ((Ext.refl _).alloc _)).grown hg8 (fun e => by have := hu.lt e.symm; omega)).far (by simp; omega) _
      obtain ⟨w9, hw9⟩ : ∃ w9, w9 = w8.setCell ⟨w.heap.size + 2, 0, none⟩ (.slice A' n' cap') := ⟨_, rfl⟩
      have K9 : KeepsFrom w1.heap.size W w9 := by
        rw [hw9]
        exact ((KeepsFrom.ext (E7.trans ((Ext.refl _).alloc _))).trans (.grown hg8 (u7.ext ((Ext.refl _).alloc _)).cells)).trans (.set _ _ _)
      rw [← hw9] at B8 q8 ⊢
      clear hw9 hg8 hown8 b8 kc kf kb kbl k6 k6l b6 u7 hb7
      have dd := B8.d.cell
      have ddl := B8.d.lt
      have ddf := B8.d.frozen (7 + i)
      have ddi := dd (7 + i)
      rw [deskC_at (show i < 10 by omega), ← hz.out] at ddi
      have k2 := B8.b2.cell
      have k2l := B8.b2.lt
      have kq := q8.cell
      have kql := q8.lt
      clear dd
      refine wpIn_round_tail 12 (by kernel_rfl) (by kernel_rfl) (by kernel_rfl) ?hq ?_
      case hq => rintro ⟨a, w, h⟩; exact h
      simp only [List.take_succ_cons, List.take_zero, List.drop_succ_cons, List.drop_zero]
      repeat (go_big_quiet_step (fail))
      refine wpQuiet_nil ?_
      rintro w10 ⟨⟨_, he10⟩, rfl⟩
      have C10 := B8.ext he10 (by omega)
      have d10 := C10.d.cell (7 + i)
      rw [deskC_at (show i < 10 by omega), ← hz.out] at d10
      have d10l := C10.d.lt
      have d10f := C10.d.frozen (7 + i)
      have q10 := (q8.ext he10).far (p := ⟨g, 7 + i, none⟩) (by simp; omega) (.int .i64 (z + m))
      have p10 := C10.put (show i < 10 by omega) (z + m) hg hgl hs1
      have K10 : KeepsFrom w1.heap.size W (w10.setCell ⟨g, 7 + i, none⟩ (.int .i64 (z + m))) := (K9.trans (.ext he10)).trans (.set _ _ _)
      clear k2 k2l kq kql ddi ddl ddf
      go_wp2
      obtain ⟨w11, hw11⟩ : ∃ w11, w11 = w10.setCell ⟨g, 7 + i, none⟩ (.int .i64 (z + m)) := ⟨_, rfl⟩
      rw [← hw11] at K10 p10 q10 ⊢
      clear hw11 d10 d10l d10f
      have k7 := p10.b7.cell
      have k7l := p10.b7.lt
      have k7f := p10.b7.frozen
      have kq := q10.cell
      have kql := q10.lt
      gi_wp2
      refine ⟨K10.trans (.set _ _ _), fun _ => (p10.over (t - m) hw0 hgl hs1).a, ?_⟩
      show Bk w0 w1 w g x p who year n (P.fill (P.asked x) (los (pre ++ [⟨i, hi⟩])) b n).1 _ _ _
      rw [los_snoc]
      refine (p10.over (t - m) hw0 hgl hs1).congr (fun k _ => ?_) ?_ ?_
      · rw [HP.out.1]
      · rw [HP.out.1]
      · rw [HP.out.2, if_neg HM0.out]
  · rintro D ys W hD hys hB hK
    have HY := hid hys
    clear hys
    obtain ⟨u, ho, hu⟩ := hB.o
    have k7 := hB.b7.cell
    have k7l := hB.b7.lt
    have k6 := ho.cell
    have k6l := ho.lt
    go_upto_region 10 with fail
    refine wp_region_later (by kernel_rfl) (by kernel_rfl) ?_
    repeat (go_big_quiet_step (fail))
    refine wpQuiet_nil ?_
    rintro w3 ⟨⟨_, he3⟩, rfl⟩
    have hB3 := hB.ext he3 (by omega)
    have hu3 := hu.ext he3
    have hDl : D < W.heap.size := by
      rcases Nat.lt_or_ge D W.heap.size with h | h
      · exact h
      · rw [Array.getElem?_eq_none h] at hK; cases hK
    have hK3 : w3.heap[D]? = some (.deferred (some [])) := (he3.block hDl).trans hK
    clear k7 k7l k6 k6l hB hu hK
    go_wp2
    refine ⟨by simp, .inl ⟨_, _, rfl, run_takeDeferred hK3, ?_⟩⟩
    have kp := Kc.put (.deferred none) hD hK3 rfl
    have hB4 := hB3.kc kp (by omega) (Nat.le_refl _) (by omega)
    refine ⟨_, results_tmp2 rfl _ _ _, u, ?_⟩
    have hm : P.mine x who year = los ys := HY.out.symm
    rw [hm]
    refine ⟨rfl, hB4.a.e, hB4.d, (hu3.kc kp).base (by omega), ?_, hB4.ch⟩
    have := hB4.a.sz
    omega
end Go.Proofs.YtbceepjjdfpfmaaGreat
