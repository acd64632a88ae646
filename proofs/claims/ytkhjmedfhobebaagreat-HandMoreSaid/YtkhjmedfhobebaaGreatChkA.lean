/- Walks of checks of a watch; arrays of integers. No condition. -/
import Derived.Test.YtkhjmedfhobebaaGreatGenC
import Derived.Lib.LazyBuf
namespace HandSpec
namespace P
def cOk (x : WD) (k : Nat) : Bool := inB (x.c k 0) 0 x.hours && inB (x.c k 1) 0 500 && inB (x.c k 2) 0 500
def bOk (x : WD) (k : Nat) : Bool := inB (x.b k 0) 0 x.hours && inB (x.b k 1) (-200) 200 && decide (x.b k 1 ≠ 0)
def sOk (x : WD) (k : Nat) : Bool := inB (x.s k 1) 0 x.hours && inB (x.s k 2) 0 x.hours
def hOk (x : WD) (k : Nat) : Bool := inB (x.s k 0) 0 (Go.RowKit.wrap64 (x.hands - 1))
def lhOk (x : WD) (k : Nat) : Bool := decide (x.c k 1 ≤ x.c k 2)
def ftOk (x : WD) (k : Nat) : Bool := decide (x.s k 1 < x.s k 2)
end P
end HandSpec
namespace Go.Proofs.YtkhjmedfhobebaaGreat
open Go.RowKit HandSpec
set_option maxHeartbeats 400000
set_option maxRecDepth 100000

/-- The box of a watch. -/
def BoxW (w : World) (tb : Nat) (x : WD) : Prop :=
 ∃ A1 c1 A2 c2 A3 c3, Blk w tb 26 #[.int .i64 x.hours, .int .i64 x.allow, .int .i64 x.hands, .slice A1 x.cn c1, .slice A2 x.bn c2, .slice A3 x.sn c3] ∧
  Rd w A1 x.cn 3 x.c ∧ Rd w A2 x.bn 2 x.b ∧ Rd w A3 x.sn 3 x.s
theorem BoxW.ext {w w' : World} {tb : Nat} {x : WD} (h : BoxW w tb x) (e : Ext w w') : BoxW w' tb x := by
 obtain ⟨A1, c1, A2, c2, A3, c3, hv, h1, h2, h3⟩ := h
 exact ⟨A1, c1, A2, c2, A3, c3, hv.ext e, h1.ext e, h2.ext e, h3.ext e⟩

set_option maxHeartbeats 2000000 in
theorem check1 {x : WD} {w : World} {tb : Nat} (hb : BoxW w tb x) (a b c : Int) :
  Calls Tryz.prog 152 #[.agg #[.int .i64 a, .int .i64 b, .int .i64 c], .pointer (some ⟨tb, 0, none⟩)] w fun e w' => e = .returned (.bool (inB a 0 x.hours && inB b 0 500 && inB c 0 500)) ∧ Ext w w' := by
 obtain ⟨A1, c1, A2, c2, A3, c3, hb, r1, r2, r3⟩ := hb
 have hlt := hb.lt
 have q0 := hb.cell
 have HW : ∀ w', Ext w w' → IsW w' (.agg #[.int .i64 x.hours, .int .i64 x.allow, .int .i64 x.hands, .slice A1 x.cn c1, .slice A2 x.bn c2, .slice A3 x.sn c3]) x :=
  fun w' e => ⟨_, _, _, _, _, _, rfl, r1.ext e, r2.ext e, r3.ext e⟩
 have HW := hid HW
 clear r1 r2 r3 hb
 cases h1 : inB a 0 x.hours <;> cases h2 : inB b 0 500 <;> cases h3 : inB c 0 500
 all_goals
  have H1 := hid h1; clear h1
  have H2 := hid h2; clear h2
  have H3 := hid h3; clear h3
  go_enter Tryz.func152, Tryz.ntmps152
  go_wp2_with (first
   | (go_at_call 153; refine (hour_any (HW.out _ ((Ext.refl _).alloc _)) _).mono ?_; rintro e w1 ⟨rfl, he⟩; have k1 := ((Blk.new w 79 #[.int .i64 a, .int .i64 b, .int .i64 c]).ext he).cell; rw [H1.out])
   | (go_at_call 150; refine (in_any _ _ _ _).mono ?_; rintro e w' ⟨rfl, rfl⟩; first | rw [H2.out] | rw [H3.out]))
  go_ret
  exact ⟨rfl, ((Ext.refl _).alloc _).trans he⟩

set_option maxHeartbeats 2000000 in
theorem check2 {x : WD} {w : World} {tb : Nat} (hb : BoxW w tb x) (a b : Int) :
  Calls Tryz.prog 155 #[.agg #[.int .i64 a, .int .i64 b], .pointer (some ⟨tb, 0, none⟩)] w fun e w' => e = .returned (.bool (inB a 0 x.hours && inB b (-200) 200 && decide (b ≠ 0))) ∧ Ext w w' := by
 obtain ⟨A1, c1, A2, c2, A3, c3, hb, r1, r2, r3⟩ := hb
 have hlt := hb.lt
 have q0 := hb.cell
 have HW : ∀ w', Ext w w' → IsW w' (.agg #[.int .i64 x.hours, .int .i64 x.allow, .int .i64 x.hands, .slice A1 x.cn c1, .slice A2 x.bn c2, .slice A3 x.sn c3]) x :=
  fun w' e => ⟨_, _, _, _, _, _, rfl, r1.ext e, r2.ext e, r3.ext e⟩
 have HW := hid HW
 clear r1 r2 r3 hb
 cases h1 : inB a 0 x.hours <;> cases h2 : inB b (-200) 200
 all_goals
  have H1 := hid h1; clear h1
  have H2 := hid h2; clear h2
  go_enter Tryz.func155, Tryz.ntmps155
  go_wp2_with (first
   | (go_at_call 153; refine (hour_any (HW.out _ ((Ext.refl _).alloc _)) _).mono ?_; rintro e w1 ⟨rfl, he⟩; have k1 := ((Blk.new w 119 #[.int .i64 a, .int .i64 b]).ext he).cell; rw [H1.out])
   | (go_at_call 150; refine (in_any _ _ _ _).mono ?_; rintro e w' ⟨rfl, rfl⟩; rw [H2.out]))
  go_ret
  exact ⟨ret_bool (by simp [bne, Bool.beq_eq_decide_eq]), ((Ext.refl _).alloc _).trans he⟩
set_option maxHeartbeats 2000000 in
theorem check3 {x : WD} {w : World} {tb : Nat} (hb : BoxW w tb x) (a b c : Int) :
  Calls Tryz.prog 157 #[.agg #[.int .i64 a, .int .i64 b, .int .i64 c], .pointer (some ⟨tb, 0, none⟩)] w fun e w' => e = .returned (.bool (inB b 0 x.hours && inB c 0 x.hours)) ∧ Ext w w' := by
 obtain ⟨A1, c1, A2, c2, A3, c3, hb, r1, r2, r3⟩ := hb
 have hlt := hb.lt
 have q0 := hb.cell
 have HW : ∀ w', Ext w w' → IsW w' (.agg #[.int .i64 x.hours, .int .i64 x.allow, .int .i64 x.hands, .slice A1 x.cn c1, .slice A2 x.bn c2, .slice A3 x.sn c3]) x :=
  fun w' e => ⟨_, _, _, _, _, _, rfl, r1.ext e, r2.ext e, r3.ext e⟩
 have HW := hid HW
 have HB := hid hb
 clear r1 r2 r3 hb
 cases h1 : inB b 0 x.hours
 ·have H1 := hid h1; clear h1
  go_enter Tryz.func157, Tryz.ntmps157
  go_wp2_with (go_at_call 153; refine (hour_any (HW.out _ ((Ext.refl _).alloc _)) b).mono ?_; rintro e w1 ⟨rfl, he⟩; rw [H1.out])
  go_ret
  exact ⟨rfl, ((Ext.refl _).alloc _).trans he⟩
 ·have H1 := hid h1; clear h1
  go_enter Tryz.func157, Tryz.ntmps157
  go_wp2_with (first
   | (go_at_call 153; refine (hour_any (by with_reducible exact HW.out _ ((Ext.refl _).alloc _)) _).mono ?_; rintro e w1 ⟨rfl, he⟩; rw [H1.out]; have k1 := ((Blk.new w 114 #[.int .i64 a, .int .i64 b, .int .i64 c]).ext he).cell; have k2 := (HB.out.ext (((Ext.refl _).alloc _).trans he)).cell)
   | (go_at_call 153; refine (hour_any (by with_reducible exact HW.out _ (((Ext.refl _).alloc _).trans he)) _).mono ?_; rintro e w2 ⟨rfl, he2⟩))
  go_ret
  exact ⟨rfl, (((Ext.refl _).alloc _).trans he).trans he2⟩
theorem check4 {x : WD} {w : World} {b3 : Nat} {t : TypeId} {v : Value} (hv : IsW w v x) (hb : Blk w b3 t #[.func (.func 121) #[v] #[]]) (a b c : Int) :
  Calls Tryz.prog 158 #[.agg #[.int .i64 a, .int .i64 b, .int .i64 c], .pointer (some ⟨b3, 0, none⟩)] w fun e w' => e = .returned (.bool (inB a 0 (Go.RowKit.wrap64 (x.hands - 1)))) ∧ Ext w w' := by
 have hlt := hb.lt
 have q0 := hb.cell
 have hcf := enters_ Tryz.func121 (by kernel_rfl) rfl
 clear hb
 have HV := hid hv; clear hv
 go_enter Tryz.func158, Tryz.ntmps158
 go_wp2_with (refine (hand_any (HV.out.ext ((Ext.refl _).alloc _)) _).mono ?_; rintro e w1 ⟨rfl, he⟩)
 go_ret
 exact ⟨rfl, ((Ext.refl _).alloc _).trans he⟩
theorem check7 (w : World) (a b c : Int) :
  Calls Tryz.prog 163 #[.agg #[.int .i64 a, .int .i64 b, .int .i64 c]] w fun e w' => e = .returned (.bool (decide (b ≤ c))) ∧ Ext w w' := by
 go_enter Tryz.func163, Tryz.ntmps163
 go_wp2
 go_ret
 exact ⟨rfl, ((Ext.refl _).alloc _)⟩
theorem check8 (w : World) (a b c : Int) :
  Calls Tryz.prog 164 #[.agg #[.int .i64 a, .int .i64 b, .int .i64 c]] w fun e w' => e = .returned (.bool (decide (b < c))) ∧ Ext w w' := by
 go_enter Tryz.func164, Tryz.ntmps164
 go_wp2
 go_ret
 exact ⟨rfl, ((Ext.refl _).alloc _)⟩
theorem asks1 {x : WD} {w : World} {tb : Nat} (hb : BoxW w tb x) : Asks w (.func (.func 152) #[] #[.pointer (some ⟨tb, 0, none⟩)]) x.cn (enc3 x.c) (P.cOk x) :=
 ⟨_, _, rfl, enters_ Tryz.func152 (by kernel_rfl) rfl, fun k _ w' e => check1 (hb.ext e) _ _ _⟩
theorem asks2 {x : WD} {w : World} {tb : Nat} (hb : BoxW w tb x) : Asks w (.func (.func 155) #[] #[.pointer (some ⟨tb, 0, none⟩)]) x.bn (enc2 x.b) (P.bOk x) :=
 ⟨_, _, rfl, enters_ Tryz.func155 (by kernel_rfl) rfl, fun k _ w' e => check2 (hb.ext e) _ _⟩
theorem asks3 {x : WD} {w : World} {tb : Nat} (hb : BoxW w tb x) : Asks w (.func (.func 157) #[] #[.pointer (some ⟨tb, 0, none⟩)]) x.sn (enc3 x.s) (P.sOk x) :=
 ⟨_, _, rfl, enters_ Tryz.func157 (by kernel_rfl) rfl, fun k _ w' e => check3 (hb.ext e) _ _ _⟩
theorem asks4 {x : WD} {w : World} {b3 : Nat} {t : TypeId} {v : Value} (hv : IsW w v x) (hb : Blk w b3 t #[.func (.func 121) #[v] #[]]) : Asks w (.func (.func 158) #[] #[.pointer (some ⟨b3, 0, none⟩)]) x.sn (enc3 x.s) (P.hOk x) :=
 ⟨_, _, rfl, enters_ Tryz.func158 (by kernel_rfl) rfl, fun k _ w' e => check4 (hv.ext e) (hb.ext e) _ _ _⟩
theorem asks7 (x : WD) (w : World) : Asks w (.func (.func 163) #[] #[]) x.cn (enc3 x.c) (P.lhOk x) :=
 ⟨_, _, rfl, enters_ Tryz.func163 (by kernel_rfl) rfl, fun k _ w' _ => check7 w' _ _ _⟩
theorem asks8 (x : WD) (w : World) : Asks w (.func (.func 164) #[] #[]) x.sn (enc3 x.s) (P.ftOk x) :=
 ⟨_, _, rfl, enters_ Tryz.func164 (by kernel_rfl) rfl, fun k _ w' _ => check8 w' _ _ _⟩
theorem cmp5 (w : World) (a b c a' b' c' : Int) (h : -4611686018427387904 ≤ a - a' ∧ a - a' ≤ 4611686018427387904) :
  Calls Tryz.prog 160 #[.agg #[.int .i64 a, .int .i64 b, .int .i64 c], .agg #[.int .i64 a', .int .i64 b', .int .i64 c']] w fun e w' => e = .returned (.int .i64 (a - a')) ∧ Ext w w' := by
 go_enter Tryz.func160, Tryz.ntmps160
 go_wp2
 go_ret
 exact ⟨ret_int (by go_num), ((Ext.refl _).alloc _).alloc _⟩
theorem eq6 (w : World) (a b c a' b' c' : Int) :
  Calls Tryz.prog 162 #[.agg #[.int .i64 a, .int .i64 b, .int .i64 c], .agg #[.int .i64 a', .int .i64 b', .int .i64 c']] w fun e w' => e = .returned (.bool (a == a')) ∧ Ext w w' := by
 go_enter Tryz.func162, Tryz.ntmps162
 go_wp2
 go_ret
 exact ⟨rfl, ((Ext.refl _).alloc _).alloc _⟩
end Go.Proofs.YtkhjmedfhobebaaGreat
namespace Go.Proofs.YtkhjmedfhobebaaGreat
open Go.RowKit HandSpec

/-- The first N cells of block g are the numbers h, and may be written. -/
def Arr (w : World) (g N : Nat) (h : Nat → Int) : Prop :=
 g < w.heap.size ∧ ∀ i, i < N → w.cell? ⟨g, i, none⟩ = some (.int .i64 (h i)) ∧ w.frozen? ⟨g, i, none⟩ = false
def upd (h : Nat → Int) (k : Nat) (z : Int) : Nat → Int := fun i => if i = k then z else h i
theorem upd_same (h : Nat → Int) (k : Nat) (z : Int) : upd h k z k = z := by simp [upd]
theorem upd_other (h : Nat → Int) {k i : Nat} (z : Int) (e : i ≠ k) : upd h k z i = h i := by simp [upd, e]
namespace Arr
variable {w w' : World} {g N : Nat} {h : Nat → Int}
theorem ext (a : Arr w g N h) (e : Ext w w') : Arr w' g N h :=
 ⟨Nat.lt_of_lt_of_le a.1 e.size, fun i hi => by rw [e.cell a.1, e.frozen a.1]; exact a.2 i hi⟩
theorem cell (a : Arr w g N h) {i : Nat} (hi : i < N) : w.cell? ⟨g, i, none⟩ = some (.int .i64 (h i)) := (a.2 i hi).1
theorem frozen (a : Arr w g N h) {i : Nat} (hi : i < N) : w.frozen? ⟨g, i, none⟩ = false := (a.2 i hi).2
theorem rd (a : Arr w g N h) {o n c : Nat} (hn : o + n * c ≤ N) : Rd w (some ⟨g, o, none⟩) n c (fun k j => h (o + k * c + j)) := fun _ => by
 refine ⟨g, o, rfl, fun k hk j hj => a.cell ?_⟩
 have := Nat.mul_le_mul_right c (Nat.succ_le_of_lt hk)
 simp only [Nat.succ_eq_add_one, Nat.add_mul] at this
 omega
theorem congr {h' : Nat → Int} (a : Arr w g N h) (e : ∀ i, i < N → h i = h' i) : Arr w g N h' := ⟨a.1, fun i hi => by rw [← e i hi]; exact a.2 i hi⟩
theorem set_ (a : Arr w g N h) (k : Nat) (z : Int) (hk : k < N) : Arr (w.setCell ⟨g, k, none⟩ (.int .i64 z)) g N (upd h k z) := by
 refine ⟨by simpa using a.1, fun i hi => ⟨?_, by simpa using a.frozen hi⟩⟩
 by_cases e : i = k
 ·subst e
  rw [upd_same]
  exact World.cell?_setCell_same _ _ _ (a.cell hk)
 ·rw [upd_other _ _ e, World.cell?_setCell_other _ _ _ _ (by simp only [ne_eq, Addr.mk.injEq, true_and, and_true]; exact fun e' => e e'.symm)]
  exact a.cell hi
theorem far (a : Arr w g N h) {p : Addr} (u : Value) (hp : p.block ≠ g) : Arr (w.setCell p u) g N h :=
 ⟨by simpa using a.1, fun i hi => ⟨by rw [World.cell?_setCell_other _ _ _ _ (by intro e; rw [e] at hp; exact hp rfl)]; exact a.cell hi, by simpa using a.frozen hi⟩⟩
theorem mono {M : Nat} (a : Arr w g N h) (hm : M ≤ N) : Arr w g M h := ⟨a.1, fun i hi => a.2 i (by omega)⟩
end Arr
/-- An own slice is such a block. -/
theorem OwnR.arr {w : World} {B : Nat} {e : TypeId} {c : Nat} {v : Value} {l : List (List Int)} (h : OwnR w B e c v l) :
  (v = .slice none 0 0 ∧ l = []) ∨ ∃ g cap, v = .slice (some ⟨g, 0, none⟩) l.length cap ∧ B ≤ g ∧ l.length ≤ cap ∧ Arr w g (l.length * c) (fun i => rowsAt l (i / c) (i % c)) := by
 obtain ⟨hc, hl, h | ⟨g, cap, cur, rfl, hb, hh, hn, hm, hs, ht⟩⟩ := h
 ·left
  refine ⟨h.1, List.length_eq_zero_iff.1 ?_⟩
  have := h.2
  simp_all
 ·right
  refine ⟨g, cap, rfl, hb, hn, ?_, fun i hi => ?_⟩
  ·rcases Nat.lt_or_ge g w.heap.size with h' | h'
   ·exact h'
   ·rw [Array.getElem?_eq_none h'] at hh; cases hh
  ·have h0 : 0 < c := by
    rcases Nat.eq_zero_or_pos c with e | e
    ·subst e; simp at hi
    ·exact e
   have hk : i / c < l.length := (Nat.div_lt_iff_lt_mul h0).2 hi
   have h1 := cellsOf_get hc hk (Nat.mod_lt i h0)
   rw [← ht, Nat.div_add_mod' i c, List.getElem?_take_of_lt hi] at h1
   constructor
   ·simpa [World.cell?, hh, rowsAt] using h1
   ·simp [World.frozen?, hh]
theorem size_cells (b : Nat) : ∀ (vs : List Value) (o : Nat) (w : World), (w.setCells b o vs).heap.size = w.heap.size
 | [], _, _ => rfl
 | v :: r, o, w => by rw [World.setCells, size_cells b r, World.size_setCell]
/-- Says which operation is meant. -/
theorem wpList_here {P : Program} {ops : Array Oper} {Q : Exit → Act → World → Prop} {rest : List Oper} {a : Act} {w : World} (o : Oper) (h : wpList P ops Q (o :: rest) a w) : wpList P ops Q (o :: rest) a w := h
/-- 'clear' of a piece of such a block. -/
theorem wpList_clear_arr {P : Program} {w : World} {ops : Array Oper} {rest : List Oper} {o : Oper} {a : Act} {Q : Exit → Act → World → Prop} (hgd : o.guard = none) (x : Operand) (T : TypeId)
  (ho : o.op = .call { callee := .builtin .clear, args := #[x], argTypes := #[T] }) {e : TypeId} {c bytes : Nat} (hE : ElemOk P T e c bytes) {z : Value} (hz : ∀ w, (zeroValue e).run P w = .ok z w) (hzc : z.cells = Array.replicate c (.int .i64 0))
  {g N s n cap : Nat} {h : Nat → Int} (hx : a.eval x = .slice (some ⟨g, s, none⟩) n cap) (ha : Arr w g N h) (hn : s + n * c ≤ N)
  (hk : ∀ w', Arr w' g N (fun i => if s ≤ i ∧ i < s + n * c then 0 else h i) → (∀ w0, Ext w0 w → w0.heap.size ≤ g → Ext w0 w') → wpList P ops Q rest (a.put o.dst (.tuple #[])) w') :
  wpList P ops Q (o :: rest) a w := by
 refine wpList_plain hgd fun K hK => ?_
 have fin : ∀ w', (Builtin.clear_ #[T] o.type #[.slice (some ⟨g, s, none⟩) n cap]).run P w = .ok (.tuple #[]) w' → K (a.put o.dst (.tuple #[])) w' → Oper.wp P o a w K Q := by
  intro w' hrun hw
  unfold Oper.wp
  simp [execOp, ho, resolve, invoke, builtin, hx, hrun, Result.andThen]
  exact hw
 rcases Nat.eq_zero_or_pos n with h0 | h0
 ·subst h0
  refine fin w (by simp [Builtin.clear_, run_underlying hE.u]) (hK _ _ (hk w (ha.congr fun i _ => by rw [if_neg (by omega)]) fun _ h _ => h))
 ·obtain ⟨m, rfl⟩ : ∃ m, n = m + 1 := ⟨n - 1, by omega⟩
  have hlen : (Builtin.zeroCells z.cells (m + 1)).toList.length = (m + 1) * c := by simp [Builtin.zeroCells, hzc]
  have hall : ∀ v ∈ (Builtin.zeroCells z.cells (m + 1)).toList, v = .int .i64 0 := by
   intro v hv
   simp [Builtin.zeroCells, hzc] at hv
   obtain ⟨i, hi, rfl⟩ := hv
   have h0c : i % c < c := Nat.mod_lt _ hE.c0
   simp [h0c]
  have hst := run_storeCells_cells (P := P) g s (Builtin.zeroCells z.cells (m + 1)).toList 0 w (by intro j hj; rw [ha.cell (by omega)]; rfl) (by intro j hj; exact ha.frozen (by omega)) (by intro v hv; rw [hall v hv]; rfl)
  simp only [Nat.add_zero] at hst
  refine fin (w.setCells g s (Builtin.zeroCells z.cells (m + 1)).toList) (by simp [Builtin.clear_, run_underlying hE.u, hz, hst]) (hK _ _ (hk _ ⟨?_, fun i hi => ⟨?_, ?_⟩⟩ fun w0 h0 hg => ?_))
  ·rw [size_cells]; exact ha.1
  ·by_cases hin : s ≤ i ∧ i < s + (m + 1) * c
   ·show _ = some (Value.int .i64 (if _ then _ else _))
    rw [if_pos hin]
    have := World.cell?_setCells_in g (Builtin.zeroCells z.cells (m + 1)).toList s w (fun j hj => by rw [ha.cell (by omega)]; rfl) (i - s) (by omega)
    rw [show s + (i - s) = i by omega] at this
    rw [this, hall _ (List.getElem_mem _)]
   ·show _ = some (Value.int .i64 (if _ then _ else _))
    rw [if_neg hin, World.cell?_setCells_out _ _ _ _ _ (fun _ _ => by simp only; omega)]
    exact ha.cell hi
  ·rw [World.frozen?_setCells]; exact ha.frozen hi
  ·exact below_setCells hg _ _ _ h0
end Go.Proofs.YtkhjmedfhobebaaGreat
namespace Go.Proofs.YtkhjmedfhobebaaGreat
open Go.RowKit HandSpec
set_option maxHeartbeats 800000
set_option maxRecDepth 100000
def dn (g : Nat → Nat → Int) (k : Nat) : Bool := decide (g (k+1) 0 < g k 0)
theorem sorted159 {w : World} {A : Option Addr} {n cap : Nat} {g : Nat → Nat → Int} (hr : Rd w A n 3 g) (hn : n ≤ 1000) (hg : ∀ k, k < n → 0 ≤ g k 0 ∧ g k 0 ≤ 1000) :
  Calls Tryz.prog 159 #[.slice A n cap, .func (.func 160) #[] #[]] w (fun e w' => e = .returned (.bool (!anyTo (dn g) (n - 1))) ∧ Ext w w') := by
 rcases Nat.eq_zero_or_pos n with h0 | h0
 ·subst h0
  go_enter Tryz.func159, Tryz.ntmps159
  go_wp2
  go_loopw [4, 5] (fun r i wr => i = .int .i64 (-1) ∧ r = .bool false ∧ Ext w wr) (fun _ _ _ => 0)
  case atStart => exact ⟨rfl, rfl, Ext.refl _⟩
  case round =>
   obtain ⟨rfl, rfl, he⟩ := hrel
   go_wp2
   go_ret
   exact ⟨rfl, he⟩
 ·obtain ⟨m, rfl⟩ : ∃ m, n = m + 1 := ⟨n - 1, by omega⟩
  have HG := hid hg; clear hg
  have hcf := enters_ Tryz.func160 (by kernel_rfl) rfl
  go_enter Tryz.func159, Tryz.ntmps159
  go_wp2
  go_loopw [4, 5] (fun r i wr => ∃ k : Nat, k ≤ m ∧ i = .int .i64 k ∧ r = .bool false ∧ Hid (∀ j, k ≤ j → j < m → dn g j = false) ∧ Ext w wr) (fun _ i _ => (intOf i).toNat)
  case atStart => exact ⟨m, Nat.le_refl _, by go_num, rfl, fun _ h h' => absurd h' (by omega), Ext.refl _⟩
  case round =>
   obtain ⟨k, hk, rfl, rfl, hp, he⟩ := hrel
   rcases Nat.eq_zero_or_pos k with hz | hz
   ·subst hz
    go_wp2
    go_ret
    refine ⟨ret_bool ?_, he⟩
    rw [show m + 1 - 1 = m from rfl, anyTo_false.2 fun j hj => hp.out j (Nat.zero_le _) hj]; rfl
   ·obtain ⟨q, rfl⟩ : ∃ q, k = q + 1 := ⟨k - 1, by omega⟩
    obtain ⟨b, o, rfl, hb, a0, a1, a2⟩ := (hr.ext he).at3 (k := q + 1) (by omega)
    obtain ⟨_, _, hq, hb', b0, b1, b2⟩ := (hr.ext he).at3 (k := q) (by omega)
    obtain ⟨rfl, rfl⟩ := same_addr hq rfl
    have g1 := HG.out (q + 1) (by omega)
    have g2 := HG.out q (by omega)
    clear hr
    go_upto_region 4 with fail
    refine wp_region_later (by kernel_rfl) (by kernel_rfl) ?_
    repeat (go_big_quiet_step ((go_at_call 160; exact Calls.later (cmp5 _ _ _ _ _ _ _ (by omega)))))
    refine wpQuiet_nil ?_
    rintro _ ⟨⟨w2, he2⟩, rfl⟩
    by_cases hlt : g (q+1) 0 < g q 0
    ·go_wp2
     go_ret
     refine ⟨ret_bool ?_, he.trans he2⟩
     have h1 : anyTo (dn g) m = true := anyTo_true.2 ⟨q, by omega, by simp [dn, hlt]⟩
     show false = !anyTo (dn g) m
     rw [h1]; rfl
    ·go_wp2
     go_roundw
     case rel =>
      refine ⟨q, by omega, by go_num, rfl, hid fun j h h' => ?_, he.trans he2⟩
      rcases Nat.lt_or_ge q j with hj | hj
      ·exact hp.out j hj h'
      ·obtain rfl : j = q := by omega
       simp [dn, hlt]
     case measure => simp [intOf]

def sm0 (h : Nat → Int) (k : Nat) : Bool := h ((k+1)*3) == h (k*3)
/-- CompactFunc at counts in a block of one's own: only how long the result is. -/
theorem compact161 {w0 w : World} {g n cap : Nat} {h : Nat → Int} (he0 : Ext w0 w) (hB : w0.heap.size ≤ g) (ha : Arr w g (n * 3) h) (hn : n ≤ 1000) (hcap : n ≤ cap) :
  Calls Tryz.prog 161 #[.slice (some ⟨g, 0, none⟩) n cap, .func (.func 162) #[] #[]] w (fun e w' => ∃ m cap', e = .returned (.slice (some ⟨g, 0, none⟩) m cap') ∧ decide (m < n) = anyTo (sm0 h) (n - 1) ∧ Ext w0 w') := by
 have hcf := enters_ Tryz.func162 (by kernel_rfl) rfl
 have HA := hid ha; clear ha
 by_cases h2 : n < 2
 ·go_enter Tryz.func161, Tryz.ntmps161
  go_wp2
  go_ret
  refine ⟨_, _, rfl, ?_, he0⟩
  rcases (show n = 0 ∨ n = 1 by omega) with rfl | rfl <;> simp [anyTo]
 ·obtain ⟨m, rfl⟩ : ∃ m, n = m + 1 := ⟨n - 1, by omega⟩
  go_enter Tryz.func161, Tryz.ntmps161
  go_wp2
  go_loopw [4, 5] (fun r i wr => ∃ k : Nat, k ≤ m ∧ i = .int .i64 (k + 1 : Nat) ∧ r = .slice none 0 0 ∧ Hid (∀ j, j < k → sm0 h j = false) ∧ Ext w wr) (fun _ i _ => m + 1 - (intOf i).toNat)
  case atStart => exact ⟨0, by omega, rfl, rfl, fun _ h => absurd h (by omega), Ext.refl _⟩
  case round =>
   obtain ⟨k, hk, rfl, rfl, hp, he⟩ := hrel
   by_cases hlt : k < m
   ·have a0 := (HA.out.ext he).cell (i := (k+1)*3) (by omega)
    have a1 := (HA.out.ext he).cell (i := (k+1)*3+1) (by omega)
    have a2 := (HA.out.ext he).cell (i := (k+1)*3+2) (by omega)
    have b0 := (HA.out.ext he).cell (i := k*3) (by omega)
    have b1 := (HA.out.ext he).cell (i := k*3+1) (by omega)
    have b2 := (HA.out.ext he).cell (i := k*3+2) (by omega)
    have hb := (HA.out.ext he).1
    go_upto_region 6 with fail
    refine wp_region_later (by kernel_rfl) (by kernel_rfl) ?_
    repeat (go_big_quiet_step ((go_at_call 162; exact Calls.later (eq6 _ _ _ _ _ _ _))))
    refine wpQuiet_nil ?_
    rintro _ ⟨⟨w2, he2⟩, rfl⟩
    cases hq : sm0 h k
    ·have hq' : (h ((k+1)*3) == h (k*3)) = false := hq
     have HQ := hid hq; clear hq
     go_wp2
     go_roundw
     case rel => exact ⟨k+1, by omega, by go_num, rfl, anyTo_step hp.out HQ.out, he.trans he2⟩
     case measure => simp [intOf]; omega
    ·have hq' : (h ((k+1)*3) == h (k*3)) = true := hq
     have HQ := hid hq; clear hq
     have A2 := hid ((HA.out.ext he).ext he2)
     clear a0 a1 a2 b0 b1 b2
     have E2 := he0.trans (he.trans he2)
     go_wp2
     go_loopw [5, 7] (fun i j wr => ∃ p q : Nat, q + 1 ≤ m - k ∧ k + 1 ≤ p ∧ p ≤ k + 1 + q ∧ i = .int .i64 p ∧ j = .int .i64 (q + 1 : Nat) ∧ (∃ h', Hid (Arr wr g ((m + 1) * 3) h')) ∧ Ext w0 wr) (fun _ j _ => m + 1 - (intOf j).toNat)
     case atStart => exact ⟨k + 1, 0, by omega, by omega, by omega, rfl, rfl, ⟨_, A2⟩, E2⟩
     case round =>
      clear he2 E2 A2
      obtain ⟨p, q, r1, r2, r3, rfl, rfl, ⟨h', A2⟩, E2⟩ := hrel
      by_cases hlt' : q + 1 < m - k
      ·have a0 := A2.out.cell (i := (k+1)*3+(q+1)*3) (by omega)
       have a1 := A2.out.cell (i := (k+1)*3+(q+1)*3+1) (by omega)
       have a2 := A2.out.cell (i := (k+1)*3+(q+1)*3+2) (by omega)
       have b0 := A2.out.cell (i := (k+1)*3+q*3) (by omega)
       have b1 := A2.out.cell (i := (k+1)*3+q*3+1) (by omega)
       have b2 := A2.out.cell (i := (k+1)*3+q*3+2) (by omega)
       have hb := A2.out.1
       go_upto_region 11 with fail
       refine wp_region_later (by kernel_rfl) (by kernel_rfl) ?_
       repeat (go_big_quiet_step ((go_at_call 162; exact Calls.later (eq6 _ _ _ _ _ _ _))))
       refine wpQuiet_nil ?_
       rintro _ ⟨⟨w2, he2⟩, rfl⟩
       have A3 := hid (A2.out.ext he2)
       have E3 := E2.trans he2
       clear a0 a1 a2 b0 b1 b2 A2 E2
       cases hq2 : (h' ((k+1)*3+(q+1)*3) == h' ((k+1)*3+q*3))
       ·have a0 := A3.out.cell (i := (k+1)*3+(q+1)*3) (by omega)
        have a1 := A3.out.cell (i := (k+1)*3+(q+1)*3+1) (by omega)
        have a2 := A3.out.cell (i := (k+1)*3+(q+1)*3+2) (by omega)
        have b0 := A3.out.cell (i := p*3) (by omega)
        have b1 := A3.out.cell (i := p*3+1) (by omega)
        have b2 := A3.out.cell (i := p*3+2) (by omega)
        have f0 := A3.out.frozen (i := p*3) (by omega)
        have f1 := A3.out.frozen (i := p*3+1) (by omega)
        have f2 := A3.out.frozen (i := p*3+2) (by omega)
        have hb := A3.out.1
        go_wp2
        go_roundw
        case rel => exact ⟨p + 1, q + 1, by omega, by omega, by omega, by go_num, by go_num, ⟨_, hid (((A3.out.set_ _ _ (by omega)).set_ _ _ (by omega)).set_ _ _ (by omega))⟩, ((E3.setCell _ hB).setCell _ hB).setCell _ hB⟩
        case measure => simp [intOf]; omega
       ·go_wp2
        go_roundw
        case rel => exact ⟨p, q + 1, by omega, by omega, by omega, rfl, by go_num, ⟨_, A3⟩, E3⟩
        case measure => simp [intOf]; omega
      ·go_wp2_with ((with_reducible refine wpList_here ⟨none, .call { callee := .builtin .clear, args := #[_], argTypes := #[22] }, _, _, _, _⟩ ?_); refine wpList_clear_arr rfl _ 22 rfl el22 (z := .agg #[.int .i64 0, .int .i64 0, .int .i64 0]) (fun _ => by kernel_rfl) rfl (g := g) (s := p * 3) (n := m + 1 - p) (cap := cap - p) rfl A2.out (by omega) ?_; intro w3 A3 E3)
       go_ret
       refine ⟨_, _, rfl, ?_, E3 _ E2 hB⟩
       rw [show m + 1 - 1 = m from rfl, anyTo_true.2 ⟨k, hlt, HQ.out⟩]; simp; omega
   ·go_wp2
    go_ret
    obtain rfl : k = m := by omega
    refine ⟨_, _, rfl, ?_, he0.trans he⟩
    rw [show k + 1 - 1 = k from rfl, anyTo_false.2 hp.out]; simp
end Go.Proofs.YtkhjmedfhobebaaGreat
