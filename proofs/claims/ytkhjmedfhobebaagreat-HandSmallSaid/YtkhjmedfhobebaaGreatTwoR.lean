/- Words for the walk of the law of checks: a slice is cleared; a watch whose slice has room in a box; counts and stretches as data. No condition. -/
import Derived.Test.YtkhjmedfhobebaaGreatDoU
import Derived.Test.YtkhjmedfhobebaaGreatOpen
namespace Go.Proofs.YtkhjmedfhobebaaGreat
open Go.RowKit HandSpec
set_option maxRecDepth 100000
/-- 'clear' of a slice that lies in a block of its own. -/
theorem wpList_clear_clr {P : Program} {w : World} {ops : Array Oper} {rest : List Oper} {o : Oper} {a : Act} {Q : Exit → Act → World → Prop} (hgd : o.guard = none) (x : Operand) (T : TypeId)
  (ho : o.op = .call { callee := .builtin .clear, args := #[x], argTypes := #[T] }) {e : TypeId} {c bytes : Nat} (hE : ElemOk P T e c bytes) {z : Value} (hz : ∀ w, (zeroValue e).run P w = .ok z w) (hzc : z.cells = Array.replicate c (.int .i64 0))
  {lo hi n cap : Nat} {D : Option Addr} {g : Nat → Nat → Int} (hx : a.eval x = .slice D n cap) (hc : Clr lo hi w D n c g) {w1 : World} (hd : Clr lo hi w1 D n c g)
  (hk : ∀ w', (∀ w0, Ext w0 w → w0.heap.size ≤ lo → Ext w0 w') → (∀ b, b < lo ∨ hi ≤ b ∨ w1.heap.size ≤ b → w'.heap[b]? = w.heap[b]?) → wpList P ops Q rest (a.put o.dst (.tuple #[])) w') :
  wpList P ops Q (o :: rest) a w := by
 refine wpList_plain hgd fun K hK => ?_
 have fin : ∀ w', (Builtin.clear_ #[T] o.type #[.slice D n cap]).run P w = .ok (.tuple #[]) w' → K (a.put o.dst (.tuple #[])) w' → Oper.wp P o a w K Q := by
  intro w' hrun hw
  unfold Oper.wp
  simp [execOp, ho, resolve, invoke, builtin, hx, hrun, Result.andThen]
  exact hw
 rcases hc with ⟨rfl, rfl⟩ | ⟨b, rfl, hlo, hhi, ha⟩
 ·exact fin w (by simp [Builtin.clear_, run_underlying hE.u]) (hK _ _ (hk w (fun _ h _ => h) fun _ _ => rfl))
 ·have hbw : b < w1.heap.size := by
   rcases hd with ⟨h, _⟩ | ⟨b', h, _, _, h4⟩
   ·cases h
   ·simp only [Option.some.injEq, Addr.mk.injEq, and_true] at h
    subst h; exact h4.1
  rcases Nat.eq_zero_or_pos n with h0 | h0
  ·subst h0
   exact fin w (by simp [Builtin.clear_, run_underlying hE.u]) (hK _ _ (hk w (fun _ h _ => h) fun _ _ => rfl))
  ·obtain ⟨m, rfl⟩ : ∃ m, n = m + 1 := ⟨n - 1, by omega⟩
   have hlen : (Builtin.zeroCells z.cells (m + 1)).toList.length = (m + 1) * c := by simp [Builtin.zeroCells, hzc]
   have hall : ∀ v ∈ (Builtin.zeroCells z.cells (m + 1)).toList, v = .int .i64 0 := by
    intro v hv
    simp [Builtin.zeroCells, hzc] at hv
    obtain ⟨i, hi, rfl⟩ := hv
    have h0c : i % c < c := Nat.mod_lt _ hE.c0
    simp [h0c]
   have hst := run_storeCells_cells (P := P) b 0 (Builtin.zeroCells z.cells (m + 1)).toList 0 w (by intro j hj; rw [ha.cell (by omega)]; rfl) (by intro j hj; exact ha.frozen (by omega)) (by intro v hv; rw [hall v hv]; rfl)
   simp only [Nat.add_zero] at hst
   refine fin (w.setCells b 0 (Builtin.zeroCells z.cells (m + 1)).toList) (by simp [Builtin.clear_, run_underlying hE.u, hz, hst]) (hK _ _ (hk _ (fun w0 q0 hg => ?_) fun k hk' => heap_cells b (by omega) _ _ _))
   exact below_setCells (show w0.heap.size ≤ b by omega) _ _ _ q0
theorem Clr.sameR {lo hi l h N : Nat} {w w' : World} {D : Option Addr} {n c : Nat} {g : Nat → Nat → Int} (q : Clr l h w D n c g) (e : ∀ b, b < lo ∨ hi ≤ b ∨ N ≤ b → w'.heap[b]? = w.heap[b]?) (hd : hi ≤ l ∨ h ≤ lo) : Clr l h w' D n c g := by
 rcases q with q | ⟨b, h1, h2, h3, h4⟩
 ·exact .inl q
 ·exact .inr ⟨b, h1, h2, h3, Arr.same h4 (e b (by omega))⟩
/-- A slice in a watch has room for its counts. -/
def CapR (n : Nat) (v : Value) : Prop := ∀ a b c A q s t, v = .agg #[a, b, c, .slice A n q, s, t] → n ≤ q
theorem CapR.of {lo : Nat} {w : World} {v : Value} {x : WD} (h : IsWF lo w v x) : CapR x.cn v := by
 obtain ⟨A1, c1, A2, c2, A3, c3, rfl, -, -, -, -, -, -, hc⟩ := h
 intro a b c A q s t e
 simp only [Value.agg.injEq, Array.mk.injEq, List.cons.injEq, Value.slice.injEq, true_and] at e
 omega
def WIR (x : WD) : MSpec := fun v lo hi w => IsWI lo hi w v x ∧ CapR x.cn v
theorem WIR.ext {x : WD} {v : Value} {lo hi : Nat} {w w' : World} (h : WIR x v lo hi w) (e : Ext w w') : WIR x v lo hi w' := ⟨h.1.ext e, h.2⟩
theorem IsWR.of {x : WD} {w : World} {A1 A2 A3 : Option Addr} {c1 c2 c3 : Nat} (h : IsW w (.agg #[.int .i64 x.hours, .int .i64 x.allow, .int .i64 x.hands, .slice A1 x.cn c1, .slice A2 x.bn c2, .slice A3 x.sn c3]) x) (hc : x.cn ≤ c1) :
  IsWR w (.agg #[.int .i64 x.hours, .int .i64 x.allow, .int .i64 x.hands, .slice A1 x.cn c1, .slice A2 x.bn c2, .slice A3 x.sn c3]) x := by
 obtain ⟨B1, d1, B2, d2, B3, d3, e, h1, h2, h3⟩ := h
 simp only [Value.agg.injEq, Array.mk.injEq, List.cons.injEq, Value.slice.injEq, true_and, and_true] at e
 obtain ⟨⟨rfl, rfl⟩, ⟨rfl, rfl⟩, ⟨rfl, rfl⟩⟩ := e
 exact ⟨_, _, _, _, _, _, rfl, h1, h2, h3, hc⟩
def Box6R (t : TypeId) (W : World) (g : Nat) (x : WD) : Prop :=
 ∃ A1 c1 A2 c2 A3 c3, Blk W g t #[.int .i64 x.hours, .int .i64 x.allow, .int .i64 x.hands, .slice A1 x.cn c1, .slice A2 x.bn c2, .slice A3 x.sn c3] ∧ IsW W (.agg #[.int .i64 x.hours, .int .i64 x.allow, .int .i64 x.hands, .slice A1 x.cn c1, .slice A2 x.bn c2, .slice A3 x.sn c3]) x ∧ x.cn ≤ c1
theorem boxesR {x : WD} {w1 W : World} {la ha lb hb G H : Nat} {A1 A2 A3 D1 D2 D3 : Option Addr} {q1 q2 q3 p1 p2 p3 : Nat} {z0 z1 z2 z3 z4 z5 y0 y1 y2 y3 y4 y5 : Value} (e1 : Ext w1 W)
  (va : IsWI la ha W (.agg #[.int .i64 x.hours, .int .i64 x.allow, .int .i64 x.hands, .slice A1 x.cn q1, .slice A2 x.bn q2, .slice A3 x.sn q3]) x) (hc : x.cn ≤ q1) (vb : IsWI lb hb W (.agg #[.int .i64 x.hours, .int .i64 x.allow, .int .i64 x.hands, .slice D1 x.cn p1, .slice D2 x.bn p2, .slice D3 x.sn p3]) x)
  (sa : ha ≤ W.heap.size) (sb : hb ≤ W.heap.size) (hG : Blk W G 26 #[z0, z1, z2, z3, z4, z5]) (hH : Blk W H 34 #[y0, y1, y2, y3, y4, y5]) (hn : G ≠ H) (hG1 : w1.heap.size ≤ G) (hH1 : w1.heap.size ≤ H)
  (maG : ha ≤ G ∨ G < la) (maH : ha ≤ H ∨ H < la) (mbG : hb ≤ G ∨ G < lb) (mbH : hb ≤ H ∨ H < lb) :
  Boxes x w1 G H (fun b => b = G ∨ b = H) W ((((((((((((W.setCell ⟨G, 0, none⟩ (.int .i64 x.hours)).setCell ⟨G, 1, none⟩ (.int .i64 x.allow)).setCell ⟨G, 2, none⟩ (.int .i64 x.hands)).setCell ⟨G, 3, none⟩ (.slice A1 x.cn q1)).setCell ⟨G, 4, none⟩ (.slice A2 x.bn q2)).setCell ⟨G, 5, none⟩ (.slice A3 x.sn q3)).setCell ⟨H, 0, none⟩ (.int .i64 x.hours)).setCell ⟨H, 1, none⟩ (.int .i64 x.allow)).setCell ⟨H, 2, none⟩ (.int .i64 x.hands)).setCell ⟨H, 3, none⟩ (.slice D1 x.cn p1)).setCell ⟨H, 4, none⟩ (.slice D2 x.bn p2)).setCell ⟨H, 5, none⟩ (.slice D3 x.sn p3)) ∧
  Box6R 26 ((((((((((((W.setCell ⟨G, 0, none⟩ (.int .i64 x.hours)).setCell ⟨G, 1, none⟩ (.int .i64 x.allow)).setCell ⟨G, 2, none⟩ (.int .i64 x.hands)).setCell ⟨G, 3, none⟩ (.slice A1 x.cn q1)).setCell ⟨G, 4, none⟩ (.slice A2 x.bn q2)).setCell ⟨G, 5, none⟩ (.slice A3 x.sn q3)).setCell ⟨H, 0, none⟩ (.int .i64 x.hours)).setCell ⟨H, 1, none⟩ (.int .i64 x.allow)).setCell ⟨H, 2, none⟩ (.int .i64 x.hands)).setCell ⟨H, 3, none⟩ (.slice D1 x.cn p1)).setCell ⟨H, 4, none⟩ (.slice D2 x.bn p2)).setCell ⟨H, 5, none⟩ (.slice D3 x.sn p3)) G x := by
 obtain ⟨k1, k2⟩ := blk12 hG hH hn (.int .i64 x.hours) (.int .i64 x.allow) (.int .i64 x.hands) (.slice A1 x.cn q1) (.slice A2 x.bn q2) (.slice A3 x.sn q3) (.int .i64 x.hours) (.int .i64 x.allow) (.int .i64 x.hands) (.slice D1 x.cn p1) (.slice D2 x.bn p2) (.slice D3 x.sn p3)
 have hk := set12 (n := W.heap.size) (G := G) (H := H) W (.int .i64 x.hours) (.int .i64 x.allow) (.int .i64 x.hands) (.slice A1 x.cn q1) (.slice A2 x.bn q2) (.slice A3 x.sn q3) (.int .i64 x.hours) (.int .i64 x.allow) (.int .i64 x.hands) (.slice D1 x.cn p1) (.slice D2 x.bn p2) (.slice D3 x.sn p3)
 refine ⟨boxes e1 va vb sa sb hG hH hn hG1 hH1 maG maH mbG mbH, _, _, _, _, _, _, k1, ?_, hc⟩
 exact (va.kpm hk sa (by rintro b h1 h2 (rfl | rfl) <;> omega)).isW
/-- A count, and a stretch, as data. -/
theorem open79 {H : Type} {enc : TypeId × Value → H} {w : World} {base : Nat} {spare : Nat → Bool} {held : Bool} {r : Reach} {b0 : Nat} {v : Value} {d : DataW H} {p : List MemPlace} (hv : Value.okWide Tryz.prog w r b0 79 v) (h : DataW.Trod enc Tryz.prog w base spare held 79 v d p) : ∃ a b c : Int, v = .agg #[.int .i64 a, .int .i64 b, .int .i64 c] := by
 obtain ⟨⟨l⟩, rfl, hsz⟩ := Go.WideShapes.okWide_struct Tryz.underlying79 hv
 rw [cells79] at hsz
 match l, hsz with
 | [c0, c1, c2], _ =>
  obtain ⟨fuel, hf⟩ := h
  have hi := (ints79 hf).2
  obtain ⟨a, e0⟩ := hi 0 (by omega)
  obtain ⟨b, e1⟩ := hi 1 (by omega)
  obtain ⟨c, e2⟩ := hi 2 (by omega)
  simp [Value.cells] at e0 e1 e2
  subst e0 e1 e2
  exact ⟨a, b, c, rfl⟩
theorem open51 {H : Type} {enc : TypeId × Value → H} {w : World} {base : Nat} {spare : Nat → Bool} {held : Bool} {r : Reach} {b0 : Nat} {v : Value} {d : DataW H} {p : List MemPlace} (hv : Value.okWide Tryz.prog w r b0 51 v) (h : DataW.Trod enc Tryz.prog w base spare held 51 v d p) : ∃ a b : Int, v = .agg #[.int .i64 a, .int .i64 b] := by
 obtain ⟨⟨l⟩, rfl, hsz⟩ := Go.WideShapes.okWide_struct Tryz.underlying51 hv
 rw [cells51] at hsz
 match l, hsz with
 | [c0, c1], _ =>
  obtain ⟨fuel, hf⟩ := h
  have hi := (ints51 hf).2
  obtain ⟨a, e0⟩ := hi 0 (by omega)
  obtain ⟨b, e1⟩ := hi 1 (by omega)
  simp [Value.cells] at e0 e1
  subst e0 e1
  exact ⟨a, b, rfl⟩
end Go.Proofs.YtkhjmedfhobebaaGreat
