/- What the laws' first statement leaves: two copies of a watch in boxes of their own. No condition. -/
import Derived.Test.YtkhjmedfhobebaaGreatCore
import Derived.Test.YtkhjmedfhobebaaGreatLawD
import Derived.Test.YtkhjmedfhobebaaGreatLawC
namespace Go.Proofs.YtkhjmedfhobebaaGreat
open Go.RowKit HandSpec
set_option maxHeartbeats 800000
set_option maxRecDepth 100000
/-- A rule for sizes. -/
theorem _root_.Go.Ext.less {w w' : World} (e : Ext w w') : ∀ n, n < w.heap.size → n < w'.heap.size := fun _ h => Nat.lt_of_lt_of_le h e.size
theorem sz_drew (w : World) : w.drew.heap.size = w.heap.size := rfl
theorem sz_alloc (w : World) (o : Obj) : (w.alloc o).heap.size = w.heap.size + 1 := by simp
theorem set12 {n : Nat} {G H : Nat} (W : World) (a b c d e f a' b' c' d' e' f' : Value) :
    KpM n (fun k => k = G ∨ k = H) W ((((((((((((W.setCell ⟨G, 0, none⟩ a).setCell ⟨G, 1, none⟩ b).setCell ⟨G, 2, none⟩ c).setCell ⟨G, 3, none⟩ d).setCell ⟨G, 4, none⟩ e).setCell ⟨G, 5, none⟩ f).setCell ⟨H, 0, none⟩ a').setCell ⟨H, 1, none⟩ b').setCell ⟨H, 2, none⟩ c').setCell ⟨H, 3, none⟩ d').setCell ⟨H, 4, none⟩ e').setCell ⟨H, 5, none⟩ f') :=
  (((((((((((KpM.setCell W a (p := ⟨G, 0, none⟩) (.inr (.inl rfl))).trans (KpM.setCell _ b (p := ⟨G, 1, none⟩) (.inr (.inl rfl)))).trans (KpM.setCell _ c (p := ⟨G, 2, none⟩) (.inr (.inl rfl)))).trans (KpM.setCell _ d (p := ⟨G, 3, none⟩) (.inr (.inl rfl)))).trans (KpM.setCell _ e (p := ⟨G, 4, none⟩) (.inr (.inl rfl)))).trans (KpM.setCell _ f (p := ⟨G, 5, none⟩) (.inr (.inl rfl)))).trans
    (KpM.setCell _ a' (p := ⟨H, 0, none⟩) (.inr (.inr rfl)))).trans (KpM.setCell _ b' (p := ⟨H, 1, none⟩) (.inr (.inr rfl)))).trans (KpM.setCell _ c' (p := ⟨H, 2, none⟩) (.inr (.inr rfl)))).trans (KpM.setCell _ d' (p := ⟨H, 3, none⟩) (.inr (.inr rfl)))).trans (KpM.setCell _ e' (p := ⟨H, 4, none⟩) (.inr (.inr rfl)))).trans (KpM.setCell _ f' (p := ⟨H, 5, none⟩) (.inr (.inr rfl)))
theorem ext12 {w W : World} (hw : Ext w W) {G H : Nat} (hG : w.heap.size ≤ G) (hH : w.heap.size ≤ H) (a b c d e f a' b' c' d' e' f' : Value) :
    Ext w ((((((((((((W.setCell ⟨G, 0, none⟩ a).setCell ⟨G, 1, none⟩ b).setCell ⟨G, 2, none⟩ c).setCell ⟨G, 3, none⟩ d).setCell ⟨G, 4, none⟩ e).setCell ⟨G, 5, none⟩ f).setCell ⟨H, 0, none⟩ a').setCell ⟨H, 1, none⟩ b').setCell ⟨H, 2, none⟩ c').setCell ⟨H, 3, none⟩ d').setCell ⟨H, 4, none⟩ e').setCell ⟨H, 5, none⟩ f') :=
  (((((((((((hw.setCell a (p := ⟨G, 0, none⟩) hG).setCell b (p := ⟨G, 1, none⟩) hG).setCell c (p := ⟨G, 2, none⟩) hG).setCell d (p := ⟨G, 3, none⟩) hG).setCell e (p := ⟨G, 4, none⟩) hG).setCell f (p := ⟨G, 5, none⟩) hG).setCell a' (p := ⟨H, 0, none⟩) hH).setCell b' (p := ⟨H, 1, none⟩) hH).setCell c' (p := ⟨H, 2, none⟩) hH).setCell d' (p := ⟨H, 3, none⟩) hH).setCell e' (p := ⟨H, 4, none⟩) hH).setCell f' (p := ⟨H, 5, none⟩) hH
theorem blk12 {W : World} {G H : Nat} {t u : TypeId} {z0 z1 z2 z3 z4 z5 y0 y1 y2 y3 y4 y5 : Value} (h1 : Blk W G t #[z0, z1, z2, z3, z4, z5]) (h2 : Blk W H u #[y0, y1, y2, y3, y4, y5]) (hne : G ≠ H) (a b c d e f a' b' c' d' e' f' : Value) :
    Blk ((((((((((((W.setCell ⟨G, 0, none⟩ a).setCell ⟨G, 1, none⟩ b).setCell ⟨G, 2, none⟩ c).setCell ⟨G, 3, none⟩ d).setCell ⟨G, 4, none⟩ e).setCell ⟨G, 5, none⟩ f).setCell ⟨H, 0, none⟩ a').setCell ⟨H, 1, none⟩ b').setCell ⟨H, 2, none⟩ c').setCell ⟨H, 3, none⟩ d').setCell ⟨H, 4, none⟩ e').setCell ⟨H, 5, none⟩ f') G t #[a, b, c, d, e, f] ∧
    Blk ((((((((((((W.setCell ⟨G, 0, none⟩ a).setCell ⟨G, 1, none⟩ b).setCell ⟨G, 2, none⟩ c).setCell ⟨G, 3, none⟩ d).setCell ⟨G, 4, none⟩ e).setCell ⟨G, 5, none⟩ f).setCell ⟨H, 0, none⟩ a').setCell ⟨H, 1, none⟩ b').setCell ⟨H, 2, none⟩ c').setCell ⟨H, 3, none⟩ d').setCell ⟨H, 4, none⟩ e').setCell ⟨H, 5, none⟩ f') H u #[a', b', c', d', e', f'] := by
  have n2 : H ≠ G := fun h => hne h.symm
  constructor
  · exact ((((((((((((h1.set_ 0 a).set_ 1 b).set_ 2 c).set_ 3 d).set_ 4 e).set_ 5 f).far (p := ⟨H, 0, none⟩) hne a').far (p := ⟨H, 1, none⟩) hne b').far (p := ⟨H, 2, none⟩) hne c').far (p := ⟨H, 3, none⟩) hne d').far (p := ⟨H, 4, none⟩) hne e').far (p := ⟨H, 5, none⟩) hne f')
  · exact ((((((((((((h2.far (p := ⟨G, 0, none⟩) n2 a).far (p := ⟨G, 1, none⟩) n2 b).far (p := ⟨G, 2, none⟩) n2 c).far (p := ⟨G, 3, none⟩) n2 d).far (p := ⟨G, 4, none⟩) n2 e).far (p := ⟨G, 5, none⟩) n2 f).set_ 0 a').set_ 1 b').set_ 2 c').set_ 3 d').set_ 4 e').set_ 5 f')
/-- A box that holds a watch. -/
def Box6 (t : TypeId) (W : World) (g : Nat) (x : WD) : Prop :=
  ∃ A1 c1 A2 c2 A3 c3, Blk W g t #[.int .i64 x.hours, .int .i64 x.allow, .int .i64 x.hands, .slice A1 x.cn c1, .slice A2 x.bn c2, .slice A3 x.sn c3] ∧ IsW W (.agg #[.int .i64 x.hours, .int .i64 x.allow, .int .i64 x.hands, .slice A1 x.cn c1, .slice A2 x.bn c2, .slice A3 x.sn c3]) x
end Go.Proofs.YtkhjmedfhobebaaGreat
namespace Go.Proofs.YtkhjmedfhobebaaGreat
open Go.RowKit HandSpec
set_option maxRecDepth 100000
/-- A slice's block lies between two numbers. -/
def InI (lo hi : Nat) (A : Option Addr) : Prop := ∀ b o, A = some ⟨b, o, none⟩ → lo ≤ b ∧ b < hi
/-- A watch whose slices lie between two numbers. -/
def IsWI (lo hi : Nat) (w : World) (v : Value) (x : WD) : Prop :=
  ∃ A1 c1 A2 c2 A3 c3, v = .agg #[.int .i64 x.hours, .int .i64 x.allow, .int .i64 x.hands, .slice A1 x.cn c1, .slice A2 x.bn c2, .slice A3 x.sn c3] ∧
    Rd w A1 x.cn 3 x.c ∧ Rd w A2 x.bn 2 x.b ∧ Rd w A3 x.sn 3 x.s ∧ InI lo hi A1 ∧ InI lo hi A2 ∧ InI lo hi A3
theorem IsWI.of {lo : Nat} {w : World} {v : Value} {x : WD} (h : IsWF lo w v x) : IsWI lo w.heap.size w v x := by
  obtain ⟨A1, c1, A2, c2, A3, c3, hv, h1, h2, h3, l1, l2, l3, -⟩ := h
  exact ⟨A1, c1, A2, c2, A3, c3, hv, h1, h2, h3, l1, l2, l3⟩
theorem IsWI.ext {lo hi : Nat} {w w' : World} {v : Value} {x : WD} (h : IsWI lo hi w v x) (e : Ext w w') : IsWI lo hi w' v x := by
  obtain ⟨A1, c1, A2, c2, A3, c3, hv, h1, h2, h3, l1, l2, l3⟩ := h
  exact ⟨A1, c1, A2, c2, A3, c3, hv, h1.ext e, h2.ext e, h3.ext e, l1, l2, l3⟩
theorem IsWI.isW {lo hi : Nat} {w : World} {v : Value} {x : WD} (h : IsWI lo hi w v x) : IsW w v x := by
  obtain ⟨A1, c1, A2, c2, A3, c3, hv, h1, h2, h3, -, -, -⟩ := h
  exact ⟨A1, c1, A2, c2, A3, c3, hv, h1, h2, h3⟩
theorem IsWI.kpm {lo hi : Nat} {W W' : World} {v : Value} {x : WD} {M : Nat → Prop} (h : IsWI lo hi W v x) (k : KpM W.heap.size M W W') (hh : hi ≤ W.heap.size) (hM : ∀ b, lo ≤ b → b < hi → ¬ M b) : IsWI lo hi W' v x := by
  obtain ⟨A1, c1, A2, c2, A3, c3, hv, h1, h2, h3, l1, l2, l3⟩ := h
  exact ⟨A1, c1, A2, c2, A3, c3, hv, h1.kpm k fun b o e => ⟨by have := (l1 b o e).2; omega, hM b (l1 b o e).1 (l1 b o e).2⟩, h2.kpm k fun b o e => ⟨by have := (l2 b o e).2; omega, hM b (l2 b o e).1 (l2 b o e).2⟩, h3.kpm k fun b o e => ⟨by have := (l3 b o e).2; omega, hM b (l3 b o e).1 (l3 b o e).2⟩, l1, l2, l3⟩
/-- A slice of rows between two numbers. -/
def SlI (n c : Nat) (g : Nat → Nat → Int) : MSpec := fun v lo hi w => ∃ D q, v = .slice D n q ∧ Rd w D n c g ∧ InI lo hi D
theorem SlI.ext {n c : Nat} {g : Nat → Nat → Int} {v : Value} {lo hi : Nat} {w w' : World} (h : SlI n c g v lo hi w) (e : Ext w w') : SlI n c g v lo hi w' := by
  obtain ⟨D, q, hv, hr, hi⟩ := h
  exact ⟨D, q, hv, hr.ext e, hi⟩
theorem SlI.of {B : Nat} {w : World} {t : TypeId} {c n : Nat} {g : Nat → Nat → Int} {v : Value} (h : OwnR w B t c v (rowsG c n g)) : SlI n c g v B w.heap.size w := by
  obtain ⟨D, q, rfl, -⟩ := h.slR
  have hd := OwnR.rd_kpm (M := fun _ => False) h (KpM.refl _) (fun _ h => h.elim) (rowsG_length _ _ _)
  exact ⟨D, q, by rw [rowsG_length], hd, h.place⟩
/-- A new box of these cells. -/
def PtI (t : TypeId) (C : Array Value) : MSpec := fun v lo hi w => v = .pointer (some ⟨lo, 0, none⟩) ∧ hi = lo + 1 ∧ Blk w lo t C
theorem PtI.ext {t : TypeId} {C : Array Value} {v : Value} {lo hi : Nat} {w w' : World} (h : PtI t C v lo hi w) (e : Ext w w') : PtI t C v lo hi w' := ⟨h.1, h.2.1, h.2.2.ext e⟩
/-- The two boxes behind the stores. -/
def Boxes (x : WD) (w1 : World) (G H : Nat) (M : Nat → Prop) (W W' : World) : Prop := Ext w1 W' ∧ Box6 26 W' G x ∧ Box6 34 W' H x ∧ KpM W.heap.size M W W'
theorem boxes {x : WD} {w1 W : World} {la ha lb hb G H : Nat} {A1 A2 A3 D1 D2 D3 : Option Addr} {q1 q2 q3 p1 p2 p3 : Nat} {z0 z1 z2 z3 z4 z5 y0 y1 y2 y3 y4 y5 : Value} (e1 : Ext w1 W)
    (va : IsWI la ha W (.agg #[.int .i64 x.hours, .int .i64 x.allow, .int .i64 x.hands, .slice A1 x.cn q1, .slice A2 x.bn q2, .slice A3 x.sn q3]) x) (vb : IsWI lb hb W (.agg #[.int .i64 x.hours, .int .i64 x.allow, .int .i64 x.hands, .slice D1 x.cn p1, .slice D2 x.bn p2, .slice D3 x.sn p3]) x)
    (sa : ha ≤ W.heap.size) (sb : hb ≤ W.heap.size) (hG : Blk W G 26 #[z0, z1, z2, z3, z4, z5]) (hH : Blk W H 34 #[y0, y1, y2, y3, y4, y5]) (hn : G ≠ H) (hG1 : w1.heap.size ≤ G) (hH1 : w1.heap.size ≤ H)
    (maG : ha ≤ G ∨ G < la) (maH : ha ≤ H ∨ H < la) (mbG : hb ≤ G ∨ G < lb) (mbH : hb ≤ H ∨ H < lb) :
    Boxes x w1 G H (fun b => b = G ∨ b = H) W ((((((((((((W.setCell ⟨G, 0, none⟩ (.int .i64 x.hours)).setCell ⟨G, 1, none⟩ (.int .i64 x.allow)).setCell ⟨G, 2, none⟩ (.int .i64 x.hands)).setCell ⟨G, 3, none⟩ (.slice A1 x.cn q1)).setCell ⟨G, 4, none⟩ (.slice A2 x.bn q2)).setCell ⟨G, 5, none⟩ (.slice A3 x.sn q3)).setCell ⟨H, 0, none⟩ (.int .i64 x.hours)).setCell ⟨H, 1, none⟩ (.int .i64 x.allow)).setCell ⟨H, 2, none⟩ (.int .i64 x.hands)).setCell ⟨H, 3, none⟩ (.slice D1 x.cn p1)).setCell ⟨H, 4, none⟩ (.slice D2 x.bn p2)).setCell ⟨H, 5, none⟩ (.slice D3 x.sn p3)) := by
  obtain ⟨k1, k2⟩ := blk12 hG hH hn (.int .i64 x.hours) (.int .i64 x.allow) (.int .i64 x.hands) (.slice A1 x.cn q1) (.slice A2 x.bn q2) (.slice A3 x.sn q3) (.int .i64 x.hours) (.int .i64 x.allow) (.int .i64 x.hands) (.slice D1 x.cn p1) (.slice D2 x.bn p2) (.slice D3 x.sn p3)
  have hk := set12 (n := W.heap.size) (G := G) (H := H) W (.int .i64 x.hours) (.int .i64 x.allow) (.int .i64 x.hands) (.slice A1 x.cn q1) (.slice A2 x.bn q2) (.slice A3 x.sn q3) (.int .i64 x.hours) (.int .i64 x.allow) (.int .i64 x.hands) (.slice D1 x.cn p1) (.slice D2 x.bn p2) (.slice D3 x.sn p3)
  refine ⟨ext12 e1 hG1 hH1 _ _ _ _ _ _ _ _ _ _ _ _, ⟨_, _, _, _, _, _, k1, ?_⟩, ⟨_, _, _, _, _, _, k2, ?_⟩, hk⟩
  · exact (va.kpm hk sa (by rintro b h1 h2 (rfl | rfl) <;> omega)).isW
  · exact (vb.kpm hk sb (by rintro b h1 h2 (rfl | rfl) <;> omega)).isW
theorem SlI.kpm {n c : Nat} {g : Nat → Nat → Int} {v : Value} {lo hi : Nat} {W W' : World} {M : Nat → Prop} (h : SlI n c g v lo hi W) (k : KpM W.heap.size M W W') (hh : hi ≤ W.heap.size) (hM : ∀ b, lo ≤ b → b < hi → ¬ M b) : SlI n c g v lo hi W' := by
  obtain ⟨D, q, hv, hr, l⟩ := h
  exact ⟨D, q, hv, hr.kpm k fun b o e => ⟨by have := (l b o e).2; omega, hM b (l b o e).1 (l b o e).2⟩, l⟩
def z26 : Array Value := #[.int .i64 0, .int .i64 0, .int .i64 0, .slice none 0 0, .slice none 0 0, .slice none 0 0]
/-- A slice of rows. -/
def SlV (n c : Nat) (g : Nat → Nat → Int) : MSpec := fun v _ _ w => ∃ D q, v = .slice D n q ∧ Rd w D n c g
theorem SlV.ext {n c : Nat} {g : Nat → Nat → Int} {v : Value} {lo hi : Nat} {w w' : World} (h : SlV n c g v lo hi w) (e : Ext w w') : SlV n c g v lo hi w' := by
  obtain ⟨D, q, hv, hr⟩ := h
  exact ⟨D, q, hv, hr.ext e⟩
theorem SlR.of_rd {w : World} {A : Option Addr} {n c cap : Nat} {g : Nat → Nat → Int} (h : Rd w A n c g) : SlR w c (.slice A n cap) (rowsG c n g) :=
  ⟨A, cap, by rw [rowsG_length], by rw [rowsG_length]; exact h.congr fun k hk j hj => (rowsG_at hk hj).symm⟩
theorem parts30v {w : World} {A : Option Addr} {n cap : Nat} {g : Nat → Nat → Int} (h : Rd w A n 2 g) (hn : n ≤ 1000) :
    Calls Tryz.prog 30 #[.slice A n cap] w fun e w' => ∃ u, e = .returned u ∧ Ext w w' ∧ SlV n 2 g u w.heap.size w'.heap.size w' := by
  refine (parts30 (SlR.of_rd (cap := cap) h) (by rw [rowsG_length]; exact hn)).mono ?_
  rintro e w' ⟨u, rfl, he, l', ⟨D, q, rfl, hr⟩, hl, hg⟩
  rw [rowsG_length] at hl hg
  refine ⟨_, rfl, he, D, q, by rw [hl], ?_⟩
  rw [hl] at hr
  exact hr.congr fun k hk j hj => by rw [hg k hk j hj, rowsG_at hk hj]
theorem eqB_refl (c n : Nat) (g : Nat → Nat → Int) : eqB c n n g g = true := by
  unfold eqB
  rw [decide_eq_true rfl, anyTo_false.2 fun k _ => ?_]
  · rfl
  · unfold neB
    rw [anyTo_false]
    intro j _
    simp
end Go.Proofs.YtkhjmedfhobebaaGreat
