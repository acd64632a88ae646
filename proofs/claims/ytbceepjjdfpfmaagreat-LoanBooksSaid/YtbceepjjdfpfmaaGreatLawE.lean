/- What the laws of ledgers begin with: a ledger of their own, and the reference's. No condition. -/
import Derived.Test.YtbceepjjdfpfmaaGreatAwk
import Derived.Test.YtbceepjjdfpfmaaGreatLawC
import Derived.Test.YtbceepjjdfpfmaaGreatRefD
import Derived.Test.YtbceepjjdfpfmaaGreatChkR
namespace Go.Proofs.YtbceepjjdfpfmaaGreat
open Go.RowKit HandSpec LoanSpec
set_option maxHeartbeats 4000000
set_option maxRecDepth 100000
theorem InA.of {lo hi hi' : Nat} {p : LA} (h : InA lo hi p) (e : hi ≤ hi') : InA lo hi' p := ⟨fun b o q => ⟨(h.a1 b o q).1, Nat.lt_of_lt_of_le (h.a1 b o q).2 e⟩, fun b o q => ⟨(h.a2 b o q).1, Nat.lt_of_lt_of_le (h.a2 b o q).2 e⟩, fun b o q => ⟨(h.a3 b o q).1, Nat.lt_of_lt_of_le (h.a3 b o q).2 e⟩, fun b o q => ⟨(h.a4 b o q).1, Nat.lt_of_lt_of_le (h.a4 b o q).2 e⟩, fun b o q => ⟨(h.a5 b o q).1, Nat.lt_of_lt_of_le (h.a5 b o q).2 e⟩⟩
/-- A ledger of one's own, in blocks of its own. -/
def OwnI (x : LD) : MSpec := fun v lo hi w => ∃ p, v = ledV x p ∧ IsLA w x p ∧ x.pn ≤ p.c4 ∧ InA lo hi p
theorem OwnI.ext {x : LD} {v : Value} {lo hi : Nat} {w w' : World} (h : OwnI x v lo hi w) (e : Ext w w') : OwnI x v lo hi w' := by
  obtain ⟨p, h1, h2, h3, h4⟩ := h
  exact ⟨p, h1, h2.ext e, h3, h4⟩
/-- The reference's ledger: two lists are the given ones. -/
def ThI (x : LD) (A1 : Option Addr) (c1 : Nat) (A2 : Option Addr) (c2 : Nat) : MSpec := fun v lo hi w => ∃ A3 c3 A4 c4 A5 c5, v = ledV x ⟨A1, c1, A2, c2, A3, c3, A4, c4, A5, c5⟩ ∧ IsLA w x ⟨A1, c1, A2, c2, A3, c3, A4, c4, A5, c5⟩ ∧
  (∀ b o, A3 = some ⟨b, o, none⟩ → lo ≤ b ∧ b < hi) ∧ (∀ b o, A4 = some ⟨b, o, none⟩ → lo ≤ b ∧ b < hi) ∧ (∀ b o, A5 = some ⟨b, o, none⟩ → lo ≤ b ∧ b < hi)
theorem ThI.ext {x : LD} {A1 A2 : Option Addr} {c1 c2 : Nat} {v : Value} {lo hi : Nat} {w w' : World} (h : ThI x A1 c1 A2 c2 v lo hi w) (e : Ext w w') : ThI x A1 c1 A2 c2 v lo hi w' := by
  obtain ⟨A3, c3, A4, c4, A5, c5, h1, h2, h3⟩ := h
  exact ⟨A3, c3, A4, c4, A5, c5, h1, h2.ext e, h3⟩
theorem ledV_inj {x : LD} {p q : LA} (h : ledV x p = ledV x q) : p = q := by
  obtain ⟨A1, c1, A2, c2, A3, c3, A4, c4, A5, c5⟩ := p
  obtain ⟨B1, d1, B2, d2, B3, d3, B4, d4, B5, d5⟩ := q
  simp [ledV] at h
  obtain ⟨⟨rfl, rfl⟩, ⟨rfl, rfl⟩, ⟨rfl, rfl⟩, ⟨rfl, rfl⟩, rfl, rfl⟩ := h
  rfl
theorem OwnI.fix {x : LD} {p : LA} {lo hi : Nat} {w : World} (h : OwnI x (ledV x p) lo hi w) : IsLA w x p ∧ x.pn ≤ p.c4 ∧ InA lo hi p := by
  obtain ⟨p', h1, h2⟩ := h
  obtain rfl := ledV_inj h1
  exact h2
theorem ThI.fix {x : LD} {A1 A2 A3 A4 A5 : Option Addr} {c1 c2 c3 c4 c5 lo hi : Nat} {w : World} (h : ThI x A1 c1 A2 c2 (ledV x ⟨A1, c1, A2, c2, A3, c3, A4, c4, A5, c5⟩) lo hi w) : IsLA w x ⟨A1, c1, A2, c2, A3, c3, A4, c4, A5, c5⟩ ∧
    (∀ b o, A3 = some ⟨b, o, none⟩ → lo ≤ b ∧ b < hi) ∧ (∀ b o, A4 = some ⟨b, o, none⟩ → lo ≤ b ∧ b < hi) ∧ (∀ b o, A5 = some ⟨b, o, none⟩ → lo ≤ b ∧ b < hi) := by
  obtain ⟨B3, d3, B4, d4, B5, d5, h1, h2⟩ := h
  have := ledV_inj h1
  simp only [LA.mk.injEq, true_and] at this
  obtain ⟨rfl, rfl, rfl, rfl, rfl, rfl⟩ := this
  exact h2
/-- The law's ledgers: its own in a box, the reference's in another one. -/
structure Desks (x : LD) (w : World) (G H : Nat) (p q : LA) (W : World) : Prop where
  e : Ext w W
  g : Blk W G 27 (ledC x p)
  h : Blk W H 35 (ledC x q)
  o : IsLA W x p
  t : IsLA W x q
theorem Desks.ext {x : LD} {w W W' : World} {G H : Nat} {p q : LA} (h : Desks x w G H p q W) (e : Ext W W') : Desks x w G H p q W' := ⟨h.e.trans e, h.g.ext e, h.h.ext e, h.o.ext e, h.t.ext e⟩
theorem ch7 (W : World) (H : Nat) (a b c d e f g : Value) : Ch (fun k => k = H) W (((((((W.setCell ⟨H, 0, none⟩ a).setCell ⟨H, 1, none⟩ b).setCell ⟨H, 2, none⟩ c).setCell ⟨H, 3, none⟩ d).setCell ⟨H, 4, none⟩ e).setCell ⟨H, 5, none⟩ f).setCell ⟨H, 6, none⟩ g) := Ch.ofKpM (set7 (n := W.heap.size) W a b c d e f g)
theorem blk7 {W : World} {H : Nat} {t : TypeId} {z0 z1 z2 z3 z4 z5 z6 : Value} (h : Blk W H t #[z0, z1, z2, z3, z4, z5, z6]) (a b c d e f g : Value) : Blk (((((((W.setCell ⟨H, 0, none⟩ a).setCell ⟨H, 1, none⟩ b).setCell ⟨H, 2, none⟩ c).setCell ⟨H, 3, none⟩ d).setCell ⟨H, 4, none⟩ e).setCell ⟨H, 5, none⟩ f).setCell ⟨H, 6, none⟩ g) H t #[a, b, c, d, e, f, g] :=
  ((((((h.set_ 0 a).set_ 1 b).set_ 2 c).set_ 3 d).set_ 4 e).set_ 5 f).set_ 6 g
theorem ext7G {w W : World} (hw : Ext w W) {G : Nat} (hG : w.heap.size ≤ G) (a b c d e f g : Value) : Ext w (((((((W.setCell ⟨G, 0, none⟩ a).setCell ⟨G, 1, none⟩ b).setCell ⟨G, 2, none⟩ c).setCell ⟨G, 3, none⟩ d).setCell ⟨G, 4, none⟩ e).setCell ⟨G, 5, none⟩ f).setCell ⟨G, 6, none⟩ g) :=
  ((((((hw.setCell a (p := ⟨G, 0, none⟩) hG).setCell b (p := ⟨G, 1, none⟩) hG).setCell c (p := ⟨G, 2, none⟩) hG).setCell d (p := ⟨G, 3, none⟩) hG).setCell e (p := ⟨G, 4, none⟩) hG).setCell f (p := ⟨G, 5, none⟩) hG).setCell g (p := ⟨G, 6, none⟩) hG
/-- Behind the stores. -/
theorem desks {x : LD} {w W : World} {la ha lb hb G H : Nat} {p : LA} {A1 A2 : Option Addr} {c1 c2 : Nat} {A3 A4 A5 : Option Addr} {c3 c4 c5 : Nat} {z0 z1 z2 z3 z4 z5 z6 y0 y1 y2 y3 y4 y5 y6 : Value} (e : Ext w W)
    (r1 : Rd w A1 x.bn 1 (fun k _ => x.bad k)) (r2 : Rd w A2 x.fn 1 (fun k _ => x.fo k))
    (vo : IsLA W x p) (io : InA la ha p) (vt : IsLA W x ⟨A1, c1, A2, c2, A3, c3, A4, c4, A5, c5⟩) (i3 : ∀ b o, A3 = some ⟨b, o, none⟩ → lb ≤ b ∧ b < hb) (i4 : ∀ b o, A4 = some ⟨b, o, none⟩ → lb ≤ b ∧ b < hb) (i5 : ∀ b o, A5 = some ⟨b, o, none⟩ → lb ≤ b ∧ b < hb)
    (sa : ha ≤ W.heap.size) (sb : hb ≤ W.heap.size) (hG : Blk W G 27 #[z0, z1, z2, z3, z4, z5, z6]) (hH : Blk W H 35 #[y0, y1, y2, y3, y4, y5, y6]) (hn : G ≠ H) (hG1 : w.heap.size ≤ G) (hH1 : w.heap.size ≤ H)
    (maG : ha ≤ G ∨ G < la) (maH : ha ≤ H ∨ H < la) (mbG : hb ≤ G ∨ G < lb) (mbH : hb ≤ H ∨ H < lb) :
    Desks x w G H p ⟨A1, c1, A2, c2, A3, c3, A4, c4, A5, c5⟩ ((((((((((((((W.setCell ⟨G, 0, none⟩ (.int .i64 x.folk)).setCell ⟨G, 1, none⟩ (.int .i64 x.years)).setCell ⟨G, 2, none⟩ (.slice p.A1 x.bn p.c1)).setCell ⟨G, 3, none⟩ (.slice p.A2 x.fn p.c2)).setCell ⟨G, 4, none⟩ (.slice p.A3 x.ln p.c3)).setCell ⟨G, 5, none⟩ (.slice p.A4 x.pn p.c4)).setCell ⟨G, 6, none⟩ (.slice p.A5 x.mn p.c5)).setCell ⟨H, 0, none⟩ (.int .i64 x.folk)).setCell ⟨H, 1, none⟩ (.int .i64 x.years)).setCell ⟨H, 2, none⟩ (.slice A1 x.bn c1)).setCell ⟨H, 3, none⟩ (.slice A2 x.fn c2)).setCell ⟨H, 4, none⟩ (.slice A3 x.ln c3)).setCell ⟨H, 5, none⟩ (.slice A4 x.pn c4)).setCell ⟨H, 6, none⟩ (.slice A5 x.mn c5)) := by
  have k1 := ch7 W G (.int .i64 x.folk) (.int .i64 x.years) (.slice p.A1 x.bn p.c1) (.slice p.A2 x.fn p.c2) (.slice p.A3 x.ln p.c3) (.slice p.A4 x.pn p.c4) (.slice p.A5 x.mn p.c5)
  have b1 := blk7 hG (.int .i64 x.folk) (.int .i64 x.years) (.slice p.A1 x.bn p.c1) (.slice p.A2 x.fn p.c2) (.slice p.A3 x.ln p.c3) (.slice p.A4 x.pn p.c4) (.slice p.A5 x.mn p.c5)
  have e1 := ext7G e hG1 (.int .i64 x.folk) (.int .i64 x.years) (.slice p.A1 x.bn p.c1) (.slice p.A2 x.fn p.c2) (.slice p.A3 x.ln p.c3) (.slice p.A4 x.pn p.c4) (.slice p.A5 x.mn p.c5)
  have h1 := k1.blk hH fun h => hn h.symm
  generalize ((((((W.setCell ⟨G, 0, none⟩ (.int .i64 x.folk)).setCell ⟨G, 1, none⟩ (.int .i64 x.years)).setCell ⟨G, 2, none⟩ (.slice p.A1 x.bn p.c1)).setCell ⟨G, 3, none⟩ (.slice p.A2 x.fn p.c2)).setCell ⟨G, 4, none⟩ (.slice p.A3 x.ln p.c3)).setCell ⟨G, 5, none⟩ (.slice p.A4 x.pn p.c4)).setCell ⟨G, 6, none⟩ (.slice p.A5 x.mn p.c5) = W1 at *
  have k2 := ch7 W1 H (.int .i64 x.folk) (.int .i64 x.years) (.slice A1 x.bn c1) (.slice A2 x.fn c2) (.slice A3 x.ln c3) (.slice A4 x.pn c4) (.slice A5 x.mn c5)
  have b2 := blk7 h1 (.int .i64 x.folk) (.int .i64 x.years) (.slice A1 x.bn c1) (.slice A2 x.fn c2) (.slice A3 x.ln c3) (.slice A4 x.pn c4) (.slice A5 x.mn c5)
  have e2 := ext7G e1 hH1 (.int .i64 x.folk) (.int .i64 x.years) (.slice A1 x.bn c1) (.slice A2 x.fn c2) (.slice A3 x.ln c3) (.slice A4 x.pn c4) (.slice A5 x.mn c5)
  have b1' := k2.blk b1 fun h => hn h
  generalize ((((((W1.setCell ⟨H, 0, none⟩ (.int .i64 x.folk)).setCell ⟨H, 1, none⟩ (.int .i64 x.years)).setCell ⟨H, 2, none⟩ (.slice A1 x.bn c1)).setCell ⟨H, 3, none⟩ (.slice A2 x.fn c2)).setCell ⟨H, 4, none⟩ (.slice A3 x.ln c3)).setCell ⟨H, 5, none⟩ (.slice A4 x.pn c4)).setCell ⟨H, 6, none⟩ (.slice A5 x.mn c5) = W2 at *
  have k := k1.step k2 (T := fun b => b = G ∨ b = H) (fun _ _ h => .inr h) (fun _ h => .inl h)
  have fo : ∀ {A : Option Addr}, (∀ b o, A = some ⟨b, o, none⟩ → la ≤ b ∧ b < ha) → ∀ b o, A = some ⟨b, o, none⟩ → b < W.heap.size ∧ ¬ (b = G ∨ b = H) := fun h b o q => by
    have := h b o q
    omega
  have ft : ∀ {A : Option Addr}, (∀ b o, A = some ⟨b, o, none⟩ → lb ≤ b ∧ b < hb) → ∀ b o, A = some ⟨b, o, none⟩ → b < W.heap.size ∧ ¬ (b = G ∨ b = H) := fun h b o q => by
    have := h b o q
    omega
  exact ⟨e2, b1', b2, ⟨vo.r1.ch k (fo io.a1), vo.r2.ch k (fo io.a2), vo.r3.ch k (fo io.a3), vo.r4.ch k (fo io.a4), vo.r5.ch k (fo io.a5)⟩, ⟨r1.ext e2, r2.ext e2, vt.r3.ch k (ft i3), vt.r4.ch k (ft i4), vt.r5.ch k (ft i5)⟩⟩
end Go.Proofs.YtbceepjjdfpfmaaGreat
