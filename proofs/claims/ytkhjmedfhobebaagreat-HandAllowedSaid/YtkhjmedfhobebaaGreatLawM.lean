/- Walk of the law of allowances (under way). No condition. -/
import Derived.Test.YtkhjmedfhobebaaGreatLawsK
import Derived.Test.YtkhjmedfhobebaaGreatAllowP
import Derived.Test.YtkhjmedfhobebaaGreatLawB
import Derived.Test.YtkhjmedfhobebaaGreatDoK
import Derived.Test.YtkhjmedfhobebaaGreatDoU
import Derived.Test.YtkhjmedfhobebaaGreatDoX
import Derived.Test.YtkhjmedfhobebaaGreatRefZ
namespace Go.Proofs.YtkhjmedfhobebaaGreat
open Go.RowKit HandSpec
set_option maxHeartbeats 3200000
set_option maxRecDepth 100000
/-- Two own copies of a watch, in boxes. -/
structure TwoW (x : WD) (al : Int) (w1 : World) (g12 g13 : Nat) (D1 : Option Addr) (d1 : Nat) (D2 : Option Addr) (d2 : Nat) (D3 : Option Addr) (d3 : Nat) (F1 : Option Addr) (f1 : Nat) (F2 : Option Addr) (f2 : Nat) (F3 : Option Addr) (f3 : Nat) (W : World) : Prop where
  e : Ext w1 W
  b12 : Blk W g12 26 #[.int .i64 x.hours, .int .i64 al, .int .i64 x.hands, .slice D1 x.cn d1, .slice D2 x.bn d2, .slice D3 x.sn d3]
  b13 : Blk W g13 26 #[.int .i64 x.hours, .int .i64 x.allow, .int .i64 x.hands, .slice F1 x.cn f1, .slice F2 x.bn f2, .slice F3 x.sn f3]
  o1 : OwnR W w1.heap.size 79 3 (.slice D1 x.cn d1) (rowsG 3 x.cn x.c)
  o2 : OwnR W w1.heap.size 119 2 (.slice D2 x.bn d2) (rowsG 2 x.bn x.b)
  o3 : OwnR W w1.heap.size 114 3 (.slice D3 x.sn d3) (rowsG 3 x.sn x.s)
  p1 : OwnR W w1.heap.size 79 3 (.slice F1 x.cn f1) (rowsG 3 x.cn x.c)
  p2 : OwnR W w1.heap.size 119 2 (.slice F2 x.bn f2) (rowsG 2 x.bn x.b)
  p3 : OwnR W w1.heap.size 114 3 (.slice F3 x.sn f3) (rowsG 3 x.sn x.s)
  ap : ∀ g, (Value.slice D3 x.sn d3).ownBlock = some g → (Value.slice F3 x.sn f3).ownBlock ≠ some g
  ne : w1.heap.size ≤ g12 ∧ w1.heap.size ≤ g13 ∧ g12 ≠ g13
/-- An own copy, whose parts lie below hi. -/
def IsWOI (x : WD) : MSpec := fun v lo hi w => ∃ D1 q1 D2 q2 D3 q3, v = .agg #[.int .i64 x.hours, .int .i64 x.allow, .int .i64 x.hands, .slice D1 x.cn q1, .slice D2 x.bn q2, .slice D3 x.sn q3] ∧
  OwnR w lo 79 3 (.slice D1 x.cn q1) (rowsG 3 x.cn x.c) ∧ OwnR w lo 119 2 (.slice D2 x.bn q2) (rowsG 2 x.bn x.b) ∧ OwnR w lo 114 3 (.slice D3 x.sn q3) (rowsG 3 x.sn x.s) ∧ ∀ g, (Value.slice D3 x.sn q3).ownBlock = some g → g < hi
theorem IsWOI.ext {x : WD} {v : Value} {lo hi : Nat} {w w' : World} (h : IsWOI x v lo hi w) (e : Ext w w') : IsWOI x v lo hi w' := by
  obtain ⟨D1, q1, D2, q2, D3, q3, h0, h1, h2, h3, h4⟩ := h
  exact ⟨D1, q1, D2, q2, D3, q3, h0, h1.ext e, h2.ext e, h3.ext e, h4⟩
theorem IsWOI.of {x : WD} {v : Value} {lo : Nat} {w : World} (h : IsWO lo w v x) : IsWOI x v lo w.heap.size w := by
  obtain ⟨D1, q1, D2, q2, D3, q3, h0, h1, h2, h3⟩ := h
  exact ⟨D1, q1, D2, q2, D3, q3, h0, h1, h2, h3, fun g hg => h3.lt hg⟩
theorem IsWOI.get {x : WD} {D1 D2 D3 : Option Addr} {q1 q2 q3 lo hi : Nat} {w : World} (h : IsWOI x (.agg #[.int .i64 x.hours, .int .i64 x.allow, .int .i64 x.hands, .slice D1 x.cn q1, .slice D2 x.bn q2, .slice D3 x.sn q3]) lo hi w) :
    OwnR w lo 79 3 (.slice D1 x.cn q1) (rowsG 3 x.cn x.c) ∧ OwnR w lo 119 2 (.slice D2 x.bn q2) (rowsG 2 x.bn x.b) ∧ OwnR w lo 114 3 (.slice D3 x.sn q3) (rowsG 3 x.sn x.s) ∧ ∀ g, (Value.slice D3 x.sn q3).ownBlock = some g → g < hi := by
  obtain ⟨E1, r1, E2, r2, E3, r3, h0, h⟩ := h
  simp only [Value.agg.injEq, Array.mk.injEq, List.cons.injEq, Value.slice.injEq, and_true, true_and] at h0
  obtain ⟨⟨rfl, rfl⟩, ⟨rfl, rfl⟩, rfl, rfl⟩ := h0
  exact h
theorem Blk.set6 {W : World} {H : Nat} {t : TypeId} {z0 z1 z2 z3 z4 z5 : Value} (h : Blk W H t #[z0, z1, z2, z3, z4, z5]) (a b c d f g : Value) : Blk ((((((W.setCell ⟨H, 0, none⟩ a).setCell ⟨H, 1, none⟩ b).setCell ⟨H, 2, none⟩ c).setCell ⟨H, 3, none⟩ d).setCell ⟨H, 4, none⟩ f).setCell ⟨H, 5, none⟩ g) H t #[a, b, c, d, f, g] :=
  (((((h.set_ 0 a).set_ 1 b).set_ 2 c).set_ 3 d).set_ 4 f).set_ 5 g
theorem two_boxes {x : WD} {w1 W : World} {G H la ha lb hb : Nat} {D1 D2 D3 F1 F2 F3 : Option Addr} {d1 d2 d3 f1 f2 f3 : Nat} (e : Ext w1 W) (bG : Blk W G 26 z26) (bH : Blk W H 26 z26)
    (o : IsWOI x (.agg #[.int .i64 x.hours, .int .i64 x.allow, .int .i64 x.hands, .slice D1 x.cn d1, .slice D2 x.bn d2, .slice D3 x.sn d3]) la ha W)
    (p : IsWOI x (.agg #[.int .i64 x.hours, .int .i64 x.allow, .int .i64 x.hands, .slice F1 x.cn f1, .slice F2 x.bn f2, .slice F3 x.sn f3]) lb hb W)
    (hla : w1.heap.size ≤ la) (hlb : w1.heap.size ≤ lb) (hG : w1.heap.size ≤ G) (hH : w1.heap.size ≤ H) (hne : G ≠ H) (hd : ha ≤ lb ∨ hb ≤ la) :
    TwoW x x.allow w1 G H D1 d1 D2 d2 D3 d3 F1 f1 F2 f2 F3 f3
      ((((((((((((W.setCell ⟨G, 0, none⟩ (.int .i64 x.hours)).setCell ⟨G, 1, none⟩ (.int .i64 x.allow)).setCell ⟨G, 2, none⟩ (.int .i64 x.hands)).setCell ⟨G, 3, none⟩ (.slice D1 x.cn d1)).setCell ⟨G, 4, none⟩ (.slice D2 x.bn d2)).setCell ⟨G, 5, none⟩ (.slice D3 x.sn d3)).setCell ⟨H, 0, none⟩ (.int .i64 x.hours)).setCell ⟨H, 1, none⟩ (.int .i64 x.allow)).setCell ⟨H, 2, none⟩ (.int .i64 x.hands)).setCell ⟨H, 3, none⟩ (.slice F1 x.cn f1)).setCell ⟨H, 4, none⟩ (.slice F2 x.bn f2)).setCell ⟨H, 5, none⟩ (.slice F3 x.sn f3)) := by
  obtain ⟨o1, o2, o3, ol⟩ := o.get
  obtain ⟨p1, p2, p3, pl⟩ := p.get
  have c1 := Ch.set6 W G (.int .i64 x.hours) (.int .i64 x.allow) (.int .i64 x.hands) (.slice D1 x.cn d1) (.slice D2 x.bn d2) (.slice D3 x.sn d3)
  have bG' := Blk.set6 bG (.int .i64 x.hours) (.int .i64 x.allow) (.int .i64 x.hands) (.slice D1 x.cn d1) (.slice D2 x.bn d2) (.slice D3 x.sn d3)
  have bH' := c1.blk bH hne.symm
  have e1 := ext6b e hG (.int .i64 x.hours) (.int .i64 x.allow) (.int .i64 x.hands) (.slice D1 x.cn d1) (.slice D2 x.bn d2) (.slice D3 x.sn d3)
  generalize ((((((W.setCell ⟨G, 0, none⟩ (.int .i64 x.hours)).setCell ⟨G, 1, none⟩ (.int .i64 x.allow)).setCell ⟨G, 2, none⟩ (.int .i64 x.hands)).setCell ⟨G, 3, none⟩ (.slice D1 x.cn d1)).setCell ⟨G, 4, none⟩ (.slice D2 x.bn d2)).setCell ⟨G, 5, none⟩ (.slice D3 x.sn d3)) = V at c1 bG' bH' e1
  have c2 := Ch.set6 V H (.int .i64 x.hours) (.int .i64 x.allow) (.int .i64 x.hands) (.slice F1 x.cn f1) (.slice F2 x.bn f2) (.slice F3 x.sn f3)
  have key : ∀ {t : TypeId} {c B : Nat} {v : Value} {l : List (List Int)}, OwnR W B t c v l → w1.heap.size ≤ B → t ≠ 26 → OwnR ((((((V.setCell ⟨H, 0, none⟩ (.int .i64 x.hours)).setCell ⟨H, 1, none⟩ (.int .i64 x.allow)).setCell ⟨H, 2, none⟩ (.int .i64 x.hands)).setCell ⟨H, 3, none⟩ (.slice F1 x.cn f1)).setCell ⟨H, 4, none⟩ (.slice F2 x.bn f2)).setCell ⟨H, 5, none⟩ (.slice F3 x.sn f3)) w1.heap.size t c v l := fun {t c B v l} q hB ht =>
    (c2.own (c1.own q fun b hb he => q.ne_blk bG ht (by rw [hb, show b = G from he])) fun b hb he => q.ne_blk bH ht (by rw [hb, show b = H from he])).base hB
  refine ⟨ext6b e1 hH _ _ _ _ _ _, c2.blk bG' hne, Blk.set6 bH' _ _ _ _ _ _, key o1 hla (by decide), key o2 hla (by decide), key o3 hla (by decide), key p1 hlb (by decide), key p2 hlb (by decide), key p3 hlb (by decide), fun g hg hf => ?_, hG, hH, hne⟩
  have a1 := o3.block hg
  have a2 := p3.block hf
  have a3 := ol g hg
  have a4 := pl g hf
  omega
theorem TwoW.ext {x : WD} {al : Int} {w1 W W' : World} {G H : Nat} {D1 D2 D3 F1 F2 F3 : Option Addr} {d1 d2 d3 f1 f2 f3 : Nat} (t : TwoW x al w1 G H D1 d1 D2 d2 D3 d3 F1 f1 F2 f2 F3 f3 W) (e : Ext W W') : TwoW x al w1 G H D1 d1 D2 d2 D3 d3 F1 f1 F2 f2 F3 f3 W' :=
  ⟨t.e.trans e, t.b12.ext e, t.b13.ext e, t.o1.ext e, t.o2.ext e, t.o3.ext e, t.p1.ext e, t.p2.ext e, t.p3.ext e, t.ap, t.ne⟩
/-- The first copy's allowance is set. -/
theorem TwoW.setA {x : WD} {al : Int} {w1 W : World} {G H : Nat} {D1 D2 D3 F1 F2 F3 : Option Addr} {d1 d2 d3 f1 f2 f3 : Nat} (t : TwoW x al w1 G H D1 d1 D2 d2 D3 d3 F1 f1 F2 f2 F3 f3 W) (a : Int) : TwoW x a w1 G H D1 d1 D2 d2 D3 d3 F1 f1 F2 f2 F3 f3 (W.setCell ⟨G, 1, none⟩ (.int .i64 a)) := by
  have c := Ch.ofSet W G 1 (.int .i64 a)
  have key : ∀ {t' : TypeId} {c' B : Nat} {v : Value} {l : List (List Int)}, OwnR W B t' c' v l → t' ≠ 26 → OwnR (W.setCell ⟨G, 1, none⟩ (.int .i64 a)) B t' c' v l := fun q ht => c.own q fun b hb he => q.ne_blk t.b12 ht (by rw [hb, show b = G from he])
  exact ⟨t.e.setCell _ t.ne.1, t.b12.set_ 1 _, c.blk t.b13 t.ne.2.2.symm, key t.o1 (by decide), key t.o2 (by decide), key t.o3 (by decide), key t.p1 (by decide), key t.p2 (by decide), key t.p3 (by decide), t.ap, t.ne⟩
theorem isW_allow {x : WD} {a : Int} {w : World} {B d1 d2 d3 : Nat} {D1 D2 D3 : Option Addr} (o1 : OwnR w B 79 3 (.slice D1 x.cn d1) (rowsG 3 x.cn x.c)) (o2 : OwnR w B 119 2 (.slice D2 x.bn d2) (rowsG 2 x.bn x.b)) (o3 : OwnR w B 114 3 (.slice D3 x.sn d3) (rowsG 3 x.sn x.s)) :
    IsW w (.agg #[.int .i64 x.hours, .int .i64 a, .int .i64 x.hands, .slice D1 x.cn d1, .slice D2 x.bn d2, .slice D3 x.sn d3]) (L.allowW x a) :=
  ⟨_, _, _, _, _, _, rfl, rd_of o1, rd_of o2, rd_of o3⟩
theorem rows_spell (x : WD) (h f t : Int) : rowsG 3 x.sn x.s ++ [[h, f, t]] = rowsG 3 (x.sn + 1) (L.spellW x h f t).s := by
  apply List.ext_getElem?
  intro i
  unfold rowsG
  rw [List.range_succ (n := x.sn), List.map_append]
  rcases Nat.lt_trichotomy i x.sn with hi | hi | hi
  · rw [List.getElem?_append_left (by simpa using hi), List.getElem?_append_left (by simpa using hi)]
    simp only [List.getElem?_map, List.getElem?_range hi, Option.map_some]
    simp [L.spell_old x h f t hi]
  · subst hi
    rw [List.getElem?_append_right (by simp), List.getElem?_append_right (by simp)]
    simp [List.range_succ, L.spell_new]
  · rw [List.getElem?_eq_none (by simp; omega), List.getElem?_eq_none (by simp; omega)]
theorem tmod_nat (a : Nat) {b : Int} (hb : 0 < b) : Int.tmod (a : Int) b = ((a % b.toNat : Nat) : Int) ∧ ((a % b.toNat : Nat) : Int) < b := by
  obtain ⟨n, rfl⟩ := Int.eq_ofNat_of_zero_le (Int.le_of_lt hb)
  have := Nat.mod_lt a (show 0 < n by omega)
  exact ⟨rfl, by simp; omega⟩
/-- The copies behind what was changed of them: in the one more is allowed, the other has a spell more. -/
structure ThreeW (x y z : WD) (w1 : World) (g9 g12 g13 : Nat) (A3 : Option Addr) (c3 : Nat) (A4 : Option Addr) (c4 : Nat) (A5 : Option Addr) (c5 : Nat) (D1 : Option Addr) (d1 : Nat) (D2 : Option Addr) (d2 : Nat) (D3 : Option Addr) (d3 : Nat) (F1 : Option Addr) (f1 : Nat) (F2 : Option Addr) (f2 : Nat) (F3 : Option Addr) (f3 : Nat) (W : World) : Prop where
  e : Ext w1 W
  b9 : Blk W g9 26 #[.int .i64 x.hours, .int .i64 x.allow, .int .i64 x.hands, .slice A3 x.cn c3, .slice A4 x.bn c4, .slice A5 x.sn c5]
  b12 : Blk W g12 26 #[.int .i64 x.hours, .int .i64 y.allow, .int .i64 x.hands, .slice D1 x.cn d1, .slice D2 x.bn d2, .slice D3 x.sn d3]
  b13 : Blk W g13 26 #[.int .i64 x.hours, .int .i64 x.allow, .int .i64 x.hands, .slice F1 x.cn f1, .slice F2 x.bn f2, .slice F3 z.sn f3]
  iy : IsW W (.agg #[.int .i64 x.hours, .int .i64 y.allow, .int .i64 x.hands, .slice D1 x.cn d1, .slice D2 x.bn d2, .slice D3 x.sn d3]) y
  iz : IsW W (.agg #[.int .i64 x.hours, .int .i64 x.allow, .int .i64 x.hands, .slice F1 x.cn f1, .slice F2 x.bn f2, .slice F3 z.sn f3]) z
  za : L.AllowP x z
/-- A new row of three numbers. -/
def Row3 (t : TypeId) (a b c : Int) : MSpec := fun v lo hi w => v = .slice (some ⟨lo, 0, none⟩) 1 1 ∧ hi = lo + 1 ∧ Blk w lo t #[.int .i64 a, .int .i64 b, .int .i64 c]
theorem Row3.ext {t : TypeId} {a b c : Int} {v : Value} {lo hi : Nat} {w w' : World} (h : Row3 t a b c v lo hi w) (e : Ext w w') : Row3 t a b c v lo hi w' := ⟨h.1, h.2.1, h.2.2.ext e⟩
theorem b9_of {w w' : World} {g G i : Nat} {t : TypeId} {C : Array Value} {u : Value} (b : Blk w g t C) (h : g ≠ G) (e : Ext (w.setCell ⟨G, i, none⟩ u) w') : Blk w' g t C := (b.far h u).ext e
theorem gap_bd {x : WD} (hx : Ok x) {a b : Nat} (ha : a < x.cn) (hb : b < x.cn) : -5000 ≤ R.gap x a b ∧ R.gap x a b ≤ 5000 := by
  have g1 := hx.hour a ha
  have g2 := hx.hour b hb
  have g3 := hx.hours
  have g4 := hx.lo a ha
  have g5 := hx.hi b hb
  have g6 := hx.allow
  have g7 := R.booked_bound hx a b
  have h1 := Int.mul_le_mul_of_nonneg_left (show x.c b 0 - x.c a 0 ≤ 60 by omega) g6.1
  have h2 := Int.mul_le_mul_of_nonneg_left (show -60 ≤ x.c b 0 - x.c a 0 by omega) g6.1
  show -5000 ≤ x.c a 1 + R.booked x a b - x.allow * (x.c b 0 - x.c a 0) - x.c b 2 ∧ x.c a 1 + R.booked x a b - x.allow * (x.c b 0 - x.c a 0) - x.c b 2 ≤ 5000
  omega
theorem strE_zero {x : WD} (hc : P.chk x = 0) {a b : Nat} (hab : a < b) (hb : b < x.cn) : P.strE x a b = 0 := by
  have h1 : inB (a : Int) 0 ((x.cn : Int) - 1) = true := by simp [inB]; omega
  have h2 : inB (b : Int) 0 ((x.cn : Int) - 1) = true := by simp [inB]; omega
  unfold P.strE
  rw [if_neg (fun h => h hc), h1, h2, if_neg (by simp), if_neg (by omega)]
theorem law9 {A : Option Addr} {n cap : Nat} {w : World} (hb : ByteS w A n) {mo wh fr : Nat} (hmo : mo < 256) (hwh : wh < 256) (hfr : fr < 256) :
    Calls Tryz.prog 9 #[.slice A n cap, .int .u8 (mo : Int), .int .u8 (wh : Int), .int .u8 (fr : Int)] w fun e w' => e = .returned (.bool true) ∧ Ext w w' := by
  have HB := hid hb
  clear hb
  go_enter Tryz.func9, Tryz.ntmps9
  go_upto_region 2 with (first
    | (go_at_call 67; refine (fill67 _).mono ?_; rintro e wa ⟨rfl, hea, hsa⟩; have ST := hid (start_of HB.out hea hsa); have EA := hid hea; clear hsa hea)
    | (go_at_call 72; refine (made_any ST.out EA.out (mc := 8) (mh := 6) (by omega) (by omega)).mono ?_; rintro e wb ⟨x, s, t, A3, c3, A4, c4, A5, c5, A6, c6, lc, nh, rfl, hiw, hx, hT, -, -, -, -, -, heb⟩))
  refine wp_later fun w1 hw1 => ?_
  obtain ⟨E1, b9⟩ := hw1.newB
  have HW := hid (L.truth_fw hx hT)
  have IW := hid (hiw.ext E1)
  have EW := hid (heb.trans E1)
  have h1 : x.cn ≤ 1000 := by have := hx.cn; omega
  have h2 : x.bn ≤ 1000 := by have := hx.bn; omega
  have h3 : x.sn ≤ 1000 := by have := hx.sn; omega
  have HX := hid hx
  have hcn1 := hx.cn
  obtain ⟨g9, hg9⟩ : ∃ g9, g9 = wb.heap.size := ⟨_, rfl⟩
  rw [← hg9] at b9 ⊢
  clear hiw hx hT heb hw1 E1 hg9 ST EA
  have k9 := b9.cell
  have k9l := b9.lt
  refine wp_region_mono 6 [(1, IsWOI x), (3, IsWOI x), (4, PtI 26 z26), (5, PtI 26 z26)] (by kernel_rfl) (by kernel_rfl) (by kernel_rfl) ?hS ?_
  case hS =>
    simp only [List.forall_mem_cons]
    exact ⟨fun _ _ _ _ _ e h => IsWOI.ext h e, fun _ _ _ _ _ e h => IsWOI.ext h e, fun _ _ _ _ _ e h => PtI.ext h e, fun _ _ _ _ _ e h => PtI.ext h e, fun _ h => by simp at h⟩
  simp only [List.take_succ_cons, List.take_zero, List.drop_succ_cons, List.drop_zero]
  refine wpM_plain rfl ?_
  go_big_quiet_step (fail)
  refine wpQuiet_nil ?_
  refine wpM_spec _ rfl rfl (fun w2 hw2 _ => ?_) (fun va la ha ga1 ga2 _ hva => ?_)
  · go_wp2_with (go_at_call 19; refine (own19O (IW.out.ext hw2) h1 h2 h3).mono ?_; rintro e w' ⟨u, rfl, he, hu⟩)
    exact ⟨_, _, _, rfl, he, Nat.le_refl _, he.size, Nat.le_refl _, IsWOI.of hu⟩
  simp only [Act.put, List.setIfInBounds_toArray, List.set_cons_succ, List.set_cons_zero]
  obtain ⟨_, D1, d1, D2, d2, D3, d3, rfl, -⟩ := hva
  refine wpM_plain rfl ?_
  go_big_quiet_step (fail)
  refine wpQuiet_nil ?_
  refine wpM_spec _ rfl rfl (fun w2 hw2 _ => ?_) (fun vb lb hb' gb1 gb2 db hvb => ?_)
  · go_wp2_with (go_at_call 19; refine (own19O (IW.out.ext hw2) h1 h2 h3).mono ?_; rintro e w' ⟨u, rfl, he, hu⟩)
    exact ⟨_, _, _, rfl, he, Nat.le_refl _, he.size, Nat.le_refl _, IsWOI.of hu⟩
  simp only [Act.put, List.setIfInBounds_toArray, List.set_cons_succ, List.set_cons_zero]
  obtain ⟨_, F1, f1, F2, f2, F3, f3, rfl, -⟩ := hvb
  refine wpM_spec _ rfl rfl (fun w2 hw2 _ => ?_) (fun vg lg hg gg1 gg2 dg hvg => ?_)
  · go_wp2
    exact ⟨_, w2.heap.size, w2.heap.size + 1, rfl, (Ext.refl _).alloc _, Nat.le_refl _, Nat.le_succ _, by simp, rfl, rfl, Blk.new _ _ _⟩
  simp only [Act.put, List.setIfInBounds_toArray, List.set_cons_succ, List.set_cons_zero]
  refine wpM_spec _ rfl rfl (fun w2 hw2 _ => ?_) (fun vh lh hh gh1 gh2 dh hvh => ?_)
  · go_wp2
    exact ⟨_, w2.heap.size, w2.heap.size + 1, rfl, (Ext.refl _).alloc _, Nat.le_refl _, Nat.le_succ _, by simp, rfl, rfl, Blk.new _ _ _⟩
  simp only [Act.put, List.setIfInBounds_toArray, List.set_cons_succ, List.set_cons_zero]
  obtain ⟨_, rfl, rfl, -⟩ := hvg
  obtain ⟨_, rfl, rfl, -⟩ := hvh
  simp only [List.forall_mem_cons] at dg dh db
  refine wpM_nil fun w4 hw4 hF => ?_
  simp only [List.forall_mem_cons] at hF
  obtain ⟨⟨-, -, -, bH⟩, ⟨-, -, -, bG⟩, ⟨-, fb⟩, ⟨-, fa⟩, -⟩ := hF
  have hne : lg ≠ lh := by omega
  have hne' : lh ≠ lg := by omega
  have TW := hid (two_boxes hw4 bG bH fa fb ga1 gb1 gg1 gh1 hne (by omega))
  have hGl := bG.lt
  have hHl := bH.lt
  have kG := bG.cell
  have kH := bH.cell
  have qG := bG.frozen
  have qH := bH.frozen
  unfold z26 at kG kH
  clear fa fb bG bH dg dh db
  go_upto_region 3 with fail
  refine wp_later fun w5 hw5 => ?_
  replace TW := hid (TW.out.ext hw5)
  have E5 := hid TW.out.e
  have B9 := hid (b9.ext E5.out)
  obtain ⟨g12, hg12⟩ : ∃ g, g = lg := ⟨_, rfl⟩
  obtain ⟨g13, hg13⟩ : ∃ g, g = lh := ⟨_, rfl⟩
  rw [← hg12, ← hg13] at TW ⊢
  have hng : g12 ≠ g13 := TW.out.ne.2.2
  have hl9 := b9.lt
  have hn12 : w1.heap.size ≤ g12 := TW.out.ne.1
  have hn13 : w1.heap.size ≤ g13 := TW.out.ne.2.1
  clear hw5 kG kH qG qH hGl hHl hne hne' hg12 hg13 hw4 ga1 ga2 gb1 gb2 gg1 gg2 gh1 gh2 k9 k9l b9
  have k9 := B9.out.cell
  have k9l := B9.out.lt
  have k12 := TW.out.b12.cell
  have k12l := TW.out.b12.lt
  have f12 := TW.out.b12.frozen
  have hal := HX.out.allow
  have hho := HX.out.hours
  have hha := HX.out.hands
  obtain ⟨m5, hm5⟩ : ∃ m, m = mo % 5 := ⟨_, rfl⟩
  have hm5l : m5 ≤ 4 := by omega
  have hmod5 : Int.tmod (mo : Int) 5 = (m5 : Int) := by rw [hm5]; rfl
  obtain ⟨hmodH, hql⟩ := tmod_nat fr (show 0 < x.hours by omega)
  obtain ⟨mw, hmw⟩ := tmod_nat wh (show 0 < x.hands by omega)
  obtain ⟨qh, hqh⟩ : ∃ m : Nat, m = fr % x.hours.toNat := ⟨_, rfl⟩
  rw [← hqh] at hmodH hql
  obtain ⟨qw, hqw⟩ : ∃ m : Nat, m = wh % x.hands.toNat := ⟨_, rfl⟩
  rw [← hqw] at mw hmw
  have hne5 : x.hours ≠ 0 := by omega
  have hne6 : x.hands ≠ 0 := by omega
  clear hm5 hqh hqw
  go_upto_region 4 with fail
  obtain ⟨al, hal2⟩ : ∃ z, z = if x.allow + (m5 : Int) < 20 then x.allow + (m5 : Int) else 20 := ⟨_, rfl⟩
  rw [← hal2]
  have halb : x.allow ≤ al ∧ al ≤ 20 := by rw [hal2]; split <;> omega
  clear hal2 hmod5 hm5l
  refine wp_later fun w6 hw6 => ?_
  have T6 := hid ((TW.out.setA al).ext hw6)
  have B6 := hid (b9_of B9.out (show g9 ≠ g12 by omega) hw6)
  clear hw6 k9 k9l k12 k12l f12 TW E5 B9
  have k9 := B6.out.cell
  have k9l := B6.out.lt
  go_upto_if 63 with fail
  go_cut [13] (fun s13 wx => ∃ (z : WD) (G3 : Option Addr) (h3 : Nat), s13 = .pointer (some ⟨g13, 0, none⟩) ∧ Hid (ThreeW x (L.allowW x al) z w1 g9 g12 g13 A3 c3 A4 c4 A5 c5 D1 d1 D2 d2 D3 d3 F1 f1 F2 f2 G3 h3 wx))
  case rest =>
    obtain ⟨z, G3, h3', rfl, T⟩ := hcut
    clear T6 B6 k9 k9l hmodH mw hql hmw hne5 hne6
    have k9 := T.out.b9.cell
    have k9l := T.out.b9.lt
    have IX := hid (IW.out.ext T.out.e)
    go_upto_region 8 with (go_at_call 73; refine (all73 IX.out hcn1.2).mono ?_; rintro e w7 ⟨u, rfl, he7, hst⟩; obtain ⟨As, cs, rfl, hrs⟩ := hst.slR; rw [rows2_length] at hrs ⊢)
    have HRS := hid hrs
    have B9 := hid (T.out.b9.ext he7)
    have B12 : Hid (Blk w7 g12 26 #[.int .i64 x.hours, .int .i64 al, .int .i64 x.hands, .slice D1 x.cn d1, .slice D2 x.bn d2, .slice D3 x.sn d3]) := hid (T.out.b12.ext he7)
    have B13 := hid (T.out.b13.ext he7)
    have I7 := hid (IX.out.ext he7)
    have Y7 : Hid (IsW w7 (.agg #[.int .i64 x.hours, .int .i64 al, .int .i64 x.hands, .slice D1 x.cn d1, .slice D2 x.bn d2, .slice D3 x.sn d3]) (L.allowW x al)) := hid (T.out.iy.ext he7)
    have Z7 := hid (T.out.iz.ext he7)
    have ZA := hid T.out.za
    have E7 := hid (EW.out.trans (T.out.e.trans he7))
    have HYA := hid (L.allowP HX.out HW.out (L.allow_ok HX.out (a := al) (by omega)) (L.allow_more HX.out (a := al) halb.1))
    have hsl : (stretches x.cn).length ≤ 1000 := by have := stretches_length x.cn; have := Nat.mul_le_mul hcn1.2 hcn1.2; omega
    have hch := hid (chk_of HX.out)
    clear hst hrs he7 T k9 k9l IX
    go_loopw [81] (fun j wr => ∃ q : Nat, q ≤ (stretches x.cn).length ∧ j = .int .i64 (q : Int) ∧ Ext w7 wr) (fun j _ => (stretches x.cn).length - (intOf j).toNat)
    case atStart => exact ⟨0, by omega, rfl, Ext.refl _⟩
    case round =>
      obtain ⟨q, hq, rfl, he⟩ := hrel
      have E := hid he
      by_cases hlq : q < (stretches x.cn).length
      · obtain ⟨a, b, hab, hb, hnth⟩ : ∃ a b, a < b ∧ b < x.cn ∧ nth (stretches x.cn) q = (a, b) := by
          have hm : nth (stretches x.cn) q ∈ stretches x.cn := by rw [nth_get _ hlq]; exact List.getElem_mem hlq
          have := mem_stretches.1 hm
          exact ⟨_, _, this.1, this.2, rfl⟩
        obtain ⟨bs, os, rfl, hbs, q0, q1⟩ := (HRS.out.ext he).at2 hlq
        rw [rows2_at0 _ hlq, hnth] at q0
        rw [rows2_at1 _ hlq, hnth] at q1
        go_upto_region 10 with fail
        refine wp_later fun w8 hw8 => ?_
        obtain ⟨E8, b16⟩ := hw8.newB
        have e8 := he.trans E8
        have E := hid e8
        obtain ⟨g16, hg16⟩ : ∃ g, g = wr.heap.size := ⟨_, rfl⟩
        rw [← hg16] at b16 ⊢
        have B16 := hid b16
        have k9 := (B9.out.ext e8).cell
        have k9l := (B9.out.ext e8).lt
        have k16 := b16.cell
        have k16l := b16.lt
        have hgx := P.gap_eq HX.out (show a ≤ b by omega) hb
        have hgy := P.gap_eq HYA.out.ok (show a ≤ b by omega) (show b < (L.allowW x al).cn from hb)
        have hgd := L.gap_allow x al a b
        have hgb := gap_bd HX.out (show a < x.cn by omega) hb
        have hgc := gap_bd HYA.out.ok (show a < (L.allowW x al).cn from by show a < x.cn; omega) (show b < (L.allowW x al).cn from hb)
        obtain ⟨g0, hg0⟩ : ∃ g, Hid (g = R.gap x a b) := ⟨_, hid rfl⟩
        obtain ⟨g1, hg1⟩ : ∃ g, Hid (g = R.gap (L.allowW x al) a b) := ⟨_, hid rfl⟩
        rw [← hg0.out] at hgx hgd hgb
        rw [← hg1.out] at hgy hgd hgc
        have HGX := hid hgx
        have HGY := hid hgy
        have hdh : 0 ≤ x.c b 0 - x.c a 0 ∧ x.c b 0 - x.c a 0 ≤ 60 := by have := HX.out.lt hab hb; have := HX.out.hour a (by omega); have := HX.out.hour b hb; omega
        have hprod := Int.mul_nonneg (show 0 ≤ al - x.allow by omega) hdh.1
        obtain ⟨c, o, rfl, hcb, ca, -, -⟩ := (IsW.rdC I7.out).at3 (show a < x.cn by omega)
        obtain ⟨c', o', hcc, -, cb, -, -⟩ := (IsW.rdC I7.out).at3 hb
        simp only [Option.some.injEq, Addr.mk.injEq, and_true] at hcc
        obtain ⟨rfl, rfl⟩ := hcc
        have CA := hid ca
        have CB := hid cb
        have hai : (a : Int) < (x.cn : Int) := by omega
        have hbi : (b : Int) < (x.cn : Int) := by omega
        clear hw8 E8 hg16 b16 ca cb hcb he q0 q1 hbs hgx hgy hnth
        go_upto_region 11 with (go_at_call 61; refine (gapX_ok (I7.out.ext E.out) h1 h2 h3 hch.out hab hb (strE_zero hch.out hab hb)).mono ?_; rintro e w9 ⟨rfl, he9⟩; rw [HGX.out]; have F := hid (E.out.trans he9); have k12 := (B12.out.ext F.out).cell; have k12l := (B12.out.ext F.out).lt; have k16 := (B16.out.ext he9).cell; have k16l := (B16.out.ext he9).lt)
        go_upto_region 12 with (go_at_call 61; refine (gapX_ok (Y7.out.ext F.out) h1 h2 h3 HYA.out.chk hab hb (strE_zero HYA.out.chk hab hb)).mono ?_; rintro e w10 ⟨rfl, he10⟩; rw [HGY.out]; have F := hid (F.out.trans he10); have k9 := (B9.out.ext F.out).cell; have k9l := (B9.out.ext F.out).lt; have k12 := (B12.out.ext F.out).cell; have k12l := (B12.out.ext F.out).lt; have k16 := (B16.out.ext (he9.trans he10)).cell; have k16l := (B16.out.ext (he9.trans he10)).lt)
        have ca := F.out.some_ CA.out
        have cb := F.out.some_ CB.out
        have hcb := World.block_lt_of_cell? w10 _ ca
        have t1 : decide (g0 < g1) = false := decide_eq_false (by omega)
        have hg0r := hg0.out
        have t3 : (g0 - g1 != (al - x.allow) * (x.c b 0 - x.c a 0)) = false := by rw [hgd]; simp
        have hpb : (al - x.allow) * (x.c b 0 - x.c a 0) ≤ 20000 := by rw [← hgd]; omega
        clear hg0r hgd
        have H74 := hid (fun W (e : Ext w10 W) => (by rw [hg0.out]; exact gap74 HX.out ((I7.out.ext F.out).ext e) hab hb : Calls Tryz.prog 74 #[.agg #[.int .i64 x.hours, .int .i64 x.allow, .int .i64 x.hands, .slice (some ⟨c, o, none⟩) x.cn c3, .slice A4 x.bn c4, .slice A5 x.sn c5], .agg #[.int .i64 (a : Int), .int .i64 (b : Int)]] W fun e w' => e = .returned (.int .i64 g0) ∧ Ext W w'))
        refine wp_region_later (by kernel_rfl) (by kernel_rfl) ?_
        repeat (go_big_quiet_step ((go_at_call 74; exact Calls.later (H74.out _ (Later.ext _)))))
        refine wpQuiet_nil ?_
        rintro w11 ⟨⟨_, he11⟩, rfl⟩
        go_wp2
        go_roundw
        case rel => exact ⟨q + 1, by omega, by go_num, F.out.trans he11⟩
        case measure => simp [intOf]; omega
      · obtain rfl : (stretches x.cn).length = q := by omega
        have T0 := hid (L.told_fw HX.out HW.out)
        have k9 := (B9.out.ext he).cell
        have k9l := (B9.out.ext he).lt
        clear hlq hq
        obtain ⟨mx, hmx⟩ : ∃ m, Hid (m = P.proved x (2 ^ x.hands.toNat - 1)) := ⟨_, hid rfl⟩
        go_upto_region 17 with (first
          | (go_at_call 35; refine (fewest_ok (I7.out.ext E.out) h1 h2 h3 T0.out).mono ?_; rintro e w8 ⟨u, rfl, he8, hfu⟩; have E := hid (E.out.trans he8); have HFU := hid hfu; have k9 := (B9.out.ext E.out).cell; have k9l := (B9.out.ext E.out).lt; clear hfu)
          | (go_at_call 27; refine (missing_ok (I7.out.ext E.out) h1 h2 h3 T0.out).mono ?_; rintro e w9 ⟨rfl, he9⟩; rw [← hmx.out]; have E := hid (E.out.trans he9)))
        obtain ⟨Au, cu, hu, -⟩ := HFU.out
        subst hu
        obtain ⟨lf, hlf⟩ : ∃ n, Hid (n = (P.fewest x).length) := ⟨_, hid rfl⟩
        rw [rows1_length, ← hlf.out]
        have k12 := (B12.out.ext E.out).cell
        have k12l := (B12.out.ext E.out).lt
        have k13 := (B13.out.ext E.out).cell
        have k13l := (B13.out.ext E.out).lt
        go_upto_region 18 with fail
        refine wp_later fun w10 hw10 => ?_
        obtain ⟨E10, b2⟩ := hw10.newB
        have EQ := hid (E.out.trans E10)
        obtain ⟨g2, hg2⟩ : ∃ g, g = w9.heap.size := ⟨_, rfl⟩
        rw [← hg2] at b2 ⊢
        have B2 := hid b2
        have B9' := hid (B9.out.ext EQ.out)
        have EW2 := hid (E7.out.trans EQ.out)
        clear hw10 E10 hg2 k9 k9l k12 k12l k13 k13l he b2 E
        go_loopw [157] (fun j wr2 => ∃ q : Nat, q ≤ 2 ∧ j = .int .i64 (q : Int) ∧ Ext w10 wr2) (fun j _ => 2 - (intOf j).toNat)
        case atStart => exact ⟨0, by omega, rfl, Ext.refl _⟩
        case round =>
          obtain ⟨q, hq, rfl, he2⟩ := hrel
          have k2 := (B2.out.ext he2).cell
          have k2l := (B2.out.ext he2).lt
          rcases (show q = 0 ∨ q = 1 ∨ q = 2 by omega) with rfl | rfl | rfl
          · go_upto_region 20 with fail
            refine wp_later fun w11 hw11 => ?_
            obtain ⟨E11, b26⟩ := hw11.newB
            have e11 := he2.trans E11
            have IY := hid (Y7.out.ext (EQ.out.trans e11))
            obtain ⟨g26, hg26⟩ : ∃ g, g = wr.heap.size := ⟨_, rfl⟩
            rw [← hg26] at b26 ⊢
            have B26 := hid b26
            have k26 := b26.cell
            have k26l := b26.lt
            obtain ⟨ln, hln⟩ : ∃ n, Hid (n = (P.fewest (L.allowW x al)).length) := ⟨_, hid rfl⟩
            have hfw : ln ≤ lf := by have := HYA.out.few; have := hln.out; have := hlf.out; omega
            have hq1 : ¬ lf < ln := by omega
            have hms := HYA.out.miss
            obtain ⟨my, hmy⟩ : ∃ m, Hid (m = P.proved (L.allowW x al) (2 ^ (L.allowW x al).hands.toNat - 1)) := ⟨_, hid rfl⟩
            rw [← hmx.out] at hms
            rw [← hmy.out] at hms
            have hq2 : ¬ mx < my := by omega
            clear hfw hms
            have hb1 := HYA.out.ok.cn
            have hb2 := HYA.out.ok.bn
            have hb3 := HYA.out.ok.sn
            have B90 := hid (B9'.out.ext e11)
            clear hw11 hg26 k2 k2l b26
            go_upto_region 22 with (first
              | (go_at_call 35; refine (fewest_ok IY.out (by omega) (by omega) (by omega) HYA.out.told).mono ?_; rintro e w12 ⟨u2, rfl, he12, hfu2⟩; obtain ⟨Av, cv, rfl, -⟩ := hfu2; rw [rows1_length, ← hln.out]; have G := hid he12; have k26 := (B26.out.ext G.out).cell; have k26l := (B26.out.ext G.out).lt)
              | (go_at_call 27; refine (missing_ok (IY.out.ext G.out) (by omega) (by omega) (by omega) HYA.out.told).mono ?_; rintro e w13 ⟨rfl, he13⟩; rw [← hmy.out]; have G := hid (G.out.trans he13); have k9 := (B90.out.ext G.out).cell; have k9l := (B90.out.ext G.out).lt))
            go_upto_region 25 with fail
            rw [show decide (mx < my) = false from decide_eq_false (by omega)]
            clear k9 k9l k26 k26l
            have IYG := hid (IY.out.ext G.out)
            have IXG := hid (I7.out.ext ((EQ.out.trans e11).trans G.out))
            have B9G := hid (B90.out.ext G.out)
            have B26G := hid (B26.out.ext G.out)
            have e13 := hid (e11.trans G.out)
            clear G he12 he13 IY B90 B26 e11
            go_loopw [199] (fun j wr3 => ∃ h : Nat, (h : Int) ≤ x.hands ∧ j = .int .i64 (h : Int) ∧ Ext w13 wr3) (fun j _ => x.hands.toNat - (intOf j).toNat)
            case atStart => exact ⟨0, by omega, rfl, Ext.refl _⟩
            case round =>
              obtain ⟨h, hh, rfl, he3⟩ := hrel
              by_cases hlt : (h : Int) < x.hands
              · have hhx : h < x.hands.toNat := by omega
                have hly := HYA.out.least h hhx
                obtain ⟨lx, hlx⟩ : ∃ m, Hid (m = P.proved x (2 ^ h)) := ⟨_, hid rfl⟩
                obtain ⟨ly, hly'⟩ : ∃ m, Hid (m = P.proved (L.allowW x al) (2 ^ h)) := ⟨_, hid rfl⟩
                rw [← hlx.out, ← hly'.out] at hly
                have hly2 : ¬ lx < ly := by omega
                clear hly
                have HHY := hid (show (h : Int) < (L.allowW x al).hands by rw [HYA.out.hands]; exact hlt)
                have k9 := (B9G.out.ext he3).cell
                have k9l := (B9G.out.ext he3).lt
                go_upto_region 28 with (go_at_call 25; refine (least_ok (IXG.out.ext he3) h1 h2 h3 hlt T0.out).mono ?_; rintro e wx ⟨rfl, hex⟩; rw [← hlx.out])
                have ex := he3.trans hex
                have k26 := (B26G.out.ext ex).cell
                have k26l := (B26G.out.ext ex).lt
                go_wp2_with (go_at_call 25; refine (least_ok (IYG.out.ext ex) (by omega) (by omega) (by omega) HHY.out HYA.out.told).mono ?_; rintro e wy ⟨rfl, hey⟩; rw [← hly'.out])
                go_roundw
                case rel => exact ⟨h + 1, by omega, by go_num, ex.trans hey⟩
                case measure => simp [intOf]; omega
              · go_wp2_with fail
                go_roundw
                case rel => exact ⟨1, by omega, by go_num, e13.out.trans he3⟩
                case measure => simp [intOf]
          · go_upto_region 20 with fail
            refine wp_later fun w11 hw11 => ?_
            obtain ⟨E11, b26⟩ := hw11.newB
            have e11 := he2.trans E11
            have IY := hid (Z7.out.ext (EQ.out.trans e11))
            obtain ⟨g26, hg26⟩ : ∃ g, g = wr.heap.size := ⟨_, rfl⟩
            rw [← hg26] at b26 ⊢
            have B26 := hid b26
            have k26 := b26.cell
            have k26l := b26.lt
            obtain ⟨ln, hln⟩ : ∃ n, Hid (n = (P.fewest (z)).length) := ⟨_, hid rfl⟩
            have hfw : ln ≤ lf := by have := ZA.out.few; have := hln.out; have := hlf.out; omega
            have hq1 : ¬ lf < ln := by omega
            have hms := ZA.out.miss
            obtain ⟨my, hmy⟩ : ∃ m, Hid (m = P.proved (z) (2 ^ (z).hands.toNat - 1)) := ⟨_, hid rfl⟩
            rw [← hmx.out] at hms
            rw [← hmy.out] at hms
            have hq2 : ¬ mx < my := by omega
            clear hfw hms
            have hb1 := ZA.out.ok.cn
            have hb2 := ZA.out.ok.bn
            have hb3 := ZA.out.ok.sn
            have B90 := hid (B9'.out.ext e11)
            clear hw11 hg26 k2 k2l b26
            go_upto_region 22 with (first
              | (go_at_call 35; refine (fewest_ok IY.out (by omega) (by omega) (by omega) ZA.out.told).mono ?_; rintro e w12 ⟨u2, rfl, he12, hfu2⟩; obtain ⟨Av, cv, rfl, -⟩ := hfu2; rw [rows1_length, ← hln.out]; have G := hid he12; have k26 := (B26.out.ext G.out).cell; have k26l := (B26.out.ext G.out).lt)
              | (go_at_call 27; refine (missing_ok (IY.out.ext G.out) (by omega) (by omega) (by omega) ZA.out.told).mono ?_; rintro e w13 ⟨rfl, he13⟩; rw [← hmy.out]; have G := hid (G.out.trans he13); have k9 := (B90.out.ext G.out).cell; have k9l := (B90.out.ext G.out).lt))
            go_upto_region 25 with fail
            rw [show decide (mx < my) = false from decide_eq_false (by omega)]
            clear k9 k9l k26 k26l
            have IYG := hid (IY.out.ext G.out)
            have IXG := hid (I7.out.ext ((EQ.out.trans e11).trans G.out))
            have B9G := hid (B90.out.ext G.out)
            have B26G := hid (B26.out.ext G.out)
            have e13 := hid (e11.trans G.out)
            clear G he12 he13 IY B90 B26 e11
            go_loopw [199] (fun j wr3 => ∃ h : Nat, (h : Int) ≤ x.hands ∧ j = .int .i64 (h : Int) ∧ Ext w13 wr3) (fun j _ => x.hands.toNat - (intOf j).toNat)
            case atStart => exact ⟨0, by omega, rfl, Ext.refl _⟩
            case round =>
              obtain ⟨h, hh, rfl, he3⟩ := hrel
              by_cases hlt : (h : Int) < x.hands
              · have hhx : h < x.hands.toNat := by omega
                have hly := ZA.out.least h hhx
                obtain ⟨lx, hlx⟩ : ∃ m, Hid (m = P.proved x (2 ^ h)) := ⟨_, hid rfl⟩
                obtain ⟨ly, hly'⟩ : ∃ m, Hid (m = P.proved (z) (2 ^ h)) := ⟨_, hid rfl⟩
                rw [← hlx.out, ← hly'.out] at hly
                have hly2 : ¬ lx < ly := by omega
                clear hly
                have HHY := hid (show (h : Int) < (z).hands by rw [ZA.out.hands]; exact hlt)
                have k9 := (B9G.out.ext he3).cell
                have k9l := (B9G.out.ext he3).lt
                go_upto_region 28 with (go_at_call 25; refine (least_ok (IXG.out.ext he3) h1 h2 h3 hlt T0.out).mono ?_; rintro e wx ⟨rfl, hex⟩; rw [← hlx.out])
                have ex := he3.trans hex
                have k26 := (B26G.out.ext ex).cell
                have k26l := (B26G.out.ext ex).lt
                go_wp2_with (go_at_call 25; refine (least_ok (IYG.out.ext ex) (by omega) (by omega) (by omega) HHY.out ZA.out.told).mono ?_; rintro e wy ⟨rfl, hey⟩; rw [← hly'.out])
                go_roundw
                case rel => exact ⟨h + 1, by omega, by go_num, ex.trans hey⟩
                case measure => simp [intOf]; omega
              · go_wp2_with fail
                go_roundw
                case rel => exact ⟨2, by omega, by go_num, e13.out.trans he3⟩
                case measure => simp [intOf]
          · go_wp2_with (go_at_call 18; refine (awake_any _).mono ?_; rintro e wy ⟨rfl, hey⟩)
            go_ret
            exact ⟨rfl, EW2.out.trans (he2.trans hey)⟩
  case first =>
    by_cases hs : x.sn < 12
    · have hsi : (x.sn : Int) < 12 := by omega
      have k13 := T6.out.b13.cell
      have k13l := T6.out.b13.lt
      go_upto_region 6 with fail
      refine wp_region_mono 12 [(11, Row3 114 (qw : Int) (qh : Int) x.hours)] (by kernel_rfl) (by kernel_rfl) (by kernel_rfl) ?hS ?_
      case hS =>
        simp only [List.forall_mem_cons]
        exact ⟨fun _ _ _ _ _ e h => Row3.ext h e, fun _ h => by simp at h⟩
      simp only [List.take_succ_cons, List.take_zero, List.drop_succ_cons, List.drop_zero]
      iterate 11
        refine wpM_plain rfl ?_
        go_big_quiet_step (fail)
        refine wpQuiet_nil ?_
      refine wpM_spec _ rfl rfl (fun w2 hw2 _ => ?_) (fun va la ha ga1 ga2 _ hva => ?_)
      · go_wp2
        exact ⟨_, w2.heap.size, w2.heap.size + 1, rfl, (Ext.refl _).alloc _, Nat.le_refl _, Nat.le_succ _, by simp, rfl, rfl, Blk.new _ _ _⟩
      obtain ⟨_, rfl, rfl, -⟩ := hva
      simp only [Act.put, List.setIfInBounds_toArray, List.set_cons_succ, List.set_cons_zero]
      refine wpM_nil fun w4 hw4 hF => ?_
      simp only [List.forall_mem_cons] at hF
      obtain ⟨⟨-, -, -, bR⟩, -⟩ := hF
      have TX := hid (T6.out.ext hw4)
      have BX := hid (B6.out.ext hw4)
      have hsz4 := hw4.size
      have hsz6 := T6.out.e.size
      go_wp2_with (at_builtin; go_loud (refine wpList_append_rows rfl _ _ 24 rfl el24 rfl TX.out.p3 _ 1 1 [[_, _, _]] rfl rfl (by simp) (row3 bR) (by rw [rowsG_length]; omega) (by omega) ?_; intro v' w8 hown2 hg2; have HO2 := hid hown2; have HG2 := hid hg2; have T13 := hid (TX.out.b13.grown hg2 (fun e => TX.out.p3.ne_blk TX.out.b13 (by decide) e.symm)); obtain ⟨G3, q3, rfl, -⟩ := hown2.slR; clear hown2 hg2; have k3 := T13.out.cell; have fz3 := T13.out.frozen; have k3l := T13.out.lt))
      go_meet
      have hG := HG2.out
      have hO := HO2.out
      rw [show (rowsG 3 x.sn x.s ++ [[(qw : Int), (qh : Int), x.hours]]).length = x.sn + 1 by simp [rowsG_length]] at hO
      rw [rows_spell] at hO
      rw [show (rowsG 3 x.sn x.s).length = x.sn from rowsG_length _ _ _]
      have c8 := Ch.ofSet w8 g13 5 (.slice G3 (x.sn + 1) q3)
      have keyO : ∀ {t : TypeId} {c B : Nat} {v : Value} {l : List (List Int)}, OwnR w4 B t c v l → t ≠ 26 → (∀ g, v.ownBlock = some g → some g ≠ (Value.slice F3 x.sn f3).ownBlock) → OwnR (w8.setCell ⟨g13, 5, none⟩ (.slice G3 (x.sn + 1) q3)) B t c v l := fun q ht hap =>
        c8.own (q.grownBy_other hG hap) fun b hb he => (q.grownBy_other hG hap).ne_blk T13.out ht (by rw [hb, show b = g13 from he])
      have hz := L.spell_ok HX.out hs (h := (qw : Int)) (f := (qh : Int)) (t := x.hours) (by omega) (by omega) (by omega)
      refine ⟨L.spellW x (qw : Int) (qh : Int) x.hours, G3, q3, rfl, hid ⟨?_, ?_, ?_, ?_, ?_, ?_, L.allowP HX.out HW.out hz (L.spell_more x _ _ _)⟩⟩
      · exact (Ext.grown TX.out.e hG fun j hj => TX.out.p3.block hj).setCell _ hn13
      · exact (BX.out.grown hG fun e => by have := TX.out.p3.block e.symm; omega).far (show g9 ≠ g13 by omega) _
      · exact (TX.out.b12.grown hG fun e => TX.out.p3.ne_blk TX.out.b12 (by decide) e.symm).far (show g12 ≠ g13 from hng) _
      · exact T13.out.set_ 5 _
      · exact isW_allow (keyO TX.out.o1 (by decide) (TX.out.o1.apart' TX.out.p3 (by decide))) (keyO TX.out.o2 (by decide) (TX.out.o2.apart' TX.out.p3 (by decide))) (keyO TX.out.o3 (by decide) fun g hg e => TX.out.ap g hg e.symm)
      · exact ⟨_, _, _, _, _, _, rfl, rd_of (keyO TX.out.p1 (by decide) (TX.out.p1.apart' TX.out.p3 (by decide))), rd_of (keyO TX.out.p2 (by decide) (TX.out.p2.apart' TX.out.p3 (by decide))), rd_of (c8.own hO fun b hb he => hO.ne_blk T13.out (by decide) (hb.trans (congrArg some (show b = g13 from he))))⟩
    · have hsi : ¬ (x.sn : Int) < 12 := by omega
      go_wp2_with fail
      go_meet
      exact ⟨x, F3, f3, rfl, hid ⟨T6.out.e, B6.out, T6.out.b12, T6.out.b13, isW_allow T6.out.o1 T6.out.o2 T6.out.o3, ⟨_, _, _, _, _, _, rfl, rd_of T6.out.p1, rd_of T6.out.p2, rd_of T6.out.p3⟩, L.allowP HX.out HW.out HX.out (L.more_refl x)⟩⟩
end Go.Proofs.YtkhjmedfhobebaaGreat
