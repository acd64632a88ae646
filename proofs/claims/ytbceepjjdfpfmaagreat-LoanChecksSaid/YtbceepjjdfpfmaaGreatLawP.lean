/- Walk of the law LoanChecks (13): for every ledger, loan, payment and number it returns true. No condition. -/
import Derived.Test.YtbceepjjdfpfmaaGreatAwk
import Derived.Test.YtbceepjjdfpfmaaGreatChkR
import Derived.Test.YtbceepjjdfpfmaaGreatOnw
namespace Go.Proofs.YtbceepjjdfpfmaaGreat
open Go.RowKit HandSpec LoanSpec
set_option maxHeartbeats 4000000
set_option maxRecDepth 100000
theorem OwnQ.ch27 {w w' : World} {B N : Nat} {x : LD} {q : LA} {C : Array Value} (h : OwnQ w B x q) (k : Ch (· = N) w w') (b : Blk w N 27 C) : OwnQ w' B x q :=
  ⟨k.own h.o1 (fun g hg e => h.o1.ne_blk b (by decide) (by rw [hg, e])), k.own h.o2 (fun g hg e => h.o2.ne_blk b (by decide) (by rw [hg, e])), k.own h.o3 (fun g hg e => h.o3.ne_blk b (by decide) (by rw [hg, e])),
    k.own h.o4 (fun g hg e => h.o4.ne_blk b (by decide) (by rw [hg, e])), k.own h.o5 (fun g hg e => h.o5.ne_blk b (by decide) (by rw [hg, e])), h.ne⟩
/-- One row more in an own list of a ledger in a box. -/
theorem app_box {w7 w8 w9 : World} {B N i c : Nat} {u v9 : Value} {C : Array Value} {l l' : List (List Int)} {e : TypeId} (h : OwnR w7 B e c u l) (h27 : e ≠ 27) (hb : Blk w7 N 27 C) (e8 : Ext w7 w8) (hg : w8.grownBy w9 u.ownBlock) (ho : OwnR w9 B e c v9 l') :
    OwnR (w9.setCell ⟨N, i, none⟩ v9) B e c v9 l' ∧ Blk (w9.setCell ⟨N, i, none⟩ v9) N 27 (C.setIfInBounds i v9) ∧ (∀ w0, Ext w0 w7 → w0.heap.size ≤ B → w0.heap.size ≤ N → Ext w0 (w9.setCell ⟨N, i, none⟩ v9)) ∧
      (∀ wX, Ch (· = N) wX w7 → wX.heap.size ≤ B → Ch (· = N) wX (w9.setCell ⟨N, i, none⟩ v9)) ∧
      ∀ {e' : TypeId} {c' : Nat} {v' : Value} {m : List (List Int)}, OwnR w7 B e' c' v' m → e' ≠ 27 → (∀ g, v'.ownBlock = some g → some g ≠ u.ownBlock) → OwnR (w9.setCell ⟨N, i, none⟩ v9) B e' c' v' m := by
  have b9 : Blk w9 N 27 C := (hb.ext e8).grown hg (fun q => (h.ext e8).ne_blk (hb.ext e8) h27 q.symm)
  refine ⟨ho.same fun g hg' => Below.heap_setCell _ _ _ _ (fun q => ho.ne_blk b9 h27 (by rw [hg', q])), b9.set_ i v9, fun w0 h0 h1 h2 => ?_, fun wX hX h1 => ?_, fun h' h27' hn => ?_⟩
  · exact ((h0.trans e8).grown hg (fun q hq => by have := h.block hq; omega)).setCell (p := ⟨N, i, none⟩) v9 h2
  · have k1 : Ch (· = N) wX w8 := hX.trans (Ch.ofExt e8) (fun b _ q => q.elim)
    have k2 : Ch (· = N) wX w9 := k1.trans (Ch.ofGrown hg) (fun b hb' q => by have := h.block q.symm; omega)
    exact k2.trans (Ch.ofSet w9 N i v9) (fun b _ q => q)
  · have h9 := (h'.ext e8).grownBy_other hg hn
    exact h9.same fun g hg' => Below.heap_setCell _ _ _ _ (fun q => h9.ne_blk b9 h27' (by rw [hg', q]))
theorem lend_app {w7 w8 w9 : World} {B N : Nat} {x : LD} {u1 u2 u3 u4 u5 v9 : Value} {C : Array Value} {a y n : Int} (h : OwnLg w7 B x u1 u2 u3 u4 u5) (hb : Blk w7 N 27 C) (e8 : Ext w7 w8) (hg : w8.grownBy w9 u3.ownBlock) (ho : OwnR w9 B 68 3 v9 (rowsG 3 x.ln x.lo ++ [[a, y, n]])) :
    OwnLg (w9.setCell ⟨N, 4, none⟩ v9) B (lendD x a y n) u1 u2 v9 u4 u5 ∧ Blk (w9.setCell ⟨N, 4, none⟩ v9) N 27 (C.setIfInBounds 4 v9) ∧ (∀ w0, Ext w0 w7 → w0.heap.size ≤ B → w0.heap.size ≤ N → Ext w0 (w9.setCell ⟨N, 4, none⟩ v9)) ∧
      (∀ wX, Ch (· = N) wX w7 → wX.heap.size ≤ B → Ch (· = N) wX (w9.setCell ⟨N, 4, none⟩ v9)) := by
  obtain ⟨r1, r2, r3, r4, r5⟩ := app_box (i := 4) h.o3 (by decide) hb e8 hg ho
  have hrows : rowsG 3 x.ln x.lo ++ [[a, y, n]] = rowsG 3 (x.ln + 1) (lendD x a y n).lo := by
    rw [rowsG3_succ]
    congr 1
    · unfold rowsG
      refine List.map_congr_left fun k hk => List.map_congr_left fun j _ => ?_
      rw [List.mem_range] at hk
      unfold lendD
      dsimp only
      rw [if_neg (by omega)]
    · simp [lendD]
  have hap : ∀ {e : TypeId} {c : Nat} {v : Value} {l : List (List Int)}, OwnR w7 B e c v l → e ≠ 68 → ∀ g, v.ownBlock = some g → some g ≠ u3.ownBlock := fun h' h3 g hg' => h'.apart' h.o3 h3 g hg'
  exact ⟨⟨r5 h.o1 (by decide) (hap h.o1 (by decide)), r5 h.o2 (by decide) (hap h.o2 (by decide)), by rw [show (lendD x a y n).ln = x.ln + 1 from rfl, ← hrows]; exact r1, r5 h.o4 (by decide) (hap h.o4 (by decide)), r5 h.o5 (by decide) (hap h.o5 (by decide)), h.ne⟩, r2, r3, r4⟩
theorem pay_app {w7 w8 w9 : World} {B N : Nat} {x : LD} {u1 u2 u3 u4 u5 v9 : Value} {C : Array Value} {a y n : Int} (h : OwnLg w7 B x u1 u2 u3 u4 u5) (hb : Blk w7 N 27 C) (e8 : Ext w7 w8) (hg : w8.grownBy w9 u4.ownBlock) (ho : OwnR w9 B 71 3 v9 (rowsG 3 x.pn x.pa ++ [[a, y, n]])) :
    OwnLg (w9.setCell ⟨N, 5, none⟩ v9) B (payD x a y n) u1 u2 u3 v9 u5 ∧ Blk (w9.setCell ⟨N, 5, none⟩ v9) N 27 (C.setIfInBounds 5 v9) ∧ (∀ w0, Ext w0 w7 → w0.heap.size ≤ B → w0.heap.size ≤ N → Ext w0 (w9.setCell ⟨N, 5, none⟩ v9)) ∧
      (∀ wX, Ch (· = N) wX w7 → wX.heap.size ≤ B → Ch (· = N) wX (w9.setCell ⟨N, 5, none⟩ v9)) := by
  obtain ⟨r1, r2, r3, r4, r5⟩ := app_box (i := 5) h.o4 (by decide) hb e8 hg ho
  have hrows : rowsG 3 x.pn x.pa ++ [[a, y, n]] = rowsG 3 (x.pn + 1) (payD x a y n).pa := by
    rw [rowsG3_succ]
    congr 1
    · unfold rowsG
      refine List.map_congr_left fun k hk => List.map_congr_left fun j _ => ?_
      rw [List.mem_range] at hk
      unfold payD
      dsimp only
      rw [if_neg (by omega)]
    · simp [payD]
  have hap : ∀ {e : TypeId} {c : Nat} {v : Value} {l : List (List Int)}, OwnR w7 B e c v l → e ≠ 71 → ∀ g, v.ownBlock = some g → some g ≠ u4.ownBlock := fun h' h3 g hg' => h'.apart' h.o4 h3 g hg'
  exact ⟨⟨r5 h.o1 (by decide) (hap h.o1 (by decide)), r5 h.o2 (by decide) (hap h.o2 (by decide)), r5 h.o3 (by decide) (hap h.o3 (by decide)), by rw [show (payD x a y n).pn = x.pn + 1 from rfl, ← hrows]; exact r1, r5 h.o5 (by decide) (hap h.o5 (by decide)), h.ne⟩, r2, r3, r4⟩
theorem forg_app {w7 w8 w9 : World} {B N : Nat} {x : LD} {l : List Int} {z : Int} {u1 u2 u3 u4 u5 v9 : Value} {C : Array Value} (h : OwnLg w7 B (forgD x l) u1 u2 u3 u4 u5) (hb : Blk w7 N 27 C) (e8 : Ext w7 w8) (hg : w8.grownBy w9 u2.ownBlock) (ho : OwnR w9 B 3 1 v9 (rowsI l ++ [[z]])) (hat : v9.ownBlock = u2.ownBlock ∨ v9.ownBlock = some w8.heap.size) :
    OwnLg (w9.setCell ⟨N, 3, none⟩ v9) B (forgD x (l ++ [z])) u1 v9 u3 u4 u5 ∧ Blk (w9.setCell ⟨N, 3, none⟩ v9) N 27 (C.setIfInBounds 3 v9) ∧ (∀ w0, Ext w0 w7 → w0.heap.size ≤ B → w0.heap.size ≤ N → Ext w0 (w9.setCell ⟨N, 3, none⟩ v9)) ∧
      (∀ wX, Ch (· = N) wX w7 → wX.heap.size ≤ B → Ch (· = N) wX (w9.setCell ⟨N, 3, none⟩ v9)) := by
  obtain ⟨r1, r2, r3, r4, r5⟩ := app_box (i := 3) h.o2 (by decide) hb e8 hg ho
  have hap : ∀ {e : TypeId} {c : Nat} {v : Value} {l : List (List Int)}, OwnR w7 B e c v l → e ≠ 3 → ∀ g, v.ownBlock = some g → some g ≠ u2.ownBlock := fun h' h3 g hg' => h'.apart' h.o2 h3 g hg'
  refine ⟨⟨r5 h.o1 (by decide) (fun g hg' q => h.ne g hg' q.symm), ?_, r5 h.o3 (by decide) (hap h.o3 (by decide)), r5 h.o4 (by decide) (hap h.o4 (by decide)), r5 h.o5 (by decide) (hap h.o5 (by decide)), fun q hq hq9 => ?_⟩, r2, r3, r4⟩
  · rw [show (forgD x (l ++ [z])).fn = (l ++ [z]).length from rfl, show (fun k (_ : Nat) => (forgD x (l ++ [z])).fo k) = fun k _ => ni (l ++ [z]) k from rfl, rowsG_ni]
    rw [show rowsI (l ++ [z]) = rowsI l ++ [[z]] by simp [rowsI]]
    exact r1
  · rcases hat with h1 | h1
    · exact h.ne q hq (h1 ▸ hq9)
    · rw [hq9, Option.some.injEq] at h1
      have := (h.o1).lt hq
      have := e8.size
      omega
theorem forgLg_o2 {W : World} {B : Nat} {x : LD} {L : List Int} {u1 u2 u3 u4 u5 : Value} (h : OwnLg W B (forgD x L) u1 u2 u3 u4 u5) : OwnR W B 3 1 u2 (rowsI L) := by
  have := h.o2
  rw [show (forgD x L).fn = L.length from rfl, show (fun k (_ : Nat) => (forgD x L).fo k) = fun k _ => ni L k from rfl, rowsG_ni] at this
  exact this
/-- 'clear' of an own list. -/
theorem wpList_clear_own {P : Program} {w : World} {ops : Array Oper} {rest : List Oper} {o : Oper} {a : Act} {Q : Exit → Act → World → Prop} (hgd : o.guard = none) (x : Operand) (T : TypeId)
    (ho : o.op = .call { callee := .builtin .clear, args := #[x], argTypes := #[T] }) {e : TypeId} {c bytes : Nat} (hE : ElemOk P T e c bytes) {z : Value} (hz : ∀ w, (zeroValue e).run P w = .ok z w) (hzc : z.cells = Array.replicate c (.int .i64 0))
    {B : Nat} {v : Value} {l : List (List Int)} (hx : a.eval x = v) (h : OwnR w B e c v l)
    (hk : ∀ w', (∀ w0, Ext w0 w → w0.heap.size ≤ B → Ext w0 w') → Ch (fun b => v.ownBlock = some b) w w' → wpList P ops Q rest (a.put o.dst (.tuple #[])) w') :
    wpList P ops Q (o :: rest) a w := by
  rcases OwnR.arr h with ⟨rfl, -⟩ | ⟨g, cap, rfl, hBg, -, ha⟩
  · refine wpList_plain hgd fun K hK => ?_
    have hrun : (Builtin.clear_ #[T] o.type #[.slice none 0 0]).run P w = .ok (.tuple #[]) w := by simp [Builtin.clear_, run_underlying hE.u]
    unfold Oper.wp
    simp [execOp, ho, resolve, invoke, builtin, hx, hrun, Result.andThen]
    exact hK _ _ (hk w (fun _ h _ => h) (Ch.refl _ _))
  · rcases Nat.eq_zero_or_pos l.length with h0 | h0
    · refine wpList_plain hgd fun K hK => ?_
      rw [h0] at hx
      have hrun : (Builtin.clear_ #[T] o.type #[.slice (some ⟨g, 0, none⟩) 0 cap]).run P w = .ok (.tuple #[]) w := by simp [Builtin.clear_, run_underlying hE.u]
      unfold Oper.wp
      simp [execOp, ho, resolve, invoke, builtin, hx, hrun, Result.andThen]
      exact hK _ _ (hk w (fun _ h _ => h) (Ch.refl _ _))
    · obtain ⟨m, hm⟩ : ∃ m, l.length = m + 1 := ⟨l.length - 1, by omega⟩
      rw [hm] at hx ha
      refine wpList_plain hgd fun K hK => ?_
      have hlen : (Builtin.zeroCells z.cells (m + 1)).toList.length = (m + 1) * c := by simp [Builtin.zeroCells, hzc]
      have hall : ∀ v ∈ (Builtin.zeroCells z.cells (m + 1)).toList, v = .int .i64 0 := by
        intro v hv
        simp [Builtin.zeroCells, hzc] at hv
        obtain ⟨i, hi, rfl⟩ := hv
        have h0c : i % c < c := Nat.mod_lt _ hE.c0
        simp [h0c]
      have hst := run_storeCells_cells (P := P) g 0 (Builtin.zeroCells z.cells (m + 1)).toList 0 w (by intro j hj; rw [ha.cell (by omega)]; rfl) (by intro j hj; exact ha.frozen (by omega)) (by intro v hv; rw [hall v hv]; rfl)
      simp only [Nat.add_zero] at hst
      have hrun : (Builtin.clear_ #[T] o.type #[.slice (some ⟨g, 0, none⟩) (m + 1) cap]).run P w = .ok (.tuple #[]) (w.setCells g 0 (Builtin.zeroCells z.cells (m + 1)).toList) := by simp [Builtin.clear_, run_underlying hE.u, hz, hst]
      unfold Oper.wp
      simp [execOp, ho, resolve, invoke, builtin, hx, hrun, Result.andThen]
      refine hK _ _ (hk _ (fun w0 h0 hg => ?_) ⟨Nat.le_of_eq (size_cells g _ _ _).symm, fun b _ hb => heap_cellsL g (fun q => hb (by rw [q]; rfl)) _ _ _⟩)
      exact below_setCells (show w0.heap.size ≤ g by omega) _ _ _ h0
/-- All lists of a ledger lie below S. -/
def LtQ (S : Nat) (x : LD) (q : LA) : Prop := (∀ g, (Value.slice q.A1 x.bn q.c1).ownBlock = some g → g < S) ∧ (∀ g, (Value.slice q.A2 x.fn q.c2).ownBlock = some g → g < S) ∧ (∀ g, (Value.slice q.A3 x.ln q.c3).ownBlock = some g → g < S) ∧
  (∀ g, (Value.slice q.A4 x.pn q.c4).ownBlock = some g → g < S) ∧ ∀ g, (Value.slice q.A5 x.mn q.c5).ownBlock = some g → g < S
theorem OwnQ.ltq {w : World} {B S : Nat} {x : LD} {q : LA} (h : OwnQ w B x q) (hS : w.heap.size ≤ S) : LtQ S x q :=
  ⟨fun _ e => Nat.lt_of_lt_of_le (h.o1.lt e) hS, fun _ e => Nat.lt_of_lt_of_le (h.o2.lt e) hS, fun _ e => Nat.lt_of_lt_of_le (h.o3.lt e) hS, fun _ e => Nat.lt_of_lt_of_le (h.o4.lt e) hS, fun _ e => Nat.lt_of_lt_of_le (h.o5.lt e) hS⟩
theorem newLD_sm {er : Int} {y : LD} (h : Sm y) : Sm (newLD er y) := by
  unfold newLD
  split
  · exact h
  · exact Sm.zero
theorem keepB {W W' : World} {N B c : Nat} {e : TypeId} {v : Value} {l : List (List Int)} {C : Array Value} (k : Ch (fun b => v.ownBlock = some b) W W') (o : OwnR W B e c v l) (he : e ≠ 27) (b : Blk W N 27 C) : Blk W' N 27 C := k.blk b (fun q => o.ne_blk b he q)
theorem keepR {W W' : World} {B B' c c' : Nat} {e e' : TypeId} {v v' : Value} {l l' : List (List Int)} (k : Ch (fun b => v.ownBlock = some b) W W') (o : OwnR W B e c v l) (o' : OwnR W B' e' c' v' l') (h : e' ≠ e) : OwnR W' B' e' c' v' l' := k.own o' (fun g hg q => o'.apart' o h g hg q.symm)
theorem keepQ {W W' : World} {S : Nat} {v : Value} {x : LD} {q : LA} (k : Ch (fun b => v.ownBlock = some b) W W') (hS : ∀ g, v.ownBlock = some g → g < S) (h : OwnQ W S x q) : OwnQ W' S x q :=
  ⟨k.own h.o1 (fun g hg e => by have := hS g e; have := h.o1.block hg; omega), k.own h.o2 (fun g hg e => by have := hS g e; have := h.o2.block hg; omega), k.own h.o3 (fun g hg e => by have := hS g e; have := h.o3.block hg; omega),
    k.own h.o4 (fun g hg e => by have := hS g e; have := h.o4.block hg; omega), k.own h.o5 (fun g hg e => by have := hS g e; have := h.o5.block hg; omega), h.ne⟩
theorem zero3 : ∀ w : World, (zeroValue 3).run Tryz.prog w = .ok (.int .i64 0) w := fun _ => by kernel_rfl
theorem zero68 : ∀ w : World, (zeroValue 68).run Tryz.prog w = .ok (.agg #[.int .i64 0, .int .i64 0, .int .i64 0]) w := fun _ => by kernel_rfl
theorem zero71 : ∀ w : World, (zeroValue 71).run Tryz.prog w = .ok (.agg #[.int .i64 0, .int .i64 0, .int .i64 0]) w := fun _ => by kernel_rfl
theorem zero64 : ∀ w : World, (zeroValue 64).run Tryz.prog w = .ok (.agg #[.int .i64 0, .int .i64 0, .int .i64 0]) w := fun _ => by kernel_rfl
theorem law13 {x : LD} {w : World} {v : Value} (hv : IsL w v x) (a b c m1 m2 m3 i : Int) :
    Calls Tryz.prog 13 #[v, .agg #[.int .i64 a, .int .i64 b, .int .i64 c], .agg #[.int .i64 m1, .int .i64 m2, .int .i64 m3], .int .i64 i] w fun e w' => e = .returned (.bool true) ∧ Ext w w' := by
  obtain ⟨⟨A1, c1, A2, c2, A3, c3, A4, c4, A5, c5⟩, rfl, hl⟩ := hv.la
  have HL := hid hl
  clear hv
  have e3 : ∀ (w : World) (o1 o2 o3 : Obj), Ext w (((w.alloc o1).alloc o2).alloc o3) := fun w o1 o2 o3 => (((Ext.refl w).alloc o1).alloc o2).alloc o3
  have E3 := hid e3
  clear e3
  by_cases hb : greatL x = true
  · have HB := hid hb
    clear hb hl
    unfold ledV
    go_enter Tryz.func13, Tryz.ntmps13
    go_wp2_with (first
      | (go_at_call 17; refine (great17 (HL.out.ext (E3.out w _ _ _)).isL).mono ?_; rintro e wg ⟨rfl, heg⟩; rw [HB.out])
      | (go_at_call 18; refine (awake_any _).mono ?_; rintro e w10 ⟨rfl, he10⟩))
    go_ret
    exact ⟨rfl, ((E3.out w _ _ _).trans heg).trans he10⟩
  have hgr : greatL x = false := by simpa using hb
  have h1 : x.bn ≤ 1000 := by simp [greatL] at hgr; omega
  have h2 : x.fn ≤ 1000 := by simp [greatL] at hgr; omega
  have h3 : x.ln ≤ 900 := by simp [greatL] at hgr; omega
  have h4 : x.pn ≤ 900 := by simp [greatL] at hgr; omega
  have h5 : x.mn ≤ 1000 := by simp [greatL] at hgr; omega
  have HB := hid hgr
  have hsm := hid (show Sm x from ⟨h1, h2, by omega, by omega, h5⟩)
  clear hb hgr hl
  obtain ⟨s, hs⟩ : ∃ s, Hid (x.chk = s) := ⟨_, hid rfl⟩
  unfold ledV
  go_enter Tryz.func13, Tryz.ntmps13
  go_upto_region 3 with (go_at_call 17; refine (great17 (HL.out.ext (E3.out w _ _ _)).isL).mono ?_; rintro e wg ⟨rfl, heg⟩; rw [HB.out])
  refine wp_later fun w1 hw1 => ?_
  obtain ⟨E2, b6⟩ := (heg.trans hw1).newB
  obtain ⟨E0, b4, b5⟩ := E2.newB2
  simp only [World.size_alloc] at b6
  have B4 := hid b4
  have B5 := hid b5
  have B6 := hid b6
  have EW := hid E0
  clear hw1 heg E2 b4 b5 b6 E0
  have k4 := B4.out.cell
  have k4l := B4.out.lt
  go_upto_region 4 with (go_at_call 19; refine (own19O (HL.out.ext EW.out).isL hsm.out).mono ?_; rintro e wz ⟨q, rfl, he, hO⟩; have HO := hid hO; have EW := hid (EW.out.trans he); have B4 := hid (B4.out.ext he); have B5 := hid (B5.out.ext he); have B6 := hid (B6.out.ext he); unfold ledV; clear hO he k4 k4l)
  refine wp_later fun w4 hw4 => ?_
  obtain ⟨e4, b9⟩ := hw4.newB
  obtain ⟨N9, hN9⟩ : ∃ N, Hid (N = wz.heap.size) := ⟨_, hid rfl⟩
  rw [← hN9.out] at b9 ⊢
  have B9 : Hid (Blk w4 N9 27 #[.int .i64 x.folk, .int .i64 x.years, .slice q.A1 x.bn q.c1, .slice q.A2 x.fn q.c2, .slice q.A3 x.ln q.c3, .slice q.A4 x.pn q.c4, .slice q.A5 x.mn q.c5]) := hid b9
  have HO := hid (HO.out.ext e4)
  have EW := hid (EW.out.trans e4)
  have B4 := hid (B4.out.ext e4)
  have B5 := hid (B5.out.ext e4)
  have B6 := hid (B6.out.ext e4)
  clear hw4 e4 b9 hN9
  have k4 := B4.out.cell
  have k4l := B4.out.lt
  have k9 := B9.out.cell
  have k9l := B9.out.lt
  have E := hid (Ext.refl w4)
  go_upto_region 8 with (first
    | (go_at_call 20; refine (theirs20 (p := ⟨A1, c1, A2, c2, A3, c3, A4, c4, A5, c5⟩) (HL.out.ext (EW.out.trans E.out)) (by omega) (by omega) h5).mono ?_; rintro e wz ⟨D3, d3, D4, d4, D5, d5, rfl, he, ht, -⟩; have HT := hid ht; have E := hid (E.out.trans he); clear k4 k4l k9 k9l; have k9 := (B9.out.ext E.out).cell; have k9l := (B9.out.ext E.out).lt; clear he ht)
    | (go_at_call 21; refine (check21 HT.out.isL h1 h2 (by omega) (by omega) h5).mono ?_; rintro e wz ⟨rfl, he⟩; rw [hs.out]; have E := hid (E.out.trans he); clear k9 k9l; have k9 := (B9.out.ext E.out).cell; have k9l := (B9.out.ext E.out).lt; clear he)
    | (go_at_call 37; refine (check37 (HO.out.la.ext E.out).isL h1 h2 (by omega) (by omega) h5).mono ?_; rintro e wz ⟨rfl, he⟩; rw [hs.out]; have E := hid (E.out.trans he); clear k9 k9l; have k9 := (B9.out.ext E.out).cell; have k9l := (B9.out.ext E.out).lt; clear he))
  have HO := hid (HO.out.ext E.out)
  have EW := hid (EW.out.trans E.out)
  have B4 := hid (B4.out.ext E.out)
  have B5 := hid (B5.out.ext E.out)
  have B6 := hid (B6.out.ext E.out)
  have B9 := hid (B9.out.ext E.out)
  clear k9 k9l HT E
  obtain ⟨w8, rfl⟩ : ∃ W : World, W = wz := ⟨_, rfl⟩
  go_upto_region 9 with fail
  refine wp_later fun w9 hw9 => ?_
  obtain ⟨E2, b16⟩ := hw9.newB
  obtain ⟨e9, b14, b15⟩ := E2.newB2
  simp only [World.size_alloc] at b16
  obtain ⟨N14, hN14⟩ : ∃ N, Hid (N = w8.heap.size) := ⟨_, hid rfl⟩
  rw [← hN14.out] at b14 b15 b16 ⊢
  obtain ⟨N15, hN15⟩ : ∃ N, Hid (N = N14 + 1) := ⟨_, hid rfl⟩
  rw [← hN15.out] at b15 b16 ⊢
  obtain ⟨N16, hN16⟩ : ∃ N, Hid (N = N15 + 1) := ⟨_, hid rfl⟩
  rw [← hN16.out] at b16 ⊢
  have B14 := hid b14
  have B15 := hid b15
  have B16 := hid b16
  have E9 := hid e9
  clear hw9 E2 b14 b15 b16 e9
  obtain ⟨r1, hr1⟩ : ∃ z, Hid (lendEr x a b c = z) := ⟨_, hid rfl⟩
  obtain ⟨r2, hr2⟩ : ∃ z, Hid (payEr x m1 m2 m3 = z) := ⟨_, hid rfl⟩
  obtain ⟨r3, hr3⟩ : ∃ z, Hid (forgE x i = z) := ⟨_, hid rfl⟩
  obtain ⟨y1, hy1⟩ : ∃ y, Hid (newLD r1 (lendD x a b c) = y) := ⟨_, hid rfl⟩
  obtain ⟨y2, hy2⟩ : ∃ y, Hid (newLD r2 (payD x m1 m2 m3) = y) := ⟨_, hid rfl⟩
  obtain ⟨y3, hy3⟩ : ∃ y, Hid (newLD r3 (forgD x (forgTo x i x.ln)) = y) := ⟨_, hid rfl⟩
  go_upto_if 42 with fail
  go_cut [11, 12, 13] (fun s11 s12 s13 W => s11 = .int .i64 r1 ∧ s12 = .int .i64 r2 ∧ s13 = .int .i64 r3 ∧ Hid (Ext w8 W ∧ ∃ q1 q2 q3, Blk W N14 27 #[.int .i64 y1.folk, .int .i64 y1.years, .slice q1.A1 y1.bn q1.c1, .slice q1.A2 y1.fn q1.c2, .slice q1.A3 y1.ln q1.c3, .slice q1.A4 y1.pn q1.c4, .slice q1.A5 y1.mn q1.c5] ∧ IsLA W y1 q1 ∧ Blk W N15 27 #[.int .i64 y2.folk, .int .i64 y2.years, .slice q2.A1 y2.bn q2.c1, .slice q2.A2 y2.fn q2.c2, .slice q2.A3 y2.ln q2.c3, .slice q2.A4 y2.pn q2.c4, .slice q2.A5 y2.mn q2.c5] ∧ IsLA W y2 q2 ∧ Blk W N16 27 #[.int .i64 y3.folk, .int .i64 y3.years, .slice q3.A1 y3.bn q3.c1, .slice q3.A2 y3.fn q3.c2, .slice q3.A3 y3.ln q3.c3, .slice q3.A4 y3.pn q3.c4, .slice q3.A5 y3.mn q3.c5] ∧ IsLA W y3 q3))
  case first =>
    by_cases h0 : s = 0
    · subst h0
      have hx := hid (Ok.of_chk hs.out)
      have k4 := (B4.out.ext E9.out).cell
      have k4l := (B4.out.ext E9.out).lt
      go_upto_if 46 with fail
      go_cut [11] (fun s11 W => s11 = .int .i64 r1 ∧ Hid (Ext w8 W ∧ Ch (· = N14) w9 W ∧ ∃ q1, Blk W N14 27 #[.int .i64 y1.folk, .int .i64 y1.years, .slice q1.A1 y1.bn q1.c1, .slice q1.A2 y1.fn q1.c2, .slice q1.A3 y1.ln q1.c3, .slice q1.A4 y1.pn q1.c4, .slice q1.A5 y1.mn q1.c5] ∧ OwnQ W w9.heap.size y1 q1))
      case first =>
        by_cases hl : x.ln < 10
        · have t0 : (x.ln : Int) < 10 := by omega
          have hr : Hid ((lendD x a b c).chk = r1) := hid (by rw [← hr1.out]; unfold lendEr; rw [if_neg (by rw [hs.out]; simp), if_neg (by omega)])
          clear hl
          go_upto_region 13 with (go_at_call 19; refine (own19O (HL.out.ext (EW.out.trans E9.out)).isL hsm.out).mono ?_; rintro e wz ⟨qa, rfl, he, hO⟩; have HO1 := hid hO; have F := hid he; have k14 := (B14.out.ext he).cell; have k14l := (B14.out.ext he).lt; have k14f := (B14.out.ext he).frozen; unfold ledV; clear hO he k4 k4l)
          have hN8 := hid (show w8.heap.size ≤ N14 by have := hN14.out; have := hN15.out; omega)
          have hB1 := hid (E9.out.size)
          obtain ⟨bq, hbq⟩ : ∃ n, Hid (w9.heap.size = n) := ⟨_, hid rfl⟩
          have hNb : N14 < bq := by have := B14.out.lt; have := hbq.out; omega
          have HO1 := hid (show OwnLg wz bq x (.slice qa.A1 x.bn qa.c1) (.slice qa.A2 x.fn qa.c2) (.slice qa.A3 x.ln qa.c3) (.slice qa.A4 x.pn qa.c4) (.slice qa.A5 x.mn qa.c5) by rw [← hbq.out]; exact HO1.out)
          have HO7 := hid (HO1.out.far7 hNb (.int .i64 x.folk) (.int .i64 x.years) (.slice qa.A1 x.bn qa.c1) (.slice qa.A2 x.fn qa.c2) (.slice qa.A3 x.ln qa.c3) (.slice qa.A4 x.pn qa.c4) (.slice qa.A5 x.mn qa.c5))
          have B7 := hid (blk7L (B14.out.ext F.out) (.int .i64 x.folk) (.int .i64 x.years) (.slice qa.A1 x.bn qa.c1) (.slice qa.A2 x.fn qa.c2) (.slice qa.A3 x.ln qa.c3) (.slice qa.A4 x.pn qa.c4) (.slice qa.A5 x.mn qa.c5))
          have X7 := hid (ext7L (E9.out.trans F.out) hN8.out (.int .i64 x.folk) (.int .i64 x.years) (.slice qa.A1 x.bn qa.c1) (.slice qa.A2 x.fn qa.c2) (.slice qa.A3 x.ln qa.c3) (.slice qa.A4 x.pn qa.c4) (.slice qa.A5 x.mn qa.c5))
          have K7 := hid (((Ch.ofExt F.out).mono (T := (· = N14)) (fun _ q => q.elim)).trans (Ch.ofKpM (set7 (n := wz.heap.size) (H := N14) wz (.int .i64 x.folk) (.int .i64 x.years) (.slice qa.A1 x.bn qa.c1) (.slice qa.A2 x.fn qa.c2) (.slice qa.A3 x.ln qa.c3) (.slice qa.A4 x.pn qa.c4) (.slice qa.A5 x.mn qa.c5))) (fun b _ q => q))
          obtain ⟨wA, hwA⟩ : ∃ W : World, Hid (W = ((((((wz.setCell ⟨N14, 0, none⟩ (.int .i64 x.folk)).setCell ⟨N14, 1, none⟩ (.int .i64 x.years)).setCell ⟨N14, 2, none⟩ (.slice qa.A1 x.bn qa.c1)).setCell ⟨N14, 3, none⟩ (.slice qa.A2 x.fn qa.c2)).setCell ⟨N14, 4, none⟩ (.slice qa.A3 x.ln qa.c3)).setCell ⟨N14, 5, none⟩ (.slice qa.A4 x.pn qa.c4)).setCell ⟨N14, 6, none⟩ (.slice qa.A5 x.mn qa.c5)) := ⟨_, hid rfl⟩
          rw [← hwA.out] at HO7 B7 X7 K7 ⊢
          clear hwA HO1 F k14 k14l k14f
          have hbA : bq ≤ wA.heap.size := by have := K7.out.size; have := hbq.out; omega
          have k14 := B7.out.cell
          have k14l := B7.out.lt
          have k5 := (B5.out.ext X7.out).cell
          have k5l := (B5.out.ext X7.out).lt
          have e8 := hid (show Ext wA (wA.alloc (.cells #[.int .i64 a, .int .i64 b, .int .i64 c] 68)) from (Ext.refl _).alloc _)
          have hlr := hid (show (rowsG 3 x.ln x.lo ++ [[a, b, c]]).length = x.ln + 1 by rw [List.length_append, rowsG_length]; rfl)
          go_upto_region 14 with (at_builtin; refine append_rows_atF rfl _ _ 23 rfl el23 rfl (HO7.out.o3.ext (Ext.alloc (Ext.refl _) _)) _ 1 1 [[a, b, c]] rfl rfl (by simp) (by intro j; simp [cellsOf]) (by rw [rowsG_length]; omega) (by simp; omega) ?_; intro v9 w10 ho9 hg9 _; obtain ⟨D9, q9, rfl, -⟩ := OwnR.slR ho9; rw [hlr.out] at ho9 ⊢; have HO9 := hid ho9; have HG9 := hid hg9; have b9 := ((B7.out.ext e8.out).grown hg9 (fun q => (HO7.out.o3.ext e8.out).ne_blk (B7.out.ext e8.out) (by decide) q.symm)); have k9 := b9.cell; have k9l := b9.lt; have k9f := b9.frozen; clear ho9 hg9 b9 k14 k14l k5 k5l)
          obtain ⟨p1, p2, p3, p4⟩ := lend_app (a := a) (y := b) (n := c) HO7.out B7.out e8.out HG9.out HO9.out
          have XB := hid (p3 w8 X7.out (by rw [← hbq.out]; exact hB1.out) hN8.out)
          have KB := hid (p4 w9 K7.out (by rw [hbq.out]; exact Nat.le_refl _))
          have OB := hid (show OwnQ _ bq (lendD x a b c) ⟨qa.A1, qa.c1, qa.A2, qa.c2, D9, q9, qa.A4, qa.c4, qa.A5, qa.c5⟩ from p1)
          have BB := hid p2
          clear p1 p2 p3 p4 HG9 HO9 k9 k9l k9f
          obtain ⟨wB, hwB⟩ : ∃ W : World, Hid (W = w10.setCell ⟨N14, 4, none⟩ (.slice D9 (x.ln + 1) q9)) := ⟨_, hid rfl⟩
          rw [← hwB.out] at XB KB OB BB ⊢
          clear hwB e8
          have BB : Hid (Blk wB N14 27 #[.int .i64 x.folk, .int .i64 x.years, .slice qa.A1 x.bn qa.c1, .slice qa.A2 x.fn qa.c2, .slice D9 (x.ln + 1) q9, .slice qa.A4 x.pn qa.c4, .slice qa.A5 x.mn qa.c5]) := hid BB.out
          have k14 := BB.out.cell
          have k14l := BB.out.lt
          have G := hid (Ext.refl wB)
          have HSD := hid (show Sm (lendD x a b c) from ⟨h1, h2, show x.ln + 1 ≤ 1000 by omega, by show x.pn ≤ 1000; omega, h5⟩)
          go_upto_region 15 with (first
            | (go_at_call 20; refine (theirs20 (x := lendD x a b c) (p := ⟨qa.A1, qa.c1, qa.A2, qa.c2, D9, q9, qa.A4, qa.c4, qa.A5, qa.c5⟩) OB.out.la HSD.out.l HSD.out.p HSD.out.m).mono ?_; rintro e wz ⟨D3, d3, D4, d4, D5, d5, rfl, he, ht, -⟩; have HT := hid ht; have G := hid (G.out.trans he); clear he ht k14 k14l)
            | (go_at_call 21; refine (check21 (x := lendD x a b c) HT.out.isL HSD.out.b HSD.out.f HSD.out.l HSD.out.p HSD.out.m).mono ?_; rintro e wz ⟨rfl, he⟩; rw [hr.out]; have G := hid (G.out.trans he); clear he))
          have k14l := (BB.out.ext G.out).lt
          have k14 := (BB.out.ext G.out).cell
          have k14f := (BB.out.ext G.out).frozen
          by_cases he0 : r1 = 0
          · have tz : (r1 != 0) = false := by simp [he0]
            have hyy : Hid (y1 = lendD x a b c) := hid (by rw [← hy1.out]; unfold newLD; rw [if_pos he0])
            clear he0
            go_wp2_with fail
            go_meet
            refine ⟨rfl, hid ⟨XB.out.trans G.out, KB.out.trans (Ch.ofExt G.out) (fun b _ q => q.elim), ⟨qa.A1, qa.c1, qa.A2, qa.c2, D9, q9, qa.A4, qa.c4, qa.A5, qa.c5⟩, ?_, ?_⟩⟩
            · rw [hyy.out]; exact BB.out.ext G.out
            · rw [hyy.out, hbq.out]; exact OB.out.ext G.out
          · have tz : (r1 != 0) = true := by simpa using he0
            have hyy : Hid (y1 = Z0) := hid (by rw [← hy1.out]; unfold newLD; rw [if_neg he0])
            clear he0
            go_wp2_with fail
            go_meet
            refine ⟨rfl, hid ⟨ext7L (XB.out.trans G.out) hN8.out (.int .i64 0) (.int .i64 0) (.slice none 0 0) (.slice none 0 0) (.slice none 0 0) (.slice none 0 0) (.slice none 0 0), (KB.out.trans (Ch.ofExt G.out) (fun b _ q => q.elim)).trans (Ch.ofKpM (set7 (n := wz.heap.size) (H := N14) wz (.int .i64 0) (.int .i64 0) (.slice none 0 0) (.slice none 0 0) (.slice none 0 0) (.slice none 0 0) (.slice none 0 0))) (fun b _ q => q), nilA, ?_, ?_⟩⟩
            · rw [hyy.out]; exact blk7L (BB.out.ext G.out) (.int .i64 0) (.int .i64 0) (.slice none 0 0) (.slice none 0 0) (.slice none 0 0) (.slice none 0 0) (.slice none 0 0)
            · rw [hyy.out]; exact OwnQ.zero
        · have t0 : ¬ (x.ln : Int) < 10 := by omega
          have hle := hid ((Ok.of_chk hs.out).ln)
          have hr : Hid (r1 = 9) := hid (by rw [← hr1.out]; unfold lendEr; rw [if_neg (by rw [hs.out]; simp), if_pos (by have := hle.out; omega)])
          have hyy : Hid (y1 = Z0) := hid (by rw [← hy1.out, hr.out]; rfl)
          clear hl
          go_wp2_with fail
          go_meet
          refine ⟨by rw [hr.out], hid ⟨E9.out, Ch.refl _ _, nilA, ?_, ?_⟩⟩
          · rw [hyy.out]; exact B14.out
          · rw [hyy.out]; exact OwnQ.zero
      case rest =>
        obtain ⟨rfl, hD⟩ := hcut
        obtain ⟨wc1, rfl⟩ : ∃ W : World, W = wc := ⟨_, rfl⟩
        obtain ⟨X1, K1, q1, b14, o1⟩ := hD.out
        have B15 := hid (K1.blk B15.out (by have := hN15.out; omega))
        have B16 := hid (K1.blk B16.out (by have := hN15.out; have := hN16.out; omega))
        have E9 := hid X1
        have B14 := hid b14
        have O1 := hid o1
        clear hD X1 K1 b14 o1 k4 k4l
        have k4 := (B4.out.ext E9.out).cell
        have k4l := (B4.out.ext E9.out).lt
        go_upto_if 64 with fail
        go_cut [12] (fun s12 W => s12 = .int .i64 r2 ∧ Hid (Ext w8 W ∧ Ch (· = N15) wc1 W ∧ ∃ q2, Blk W N15 27 #[.int .i64 y2.folk, .int .i64 y2.years, .slice q2.A1 y2.bn q2.c1, .slice q2.A2 y2.fn q2.c2, .slice q2.A3 y2.ln q2.c3, .slice q2.A4 y2.pn q2.c4, .slice q2.A5 y2.mn q2.c5] ∧ OwnQ W wc1.heap.size y2 q2))
        case first =>
          by_cases hl : x.pn < 12
          · have t0 : (x.pn : Int) < 12 := by omega
            have hr : Hid ((payD x m1 m2 m3).chk = r2) := hid (by rw [← hr2.out]; unfold payEr; rw [if_neg (by rw [hs.out]; simp), if_neg (by omega)])
            clear hl
            go_upto_region 20 with (go_at_call 19; refine (own19O (HL.out.ext (EW.out.trans E9.out)).isL hsm.out).mono ?_; rintro e wz ⟨qa, rfl, he, hO⟩; have HO1 := hid hO; have F := hid he; have k14 := (B15.out.ext he).cell; have k14l := (B15.out.ext he).lt; have k14f := (B15.out.ext he).frozen; unfold ledV; clear hO he k4 k4l)
            have hN8 := hid (show w8.heap.size ≤ N15 by have := hN14.out; have := hN15.out; omega)
            have hB1 := hid (E9.out.size)
            obtain ⟨bq, hbq⟩ : ∃ n, Hid (wc1.heap.size = n) := ⟨_, hid rfl⟩
            have hNb : N15 < bq := by have := B15.out.lt; have := hbq.out; omega
            have HO1 := hid (show OwnLg wz bq x (.slice qa.A1 x.bn qa.c1) (.slice qa.A2 x.fn qa.c2) (.slice qa.A3 x.ln qa.c3) (.slice qa.A4 x.pn qa.c4) (.slice qa.A5 x.mn qa.c5) by rw [← hbq.out]; exact HO1.out)
            have HO7 := hid (HO1.out.far7 hNb (.int .i64 x.folk) (.int .i64 x.years) (.slice qa.A1 x.bn qa.c1) (.slice qa.A2 x.fn qa.c2) (.slice qa.A3 x.ln qa.c3) (.slice qa.A4 x.pn qa.c4) (.slice qa.A5 x.mn qa.c5))
            have B7 := hid (blk7L (B15.out.ext F.out) (.int .i64 x.folk) (.int .i64 x.years) (.slice qa.A1 x.bn qa.c1) (.slice qa.A2 x.fn qa.c2) (.slice qa.A3 x.ln qa.c3) (.slice qa.A4 x.pn qa.c4) (.slice qa.A5 x.mn qa.c5))
            have X7 := hid (ext7L (E9.out.trans F.out) hN8.out (.int .i64 x.folk) (.int .i64 x.years) (.slice qa.A1 x.bn qa.c1) (.slice qa.A2 x.fn qa.c2) (.slice qa.A3 x.ln qa.c3) (.slice qa.A4 x.pn qa.c4) (.slice qa.A5 x.mn qa.c5))
            have K7 := hid (((Ch.ofExt F.out).mono (T := (· = N15)) (fun _ q => q.elim)).trans (Ch.ofKpM (set7 (n := wz.heap.size) (H := N15) wz (.int .i64 x.folk) (.int .i64 x.years) (.slice qa.A1 x.bn qa.c1) (.slice qa.A2 x.fn qa.c2) (.slice qa.A3 x.ln qa.c3) (.slice qa.A4 x.pn qa.c4) (.slice qa.A5 x.mn qa.c5))) (fun b _ q => q))
            obtain ⟨wA, hwA⟩ : ∃ W : World, Hid (W = ((((((wz.setCell ⟨N15, 0, none⟩ (.int .i64 x.folk)).setCell ⟨N15, 1, none⟩ (.int .i64 x.years)).setCell ⟨N15, 2, none⟩ (.slice qa.A1 x.bn qa.c1)).setCell ⟨N15, 3, none⟩ (.slice qa.A2 x.fn qa.c2)).setCell ⟨N15, 4, none⟩ (.slice qa.A3 x.ln qa.c3)).setCell ⟨N15, 5, none⟩ (.slice qa.A4 x.pn qa.c4)).setCell ⟨N15, 6, none⟩ (.slice qa.A5 x.mn qa.c5)) := ⟨_, hid rfl⟩
            rw [← hwA.out] at HO7 B7 X7 K7 ⊢
            clear hwA HO1 F k14 k14l k14f
            have hbA : bq ≤ wA.heap.size := by have := K7.out.size; have := hbq.out; omega
            have k14 := B7.out.cell
            have k14l := B7.out.lt
            have k5 := (B6.out.ext X7.out).cell
            have k5l := (B6.out.ext X7.out).lt
            have e8 := hid (show Ext wA (wA.alloc (.cells #[.int .i64 m1, .int .i64 m2, .int .i64 m3] 71)) from (Ext.refl _).alloc _)
            have hlr := hid (show (rowsG 3 x.pn x.pa ++ [[m1, m2, m3]]).length = x.pn + 1 by rw [List.length_append, rowsG_length]; rfl)
            go_upto_region 21 with (at_builtin; refine append_rows_atF rfl _ _ 24 rfl el24 rfl (HO7.out.o4.ext (Ext.alloc (Ext.refl _) _)) _ 1 1 [[m1, m2, m3]] rfl rfl (by simp) (by intro j; simp [cellsOf]) (by rw [rowsG_length]; omega) (by simp; omega) ?_; intro v9 w10 ho9 hg9 _; obtain ⟨D9, q9, rfl, -⟩ := OwnR.slR ho9; rw [hlr.out] at ho9 ⊢; have HO9 := hid ho9; have HG9 := hid hg9; have b9 := ((B7.out.ext e8.out).grown hg9 (fun q => (HO7.out.o4.ext e8.out).ne_blk (B7.out.ext e8.out) (by decide) q.symm)); have k9 := b9.cell; have k9l := b9.lt; have k9f := b9.frozen; clear ho9 hg9 b9 k14 k14l k5 k5l)
            obtain ⟨p1, p2, p3, p4⟩ := pay_app (a := m1) (y := m2) (n := m3) HO7.out B7.out e8.out HG9.out HO9.out
            have XB := hid (p3 w8 X7.out (by rw [← hbq.out]; exact hB1.out) hN8.out)
            have KB := hid (p4 wc1 K7.out (by rw [hbq.out]; exact Nat.le_refl _))
            have OB := hid (show OwnQ _ bq (payD x m1 m2 m3) ⟨qa.A1, qa.c1, qa.A2, qa.c2, qa.A3, qa.c3, D9, q9, qa.A5, qa.c5⟩ from p1)
            have BB := hid p2
            clear p1 p2 p3 p4 HG9 HO9 k9 k9l k9f
            obtain ⟨wB, hwB⟩ : ∃ W : World, Hid (W = w10.setCell ⟨N15, 5, none⟩ (.slice D9 (x.pn + 1) q9)) := ⟨_, hid rfl⟩
            rw [← hwB.out] at XB KB OB BB ⊢
            clear hwB e8
            have BB : Hid (Blk wB N15 27 #[.int .i64 x.folk, .int .i64 x.years, .slice qa.A1 x.bn qa.c1, .slice qa.A2 x.fn qa.c2, .slice qa.A3 x.ln qa.c3, .slice D9 (x.pn + 1) q9, .slice qa.A5 x.mn qa.c5]) := hid BB.out
            have k14 := BB.out.cell
            have k14l := BB.out.lt
            have G := hid (Ext.refl wB)
            have HSD := hid (show Sm (payD x m1 m2 m3) from ⟨h1, h2, show x.ln ≤ 1000 by omega, by show x.pn + 1 ≤ 1000; omega, h5⟩)
            go_upto_region 22 with (first
              | (go_at_call 20; refine (theirs20 (x := payD x m1 m2 m3) (p := ⟨qa.A1, qa.c1, qa.A2, qa.c2, qa.A3, qa.c3, D9, q9, qa.A5, qa.c5⟩) OB.out.la HSD.out.l HSD.out.p HSD.out.m).mono ?_; rintro e wz ⟨D3, d3, D4, d4, D5, d5, rfl, he, ht, -⟩; have HT := hid ht; have G := hid (G.out.trans he); clear he ht k14 k14l)
              | (go_at_call 21; refine (check21 (x := payD x m1 m2 m3) HT.out.isL HSD.out.b HSD.out.f HSD.out.l HSD.out.p HSD.out.m).mono ?_; rintro e wz ⟨rfl, he⟩; rw [hr.out]; have G := hid (G.out.trans he); clear he))
            have k14l := (BB.out.ext G.out).lt
            have k14 := (BB.out.ext G.out).cell
            have k14f := (BB.out.ext G.out).frozen
            by_cases he0 : r2 = 0
            · have tz : (r2 != 0) = false := by simp [he0]
              have hyy : Hid (y2 = payD x m1 m2 m3) := hid (by rw [← hy2.out]; unfold newLD; rw [if_pos he0])
              clear he0
              go_wp2_with fail
              go_meet
              refine ⟨rfl, hid ⟨XB.out.trans G.out, KB.out.trans (Ch.ofExt G.out) (fun b _ q => q.elim), ⟨qa.A1, qa.c1, qa.A2, qa.c2, qa.A3, qa.c3, D9, q9, qa.A5, qa.c5⟩, ?_, ?_⟩⟩
              · rw [hyy.out]; exact BB.out.ext G.out
              · rw [hyy.out, hbq.out]; exact OB.out.ext G.out
            · have tz : (r2 != 0) = true := by simpa using he0
              have hyy : Hid (y2 = Z0) := hid (by rw [← hy2.out]; unfold newLD; rw [if_neg he0])
              clear he0
              go_wp2_with fail
              go_meet
              refine ⟨rfl, hid ⟨ext7L (XB.out.trans G.out) hN8.out (.int .i64 0) (.int .i64 0) (.slice none 0 0) (.slice none 0 0) (.slice none 0 0) (.slice none 0 0) (.slice none 0 0), (KB.out.trans (Ch.ofExt G.out) (fun b _ q => q.elim)).trans (Ch.ofKpM (set7 (n := wz.heap.size) (H := N15) wz (.int .i64 0) (.int .i64 0) (.slice none 0 0) (.slice none 0 0) (.slice none 0 0) (.slice none 0 0) (.slice none 0 0))) (fun b _ q => q), nilA, ?_, ?_⟩⟩
              · rw [hyy.out]; exact blk7L (BB.out.ext G.out) (.int .i64 0) (.int .i64 0) (.slice none 0 0) (.slice none 0 0) (.slice none 0 0) (.slice none 0 0) (.slice none 0 0)
              · rw [hyy.out]; exact OwnQ.zero
          · have t0 : ¬ (x.pn : Int) < 12 := by omega
            have hle := hid ((Ok.of_chk hs.out).pn)
            have hr : Hid (r2 = 9) := hid (by rw [← hr2.out]; unfold payEr; rw [if_neg (by rw [hs.out]; simp), if_pos (by have := hle.out; omega)])
            have hyy : Hid (y2 = Z0) := hid (by rw [← hy2.out, hr.out]; rfl)
            clear hl
            go_wp2_with fail
            go_meet
            refine ⟨by rw [hr.out], hid ⟨E9.out, Ch.refl _ _, nilA, ?_, ?_⟩⟩
            · rw [hyy.out]; exact B15.out
            · rw [hyy.out]; exact OwnQ.zero
        case rest =>
          obtain ⟨rfl, hD⟩ := hcut
          obtain ⟨wc2, rfl⟩ : ∃ W : World, W = wc := ⟨_, rfl⟩
          obtain ⟨X2, K2, q2, b15, o2⟩ := hD.out
          have B14 := hid (K2.blk B14.out (by have := hN15.out; omega))
          have O1 := hid (O1.out.ch27 K2 B15.out)
          have B16 := hid (K2.blk B16.out (by have := hN16.out; omega))
          have E9 := hid X2
          have B15 := hid b15
          have O2 := hid o2
          clear hD X2 K2 b15 o2 k4 k4l
          have k4 := (B4.out.ext E9.out).cell
          have k4l := (B4.out.ext E9.out).lt
          by_cases hi0 : i < 0
          · have hr : Hid (r3 = 1) := hid (by rw [← hr3.out]; unfold forgE P.errL; rw [if_pos hs.out, show inB i 0 ((x.ln : Int) - 1) = false from decide_eq_false (by omega)]; rfl)
            have hyy : Hid (y3 = Z0) := hid (by rw [← hy3.out, hr.out]; rfl)
            go_wp2_with fail
            go_meet
            refine ⟨rfl, rfl, by rw [hr.out], hid ⟨E9.out, q1, q2, nilA, B14.out, O1.out.la, B15.out, O2.out.la, ?_, ?_⟩⟩
            · rw [hyy.out]; exact B16.out
            · rw [hyy.out]; exact (OwnQ.zero (B := 0)).la
          · by_cases hil : i < x.ln
            · obtain ⟨j0, hj0⟩ : ∃ j : Nat, i = (j : Int) := ⟨i.toNat, by omega⟩
              have hel := hid (show P.errL x i = 0 by unfold P.errL; rw [if_pos hs.out, show inB i 0 ((x.ln : Int) - 1) = true from decide_eq_true (by omega)]; rfl)
              have hil' : ¬ (x.ln : Int) ≤ i := by omega
              obtain ⟨bh, hbh⟩ : ∃ b, Hid (hasB x.fo x.fn i = b) := ⟨_, hid rfl⟩
              clear hj0
              cases bh
              · have hr : Hid (r3 = 0) := hid (by rw [← hr3.out]; unfold forgE; rw [if_neg (by rw [hel.out]; simp), hbh.out]; rfl)
                have hyy : Hid (y3 = forgD x (forgTo x i x.ln)) := hid (by rw [← hy3.out, hr.out]; rfl)
                go_upto_region 25 with (first
                  | (go_at_call 81; refine (has81 (HL.out.ext (EW.out.trans E9.out)).r2 h2 i).mono ?_; rintro e wz ⟨rfl, he⟩; rw [hbh.out]; have F0 := hid he; clear k4 k4l; have k4 := ((B4.out.ext E9.out).ext he).cell; have k4l := ((B4.out.ext E9.out).ext he).lt; clear he)
                  | (go_at_call 19; refine (own19O (HL.out.ext ((EW.out.trans E9.out).trans F0.out)).isL hsm.out).mono ?_; rintro e wz ⟨qa, rfl, he, hO⟩; have HO1 := hid hO; have F := hid (F0.out.trans he); have F1 := hid he; have k16 := (B16.out.ext F.out).cell; have k16l := (B16.out.ext F.out).lt; have k16f := (B16.out.ext F.out).frozen; unfold ledV; clear hO he k4 k4l))
                have hN8 := hid (show w8.heap.size ≤ N16 by have := hN14.out; have := hN15.out; have := hN16.out; omega)
                obtain ⟨bq, hbq⟩ : ∃ n, Hid (wc2.heap.size = n) := ⟨_, hid rfl⟩
                have hB1 := hid (show w8.heap.size ≤ bq by have := E9.out.size; have := hbq.out; omega)
                have hNb : N16 < bq := by have := B16.out.lt; have := hbq.out; omega
                have HO1 := hid (show OwnLg wz bq x (.slice qa.A1 x.bn qa.c1) (.slice qa.A2 x.fn qa.c2) (.slice qa.A3 x.ln qa.c3) (.slice qa.A4 x.pn qa.c4) (.slice qa.A5 x.mn qa.c5) from OwnLg.base HO1.out (by rw [← hbq.out]; exact F0.out.size))
                have HO7 := hid (HO1.out.far7 hNb (.int .i64 x.folk) (.int .i64 x.years) (.slice qa.A1 x.bn qa.c1) (.slice qa.A2 x.fn qa.c2) (.slice qa.A3 x.ln qa.c3) (.slice qa.A4 x.pn qa.c4) (.slice qa.A5 x.mn qa.c5))
                have B7 := hid (blk7L (B16.out.ext F.out) (.int .i64 x.folk) (.int .i64 x.years) (.slice qa.A1 x.bn qa.c1) (.slice qa.A2 x.fn qa.c2) (.slice qa.A3 x.ln qa.c3) (.slice qa.A4 x.pn qa.c4) (.slice qa.A5 x.mn qa.c5))
                have X7 := hid (ext7L (E9.out.trans F.out) hN8.out (.int .i64 x.folk) (.int .i64 x.years) (.slice qa.A1 x.bn qa.c1) (.slice qa.A2 x.fn qa.c2) (.slice qa.A3 x.ln qa.c3) (.slice qa.A4 x.pn qa.c4) (.slice qa.A5 x.mn qa.c5))
                have K7 := hid (((Ch.ofExt F.out).mono (T := (· = N16)) (fun _ q => q.elim)).trans (Ch.ofKpM (set7 (n := wz.heap.size) (H := N16) wz (.int .i64 x.folk) (.int .i64 x.years) (.slice qa.A1 x.bn qa.c1) (.slice qa.A2 x.fn qa.c2) (.slice qa.A3 x.ln qa.c3) (.slice qa.A4 x.pn qa.c4) (.slice qa.A5 x.mn qa.c5))) (fun b _ q => q))
                obtain ⟨wA, hwA⟩ : ∃ W : World, Hid (W = ((((((wz.setCell ⟨N16, 0, none⟩ (.int .i64 x.folk)).setCell ⟨N16, 1, none⟩ (.int .i64 x.years)).setCell ⟨N16, 2, none⟩ (.slice qa.A1 x.bn qa.c1)).setCell ⟨N16, 3, none⟩ (.slice qa.A2 x.fn qa.c2)).setCell ⟨N16, 4, none⟩ (.slice qa.A3 x.ln qa.c3)).setCell ⟨N16, 5, none⟩ (.slice qa.A4 x.pn qa.c4)).setCell ⟨N16, 6, none⟩ (.slice qa.A5 x.mn qa.c5)) := ⟨_, hid rfl⟩
                rw [← hwA.out] at HO7 B7 X7 K7 ⊢
                clear hwA HO1 F F0 F1 k16 k16l k16f
                have k16 := B7.out.cell
                have k16l := B7.out.lt
                have k16f := B7.out.frozen
                go_upto_region 26 with fail
                have hl0 : (forgTo x i 0).length = 0 := rfl
                have BF0 := hid (B7.out.set_ 3 (.slice none 0 0))
                have OF0 := hid (show OwnLg (wA.setCell ⟨N16, 3, none⟩ (.slice none 0 0)) bq (forgD x (forgTo x i 0)) (.slice qa.A1 x.bn qa.c1) (.slice none 0 0) (.slice qa.A3 x.ln qa.c3) (.slice qa.A4 x.pn qa.c4) (.slice qa.A5 x.mn qa.c5) from
                  have h := HO7.out.far1 (i := 3) hNb (.slice none 0 0)
                  ⟨h.o1, OwnR.nil, h.o3, h.o4, h.o5, fun _ _ q => by cases q⟩)
                have X0 := hid (X7.out.setCell (p := ⟨N16, 3, none⟩) (.slice none 0 0) hN8.out)
                have K0 := hid (K7.out.trans (Ch.ofSet wA N16 3 (.slice none 0 0)) (fun b _ q => q))
                obtain ⟨wB, hwB⟩ : ∃ W : World, Hid (W = wA.setCell ⟨N16, 3, none⟩ (.slice none 0 0)) := ⟨_, hid rfl⟩
                rw [← hwB.out] at BF0 OF0 X0 K0 ⊢
                clear hwB HO7 B7 X7 K7 k16 k16l k16f hl0
                have BF0 : Hid (Blk wB N16 27 #[.int .i64 x.folk, .int .i64 x.years, .slice qa.A1 x.bn qa.c1, .slice none 0 0, .slice qa.A3 x.ln qa.c3, .slice qa.A4 x.pn qa.c4, .slice qa.A5 x.mn qa.c5]) := hid BF0.out
                have k4 := (B4.out.ext X0.out).cell
                have k4l := (B4.out.ext X0.out).lt
                go_upto_region 27 with fail
                clear k4 k4l
                go_loopw [85] (fun ii W => ∃ j : Nat, j ≤ x.ln ∧ ii = .int .i64 (j : Int) ∧ Hid (Ext w8 W ∧ Ch (· = N16) wc2 W ∧ ∃ Af cf, Blk W N16 27 #[.int .i64 x.folk, .int .i64 x.years, .slice qa.A1 x.bn qa.c1, .slice Af (forgTo x i j).length cf, .slice qa.A3 x.ln qa.c3, .slice qa.A4 x.pn qa.c4, .slice qa.A5 x.mn qa.c5] ∧ OwnLg W bq (forgD x (forgTo x i j)) (.slice qa.A1 x.bn qa.c1) (.slice Af (forgTo x i j).length cf) (.slice qa.A3 x.ln qa.c3) (.slice qa.A4 x.pn qa.c4) (.slice qa.A5 x.mn qa.c5))) (fun ii _ => x.ln - (intOf ii).toNat)
                case atStart => exact ⟨0, Nat.zero_le _, rfl, hid ⟨X0.out, K0.out, none, 0, BF0.out, OF0.out⟩⟩
                case round =>
                  obtain ⟨j, hj, rfl, hR⟩ := hrel
                  clear X0 K0 BF0 OF0
                  obtain ⟨x0, kk0, Af, cf, bf0, of0⟩ := hR.out
                  have X := hid x0
                  have K := hid kk0
                  clear hR x0 kk0
                  by_cases hlj : j < x.ln
                  · obtain ⟨b1, hb1⟩ : ∃ b, ((j : Int) == i) = b := ⟨_, rfl⟩
                    obtain ⟨b2, hb2⟩ : ∃ b, Hid (hasB x.fo x.fn (j : Int) = b) := ⟨_, hid rfl⟩
                    have hst := hid (forgTo_succ x i j)
                    have hln := forgTo_len x i j
                    rw [hb1, hb2.out] at hst
                    obtain ⟨L, hL⟩ : ∃ L, Hid (forgTo x i j = L) := ⟨_, hid rfl⟩
                    rw [hL.out] at hst hln bf0 of0
                    have BF := hid bf0
                    have OF := hid of0
                    clear bf0 of0
                    have k4 := (B4.out.ext X.out).cell
                    have k4l := (B4.out.ext X.out).lt
                    have k16 := BF.out.cell
                    have k16l := BF.out.lt
                    have hlr := hid (show (rowsI L ++ [[(j : Int)]]).length = L.length + 1 by rw [List.length_append, rowsI_length]; rfl)
                    cases b1
                    · cases b2
                      · have hst' := hid (show forgTo x i (j + 1) = L by rw [hst.out]; simp)
                        go_wp2_with (go_at_call 81; refine (has81 (HL.out.ext (EW.out.trans X.out)).r2 h2 (j : Int)).mono ?_; rintro e wz ⟨rfl, he⟩; rw [hb2.out]; have X := hid (X.out.trans he); have K := hid (K.out.trans (Ch.ofExt he) (fun b _ q => q.elim)); have BF := hid (BF.out.ext he); have OF := hid (OF.out.ext he); clear k4 k4l k16 k16l he)
                        go_roundw
                        case rel =>
                          refine ⟨j + 1, by omega, by go_num, hid ⟨X.out, K.out, Af, cf, ?_, ?_⟩⟩
                          · rw [hst'.out]; exact BF.out
                          · rw [hst'.out]; exact OF.out
                        case measure => simp [intOf]; omega
                      · have hst' := hid (show forgTo x i (j + 1) = L ++ [(j : Int)] by rw [hst.out]; simp)
                        go_upto_region 31 with (first
                          | (go_at_call 81; refine (has81 (HL.out.ext (EW.out.trans X.out)).r2 h2 (j : Int)).mono ?_; rintro e wz ⟨rfl, he⟩; rw [hb2.out]; have X := hid (X.out.trans he); have K := hid (K.out.trans (Ch.ofExt he) (fun b _ q => q.elim)); have BF := hid (BF.out.ext he); have OF := hid (OF.out.ext he); clear k4 k4l; have k16 := BF.out.cell; have k16l := BF.out.lt; have hsz := BF.out.lt; clear he)
                          | (at_builtin; refine append_rows_atF rfl _ _ 22 rfl el22 rfl ((forgLg_o2 OF.out).ext (Ext.alloc (Ext.refl _) _)) _ 1 1 [[(j : Int)]] rfl rfl (by simp) (by intro j; simp [cellsOf]) (by rw [rowsI_length]; omega) (by simp only [World.size_alloc]; have := K.out.size; have := hbq.out; omega) ?_; intro v9 w10 ho9 hg9 at9; obtain ⟨D9, q9, rfl, -⟩ := OwnR.slR ho9; rw [hlr.out] at ho9 at9 ⊢; have HO9 := hid ho9; have HG9 := hid hg9; have HA9 := hid at9; have b8 := BF.out.ext ((Ext.refl _).alloc (.cells #[.int .i64 (j : Int)] 3)); have b9 := b8.grown hg9 (fun q => ((forgLg_o2 OF.out).ext ((Ext.refl _).alloc (.cells #[.int .i64 (j : Int)] 3))).ne_blk b8 (by decide) q.symm); clear b8; have k9 := b9.cell; have k9l := b9.lt; have k9f := b9.frozen; clear ho9 hg9 at9 b9))
                        obtain ⟨p1, p2, p3, p4⟩ := forg_app OF.out BF.out ((Ext.refl _).alloc (.cells #[.int .i64 (j : Int)] 3)) HG9.out HO9.out HA9.out
                        have hX := hid (p3 w8 X.out hB1.out hN8.out)
                        have hK := hid (p4 wc2 K.out (by rw [hbq.out]; exact Nat.le_refl _))
                        have h1' := hid p1
                        have h2' := hid p2
                        clear p1 p2 p3 p4 HG9 HO9 HA9 k9 k9l k9f
                        go_wp2_with fail
                        go_roundw
                        case rel =>
                          refine ⟨j + 1, by omega, by go_num, hid ⟨hX.out, hK.out, D9, q9, ?_, ?_⟩⟩
                          · rw [hst'.out, List.length_append]; exact h2'.out
                          · rw [hst'.out, List.length_append]; exact h1'.out
                        case measure => simp [intOf]; omega
                    · have hst' := hid (show forgTo x i (j + 1) = L ++ [(j : Int)] by rw [hst.out]; simp)
                      go_upto_region 31 with (first
                        | (go_at_call 81; refine (has81 (HL.out.ext (EW.out.trans X.out)).r2 h2 (j : Int)).mono ?_; rintro e wz ⟨rfl, he⟩; rw [hb2.out]; have X := hid (X.out.trans he); have K := hid (K.out.trans (Ch.ofExt he) (fun b _ q => q.elim)); have BF := hid (BF.out.ext he); have OF := hid (OF.out.ext he); clear k4 k4l; have k16 := BF.out.cell; have k16l := BF.out.lt; have hsz := BF.out.lt; clear he)
                        | (at_builtin; refine append_rows_atF rfl _ _ 22 rfl el22 rfl ((forgLg_o2 OF.out).ext (Ext.alloc (Ext.refl _) _)) _ 1 1 [[(j : Int)]] rfl rfl (by simp) (by intro j; simp [cellsOf]) (by rw [rowsI_length]; omega) (by simp only [World.size_alloc]; have := K.out.size; have := hbq.out; omega) ?_; intro v9 w10 ho9 hg9 at9; obtain ⟨D9, q9, rfl, -⟩ := OwnR.slR ho9; rw [hlr.out] at ho9 at9 ⊢; have HO9 := hid ho9; have HG9 := hid hg9; have HA9 := hid at9; have b8 := BF.out.ext ((Ext.refl _).alloc (.cells #[.int .i64 (j : Int)] 3)); have b9 := b8.grown hg9 (fun q => ((forgLg_o2 OF.out).ext ((Ext.refl _).alloc (.cells #[.int .i64 (j : Int)] 3))).ne_blk b8 (by decide) q.symm); clear b8; have k9 := b9.cell; have k9l := b9.lt; have k9f := b9.frozen; clear ho9 hg9 at9 b9))
                      obtain ⟨p1, p2, p3, p4⟩ := forg_app OF.out BF.out ((Ext.refl _).alloc (.cells #[.int .i64 (j : Int)] 3)) HG9.out HO9.out HA9.out
                      have hX := hid (p3 w8 X.out hB1.out hN8.out)
                      have hK := hid (p4 wc2 K.out (by rw [hbq.out]; exact Nat.le_refl _))
                      have h1' := hid p1
                      have h2' := hid p2
                      clear p1 p2 p3 p4 HG9 HO9 HA9 k9 k9l k9f
                      go_wp2_with fail
                      go_roundw
                      case rel =>
                        refine ⟨j + 1, by omega, by go_num, hid ⟨hX.out, hK.out, D9, q9, ?_, ?_⟩⟩
                        · rw [hst'.out, List.length_append]; exact h2'.out
                        · rw [hst'.out, List.length_append]; exact h1'.out
                      case measure => simp [intOf]; omega
                  · have hjl : j = x.ln := by omega
                    subst hjl
                    have h14 := hid (K.out.blk B14.out (by have := hN15.out; have := hN16.out; omega))
                    have h15 := hid (K.out.blk B15.out (by have := hN16.out; omega))
                    have h1 := hid (O1.out.ch27 K.out B16.out)
                    have h2 := hid (O2.out.ch27 K.out B16.out)
                    have hbf := hid bf0
                    have hof := hid (show OwnQ wr bq (forgD x (forgTo x i x.ln)) ⟨qa.A1, qa.c1, Af, cf, qa.A3, qa.c3, qa.A4, qa.c4, qa.A5, qa.c5⟩ from of0)
                    clear bf0 of0
                    go_wp2_with fail
                    go_meet
                    refine ⟨rfl, rfl, by rw [hr.out], hid ⟨X.out, q1, q2, ⟨qa.A1, qa.c1, Af, cf, qa.A3, qa.c3, qa.A4, qa.c4, qa.A5, qa.c5⟩, h14.out, h1.out.la, h15.out, h2.out.la, ?_, ?_⟩⟩
                    · rw [hyy.out]; exact hbf.out
                    · rw [hyy.out]; exact hof.out.la
              · have hr : Hid (r3 = 5) := hid (by rw [← hr3.out]; unfold forgE; rw [if_neg (by rw [hel.out]; simp), hbh.out]; rfl)
                have hyy : Hid (y3 = Z0) := hid (by rw [← hy3.out, hr.out]; rfl)
                go_wp2_with (go_at_call 81; refine (has81 (HL.out.ext (EW.out.trans E9.out)).r2 h2 i).mono ?_; rintro e wz ⟨rfl, he⟩; rw [hbh.out]; have F := hid he; clear he)
                go_meet
                refine ⟨rfl, rfl, by rw [hr.out], hid ⟨E9.out.trans F.out, q1, q2, nilA, B14.out.ext F.out, O1.out.la.ext F.out, B15.out.ext F.out, O2.out.la.ext F.out, ?_, ?_⟩⟩
                · rw [hyy.out]; exact B16.out.ext F.out
                · rw [hyy.out]; exact (OwnQ.zero (B := 0)).la
            · have hil' : (x.ln : Int) ≤ i := by omega
              have hr : Hid (r3 = 1) := hid (by rw [← hr3.out]; unfold forgE P.errL; rw [if_pos hs.out, show inB i 0 ((x.ln : Int) - 1) = false from decide_eq_false (by omega)]; rfl)
              have hyy : Hid (y3 = Z0) := hid (by rw [← hy3.out, hr.out]; rfl)
              go_wp2_with fail
              go_meet
              refine ⟨rfl, rfl, by rw [hr.out], hid ⟨E9.out, q1, q2, nilA, B14.out, O1.out.la, B15.out, O2.out.la, ?_, ?_⟩⟩
              · rw [hyy.out]; exact B16.out
              · rw [hyy.out]; exact (OwnQ.zero (B := 0)).la
    · have ts : (s == 0) = false := by simpa using h0
      have hc := hid (show x.chk ≠ 0 by rw [hs.out]; exact h0)
      have q1 := hid (show r1 = s by rw [← hr1.out]; unfold lendEr; rw [if_pos hc.out, hs.out])
      have q2 := hid (show r2 = s by rw [← hr2.out]; unfold payEr; rw [if_pos hc.out, hs.out])
      have q3 := hid (show r3 = s by
        have h : P.errL x i = s := by unfold P.errL; rw [if_neg hc.out, hs.out]
        rw [← hr3.out]; unfold forgE; rw [h, if_pos h0])
      have z1 := hid (show y1 = Z0 by rw [← hy1.out, q1.out]; unfold newLD; rw [if_neg h0])
      have z2 := hid (show y2 = Z0 by rw [← hy2.out, q2.out]; unfold newLD; rw [if_neg h0])
      have z3 := hid (show y3 = Z0 by rw [← hy3.out, q3.out]; unfold newLD; rw [if_neg h0])
      clear h0
      go_wp2_with fail
      go_meet
      refine ⟨by rw [q1.out], by rw [q2.out], by rw [q3.out], hid ⟨E9.out, nilA, nilA, nilA, ?_, ?_, ?_, ?_, ?_, ?_⟩⟩
      · rw [z1.out]; exact B14.out
      · rw [z1.out]; exact (OwnQ.zero (B := 0)).la
      · rw [z2.out]; exact B15.out
      · rw [z2.out]; exact (OwnQ.zero (B := 0)).la
      · rw [z3.out]; exact B16.out
      · rw [z3.out]; exact (OwnQ.zero (B := 0)).la
  case rest =>
    obtain ⟨rfl, rfl, rfl, hD⟩ := hcut
    obtain ⟨wc3, rfl⟩ : ∃ W : World, W = wc := ⟨_, rfl⟩
    obtain ⟨x3, q1, q2, q3, b14, l1, b15, l2, b16, l3⟩ := hD.out
    have B14 := hid b14
    have B15 := hid b15
    have B16 := hid b16
    have L1 := hid l1
    have L2 := hid l2
    have L3 := hid l3
    have B5 := hid (B5.out.ext x3)
    have B6 := hid (B6.out.ext x3)
    have B9 := hid (B9.out.ext x3)
    have B4 := hid (B4.out.ext x3)
    have HO := hid (HO.out.ext x3)
    have HL := hid (HL.out.ext (EW.out.trans x3))
    have EW := hid (EW.out.trans x3)
    have E := hid (Ext.refl wc3)
    have hsy1 := hid (show Sm y1 by rw [← hy1.out]; exact newLD_sm ⟨h1, h2, show x.ln + 1 ≤ 1000 by omega, by show x.pn ≤ 1000; omega, h5⟩)
    have hsy2 := hid (show Sm y2 by rw [← hy2.out]; exact newLD_sm ⟨h1, h2, show x.ln ≤ 1000 by omega, by show x.pn + 1 ≤ 1000; omega, h5⟩)
    have hsy3 := hid (show Sm y3 by rw [← hy3.out]; exact newLD_sm ⟨h1, by show (forgTo x i x.ln).length ≤ 1000; have := forgTo_len x i x.ln; omega, show x.ln ≤ 1000 by omega, by show x.pn ≤ 1000; omega, h5⟩)
    clear hD x3 b14 b15 b16 l1 l2 l3 hN14 hN15 hN16 E9 hs
    have k9 := B9.out.cell
    have k9l := B9.out.lt
    have k5 := B5.out.cell
    have k5l := B5.out.lt
    go_upto_region 37 with (go_at_call 82; refine (lend_any (p := q) (HO.out.ext E.out).la hsm.out a b c).mono ?_; rintro e wz ⟨qa, rfl, he, hO⟩; rw [hr1.out] at hO ⊢; rw [hy1.out] at hO ⊢; have Oqa := hid hO; have E := hid (E.out.trans he); unfold ledV; clear hO he k9 k9l k5 k5l)
    refine wp_later fun w37 hw => ?_
    obtain ⟨e37, b18⟩ := hw.newB
    obtain ⟨N18, hN18⟩ : ∃ N, Hid (N = wz.heap.size) := ⟨_, hid rfl⟩
    rw [← hN18.out] at b18 ⊢
    have B18 : Hid (Blk w37 N18 27 #[.int .i64 y1.folk, .int .i64 y1.years, .slice qa.A1 y1.bn qa.c1, .slice qa.A2 y1.fn qa.c2, .slice qa.A3 y1.ln qa.c3, .slice qa.A4 y1.pn qa.c4, .slice qa.A5 y1.mn qa.c5]) := hid b18
    have Oqa := hid (Oqa.out.ext e37)
    have E := hid (E.out.trans e37)
    clear hw e37 b18 hN18
    obtain ⟨sB, hsB⟩ : ∃ n, Hid (w37.heap.size = n) := ⟨_, hid rfl⟩
    have hLA := hid (Oqa.out.ltq (Nat.le_of_eq hsB.out))
    have hS37 := hid E.out.size
    have k9 := (B9.out.ext E.out).cell
    have k9l := (B9.out.ext E.out).lt
    have k6 := (B6.out.ext E.out).cell
    have k6l := (B6.out.ext E.out).lt
    go_upto_region 38 with (go_at_call 83; refine (pay_any (p := q) (HO.out.ext E.out).la hsm.out m1 m2 m3).mono ?_; rintro e wz ⟨qb, rfl, he, hO⟩; rw [hr2.out] at hO ⊢; rw [hy2.out] at hO ⊢; have Oqb := hid hO; have E := hid (E.out.trans he); have Oqa := hid (Oqa.out.ext he); have B18 := hid (B18.out.ext he); have F38 := hid he; unfold ledV; clear hO he k9 k9l k6 k6l)
    refine wp_later fun w38 hw => ?_
    obtain ⟨e37, b18⟩ := hw.newB
    obtain ⟨N20, hN20⟩ : ∃ N, Hid (N = wz.heap.size) := ⟨_, hid rfl⟩
    rw [← hN20.out] at b18 ⊢
    have B20 : Hid (Blk w38 N20 27 #[.int .i64 y2.folk, .int .i64 y2.years, .slice qb.A1 y2.bn qb.c1, .slice qb.A2 y2.fn qb.c2, .slice qb.A3 y2.ln qb.c3, .slice qb.A4 y2.pn qb.c4, .slice qb.A5 y2.mn qb.c5]) := hid b18
    have Oqb := hid (Oqb.out.ext e37)
    have E := hid (E.out.trans e37)
    have Oqa := hid (Oqa.out.ext e37)
    have B18 := hid (B18.out.ext e37)
    have hS38 := hid (F38.out.trans e37).size
    clear F38
    clear hw e37 b18 hN20
    have Oqb := hid (OwnQ.base Oqb.out (B' := sB) (by rw [hsB.out]; exact Nat.le_refl _))
    obtain ⟨sC, hsC⟩ : ∃ n, Hid (w38.heap.size = n) := ⟨_, hid rfl⟩
    have hLB := hid (Oqb.out.ltq (Nat.le_of_eq hsC.out))
    have k9 := (B9.out.ext E.out).cell
    have k9l := (B9.out.ext E.out).lt
    go_upto_region 39 with (go_at_call 84; refine (forg_any (p := q) (HO.out.ext E.out).la hsm.out i).mono ?_; rintro e wz ⟨qc, rfl, he, hO⟩; rw [hr3.out] at hO ⊢; rw [hy3.out] at hO ⊢; have Oqc := hid hO; have E := hid (E.out.trans he); have Oqa := hid (Oqa.out.ext he); have B18 := hid (B18.out.ext he); have Oqb := hid (Oqb.out.ext he); have B20 := hid (B20.out.ext he); unfold ledV; clear hO he k9 k9l)
    refine wp_later fun w39 hw => ?_
    obtain ⟨e37, b18⟩ := hw.newB
    obtain ⟨N22, hN22⟩ : ∃ N, Hid (N = wz.heap.size) := ⟨_, hid rfl⟩
    rw [← hN22.out] at b18 ⊢
    have B22 : Hid (Blk w39 N22 27 #[.int .i64 y3.folk, .int .i64 y3.years, .slice qc.A1 y3.bn qc.c1, .slice qc.A2 y3.fn qc.c2, .slice qc.A3 y3.ln qc.c3, .slice qc.A4 y3.pn qc.c4, .slice qc.A5 y3.mn qc.c5]) := hid b18
    have Oqc := hid (Oqc.out.ext e37)
    have E := hid (E.out.trans e37)
    have Oqa := hid (Oqa.out.ext e37)
    have B18 := hid (B18.out.ext e37)
    have Oqb := hid (Oqb.out.ext e37)
    have B20 := hid (B20.out.ext e37)
    clear hw e37 b18 hN22
    have Oqc := hid (OwnQ.base Oqc.out (B' := sC) (by rw [hsC.out]; exact Nat.le_refl _))
    have B14 := hid (B14.out.ext E.out)
    have B15 := hid (B15.out.ext E.out)
    have B16 := hid (B16.out.ext E.out)
    have L1 := hid (L1.out.ext E.out)
    have L2 := hid (L2.out.ext E.out)
    have L3 := hid (L3.out.ext E.out)
    have G := hid (Ext.refl w39)
    have k18 := (B18.out.ext G.out).cell
    have k18l := (B18.out.ext G.out).lt
    have k20 := (B20.out.ext G.out).cell
    have k20l := (B20.out.ext G.out).lt
    have k22 := (B22.out.ext G.out).cell
    have k22l := (B22.out.ext G.out).lt
    have k14 := (B14.out.ext G.out).cell
    have k14l := (B14.out.ext G.out).lt
    have k15 := (B15.out.ext G.out).cell
    have k15l := (B15.out.ext G.out).lt
    have k16 := (B16.out.ext G.out).cell
    have k16l := (B16.out.ext G.out).lt
    go_upto_region 41 with (first
      | (go_at_call 29; (fail_if_success (have := hS1.out)); refine (same29 (x := y1) (Oqa.out.la.ext G.out).isL (L1.out.ext G.out).isL hsy1.out.b hsy1.out.f hsy1.out.l hsy1.out.p hsy1.out.m).mono ?_; rintro e wz ⟨rfl, he⟩; have hS1 := hid he; have G := hid (G.out.trans he); clear he k18 k18l k20 k20l k22 k22l k14 k14l k15 k15l k16 k16l; have k18 := (B18.out.ext G.out).cell; have k18l := (B18.out.ext G.out).lt; have k20 := (B20.out.ext G.out).cell; have k20l := (B20.out.ext G.out).lt; have k22 := (B22.out.ext G.out).cell; have k22l := (B22.out.ext G.out).lt; have k14 := (B14.out.ext G.out).cell; have k14l := (B14.out.ext G.out).lt; have k15 := (B15.out.ext G.out).cell; have k15l := (B15.out.ext G.out).lt; have k16 := (B16.out.ext G.out).cell; have k16l := (B16.out.ext G.out).lt)
      | (go_at_call 29; (fail_if_success (have := hS2.out)); refine (same29 (x := y2) (Oqb.out.la.ext G.out).isL (L2.out.ext G.out).isL hsy2.out.b hsy2.out.f hsy2.out.l hsy2.out.p hsy2.out.m).mono ?_; rintro e wz ⟨rfl, he⟩; have hS2 := hid he; have G := hid (G.out.trans he); clear he k18 k18l k20 k20l k22 k22l k14 k14l k15 k15l k16 k16l; have k18 := (B18.out.ext G.out).cell; have k18l := (B18.out.ext G.out).lt; have k20 := (B20.out.ext G.out).cell; have k20l := (B20.out.ext G.out).lt; have k22 := (B22.out.ext G.out).cell; have k22l := (B22.out.ext G.out).lt; have k14 := (B14.out.ext G.out).cell; have k14l := (B14.out.ext G.out).lt; have k15 := (B15.out.ext G.out).cell; have k15l := (B15.out.ext G.out).lt; have k16 := (B16.out.ext G.out).cell; have k16l := (B16.out.ext G.out).lt)
      | (go_at_call 29; (fail_if_success (have := hS3.out)); refine (same29 (x := y3) (Oqc.out.la.ext G.out).isL (L3.out.ext G.out).isL hsy3.out.b hsy3.out.f hsy3.out.l hsy3.out.p hsy3.out.m).mono ?_; rintro e wz ⟨rfl, he⟩; have hS3 := hid he; have G := hid (G.out.trans he); clear he k18 k18l k20 k20l k22 k22l k14 k14l k15 k15l k16 k16l; have k18 := (B18.out.ext G.out).cell; have k18l := (B18.out.ext G.out).lt; have k20 := (B20.out.ext G.out).cell; have k20l := (B20.out.ext G.out).lt; have k22 := (B22.out.ext G.out).cell; have k22l := (B22.out.ext G.out).lt; have k14 := (B14.out.ext G.out).cell; have k14l := (B14.out.ext G.out).lt; have k15 := (B15.out.ext G.out).cell; have k15l := (B15.out.ext G.out).lt; have k16 := (B16.out.ext G.out).cell; have k16l := (B16.out.ext G.out).lt))
    go_upto_region 42 with fail
    refine wp_later fun w41 hw => ?_
    obtain ⟨e41, b171⟩ := hw.newB
    obtain ⟨NA, hNA⟩ : ∃ N, Hid (N = wz.heap.size) := ⟨_, hid rfl⟩
    rw [← hNA.out] at b171 ⊢
    have BA : Hid (Blk w41 NA 27 #[.int .i64 y1.folk, .int .i64 y1.years, .slice qa.A1 y1.bn qa.c1, .slice qa.A2 y1.fn qa.c2, .slice qa.A3 y1.ln qa.c3, .slice qa.A4 y1.pn qa.c4, .slice qa.A5 y1.mn qa.c5, .int .i64 y2.folk, .int .i64 y2.years, .slice qb.A1 y2.bn qb.c1, .slice qb.A2 y2.fn qb.c2, .slice qb.A3 y2.ln qb.c3, .slice qb.A4 y2.pn qb.c4, .slice qb.A5 y2.mn qb.c5, .int .i64 y3.folk, .int .i64 y3.years, .slice qc.A1 y3.bn qc.c1, .slice qc.A2 y3.fn qc.c2, .slice qc.A3 y3.ln qc.c3, .slice qc.A4 y3.pn qc.c4, .slice qc.A5 y3.mn qc.c5]) := hid b171
    have hBb := hid (show wc3.heap.size ≤ sB by have := hS37.out; have := hsB.out; omega)
    have hBbc := hid (show sB ≤ sC from (by have := hS38.out; have := hsB.out; have := hsC.out; omega))
    have hBc := hid (Nat.le_trans hBb.out hBbc.out)
    have Oqa := hid (Oqa.out.ext (G.out.trans e41))
    have Oqb := hid (Oqb.out.ext (G.out.trans e41))
    have Oqc := hid (Oqc.out.ext (G.out.trans e41))
    have E41 := hid (E.out.trans (G.out.trans e41))
    clear hw e41 b171 hNA E G hS1 hS2 hS3 k18 k18l k20 k20l k22 k22l k14 k14l k15 k15l k16 k16l
    go_loopw [173] (fun ii W => ∃ k : Nat, k ≤ 3 ∧ ii = .int .i64 (k : Int) ∧ Hid (Ext wc3 W ∧ Blk W NA 27 #[.int .i64 y1.folk, .int .i64 y1.years, .slice qa.A1 y1.bn qa.c1, .slice qa.A2 y1.fn qa.c2, .slice qa.A3 y1.ln qa.c3, .slice qa.A4 y1.pn qa.c4, .slice qa.A5 y1.mn qa.c5, .int .i64 y2.folk, .int .i64 y2.years, .slice qb.A1 y2.bn qb.c1, .slice qb.A2 y2.fn qb.c2, .slice qb.A3 y2.ln qb.c3, .slice qb.A4 y2.pn qb.c4, .slice qb.A5 y2.mn qb.c5, .int .i64 y3.folk, .int .i64 y3.years, .slice qc.A1 y3.bn qc.c1, .slice qc.A2 y3.fn qc.c2, .slice qc.A3 y3.ln qc.c3, .slice qc.A4 y3.pn qc.c4, .slice qc.A5 y3.mn qc.c5] ∧ (k ≤ 0 → OwnQ W wc3.heap.size y1 qa) ∧ (k ≤ 1 → OwnQ W sB y2 qb) ∧ (k ≤ 2 → OwnQ W sC y3 qc))) (fun ii _ => 3 - (intOf ii).toNat)
    case atStart => exact ⟨0, by omega, rfl, hid ⟨E41.out, BA.out, fun _ => Oqa.out, fun _ => Oqb.out, fun _ => Oqc.out⟩⟩
    case round =>
      clear BA Oqa Oqb Oqc E41
      obtain ⟨k, hk, rfl, hR⟩ := hrel
      obtain ⟨x0, ba, fa, fb, fc⟩ := hR.out
      have E := hid x0
      have BA := hid ba
      clear hR x0 ba
      have hk4 : k = 0 ∨ k = 1 ∨ k = 2 ∨ k = 3 := by omega
      have kA := BA.out.cell
      have kAl := BA.out.lt
      clear hk
      rcases hk4 with rfl | rfl | rfl | rfl
      · as_aux_lemma =>
        rw [show ((0 : Nat) : Int) = 0 from rfl]
        have P := hid (OwnQ.base (fa (Nat.le_refl _)) (Nat.le_refl _))
        have Ob := hid (fb (by omega))
        have Oc := hid (fc (by omega))
        clear fa fb fc
        go_upto_region 44 with fail
        refine wp_later fun w44 hw => ?_
        obtain ⟨e44, b25⟩ := hw.newB
        obtain ⟨N25, hN25⟩ : ∃ N, Hid (N = wr.heap.size) := ⟨_, hid rfl⟩
        rw [← hN25.out] at b25 ⊢
        have B25 : Hid (Blk w44 N25 27 #[.int .i64 y1.folk, .int .i64 y1.years, .slice qa.A1 y1.bn qa.c1, .slice qa.A2 y1.fn qa.c2, .slice qa.A3 y1.ln qa.c3, .slice qa.A4 y1.pn qa.c4, .slice qa.A5 y1.mn qa.c5]) := hid b25
        have E := hid (E.out.trans e44)
        have BA := hid (BA.out.ext e44)
        have Q1 := hid (P.out.o1.ext e44)
        have Q2 := hid (P.out.o2.ext e44)
        have Q3 := hid (P.out.o3.ext e44)
        have Q4 := hid (P.out.o4.ext e44)
        have Q5 := hid (P.out.o5.ext e44)
        have hne := hid P.out.ne
        have Ob := hid (Ob.out.ext e44)
        have Oc := hid (Oc.out.ext e44)
        clear hw e44 b25 hN25 P kA kAl
        have k25 := B25.out.cell
        have k25l := B25.out.lt
        go_upto_region 45 with (refine wpList_here { dst := none, op := .call { callee := .builtin .clear, args := #[.tmp 178], argTypes := #[22] }, type := _, pos := _, after := _, guard := none } ?_; refine wpList_clear_own (z := .int .i64 0) rfl _ 22 rfl el22 zero3 rfl rfl Q1.out ?_; intro wz hx hch; have E := hid (hx wc3 E.out (Nat.le_refl _)); have BA := hid (keepB hch Q1.out (by decide) BA.out); have B25 := hid (keepB hch Q1.out (by decide) B25.out); have Q2 := hid (hch.own Q2.out (fun g hg q => hne.out g q hg)); have Q3 := hid (keepR hch Q1.out Q3.out (by decide)); have Q4 := hid (keepR hch Q1.out Q4.out (by decide)); have Q5 := hid (keepR hch Q1.out Q5.out (by decide)); have Ob := hid (keepQ hch hLA.out.1 Ob.out); have Oc := hid (keepQ hch (fun g e => Nat.lt_of_lt_of_le (hLA.out.1 g e) hBbc.out) Oc.out); clear hx hch k25 k25l; have k25 := B25.out.cell; have k25l := B25.out.lt)
        go_upto_region 46 with (refine wpList_here { dst := none, op := .call { callee := .builtin .clear, args := #[.tmp 180], argTypes := #[22] }, type := _, pos := _, after := _, guard := none } ?_; refine wpList_clear_own (z := .int .i64 0) rfl _ 22 rfl el22 zero3 rfl rfl Q2.out ?_; intro wz hx hch; have E := hid (hx wc3 E.out (Nat.le_refl _)); have BA := hid (keepB hch Q2.out (by decide) BA.out); have B25 := hid (keepB hch Q2.out (by decide) B25.out); have Q3 := hid (keepR hch Q2.out Q3.out (by decide)); have Q4 := hid (keepR hch Q2.out Q4.out (by decide)); have Q5 := hid (keepR hch Q2.out Q5.out (by decide)); have Ob := hid (keepQ hch hLA.out.2.1 Ob.out); have Oc := hid (keepQ hch (fun g e => Nat.lt_of_lt_of_le (hLA.out.2.1 g e) hBbc.out) Oc.out); clear hx hch k25 k25l; have k25 := B25.out.cell; have k25l := B25.out.lt)
        go_upto_region 47 with (refine wpList_here { dst := none, op := .call { callee := .builtin .clear, args := #[.tmp 182], argTypes := #[23] }, type := _, pos := _, after := _, guard := none } ?_; refine wpList_clear_own (z := .agg #[.int .i64 0, .int .i64 0, .int .i64 0]) rfl _ 23 rfl el23 zero68 rfl rfl Q3.out ?_; intro wz hx hch; have E := hid (hx wc3 E.out (Nat.le_refl _)); have BA := hid (keepB hch Q3.out (by decide) BA.out); have B25 := hid (keepB hch Q3.out (by decide) B25.out); have Q4 := hid (keepR hch Q3.out Q4.out (by decide)); have Q5 := hid (keepR hch Q3.out Q5.out (by decide)); have Ob := hid (keepQ hch hLA.out.2.2.1 Ob.out); have Oc := hid (keepQ hch (fun g e => Nat.lt_of_lt_of_le (hLA.out.2.2.1 g e) hBbc.out) Oc.out); clear hx hch k25 k25l; have k25 := B25.out.cell; have k25l := B25.out.lt)
        go_upto_region 48 with (refine wpList_here { dst := none, op := .call { callee := .builtin .clear, args := #[.tmp 184], argTypes := #[24] }, type := _, pos := _, after := _, guard := none } ?_; refine wpList_clear_own (z := .agg #[.int .i64 0, .int .i64 0, .int .i64 0]) rfl _ 24 rfl el24 zero71 rfl rfl Q4.out ?_; intro wz hx hch; have E := hid (hx wc3 E.out (Nat.le_refl _)); have BA := hid (keepB hch Q4.out (by decide) BA.out); have B25 := hid (keepB hch Q4.out (by decide) B25.out); have Q5 := hid (keepR hch Q4.out Q5.out (by decide)); have Ob := hid (keepQ hch hLA.out.2.2.2.1 Ob.out); have Oc := hid (keepQ hch (fun g e => Nat.lt_of_lt_of_le (hLA.out.2.2.2.1 g e) hBbc.out) Oc.out); clear hx hch k25 k25l; have k25 := B25.out.cell; have k25l := B25.out.lt)
        go_upto_region 49 with (refine wpList_here { dst := none, op := .call { callee := .builtin .clear, args := #[.tmp 186], argTypes := #[25] }, type := _, pos := _, after := _, guard := none } ?_; refine wpList_clear_own (z := .agg #[.int .i64 0, .int .i64 0, .int .i64 0]) rfl _ 25 rfl el25 zero64 rfl rfl Q5.out ?_; intro wz hx hch; have E := hid (hx wc3 E.out (Nat.le_refl _)); have BA := hid (keepB hch Q5.out (by decide) BA.out); have B25 := hid (keepB hch Q5.out (by decide) B25.out); have Ob := hid (keepQ hch hLA.out.2.2.2.2 Ob.out); have Oc := hid (keepQ hch (fun g e => Nat.lt_of_lt_of_le (hLA.out.2.2.2.2 g e) hBbc.out) Oc.out); clear hx hch k25 k25l; have k25 := B25.out.cell; have k25l := B25.out.lt)
        go_wp2_with fail
        go_roundw
        case rel => exact ⟨1, by omega, by go_num, hid ⟨E.out, BA.out, fun h => absurd h (by omega), fun _ => Ob.out, fun _ => Oc.out⟩⟩
        case measure => simp [intOf]
      · as_aux_lemma =>
        rw [show ((1 : Nat) : Int) = 1 from rfl]
        have P := hid (OwnQ.base (fb (Nat.le_refl _)) hBb.out)
        have Oc := hid (fc (by omega))
        clear fa fb fc
        go_upto_region 44 with fail
        refine wp_later fun w44 hw => ?_
        obtain ⟨e44, b25⟩ := hw.newB
        obtain ⟨N25, hN25⟩ : ∃ N, Hid (N = wr.heap.size) := ⟨_, hid rfl⟩
        rw [← hN25.out] at b25 ⊢
        have B25 : Hid (Blk w44 N25 27 #[.int .i64 y2.folk, .int .i64 y2.years, .slice qb.A1 y2.bn qb.c1, .slice qb.A2 y2.fn qb.c2, .slice qb.A3 y2.ln qb.c3, .slice qb.A4 y2.pn qb.c4, .slice qb.A5 y2.mn qb.c5]) := hid b25
        have E := hid (E.out.trans e44)
        have BA := hid (BA.out.ext e44)
        have Q1 := hid (P.out.o1.ext e44)
        have Q2 := hid (P.out.o2.ext e44)
        have Q3 := hid (P.out.o3.ext e44)
        have Q4 := hid (P.out.o4.ext e44)
        have Q5 := hid (P.out.o5.ext e44)
        have hne := hid P.out.ne
        have Oc := hid (Oc.out.ext e44)
        clear hw e44 b25 hN25 P kA kAl
        have k25 := B25.out.cell
        have k25l := B25.out.lt
        go_upto_region 45 with (refine wpList_here { dst := none, op := .call { callee := .builtin .clear, args := #[.tmp 178], argTypes := #[22] }, type := _, pos := _, after := _, guard := none } ?_; refine wpList_clear_own (z := .int .i64 0) rfl _ 22 rfl el22 zero3 rfl rfl Q1.out ?_; intro wz hx hch; have E := hid (hx wc3 E.out (Nat.le_refl _)); have BA := hid (keepB hch Q1.out (by decide) BA.out); have B25 := hid (keepB hch Q1.out (by decide) B25.out); have Q2 := hid (hch.own Q2.out (fun g hg q => hne.out g q hg)); have Q3 := hid (keepR hch Q1.out Q3.out (by decide)); have Q4 := hid (keepR hch Q1.out Q4.out (by decide)); have Q5 := hid (keepR hch Q1.out Q5.out (by decide)); have Oc := hid (keepQ hch hLB.out.1 Oc.out); clear hx hch k25 k25l; have k25 := B25.out.cell; have k25l := B25.out.lt)
        go_upto_region 46 with (refine wpList_here { dst := none, op := .call { callee := .builtin .clear, args := #[.tmp 180], argTypes := #[22] }, type := _, pos := _, after := _, guard := none } ?_; refine wpList_clear_own (z := .int .i64 0) rfl _ 22 rfl el22 zero3 rfl rfl Q2.out ?_; intro wz hx hch; have E := hid (hx wc3 E.out (Nat.le_refl _)); have BA := hid (keepB hch Q2.out (by decide) BA.out); have B25 := hid (keepB hch Q2.out (by decide) B25.out); have Q3 := hid (keepR hch Q2.out Q3.out (by decide)); have Q4 := hid (keepR hch Q2.out Q4.out (by decide)); have Q5 := hid (keepR hch Q2.out Q5.out (by decide)); have Oc := hid (keepQ hch hLB.out.2.1 Oc.out); clear hx hch k25 k25l; have k25 := B25.out.cell; have k25l := B25.out.lt)
        go_upto_region 47 with (refine wpList_here { dst := none, op := .call { callee := .builtin .clear, args := #[.tmp 182], argTypes := #[23] }, type := _, pos := _, after := _, guard := none } ?_; refine wpList_clear_own (z := .agg #[.int .i64 0, .int .i64 0, .int .i64 0]) rfl _ 23 rfl el23 zero68 rfl rfl Q3.out ?_; intro wz hx hch; have E := hid (hx wc3 E.out (Nat.le_refl _)); have BA := hid (keepB hch Q3.out (by decide) BA.out); have B25 := hid (keepB hch Q3.out (by decide) B25.out); have Q4 := hid (keepR hch Q3.out Q4.out (by decide)); have Q5 := hid (keepR hch Q3.out Q5.out (by decide)); have Oc := hid (keepQ hch hLB.out.2.2.1 Oc.out); clear hx hch k25 k25l; have k25 := B25.out.cell; have k25l := B25.out.lt)
        go_upto_region 48 with (refine wpList_here { dst := none, op := .call { callee := .builtin .clear, args := #[.tmp 184], argTypes := #[24] }, type := _, pos := _, after := _, guard := none } ?_; refine wpList_clear_own (z := .agg #[.int .i64 0, .int .i64 0, .int .i64 0]) rfl _ 24 rfl el24 zero71 rfl rfl Q4.out ?_; intro wz hx hch; have E := hid (hx wc3 E.out (Nat.le_refl _)); have BA := hid (keepB hch Q4.out (by decide) BA.out); have B25 := hid (keepB hch Q4.out (by decide) B25.out); have Q5 := hid (keepR hch Q4.out Q5.out (by decide)); have Oc := hid (keepQ hch hLB.out.2.2.2.1 Oc.out); clear hx hch k25 k25l; have k25 := B25.out.cell; have k25l := B25.out.lt)
        go_upto_region 49 with (refine wpList_here { dst := none, op := .call { callee := .builtin .clear, args := #[.tmp 186], argTypes := #[25] }, type := _, pos := _, after := _, guard := none } ?_; refine wpList_clear_own (z := .agg #[.int .i64 0, .int .i64 0, .int .i64 0]) rfl _ 25 rfl el25 zero64 rfl rfl Q5.out ?_; intro wz hx hch; have E := hid (hx wc3 E.out (Nat.le_refl _)); have BA := hid (keepB hch Q5.out (by decide) BA.out); have B25 := hid (keepB hch Q5.out (by decide) B25.out); have Oc := hid (keepQ hch hLB.out.2.2.2.2 Oc.out); clear hx hch k25 k25l; have k25 := B25.out.cell; have k25l := B25.out.lt)
        go_wp2_with fail
        go_roundw
        case rel => exact ⟨2, by omega, by go_num, hid ⟨E.out, BA.out, fun h => absurd h (by omega), fun h => absurd h (by omega), fun _ => Oc.out⟩⟩
        case measure => simp [intOf]
      · as_aux_lemma =>
        rw [show ((2 : Nat) : Int) = 2 from rfl]
        have P := hid (OwnQ.base (fc (Nat.le_refl _)) hBc.out)
        clear fa fb fc
        go_upto_region 44 with fail
        refine wp_later fun w44 hw => ?_
        obtain ⟨e44, b25⟩ := hw.newB
        obtain ⟨N25, hN25⟩ : ∃ N, Hid (N = wr.heap.size) := ⟨_, hid rfl⟩
        rw [← hN25.out] at b25 ⊢
        have B25 : Hid (Blk w44 N25 27 #[.int .i64 y3.folk, .int .i64 y3.years, .slice qc.A1 y3.bn qc.c1, .slice qc.A2 y3.fn qc.c2, .slice qc.A3 y3.ln qc.c3, .slice qc.A4 y3.pn qc.c4, .slice qc.A5 y3.mn qc.c5]) := hid b25
        have E := hid (E.out.trans e44)
        have BA := hid (BA.out.ext e44)
        have Q1 := hid (P.out.o1.ext e44)
        have Q2 := hid (P.out.o2.ext e44)
        have Q3 := hid (P.out.o3.ext e44)
        have Q4 := hid (P.out.o4.ext e44)
        have Q5 := hid (P.out.o5.ext e44)
        have hne := hid P.out.ne
        clear hw e44 b25 hN25 P kA kAl
        have k25 := B25.out.cell
        have k25l := B25.out.lt
        go_upto_region 45 with (refine wpList_here { dst := none, op := .call { callee := .builtin .clear, args := #[.tmp 178], argTypes := #[22] }, type := _, pos := _, after := _, guard := none } ?_; refine wpList_clear_own (z := .int .i64 0) rfl _ 22 rfl el22 zero3 rfl rfl Q1.out ?_; intro wz hx hch; have E := hid (hx wc3 E.out (Nat.le_refl _)); have BA := hid (keepB hch Q1.out (by decide) BA.out); have B25 := hid (keepB hch Q1.out (by decide) B25.out); have Q2 := hid (hch.own Q2.out (fun g hg q => hne.out g q hg)); have Q3 := hid (keepR hch Q1.out Q3.out (by decide)); have Q4 := hid (keepR hch Q1.out Q4.out (by decide)); have Q5 := hid (keepR hch Q1.out Q5.out (by decide)); clear hx hch k25 k25l; have k25 := B25.out.cell; have k25l := B25.out.lt)
        go_upto_region 46 with (refine wpList_here { dst := none, op := .call { callee := .builtin .clear, args := #[.tmp 180], argTypes := #[22] }, type := _, pos := _, after := _, guard := none } ?_; refine wpList_clear_own (z := .int .i64 0) rfl _ 22 rfl el22 zero3 rfl rfl Q2.out ?_; intro wz hx hch; have E := hid (hx wc3 E.out (Nat.le_refl _)); have BA := hid (keepB hch Q2.out (by decide) BA.out); have B25 := hid (keepB hch Q2.out (by decide) B25.out); have Q3 := hid (keepR hch Q2.out Q3.out (by decide)); have Q4 := hid (keepR hch Q2.out Q4.out (by decide)); have Q5 := hid (keepR hch Q2.out Q5.out (by decide)); clear hx hch k25 k25l; have k25 := B25.out.cell; have k25l := B25.out.lt)
        go_upto_region 47 with (refine wpList_here { dst := none, op := .call { callee := .builtin .clear, args := #[.tmp 182], argTypes := #[23] }, type := _, pos := _, after := _, guard := none } ?_; refine wpList_clear_own (z := .agg #[.int .i64 0, .int .i64 0, .int .i64 0]) rfl _ 23 rfl el23 zero68 rfl rfl Q3.out ?_; intro wz hx hch; have E := hid (hx wc3 E.out (Nat.le_refl _)); have BA := hid (keepB hch Q3.out (by decide) BA.out); have B25 := hid (keepB hch Q3.out (by decide) B25.out); have Q4 := hid (keepR hch Q3.out Q4.out (by decide)); have Q5 := hid (keepR hch Q3.out Q5.out (by decide)); clear hx hch k25 k25l; have k25 := B25.out.cell; have k25l := B25.out.lt)
        go_upto_region 48 with (refine wpList_here { dst := none, op := .call { callee := .builtin .clear, args := #[.tmp 184], argTypes := #[24] }, type := _, pos := _, after := _, guard := none } ?_; refine wpList_clear_own (z := .agg #[.int .i64 0, .int .i64 0, .int .i64 0]) rfl _ 24 rfl el24 zero71 rfl rfl Q4.out ?_; intro wz hx hch; have E := hid (hx wc3 E.out (Nat.le_refl _)); have BA := hid (keepB hch Q4.out (by decide) BA.out); have B25 := hid (keepB hch Q4.out (by decide) B25.out); have Q5 := hid (keepR hch Q4.out Q5.out (by decide)); clear hx hch k25 k25l; have k25 := B25.out.cell; have k25l := B25.out.lt)
        go_upto_region 49 with (refine wpList_here { dst := none, op := .call { callee := .builtin .clear, args := #[.tmp 186], argTypes := #[25] }, type := _, pos := _, after := _, guard := none } ?_; refine wpList_clear_own (z := .agg #[.int .i64 0, .int .i64 0, .int .i64 0]) rfl _ 25 rfl el25 zero64 rfl rfl Q5.out ?_; intro wz hx hch; have E := hid (hx wc3 E.out (Nat.le_refl _)); have BA := hid (keepB hch Q5.out (by decide) BA.out); have B25 := hid (keepB hch Q5.out (by decide) B25.out); clear hx hch k25 k25l; have k25 := B25.out.cell; have k25l := B25.out.lt)
        go_wp2_with fail
        go_roundw
        case rel => exact ⟨3, by omega, by go_num, hid ⟨E.out, BA.out, fun h => absurd h (by omega), fun h => absurd h (by omega), fun h => absurd h (by omega)⟩⟩
        case measure => simp [intOf]
      · rw [show ((3 : Nat) : Int) = 3 from rfl]
        clear fa fb fc kA kAl
        have k9 := (B9.out.ext E.out).cell
        have k9l := (B9.out.ext E.out).lt
        have k4 := (B4.out.ext E.out).cell
        have k4l := (B4.out.ext E.out).lt
        go_wp2_with (first
          | (go_at_call 29; refine (same29 (x := x) (HO.out.ext E.out).la.isL (HL.out.ext E.out).isL h1 h2 (by omega) (by omega) h5).mono ?_; rintro e wz ⟨rfl, he⟩; have F := hid he; clear he)
          | (go_at_call 18; refine (awake_any _).mono ?_; rintro e w10 ⟨rfl, he10⟩))
        go_ret
        exact ⟨rfl, EW.out.trans (E.out.trans (F.out.trans he10))⟩
end Go.Proofs.YtbceepjjdfpfmaaGreat
