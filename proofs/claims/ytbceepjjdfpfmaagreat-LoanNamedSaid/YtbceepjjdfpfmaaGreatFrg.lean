/- Walks: owned (157), right (158): a ledger with memory of its own. The ledger's loans are no more than there may be. Plain law of LoanMore: what somebody owes at the end is what is asked of all their loans, less what was paid and not over; one loan more, one payment more, and a loan that is forgiven. Walks: Lend (82), Pay (83): a ledger with one loan or payment more, or the error. No condition but that lists are no longer than 1000. Walk of slices.Sort at an own list of a few numbers: insertion. No condition but that the list has at most 12 numbers. Walk: Forgive (84): a ledger in which one loan more is forgiven, or the error. No condition but that lists are no longer than 1000. Walk of Own (19) whose lists are one's own; Lend, Pay and Forgive for every argument; 'clear' of an own list. Lists are no longer than 1000. -/
import Derived.Test.YtbceepjjdfpfmaaGreatLawC
import Derived.Test.YtbceepjjdfpfmaaGreatOwes
import Derived.Test.YtbceepjjdfpfmaaGreatOncP
import Derived.Test.YtbceepjjdfpfmaaGreatGrpB
import Derived.Test.YtbceepjjdfpfmaaGreatChg
import Derived.Maps.AppendAt
namespace Go
open Go.RowKit
theorem blk_cells {g : Nat} {t : TypeId} : ∀ (vs : List Value) (off : Nat) (C : Array Value) (w : World), Blk w g t C → ∃ C', Blk (w.setCells g off vs) g t C' ∧ C'.size = C.size ∧ ∀ i, C'[i]? = if off ≤ i ∧ i < off + vs.length ∧ i < C.size then vs[i - off]? else C[i]?
  | [], off, C, w, h => ⟨C, h, rfl, fun i => by rw [if_neg]; simp; omega⟩
  | v :: r, off, C, w, h => by
    obtain ⟨C', h1, h2, h3⟩ := blk_cells r (off + 1) _ _ (h.set_ off v)
    refine ⟨C', h1, by rw [h2]; simp, fun i => ?_⟩
    rw [h3]
    simp only [Array.size_setIfInBounds, List.length_cons]
    by_cases e : i = off
    · subst e
      rw [if_neg (by omega)]
      by_cases q : i < C.size
      · rw [if_pos ⟨by omega, by omega, q⟩]
        simp [q]
      · rw [if_neg (fun z => q z.2.2), Array.getElem?_eq_none (by simp; omega), Array.getElem?_eq_none (by omega)]
    · by_cases q : off + 1 ≤ i ∧ i < off + 1 + r.length ∧ i < C.size
      · rw [if_pos q, if_pos ⟨by omega, by omega, q.2.2⟩, show i - off = (i - (off + 1)) + 1 by omega]
        simp
      · rw [if_neg q, if_neg (fun z => q ⟨by omega, by omega, z.2.2⟩)]
        simp [Array.getElem?_setIfInBounds]
        exact fun z => absurd z.symm e
end Go
namespace Go.Proofs.YtbceepjjdfpfmaaGreat
open Go.RowKit HandSpec LoanSpec
set_option maxHeartbeats 4000000
set_option maxRecDepth 100000
/-- 'copy' into the beginning of a block: which cells it writes. -/
theorem wpList_copy_set {P : Program} {w : World} {ops : Array Oper} {rest : List Oper} {o : Oper} {a : Act} {Q : Exit → Act → World → Prop} (hgd : o.guard = none) (d s : Operand) (T : TypeId)
    (ho : o.op = .call { callee := .builtin .copy, args := #[d, s], argTypes := #[T, T] }) {e : TypeId} {c bytes : Nat} (hE : ElemOk P T e c bytes)
    {dp sp : Option Addr} {dLen dCap sLen sCap : Nat} (hd : a.eval d = .slice dp dLen dCap) (hs : a.eval s = .slice sp sLen sCap)
    {g N n : Nat} {hf : Nat → Int} {gg : Nat → Nat → Int} (ha : Arr w g N hf) (hn : n = Nat.min sLen dLen) (hpos : 0 < n → dp = some ⟨g, 0, none⟩ ∧ Rd w sp n c gg) (hfit : n * c ≤ N)
    (hk : wpList P ops Q rest (a.put o.dst (goInt n)) (w.setCells g 0 (cellsOf (rowsG c n gg)))) :
    wpList P ops Q (o :: rest) a w := by
  obtain ⟨i, z, hi, hz, h1, h2, h3⟩ := hE.i
  refine wpList_plain hgd fun K hK => ?_
  have fin : ∀ w', (Builtin.copy_ #[T, T] o.type #[.slice dp dLen dCap, .slice sp sLen sCap]).run P w = .ok (goInt n) w' → K (a.put o.dst (goInt n)) w' → Oper.wp P o a w K Q := by
    intro w' hrun hw
    unfold Oper.wp
    simp [execOp, ho, resolve, invoke, builtin, hd, hs, hrun, Result.andThen]
    exact hw
  rcases Nat.eq_zero_or_pos n with h0 | h0
  · subst h0
    have hk : wpList P ops Q rest (a.put o.dst (goInt 0)) w := hk
    refine fin w ?_ (hK _ _ hk)
    cases dp <;> cases sp <;> simp [Builtin.copy_, run_underlying hE.u, Builtin.lenOf, Builtin.firstCells, sizeOf, typeInfo, hi, ← hn, storeCells, loadCells, loadCellsFrom]
  · obtain ⟨rfl, hr⟩ := hpos h0
    obtain ⟨b2, o2, rfl, hc⟩ := hr h0
    have hcl : (cellsOf (rowsG c n gg)).length = n * c := by rw [cellsOf_length rowsG_row, rowsG_length]
    have hnews : ∀ j u, (cellsOf (rowsG c n gg))[j]? = some u → w.cell? ((⟨b2, o2, none⟩ : Addr).add j) = some u := fun j u hu => by
      obtain ⟨k, q, hk', hq, rfl, rfl⟩ := cellsOf_rowsG hu
      rw [addr_add, ← Nat.add_assoc]
      exact hc k hk' q hq
    have hl := run_loadCells_list (P := P) (w := w) ⟨b2, o2, none⟩ (cellsOf (rowsG c n gg)) hnews
    have hone : ∀ v ∈ cellsOf (rowsG c n gg), v.oneCell' = true := cellsOf_one
    have hst := run_storeCells_cells (P := P) g 0 (cellsOf (rowsG c n gg)) 0 w (by intro j hj; rw [ha.cell (by omega)]; rfl) (by intro j hj; exact ha.frozen (by omega)) hone
    simp only [Nat.add_zero] at hst
    rw [hcl] at hl
    exact fin (w.setCells g 0 (cellsOf (rowsG c n gg))) (by simp [Builtin.copy_, run_underlying hE.u, Builtin.lenOf, Builtin.firstCells, sizeOf, typeInfo, hi, h1, ← hn, hl, hst]) (hK _ _ hk)
theorem heap_cellsL (b : Nat) {b' : Nat} (h : b' ≠ b) : ∀ (vs : List Value) (o : Nat) (w : World), (w.setCells b o vs).heap[b']? = w.heap[b']?
  | [], _, _ => rfl
  | v :: r, o, w => by
    rw [World.setCells, heap_cellsL b h r]
    exact Below.heap_setCell w ⟨b, o, none⟩ v b' h
theorem make23_run (w : World) : ∀ n : Nat, n ≤ 10 → (Instr.makeSlice 23 (.int .i64 (n : Int)) (.int .i64 ((n : Int) + 1))).run Tryz.prog w = .ok (.slice (some ⟨w.heap.size, 0, none⟩) n (n + 1)) (w.alloc (.cells (Array.replicate ((n + 1) * 3) (.int .i64 0)) 68))
  | 0, _ => by kernel_rfl
  | 1, _ => by kernel_rfl
  | 2, _ => by kernel_rfl
  | 3, _ => by kernel_rfl
  | 4, _ => by kernel_rfl
  | 5, _ => by kernel_rfl
  | 6, _ => by kernel_rfl
  | 7, _ => by kernel_rfl
  | 8, _ => by kernel_rfl
  | 9, _ => by kernel_rfl
  | 10, _ => by kernel_rfl
  | n + 11, h => absurd h (by omega)
/-- Rows that were copied into a block made for one more. -/
theorem own_copied {w : World} {g n : Nat} {gg : Nat → Nat → Int} (h : Blk w g 68 (Array.replicate ((n + 1) * 3) (.int .i64 0))) (hn : n ≤ 10) {B : Nat} (hB : B ≤ g) : OwnR (w.setCells g 0 (cellsOf (rowsG 3 n gg))) B 68 3 (.slice (some ⟨g, 0, none⟩) n (n + 1)) (rowsG 3 n gg) := by
  obtain ⟨C', h1, h2, h3⟩ := blk_cells (cellsOf (rowsG 3 n gg)) 0 _ w h
  have hcl : (cellsOf (rowsG 3 n gg)).length = n * 3 := by rw [cellsOf_length rowsG_row, rowsG_length]
  rw [Array.size_replicate] at h2
  refine ⟨rowsG_row, by rw [rowsG_length, hcl], .inr ⟨g, n + 1, C', ?_, hB, h1, by rw [rowsG_length]; omega, by unfold maxLen; omega, by rw [h2], ?_⟩⟩
  · rw [rowsG_length]
  · refine List.ext_getElem? fun i => ?_
    rw [rowsG_length, List.getElem?_take]
    by_cases hi : i < n * 3
    · rw [if_pos hi, Array.getElem?_toList, h3, if_pos ⟨by omega, by omega, by rw [Array.size_replicate]; omega⟩, Nat.sub_zero]
    · rw [if_neg hi, List.getElem?_eq_none (by omega)]
/-- An own list, in memory that was made meanwhile. -/
def OwI (e : TypeId) (c n : Nat) (g : Nat → Nat → Int) : MSpec := fun v lo hi w => OwnR w lo e c v (rowsG c n g) ∧ ∀ q, v.ownBlock = some q → q < hi
theorem OwI.ext {e : TypeId} {c n : Nat} {g : Nat → Nat → Int} {v : Value} {lo hi : Nat} {w w' : World} (h : OwI e c n g v lo hi w) (x : Ext w w') : OwI e c n g v lo hi w' := ⟨h.1.ext x, h.2⟩
/-- A ledger's lists, each its own. -/
structure OwnLg (w : World) (B : Nat) (x : LD) (u1 u2 u3 u4 u5 : Value) : Prop where
  o1 : OwnR w B 3 1 u1 (rowsG 1 x.bn fun k _ => x.bad k)
  o2 : OwnR w B 3 1 u2 (rowsG 1 x.fn fun k _ => x.fo k)
  o3 : OwnR w B 68 3 u3 (rowsG 3 x.ln x.lo)
  o4 : OwnR w B 71 3 u4 (rowsG 3 x.pn x.pa)
  o5 : OwnR w B 64 3 u5 (rowsG 3 x.mn x.pr)
  ne : ∀ q, u1.ownBlock = some q → u2.ownBlock ≠ some q
theorem OwnLg.ext {w w' : World} {B : Nat} {x : LD} {u1 u2 u3 u4 u5 : Value} (h : OwnLg w B x u1 u2 u3 u4 u5) (e : Ext w w') : OwnLg w' B x u1 u2 u3 u4 u5 := ⟨h.o1.ext e, h.o2.ext e, h.o3.ext e, h.o4.ext e, h.o5.ext e, h.ne⟩
theorem OwnLg.base {w : World} {B B' : Nat} {x : LD} {u1 u2 u3 u4 u5 : Value} (h : OwnLg w B x u1 u2 u3 u4 u5) (hB : B' ≤ B) : OwnLg w B' x u1 u2 u3 u4 u5 := ⟨h.o1.base hB, h.o2.base hB, h.o3.base hB, h.o4.base hB, h.o5.base hB, h.ne⟩
theorem OwnLg.far1 {w : World} {B H i : Nat} {x : LD} {u1 u2 u3 u4 u5 : Value} (h : OwnLg w B x u1 u2 u3 u4 u5) (hH : H < B) (a : Value) : OwnLg (w.setCell ⟨H, i, none⟩ a) B x u1 u2 u3 u4 u5 :=
  ⟨h.o1.far' (p := ⟨H, i, none⟩) hH a, h.o2.far' (p := ⟨H, i, none⟩) hH a, h.o3.far' (p := ⟨H, i, none⟩) hH a, h.o4.far' (p := ⟨H, i, none⟩) hH a, h.o5.far' (p := ⟨H, i, none⟩) hH a, h.ne⟩
theorem OwnLg.far7 {w : World} {B H : Nat} {x : LD} {u1 u2 u3 u4 u5 : Value} (h : OwnLg w B x u1 u2 u3 u4 u5) (hH : H < B) (a b c d e f g : Value) :
    OwnLg (((((((w.setCell ⟨H, 0, none⟩ a).setCell ⟨H, 1, none⟩ b).setCell ⟨H, 2, none⟩ c).setCell ⟨H, 3, none⟩ d).setCell ⟨H, 4, none⟩ e).setCell ⟨H, 5, none⟩ f).setCell ⟨H, 6, none⟩ g) B x u1 u2 u3 u4 u5 :=
  ((((((h.far1 hH a).far1 hH b).far1 hH c).far1 hH d).far1 hH e).far1 hH f).far1 hH g
theorem owned157 {x : LD} {w : World} {p : LA} (hv : IsLA w x p) (hm : Sm x) (hl : x.ln ≤ 10) :
    Calls Tryz.prog 157 #[ledV x p] w fun e w' => ∃ u1 u2 u3 u4 u5, e = .returned (.agg #[.int .i64 x.folk, .int .i64 x.years, u1, u2, u3, u4, u5]) ∧ Ext w w' ∧ OwnLg w' w.heap.size x u1 u2 u3 u4 u5 := by
  obtain ⟨h1, h2, h3, h4, h5⟩ := hm
  obtain ⟨A1, c1, A2, c2, A3, c3, A4, c4, A5, c5⟩ := p
  have HL := hid hv
  clear hv
  unfold ledV
  have hmk := fun w => make23_run w x.ln hl
  go_enter Tryz.func157, Tryz.ntmps157
  go_upto_region 1 with fail
  refine wp_later fun w1 hw1 => ?_
  obtain ⟨E1, b1, b2⟩ := hw1.newB2
  have B1 := hid b1
  have B2 := hid b2
  have k1 := b1.cell
  have k1l := b1.lt
  clear hw1 b1 b2
  go_upto_region 2 with fail
  have b3 := Blk.new w1 68 (Array.replicate ((x.ln + 1) * 3) (.int .i64 0))
  have E2 : Ext w1 (w1.alloc (.cells (Array.replicate ((x.ln + 1) * 3) (.int .i64 0)) 68)) := (Ext.refl _).alloc _
  obtain ⟨g, hg⟩ : ∃ q, Hid (w1.heap.size = q) := ⟨_, hid rfl⟩
  obtain ⟨w2, hw2⟩ : ∃ W : World, Hid (W = w1.alloc (.cells (Array.replicate ((x.ln + 1) * 3) (.int .i64 0)) 68)) := ⟨_, hid rfl⟩
  rw [← hw2.out] at b3 E2 ⊢
  rw [hg.out] at b3 ⊢
  have hgw : w.heap.size + 2 ≤ g := by have := B2.out.lt; have := hg.out; omega
  have ha : Arr w2 g ((x.ln + 1) * 3) (fun _ => 0) := ⟨b3.lt, fun i hi => ⟨by rw [b3.cell]; simp [hi], b3.frozen i⟩⟩
  have HA := hid ha
  have B3 := hid b3
  have k1 := (B1.out.ext E2).cell
  have k1l := (B1.out.ext E2).lt
  have hr3 := hid (HL.out.r3.ext (E1.trans E2))
  have HE2 := hid E2
  clear ha b3 E2 hmk hw2
  go_upto_region 3 with ((with_reducible refine wpList_here ⟨_, .call { callee := .builtin .copy, args := #[_, _], argTypes := #[23, 23] }, _, _, _, _⟩ ?_); refine wpList_copy_set (n := x.ln) (gg := x.lo) rfl _ _ 23 rfl el23 rfl rfl HA.out (by simp) (fun _ => ⟨rfl, hr3.out⟩) (by omega) ?_)
  have O3 := hid (own_copied (gg := x.lo) B3.out hl (Nat.le_refl g))
  have hx3 : Ext w (w2.setCells g 0 (cellsOf (rowsG 3 x.ln x.lo))) := below_setCells (show w.heap.size ≤ g by omega) _ _ _ (E1.trans HE2.out)
  have hc3 : ∀ b, b ≠ g → (w2.setCells g 0 (cellsOf (rowsG 3 x.ln x.lo))).heap[b]? = w2.heap[b]? := fun b hb => heap_cellsL g hb _ _ _
  have B1 := hid (show Blk (w2.setCells g 0 (cellsOf (rowsG 3 x.ln x.lo))) w.heap.size 27 _ from (hc3 _ (by omega)).trans (B1.out.ext HE2.out))
  have B2 := hid (show Blk (w2.setCells g 0 (cellsOf (rowsG 3 x.ln x.lo))) (w.heap.size + 1) 27 _ from (hc3 _ (by omega)).trans (B2.out.ext HE2.out))
  obtain ⟨w3, hw3⟩ : ∃ W : World, Hid (W = w2.setCells g 0 (cellsOf (rowsG 3 x.ln x.lo))) := ⟨_, hid rfl⟩
  rw [← hw3.out] at O3 hx3 B1 B2 ⊢
  have E3 := hid hx3
  have k1 := B1.out.cell
  have k1l := B1.out.lt
  have hgw3 : g < w3.heap.size := by
    have := O3.out.lt (g := g) rfl
    exact this
  clear hc3 hx3 hw3 hr3 HE2 HA B3 hg
  simp only [goInt, Act.put, List.setIfInBounds_toArray, List.set_cons_succ, List.set_cons_zero]
  refine wp_region_mono 18 [(6, OwI 3 1 x.bn (fun k _ => x.bad k)), (9, OwI 3 1 x.fn (fun k _ => x.fo k)), (13, OwI 71 3 x.pn x.pa), (16, OwI 64 3 x.mn x.pr)] (by kernel_rfl) (by kernel_rfl) (by kernel_rfl) ?hS ?_
  case hS =>
    simp only [List.forall_mem_cons]
    exact ⟨fun _ _ _ _ _ e h => OwI.ext h e, fun _ _ _ _ _ e h => OwI.ext h e, fun _ _ _ _ _ e h => OwI.ext h e, fun _ _ _ _ _ e h => OwI.ext h e, fun _ h => by simp at h⟩
  simp only [List.take_succ_cons, List.take_zero, List.drop_succ_cons, List.drop_zero]
  iterate 6
    refine wpM_plain rfl ?_
    go_big_quiet_step (fail)
    refine wpQuiet_nil ?_
  refine wpM_spec _ rfl rfl (fun w4 hw4 _ => ?_) (fun va la ha ga1 ga2 da hva => ?_)
  · go_wp2_with (go_at_call 181; refine (clone181 (HL.out.r1.ext (E3.out.trans hw4)) h1).mono ?_; rintro e w5 ⟨u, rfl, he5, ho⟩)
    exact ⟨_, _, _, rfl, he5, Nat.le_refl _, he5.size, Nat.le_refl _, ho, fun q hq => ho.lt hq⟩
  simp only [Act.put, List.setIfInBounds_toArray, List.set_cons_succ, List.set_cons_zero]
  obtain ⟨wa, hva⟩ := hva
  obtain ⟨D1, q1, rfl, -⟩ := OwnR.slR hva.1
  clear hva
  rw [rowsG_length]
  iterate 2
    refine wpM_plain rfl ?_
    go_big_quiet_step (fail)
    refine wpQuiet_nil ?_
  refine wpM_spec _ rfl rfl (fun w4 hw4 _ => ?_) (fun vb lb hb gb1 gb2 db hvb => ?_)
  · go_wp2_with (go_at_call 181; refine (clone181 (HL.out.r2.ext (E3.out.trans hw4)) h2).mono ?_; rintro e w5 ⟨u, rfl, he5, ho⟩)
    exact ⟨_, _, _, rfl, he5, Nat.le_refl _, he5.size, Nat.le_refl _, ho, fun q hq => ho.lt hq⟩
  simp only [Act.put, List.setIfInBounds_toArray, List.set_cons_succ, List.set_cons_zero]
  obtain ⟨wb, hvb⟩ := hvb
  obtain ⟨D2, q2, rfl, -⟩ := OwnR.slR hvb.1
  clear hvb
  rw [rowsG_length]
  iterate 3
    refine wpM_plain rfl ?_
    go_big_quiet_step (fail)
    refine wpQuiet_nil ?_
  refine wpM_spec _ rfl rfl (fun w4 hw4 _ => ?_) (fun vc lc hc gc1 gc2 dc hvc => ?_)
  · go_wp2_with (go_at_call 184; refine (clone184 (HL.out.r4.ext (E3.out.trans hw4)) h4).mono ?_; rintro e w5 ⟨u, rfl, he5, ho⟩)
    exact ⟨_, _, _, rfl, he5, Nat.le_refl _, he5.size, Nat.le_refl _, ho, fun q hq => ho.lt hq⟩
  simp only [Act.put, List.setIfInBounds_toArray, List.set_cons_succ, List.set_cons_zero]
  obtain ⟨wc, hvc⟩ := hvc
  obtain ⟨D4, q4, rfl, -⟩ := OwnR.slR hvc.1
  clear hvc
  rw [rowsG_length]
  iterate 2
    refine wpM_plain rfl ?_
    go_big_quiet_step (fail)
    refine wpQuiet_nil ?_
  refine wpM_spec _ rfl rfl (fun w4 hw4 _ => ?_) (fun vd ld hd gd1 gd2 dd hvd => ?_)
  · go_wp2_with (go_at_call 185; refine (clone185 (HL.out.r5.ext (E3.out.trans hw4)) h5).mono ?_; rintro e w5 ⟨u, rfl, he5, ho⟩)
    exact ⟨_, _, _, rfl, he5, Nat.le_refl _, he5.size, Nat.le_refl _, ho, fun q hq => ho.lt hq⟩
  simp only [Act.put, List.setIfInBounds_toArray, List.set_cons_succ, List.set_cons_zero]
  obtain ⟨wd, hvd⟩ := hvd
  obtain ⟨D5, q5, rfl, -⟩ := OwnR.slR hvd.1
  clear hvd
  rw [rowsG_length]
  iterate 1
    refine wpM_plain rfl ?_
    go_big_quiet_step (fail)
    refine wpQuiet_nil ?_
  refine wpM_nil fun w6 hw6 hF => ?_
  simp only [List.forall_mem_cons] at hF db
  obtain ⟨f5, f4, f2, f1, -⟩ := hF
  have k2 := (B2.out.ext hw6).cell
  have k2l := (B2.out.ext hw6).lt
  have k2f := (B2.out.ext hw6).frozen
  have HF := hid (show OwnLg w6 g x (.slice D1 x.bn q1) (.slice D2 x.fn q2) (.slice (some ⟨g, 0, none⟩) x.ln (x.ln + 1)) (.slice D4 x.pn q4) (.slice D5 x.mn q5) from
    ⟨f1.2.1.base (by omega), f2.2.1.base (by omega), O3.out.ext hw6, f4.2.1.base (by omega), f5.2.1.base (by omega), fun q hq hq2 => by
      have a1 := f1.2.1.block hq
      have a2 := f1.2.2 q hq
      have a3 := f2.2.1.block hq2
      have a4 := f2.2.2 q hq2
      rcases db.1 with h | h <;> omega⟩)
  have E6 := hid (E3.out.trans hw6)
  clear f1 f2 f4 f5 k1 k1l O3 db da dc dd hw6
  go_wp2_with fail
  refine bodyPost_ret (v := .agg #[.int .i64 x.folk, .int .i64 x.years, .slice D1 x.bn q1, .slice D2 x.fn q2, .slice (some ⟨g, 0, none⟩) x.ln (x.ln + 1), .slice D4 x.pn q4, .slice D5 x.mn q5]) (by simp [results, Tryz.results157, go_sem, k2]) rfl ?_
  exact ⟨_, _, _, _, _, rfl, ext7 E6.out _ _ _ _ _ _ _, (HF.out.far7 (H := w.heap.size + 1) (by omega) _ _ _ _ _ _ _).base (by omega)⟩
/-- right: the ledger itself, or its error. -/
theorem right158 {x : LD} {w : World} {p : LA} (hv : IsLA w x p) (hm : Sm x) :
    Calls Tryz.prog 158 #[ledV x p] w fun e w' => Ext w w' ∧ (x.chk = 0 → e = .returned (.tuple #[ledV x p, .int .i64 0])) ∧ (x.chk ≠ 0 → e = .returned (.tuple #[.agg #[.int .i64 0, .int .i64 0, .slice none 0 0, .slice none 0 0, .slice none 0 0, .slice none 0 0, .slice none 0 0], .int .i64 x.chk])) := by
  obtain ⟨h1, h2, h3, h4, h5⟩ := hm
  obtain ⟨A1, c1, A2, c2, A3, c3, A4, c4, A5, c5⟩ := p
  have HL := hid hv
  clear hv
  obtain ⟨s, hs⟩ : ∃ s, Hid (x.chk = s) := ⟨_, hid rfl⟩
  rw [hs.out]
  unfold ledV
  go_enter Tryz.func158, Tryz.ntmps158
  go_upto_region 1 with fail
  refine wp_later fun w1 hw1 => ?_
  obtain ⟨E1, b1, b2⟩ := hw1.newB2
  have B1 := hid b1
  have B2 := hid b2
  have k1 := b1.cell
  have k1l := b1.lt
  have HE1 := hid E1
  clear hw1 b1 b2 E1
  have hl1 : IsL w1 (.agg #[.int .i64 x.folk, .int .i64 x.years, .slice A1 x.bn c1, .slice A2 x.fn c2, .slice A3 x.ln c3, .slice A4 x.pn c4, .slice A5 x.mn c5]) x := (HL.out.ext HE1.out).isL
  have HL1 := hid hl1
  clear hl1
  go_upto_region 2 with (go_at_call 37; refine (check37 HL1.out h1 h2 h3 h4 h5).mono ?_; rintro e w2 ⟨rfl, he⟩; rw [hs.out]; have B1 := hid (B1.out.ext he); have B2 := hid (B2.out.ext he); have HE1 := hid (HE1.out.trans he); clear he k1 k1l)
  have k1 := B1.out.cell
  have k1l := B1.out.lt
  have k2 := B2.out.cell
  have k2l := B2.out.lt
  have k2f := B2.out.frozen
  by_cases h0 : s = 0
  · have t0 : (s != 0) = false := by simp [h0]
    subst h0
    go_wp2_with fail
    refine bodyPost_ret (v := .tuple #[.agg #[.int .i64 x.folk, .int .i64 x.years, .slice A1 x.bn c1, .slice A2 x.fn c2, .slice A3 x.ln c3, .slice A4 x.pn c4, .slice A5 x.mn c5], .int .i64 0]) (by simp [results, Tryz.results158, go_sem, k2]) rfl ?_
    first | exact ⟨ext7 HE1.out _ _ _ _ _ _ _, rfl⟩ | exact ⟨ext7 HE1.out _ _ _ _ _ _ _, fun _ => rfl, fun h => absurd rfl h⟩
  · have t0 : (s != 0) = true := by simpa using h0
    have H0 := hid h0
    clear h0
    go_wp2_with fail
    refine bodyPost_ret (v := .tuple #[.agg #[.int .i64 0, .int .i64 0, .slice none 0 0, .slice none 0 0, .slice none 0 0, .slice none 0 0, .slice none 0 0], .int .i64 s]) (by simp [results, Tryz.results158, go_sem, k2]) rfl ?_
    exact ⟨ext7 HE1.out _ _ _ _ _ _ _, fun h => absurd h H0.out, fun _ => rfl⟩
end Go.Proofs.YtbceepjjdfpfmaaGreat
namespace LoanSpec
open HandSpec
/-- What is asked of somebody's loans that are lent by a year. -/
def capW (x : LD) (w y : Int) : Int := sumTo (fun i => if x.lo i 0 = w ∧ x.lo i 1 ≤ y then P.asked x i else 0) x.ln
/-- What of somebody's first k payments is booked. -/
def queW (x : LD) (w : Int) : Nat → Int
  | 0 => 0
  | k + 1 => if x.pa k 0 = w then min (queW x w k + x.pa k 2) (capW x w (x.pa k 1)) else queW x w k
namespace P
variable {x : LD}
theorem sumL_congr {f g : Nat → Int} : ∀ {l : List Nat}, (∀ i, i ∈ l → f i = g i) → sumL f l = sumL g l
  | [], _ => rfl
  | i :: l, h => by
    show f i + sumL f l = g i + sumL g l
    rw [h i (List.mem_cons_self ..), sumL_congr fun k hk => h k (List.mem_cons_of_mem _ hk)]
theorem sumL_filt (f : Nat → Int) (p : Nat → Bool) : ∀ l : List Nat, sumL f (l.filter p) = sumL (fun i => if p i then f i else 0) l
  | [] => rfl
  | i :: l => by
    rw [List.filter_cons]
    show _ = (if p i = true then f i else 0) + sumL _ l
    cases p i with
    | true => show f i + sumL f (l.filter p) = _; rw [sumL_filt f p l]; rfl
    | false => show sumL f (l.filter p) = _; rw [sumL_filt f p l]; simp
theorem sumL_pos {f : Nat → Int} : ∀ {l : List Nat}, (∀ i, i ∈ l → 0 ≤ f i) → 0 ≤ sumL f l
  | [], _ => Int.le_refl _
  | i :: l, h => by
    have h1 := h i (List.mem_cons_self ..)
    have h2 := sumL_pos fun k hk => h k (List.mem_cons_of_mem i hk)
    show 0 ≤ f i + sumL f l
    omega
/-- Filling takes as much as there is. -/
theorem fillL_sum : ∀ {l : List Nat} {f : Nat → Int} {n : Int}, (∀ i, i ∈ l → 0 ≤ f i) → 0 ≤ n → l.Pairwise (· ≠ ·) →
    sumL (fillL l f n).1 l = sumL f l - min n (sumL f l) ∧ (fillL l f n).2 = n - min n (sumL f l)
  | [], f, n, _, hn, _ => by
    show (0 : Int) = 0 - min n 0 ∧ n = n - min n 0
    omega
  | i :: l, f, n, h, hn, hd => by
    rw [List.pairwise_cons] at hd
    have hi : i ∉ l := fun hm => hd.1 i hm rfl
    have h0 := h i (List.mem_cons_self ..)
    have e : sumL (upd f i (f i - min n (f i))) l = sumL f l := sumL_congr fun k hk => upd_other _ _ fun e => hi (by rw [← e]; exact hk)
    have hp := sumL_pos (f := f) (l := l) fun k hk => h k (List.mem_cons_of_mem _ hk)
    have ih := fillL_sum (l := l) (f := upd f i (f i - min n (f i))) (n := n - min n (f i)) (fun k hk => by
      rw [upd_other _ _ fun e => hi (by rw [← e]; exact hk)]
      exact h k (List.mem_cons_of_mem _ hk)) (by omega) hd.2
    rw [e] at ih
    have hc : (fillL (i :: l) f n) = fillL l (upd f i (f i - min n (f i))) (n - min n (f i)) := rfl
    have ho := fillL_other (l := l) (f := upd f i (f i - min n (f i))) (n := n - min n (f i)) hi
    rw [upd_same] at ho
    show (fillL (i :: l) f n).1 i + sumL (fillL (i :: l) f n).1 l = f i + sumL f l - min n (f i + sumL f l) ∧ (fillL (i :: l) f n).2 = n - min n (f i + sumL f l)
    rw [hc, ho, ih.1, ih.2]
    omega
theorem mine_sum (hx : Ok x) (w y : Int) (f : Nat → Int) : sumL f (mine x w y) = sumTo (fun i => if x.lo i 0 = w ∧ x.lo i 1 ≤ y then f i else 0) x.ln := by
  unfold mine
  rw [sumL_filt, sumL_order hx]
  exact sumTo_congr fun i _ => by simp
end P
end LoanSpec
namespace Go.Proofs.YtbceepjjdfpfmaaGreat
open Go.RowKit HandSpec LoanSpec
set_option maxHeartbeats 2000000
theorem bkd_fill {x : LD} (hx : Ok x) {k : Nat} (hk : k < x.pn) : bkd x (k + 1) = (P.fill (P.asked x) (P.mine x (x.pa k 0) (x.pa k 1)) (bkd x k) (x.pa k 2)).1 := by
  have := hx.pyear k hk
  show P.untilTo x x.years (k + 1) = _
  unfold P.untilTo
  rw [if_pos (by omega)]
  rfl
/-- What is booked to loans that were not lent by then: nothing. -/
theorem bkd_late {x : LD} (hx : Ok x) : ∀ k, k ≤ x.pn → ∀ i, i < x.ln → (∀ j, j < k → x.pa j 1 < x.lo i 1) → bkd x k i = 0
  | 0, _, _, _, _ => rfl
  | k + 1, hk, i, hi, h => by
    rw [bkd_fill hx (by omega), P.fill_other, bkd_late hx k (by omega) i hi fun j hj => h j (by omega)]
    intro hm
    have := (P.mem_mine hx).1 hm
    have := h k (Nat.lt_succ_self k)
    omega
theorem pay_rise {x : LD} (hx : Ok x) {k : Nat} (hk : k < x.pn) : ∀ d, d ≤ k → x.pa (k - d) 1 ≤ x.pa k 1
  | 0, _ => Int.le_refl _
  | d + 1, hd => by
    have := pay_rise hx hk d (by omega)
    have h2 := hx.pinc (k - (d + 1)) (by omega)
    rw [show k - (d + 1) + 1 = k - d by omega] at h2
    omega
theorem fill_take {x : LD} (hx : Ok x) {k : Nat} (hk : k < x.pn) {w : Int} (hw : x.pa k 0 = w) :
    sumTo (fun i => if x.lo i 0 = w ∧ x.lo i 1 ≤ x.pa k 1 then bkd x (k + 1) i else 0) x.ln = sumTo (fun i => if x.lo i 0 = w ∧ x.lo i 1 ≤ x.pa k 1 then bkd x k i else 0) x.ln + min (x.pa k 2) (capW x w (x.pa k 1) - sumTo (fun i => if x.lo i 0 = w ∧ x.lo i 1 ≤ x.pa k 1 then bkd x k i else 0) x.ln) ∧
    P.overOf x k = x.pa k 2 - min (x.pa k 2) (capW x w (x.pa k 1) - sumTo (fun i => if x.lo i 0 = w ∧ x.lo i 1 ≤ x.pa k 1 then bkd x k i else 0) x.ln) := by
  subst hw
  have hps := hx.psack k hk
  have hbd := P.until_bd hx x.years k (by omega)
  have h := P.fillL_sum (l := P.mine x (x.pa k 0) (x.pa k 1)) (f := fun i => P.asked x i - bkd x k i) (n := x.pa k 2) (fun i hi => by
    have := (hbd i (P.mine_lt hx hi)).2
    show 0 ≤ P.asked x i - P.untilTo x x.years k i
    omega) (by omega) (P.mine_nodup _ _)
  have e := P.fill_eq (P.asked x) (P.mine x (x.pa k 0) (x.pa k 1)) (bkd x k) (x.pa k 2)
  rw [← e.1, ← e.2, ← bkd_fill hx hk] at h
  rw [P.mine_sum hx, P.mine_sum hx] at h
  have hs : ∀ b : Nat → Int, sumTo (fun i => if x.lo i 0 = x.pa k 0 ∧ x.lo i 1 ≤ x.pa k 1 then P.asked x i - b i else 0) x.ln = capW x (x.pa k 0) (x.pa k 1) - sumTo (fun i => if x.lo i 0 = x.pa k 0 ∧ x.lo i 1 ≤ x.pa k 1 then b i else 0) x.ln := fun b => by
    unfold capW
    have : sumTo (fun i => if x.lo i 0 = x.pa k 0 ∧ x.lo i 1 ≤ x.pa k 1 then P.asked x i else 0) x.ln = sumTo (fun i => (if x.lo i 0 = x.pa k 0 ∧ x.lo i 1 ≤ x.pa k 1 then P.asked x i - b i else 0) + (if x.lo i 0 = x.pa k 0 ∧ x.lo i 1 ≤ x.pa k 1 then b i else 0)) x.ln := sumTo_congr fun i _ => by split <;> omega
    rw [this, sumTo_add]
    omega
  rw [hs, hs] at h
  refine ⟨by omega, ?_⟩
  show (P.fill (P.asked x) (P.mine x (x.pa k 0) (x.pa k 1)) (bkd x k) (x.pa k 2)).2 = _
  rw [h.2]
/-- What is booked to somebody's loans. -/
theorem que_eq {x : LD} (hx : Ok x) (w : Int) : ∀ k, k ≤ x.pn → sumTo (fun i => if x.lo i 0 = w then bkd x k i else 0) x.ln = queW x w k
  | 0, _ => Eq.trans (sumTo_congr fun i _ => by show (if x.lo i 0 = w then (0 : Int) else 0) = 0; split <;> rfl) (sumTo_zero _)
  | k + 1, hk => by
    have ih := que_eq hx w k (by omega)
    by_cases e : x.pa k 0 = w
    · have hz : ∀ q, q ≤ k + 1 → sumTo (fun i => if x.lo i 0 = w then bkd x q i else 0) x.ln = sumTo (fun i => if x.lo i 0 = w ∧ x.lo i 1 ≤ x.pa k 1 then bkd x q i else 0) x.ln := fun q hq => sumTo_congr fun i hi => by
        by_cases h1 : x.lo i 0 = w
        · by_cases h2 : x.lo i 1 ≤ x.pa k 1
          · rw [if_pos h1, if_pos ⟨h1, h2⟩]
          · rw [if_pos h1, if_neg (fun h => h2 h.2), bkd_late hx q (by omega) i hi fun j hj => by
              have := pay_rise hx (show k < x.pn by omega) (k - j) (by omega)
              rw [show k - (k - j) = j by omega] at this
              omega]
        · rw [if_neg h1, if_neg (fun h => h1 h.1)]
      have hf := (fill_take hx (show k < x.pn by omega) e).1
      rw [hz (k + 1) (Nat.le_refl _), hf, ← hz k (by omega), ih]
      simp only [queW]
      rw [if_pos e]
      omega
    · simp only [queW]
      rw [if_neg e, ← ih]
      exact sumTo_congr fun i hi => by
        by_cases h1 : x.lo i 0 = w
        · rw [if_pos h1, if_pos h1, bkd_fill hx (by omega), P.fill_other]
          intro hm
          have := (P.mem_mine hx).1 hm
          omega
        · rw [if_neg h1, if_neg h1]
/-- What somebody owes at the end. -/
theorem owes_que {x : LD} (hx : Ok x) (w : Int) : P.owes x w (x.years - 1) = capW x w (x.years - 1) - queW x w x.pn := by
  rw [owes_sum hx, ← que_eq hx w x.pn (Nat.le_refl _)]
  unfold capW
  rw [← sum_minusT]
  refine sumTo_congr fun i hi => ?_
  have := hx.lyear i hi
  rw [left_now hx (Nat.le_refl _) (fun j hj => (hx.pyear j hj).2) (fun j h1 h2 => by omega) hi]
  by_cases h : x.lo i 0 = w
  · rw [if_pos h, if_pos (by omega), if_pos ⟨h, by omega⟩, if_pos h]
  · rw [if_neg h, if_neg (fun q => h q.1), if_neg h]
    rfl
where
  sum_minusT (f g : Nat → Int) : ∀ k, sumTo (fun i => f i - g i) k = sumTo f k - sumTo g k
    | 0 => rfl
    | k + 1 => by rw [sumTo_succ, sumTo_succ, sumTo_succ, sum_minusT f g k]; omega
theorem over_que {x : LD} (hx : Ok x) {k : Nat} (hk : k < x.pn) {w : Int} (hw : x.pa k 0 = w) : queW x w (k + 1) = queW x w k + (x.pa k 2 - P.overOf x k) := by
  have e := que_eq hx w (k + 1) (by omega)
  have hf := fill_take hx hk hw
  have hz : ∀ q, q ≤ k + 1 → sumTo (fun i => if x.lo i 0 = w then bkd x q i else 0) x.ln = sumTo (fun i => if x.lo i 0 = w ∧ x.lo i 1 ≤ x.pa k 1 then bkd x q i else 0) x.ln := fun q hq => sumTo_congr fun i hi => by
    by_cases h1 : x.lo i 0 = w
    · by_cases h2 : x.lo i 1 ≤ x.pa k 1
      · rw [if_pos h1, if_pos ⟨h1, h2⟩]
      · rw [if_pos h1, if_neg (fun h => h2 h.2), bkd_late hx q (by omega) i hi fun j hj => by
          have := pay_rise hx hk (k - j) (by omega)
          rw [show k - (k - j) = j by omega] at this
          omega]
    · rw [if_neg h1, if_neg (fun h => h1 h.1)]
  rw [← e, ← que_eq hx w k (by omega), hz (k + 1) (Nat.le_refl _), hz k (by omega), hf.1, hf.2]
  omega
/-- Two ledgers with the same payments. -/
structure Alike (x y : LD) (k : Nat) : Prop where
  years : x.years = y.years
  pa : ∀ j, j < k → ∀ c, c < 3 → x.pa j c = y.pa j c
theorem que_alike {x y : LD} {w c : Int} (hc : 0 ≤ c) : ∀ k, Alike x y k → (∀ j, j < k → capW x w (x.pa j 1) ≤ capW y w (x.pa j 1) ∧ capW y w (x.pa j 1) ≤ capW x w (x.pa j 1) + c) → queW x w k ≤ queW y w k ∧ queW y w k ≤ queW x w k + c
  | 0, _, _ => by simp only [queW]; omega
  | k + 1, h, hC => by
    have ih := que_alike (w := w) hc k ⟨h.years, fun j hj => h.pa j (by omega)⟩ fun j hj => hC j (by omega)
    have hk := hC k (Nat.lt_succ_self k)
    simp only [queW]
    rw [← h.pa k (Nat.lt_succ_self k) 0 (by omega), ← h.pa k (Nat.lt_succ_self k) 1 (by omega), ← h.pa k (Nat.lt_succ_self k) 2 (by omega)]
    split <;> omega
theorem que_same {x y : LD} {w : Int} : ∀ k, Alike x y k → (∀ j, j < k → x.pa j 0 = w → capW x w (x.pa j 1) = capW y w (x.pa j 1)) → queW x w k = queW y w k
  | 0, _, _ => rfl
  | k + 1, h, hC => by
    have ih := que_same (w := w) k ⟨h.years, fun j hj => h.pa j (by omega)⟩ fun j hj => hC j (by omega)
    have hk := hC k (Nat.lt_succ_self k)
    simp only [queW]
    rw [← h.pa k (Nat.lt_succ_self k) 0 (by omega), ← h.pa k (Nat.lt_succ_self k) 1 (by omega), ← h.pa k (Nat.lt_succ_self k) 2 (by omega), ih]
    split
    · rename_i e
      rw [hk e]
    · rfl
/-- A ledger with one loan more, one payment more. -/
def lendD (x : LD) (a y n : Int) : LD := { x with ln := x.ln + 1, lo := fun i j => if i = x.ln then (if j = 0 then a else if j = 1 then y else n) else x.lo i j }
def payD (x : LD) (a y n : Int) : LD := { x with pn := x.pn + 1, pa := fun i j => if i = x.pn then (if j = 0 then a else if j = 1 then y else n) else x.pa i j }
theorem asked_pos (x : LD) {i : Nat} (h : 0 ≤ x.lo i 2) : 0 ≤ P.asked x i := by
  unfold P.asked
  split
  · exact Int.le_refl _
  · omega
theorem cap_lend (x : LD) (a y n w z : Int) : capW (lendD x a y n) w z = capW x w z + (if a = w ∧ y ≤ z then P.asked (lendD x a y n) x.ln else 0) := by
  unfold capW
  show sumTo _ (x.ln + 1) = _
  rw [sumTo_succ]
  have e : sumTo (fun i => if (lendD x a y n).lo i 0 = w ∧ (lendD x a y n).lo i 1 ≤ z then P.asked (lendD x a y n) i else 0) x.ln = sumTo (fun i => if x.lo i 0 = w ∧ x.lo i 1 ≤ z then P.asked x i else 0) x.ln := sumTo_congr fun i hi => by
    have h : ∀ j, (lendD x a y n).lo i j = x.lo i j := fun j => by unfold lendD; dsimp only; rw [if_neg (by omega)]
    unfold P.asked
    rw [h, h, h]
    rfl
  rw [e]
  have h0 : (lendD x a y n).lo x.ln 0 = a := by simp [lendD]
  have h1 : (lendD x a y n).lo x.ln 1 = y := by simp [lendD]
  rw [h0, h1]
/-- One loan more makes nobody owe less, and nobody else more. -/
theorem lend_law {x : LD} {a n : Int} (hx : Ok x) (hy : Ok (lendD x a (x.years - 1) n)) (w : Int) :
    P.owes x w (x.years - 1) ≤ P.owes (lendD x a (x.years - 1) n) w (x.years - 1) ∧ (w ≠ a → P.owes (lendD x a (x.years - 1) n) w (x.years - 1) = P.owes x w (x.years - 1)) := by
  have h1 := owes_que hx w
  have h2 := owes_que hy w
  have hyr : (lendD x a (x.years - 1) n).years = x.years := rfl
  have hpn : (lendD x a (x.years - 1) n).pn = x.pn := rfl
  rw [hyr, hpn] at h2
  have hc := cap_lend x a (x.years - 1) n w
  have hA : Alike x (lendD x a (x.years - 1) n) x.pn := ⟨rfl, fun _ _ _ _ => rfl⟩
  have hpos := asked_pos (lendD x a (x.years - 1) n) (i := x.ln) (by have := hy.lsack x.ln (Nat.lt_succ_self _); omega)
  rw [h1, h2, hc (x.years - 1)]
  generalize lendD x a (x.years - 1) n = y at *
  by_cases e : a = w
  · rw [if_pos ⟨e, Int.le_refl _⟩]
    have hq := que_alike (w := w) hpos x.pn hA fun j hj => by
      rw [hc]
      split <;> omega
    exact ⟨by omega, fun h => absurd e.symm h⟩
  · rw [if_neg (fun h => e h.1)]
    have hq := que_same (w := w) x.pn hA fun j hj _ => by
      rw [hc, if_neg (fun h => e h.1)]
      omega
    exact ⟨by omega, fun _ => by omega⟩
theorem cap_pay (x : LD) (a y n w z : Int) : capW (payD x a y n) w z = capW x w z := rfl
/-- One payment more: what is not over is owed less, by the one who pays. -/
theorem pay_law_more {x : LD} {a n : Int} (hx : Ok x) (hy : Ok (payD x a (x.years - 1) n)) (w : Int) :
    P.owes (payD x a (x.years - 1) n) w (x.years - 1) ≤ P.owes x w (x.years - 1) ∧ (w ≠ a → P.owes (payD x a (x.years - 1) n) w (x.years - 1) = P.owes x w (x.years - 1)) ∧
      (w = a → P.owes x w (x.years - 1) - P.owes (payD x a (x.years - 1) n) w (x.years - 1) = n - P.overOf (payD x a (x.years - 1) n) x.pn) := by
  have h1 := owes_que hx w
  have h2 := owes_que hy w
  have hyr : (payD x a (x.years - 1) n).years = x.years := rfl
  have hpn : (payD x a (x.years - 1) n).pn = x.pn + 1 := rfl
  rw [hyr, hpn, cap_pay] at h2
  have hA : Alike x (payD x a (x.years - 1) n) x.pn := ⟨rfl, fun j hj c _ => by unfold payD; dsimp only; rw [if_neg (by omega)]⟩
  have hq := que_same (w := w) x.pn hA fun j hj _ => (cap_pay x a (x.years - 1) n w _).symm
  have p0 : (payD x a (x.years - 1) n).pa x.pn 0 = a := by simp [payD]
  have p2 : (payD x a (x.years - 1) n).pa x.pn 2 = n := by simp [payD]
  have ho := over_que hy (k := x.pn) (by rw [hpn]; omega) (w := a) p0
  rw [p2] at ho
  have hob := (pay_law hy (k := x.pn) (by rw [hpn]; omega)).ob
  rw [p2] at hob
  rw [h1, h2]
  by_cases e : w = a
  · subst e
    rw [ho, ← hq]
    exact ⟨by omega, fun h => absurd rfl h, fun _ => by omega⟩
  · have : queW (payD x a (x.years - 1) n) w (x.pn + 1) = queW (payD x a (x.years - 1) n) w x.pn := by
      simp only [queW]
      rw [p0, if_neg (fun h => e h.symm)]
    rw [this, ← hq]
    exact ⟨by omega, fun _ => by omega, fun h => absurd h e⟩
/-- A ledger in which loan i is forgiven, too. -/
structure Forg (x y : LD) (i : Nat) : Prop where
  folk : y.folk = x.folk
  years : y.years = x.years
  ln : y.ln = x.ln
  pn : y.pn = x.pn
  lo : ∀ k, k < x.ln → ∀ c, c < 3 → y.lo k c = x.lo k c
  pa : ∀ k, k < x.pn → ∀ c, c < 3 → y.pa k c = x.pa k c
  fo : ∀ k : Nat, k < x.ln → hasB y.fo y.fn k = (hasB x.fo x.fn k || decide (k = i))
theorem forg_law {x y : LD} {i : Nat} (hx : Ok x) (hy : Ok y) (h : Forg x y i) (hi : i < x.ln) (w : Int) :
    P.owes y w (x.years - 1) ≤ P.owes x w (x.years - 1) ∧ (x.lo i 0 ≠ w → P.owes y w (x.years - 1) = P.owes x w (x.years - 1)) := by
  have h1 := owes_que hx w
  have h2 := owes_que hy w
  rw [h.years, h.pn] at h2
  have hA : Alike y x x.pn := ⟨h.years, h.pa⟩
  have hask : ∀ k, k < x.ln → P.asked y k = if k = i then 0 else P.asked x k := fun k hk => by
    unfold P.asked
    rw [h.fo k hk, h.lo k hk 2 (by omega)]
    by_cases e : k = i
    · rw [if_pos e, decide_eq_true e, Bool.or_true, if_pos rfl]
    · rw [if_neg e, decide_eq_false e, Bool.or_false]
  have hpos := asked_pos x (i := i) (by have := hx.lsack i hi; omega)
  have hcap : ∀ z, capW y w z = capW x w z - (if x.lo i 0 = w ∧ x.lo i 1 ≤ z then P.asked x i else 0) := fun z => by
    have e : capW y w z + sumTo (fun k => if k = i then (if x.lo i 0 = w ∧ x.lo i 1 ≤ z then P.asked x i else 0) else 0) x.ln = capW x w z := by
      unfold capW
      rw [h.ln, ← sumTo_add]
      refine sumTo_congr fun k hk => ?_
      rw [h.lo k hk 0 (by omega), h.lo k hk 1 (by omega), hask k hk]
      by_cases e : k = i
      · subst e
        rw [if_pos rfl, if_pos rfl]
        split <;> omega
      · rw [if_neg e, if_neg e, Int.add_zero]
    have e2 : ∀ (v : Int) (n : Nat), sumTo (fun k => if k = i then v else 0) n = if i < n then v else 0 := fun v n => by
      induction n with
      | zero => simp [sumTo]
      | succ n ih =>
        rw [sumTo_succ, ih]
        by_cases q : n = i
        · subst q; rw [if_neg (by omega), if_pos rfl, if_pos (by omega)]; omega
        · rw [if_neg q]
          by_cases q2 : i < n
          · rw [if_pos q2, if_pos (by omega)]; omega
          · rw [if_neg q2, if_neg (by omega)]; omega
    rw [e2, if_pos hi] at e
    omega
  have hyi := hx.lyear i hi
  rw [h1, h2, hcap (x.years - 1)]
  by_cases e : x.lo i 0 = w
  · rw [if_pos ⟨e, by omega⟩]
    have hq := que_alike (w := w) hpos x.pn hA fun j hj => by
      rw [hcap]
      split <;> omega
    exact ⟨by omega, fun q => absurd e q⟩
  · rw [if_neg (fun q => e q.1)]
    have hq := que_same (w := w) x.pn hA fun j hj _ => by
      rw [hcap, if_neg (fun q => e q.1)]
      omega
    exact ⟨by omega, fun _ => by omega⟩
end Go.Proofs.YtbceepjjdfpfmaaGreat
namespace Go.Proofs.YtbceepjjdfpfmaaGreat
open Go.RowKit HandSpec LoanSpec
set_option maxHeartbeats 4000000
set_option maxRecDepth 100000
/-- No ledger. -/
def ZeroL : Value := .agg #[.int .i64 0, .int .i64 0, .slice none 0 0, .slice none 0 0, .slice none 0 0, .slice none 0 0, .slice none 0 0]
/-- A ledger of its own is handed back, or the error. -/
def NewL (w : World) (y : LD) (er : Int) (e : Ending) (w' : World) : Prop := ∃ v, e = .returned (.tuple #[v, .int .i64 er]) ∧ Ext w w' ∧ (er ≠ 0 → v = ZeroL) ∧
  (er = 0 → ∃ u1 u2 u3 u4 u5, v = .agg #[.int .i64 y.folk, .int .i64 y.years, u1, u2, u3, u4, u5] ∧ OwnLg w' w.heap.size y u1 u2 u3 u4 u5)
def lendEr (x : LD) (a y n : Int) : Int := if x.chk ≠ 0 then x.chk else if x.ln = 10 then 9 else (lendD x a y n).chk
theorem blk7L {W : World} {H : Nat} {t : TypeId} {z0 z1 z2 z3 z4 z5 z6 : Value} (h : Blk W H t #[z0, z1, z2, z3, z4, z5, z6]) (a b c d e f g : Value) : Blk (((((((W.setCell ⟨H, 0, none⟩ a).setCell ⟨H, 1, none⟩ b).setCell ⟨H, 2, none⟩ c).setCell ⟨H, 3, none⟩ d).setCell ⟨H, 4, none⟩ e).setCell ⟨H, 5, none⟩ f).setCell ⟨H, 6, none⟩ g) H t #[a, b, c, d, e, f, g] :=
  ((((((h.set_ 0 a).set_ 1 b).set_ 2 c).set_ 3 d).set_ 4 e).set_ 5 f).set_ 6 g
theorem ext7L {w W : World} (hw : Ext w W) {G : Nat} (hG : w.heap.size ≤ G) (a b c d e f g : Value) : Ext w (((((((W.setCell ⟨G, 0, none⟩ a).setCell ⟨G, 1, none⟩ b).setCell ⟨G, 2, none⟩ c).setCell ⟨G, 3, none⟩ d).setCell ⟨G, 4, none⟩ e).setCell ⟨G, 5, none⟩ f).setCell ⟨G, 6, none⟩ g) :=
  ((((((hw.setCell (p := ⟨G, 0, none⟩) a hG).setCell (p := ⟨G, 1, none⟩) b hG).setCell (p := ⟨G, 2, none⟩) c hG).setCell (p := ⟨G, 3, none⟩) d hG).setCell (p := ⟨G, 4, none⟩) e hG).setCell (p := ⟨G, 5, none⟩) f hG).setCell (p := ⟨G, 6, none⟩) g hG
theorem OwnLg.la {w : World} {B : Nat} {x : LD} {D1 D2 D3 D4 D5 : Option Addr} {q1 q2 q3 q4 q5 : Nat} (h : OwnLg w B x (.slice D1 x.bn q1) (.slice D2 x.fn q2) (.slice D3 x.ln q3) (.slice D4 x.pn q4) (.slice D5 x.mn q5)) : IsLA w x ⟨D1, q1, D2, q2, D3, q3, D4, q4, D5, q5⟩ := by
  obtain ⟨h1, h2, h3, h4, h5, -⟩ := h
  exact ⟨h1.rd.congr fun i hi j hj => by obtain rfl : j = 0 := (by omega); exact rowsG_at hi (by omega), h2.rd.congr fun i hi j hj => by obtain rfl : j = 0 := (by omega); exact rowsG_at hi (by omega), h3.rd.congr fun i hi j hj => rowsG_at hi hj, h4.rd.congr fun i hi j hj => rowsG_at hi hj, h5.rd.congr fun i hi j hj => rowsG_at hi hj⟩
theorem OwnLg.box1 {w : World} {B H i : Nat} {C : Array Value} {x : LD} {u1 u2 u3 u4 u5 : Value} (h : OwnLg w B x u1 u2 u3 u4 u5) (b : Blk w H 27 C) (a : Value) : OwnLg (w.setCell ⟨H, i, none⟩ a) B x u1 u2 u3 u4 u5 :=
  ⟨h.o1.same fun g hg => Below.heap_setCell _ _ _ _ (fun q => h.o1.ne_blk b (by decide) (by rw [hg, q])), h.o2.same fun g hg => Below.heap_setCell _ _ _ _ (fun q => h.o2.ne_blk b (by decide) (by rw [hg, q])),
    h.o3.same fun g hg => Below.heap_setCell _ _ _ _ (fun q => h.o3.ne_blk b (by decide) (by rw [hg, q])), h.o4.same fun g hg => Below.heap_setCell _ _ _ _ (fun q => h.o4.ne_blk b (by decide) (by rw [hg, q])),
    h.o5.same fun g hg => Below.heap_setCell _ _ _ _ (fun q => h.o5.ne_blk b (by decide) (by rw [hg, q])), h.ne⟩
theorem OwnLg.box7 {w : World} {B H : Nat} {C : Array Value} {x : LD} {u1 u2 u3 u4 u5 : Value} (h : OwnLg w B x u1 u2 u3 u4 u5) (k : Blk w H 27 C) (a b c d e f g : Value) :
    OwnLg (((((((w.setCell ⟨H, 0, none⟩ a).setCell ⟨H, 1, none⟩ b).setCell ⟨H, 2, none⟩ c).setCell ⟨H, 3, none⟩ d).setCell ⟨H, 4, none⟩ e).setCell ⟨H, 5, none⟩ f).setCell ⟨H, 6, none⟩ g) B x u1 u2 u3 u4 u5 :=
  ((((((h.box1 k a).box1 (k.set_ 0 a) b).box1 ((k.set_ 0 a).set_ 1 b) c).box1 (((k.set_ 0 a).set_ 1 b).set_ 2 c) d).box1 ((((k.set_ 0 a).set_ 1 b).set_ 2 c).set_ 3 d) e).box1 (((((k.set_ 0 a).set_ 1 b).set_ 2 c).set_ 3 d).set_ 4 e) f).box1 ((((((k.set_ 0 a).set_ 1 b).set_ 2 c).set_ 3 d).set_ 4 e).set_ 5 f) g
theorem lend82 {x : LD} {w : World} {p : LA} (hv : IsLA w x p) (hm : Sm x) (a y n : Int) :
    Calls Tryz.prog 82 #[ledV x p, .agg #[.int .i64 a, .int .i64 y, .int .i64 n]] w (NewL w (lendD x a y n) (lendEr x a y n)) := by
  have HSM := hid hm
  obtain ⟨h1, h2, h3, h4, h5⟩ := hm
  obtain ⟨A1, c1, A2, c2, A3, c3, A4, c4, A5, c5⟩ := p
  have HL := hid hv
  clear hv
  obtain ⟨s, hs⟩ : ∃ s, Hid (x.chk = s) := ⟨_, hid rfl⟩
  obtain ⟨er, her⟩ : ∃ s, Hid (lendEr x a y n = s) := ⟨_, hid rfl⟩
  obtain ⟨yl, hyl⟩ : ∃ s, Hid (lendD x a y n = s) := ⟨_, hid rfl⟩
  rw [her.out, hyl.out]
  obtain ⟨Q, hQ⟩ : ∃ Q, Hid (NewL w yl er = Q) := ⟨_, hid rfl⟩
  rw [hQ.out]
  unfold ledV
  go_enter Tryz.func82, Tryz.ntmps82
  go_upto_region 1 with fail
  refine wp_later fun w1 hw1 => ?_
  obtain ⟨e12, B3⟩ := hw1.newB
  obtain ⟨E1, B1, B2⟩ := e12.newB2
  simp only [World.size_alloc] at B3
  have HE1 := hid E1
  have HB1 := hid B1
  have HB2 := hid B2
  have HB3 := hid B3
  have k1 := B1.cell
  have k1l := B1.lt
  clear hw1 e12 B1 B2 B3 E1
  have HL1 := hid (show IsL w1 (.agg #[.int .i64 x.folk, .int .i64 x.years, .slice A1 x.bn c1, .slice A2 x.fn c2, .slice A3 x.ln c3, .slice A4 x.pn c4, .slice A5 x.mn c5]) x from (HL.out.ext HE1.out).isL)
  go_upto_region 2 with (go_at_call 37; refine (check37 HL1.out h1 h2 h3 h4 h5).mono ?_; rintro e w2 ⟨rfl, he⟩; rw [hs.out]; have HB1 := hid (HB1.out.ext he); have HB2 := hid (HB2.out.ext he); have HB3 := hid (HB3.out.ext he); have HE1 := hid (HE1.out.trans he); clear he k1 k1l)
  have k1 := HB1.out.cell
  have k1l := HB1.out.lt
  have k3 := HB3.out.cell
  have k3l := HB3.out.lt
  have k3f := HB3.out.frozen
  by_cases h0 : s = 0
  · have t0 : (s != 0) = false := by simp [h0]
    subst h0
    have hx := hid (Ok.of_chk hs.out)
    have hl := hx.out.ln
    by_cases h10 : x.ln = 10
    · have t10 : ((x.ln : Int) == 10) = true := by simp; omega
      have he := hid (show er = 9 by rw [← her.out]; unfold lendEr; rw [if_neg (by rw [hs.out]; simp), if_pos h10])
      clear h10
      go_wp2_with fail
      refine bodyPost_ret (v := .tuple #[ZeroL, .int .i64 9]) (by simp [results, Tryz.results82, go_sem, k3, ZeroL]) rfl ?_
      rw [← hQ.out, he.out]
      exact ⟨_, rfl, ext7L HE1.out (by omega) _ _ _ _ _ _ _, fun _ => rfl, fun h => by cases h⟩
    · have t10 : ((x.ln : Int) == 10) = false := by simp; omega
      have he := hid (show er = yl.chk by rw [← her.out]; unfold lendEr; rw [if_neg (by rw [hs.out]; simp), if_neg h10, hyl.out])
      have hl9 : x.ln < 10 := by omega
      clear h10
      go_upto_region 7 with (go_at_call 157; refine (owned157 (p := ⟨A1, c1, A2, c2, A3, c3, A4, c4, A5, c5⟩) (HL.out.ext HE1.out) HSM.out hl).mono ?_; rintro e w3 ⟨u1, u2, u3, u4, u5, rfl, he3, hO⟩; obtain ⟨D1, q1, rfl, -⟩ := hO.o1.slR; obtain ⟨D2, q2, rfl, -⟩ := hO.o2.slR; obtain ⟨D3, q3, rfl, -⟩ := hO.o3.slR; obtain ⟨D4, q4, rfl, -⟩ := hO.o4.slR; obtain ⟨D5, q5, rfl, -⟩ := hO.o5.slR; simp only [rowsG_length] at hO ⊢; have HO := hid (hO.base HE1.out.size); have HB1 := hid (HB1.out.ext he3); have HB2 := hid (HB2.out.ext he3); have HB3 := hid (HB3.out.ext he3); have HE3 := hid (HE1.out.trans he3); clear he3 hO k1 k1l k3 k3l k3f)
      refine wp_later fun w7 hw7 => ?_
      obtain ⟨e7, B7⟩ := hw7.newB
      have HO := hid (HO.out.ext e7)
      have HB2 := hid (HB2.out.ext e7)
      have hne3 : w.heap.size + 1 + 1 < w3.heap.size := HB3.out.lt
      have HB3 := hid (HB3.out.ext e7)
      have HE7 := hid (HE3.out.trans e7)
      have hwb : w.heap.size ≤ w3.heap.size := HE3.out.size
      obtain ⟨b7, hb7⟩ : ∃ q, Hid (w3.heap.size = q) := ⟨_, hid rfl⟩
      rw [hb7.out] at B7 hwb hne3 ⊢
      have HB7 := hid B7
      have k7 := B7.cell
      have k7l := B7.lt
      have k2 := HB2.out.cell
      have k2l := HB2.out.lt
      have hlr := hid (show (rowsG 3 x.ln x.lo ++ [[a, y, n]]).length = x.ln + 1 by rw [List.length_append, rowsG_length]; rfl)
      have e8 : Ext w7 (w7.alloc (.cells #[.int .i64 a, .int .i64 y, .int .i64 n] 68)) := (Ext.refl _).alloc _
      have hsz : w.heap.size ≤ w7.heap.size := HE7.out.size
      clear B7 hw7 e7
      go_upto_region 8 with (at_builtin; refine wpList_append_rows rfl _ _ 23 rfl el23 rfl (HO.out.o3.ext (Ext.alloc (Ext.refl _) _)) _ 1 1 [[a, y, n]] rfl rfl (by simp) (by intro j; simp [cellsOf]) (by rw [rowsG_length]; omega) (by simp; omega) ?_; intro v9 w9 ho9 hg9; obtain ⟨D9, q9, rfl, -⟩ := OwnR.slR ho9; rw [hlr.out] at ho9 ⊢; have HO9 := hid ho9; have HG9 := hid hg9; have B9 := ((HB7.out.ext e8).grown hg9 (fun q => (HO.out.o3.ext e8).ne_blk (HB7.out.ext e8) (by decide) q.symm)); have HB9 := hid B9; have k9 := B9.cell; have k9l := B9.lt; have k9f := B9.frozen; clear ho9 hg9 B9 k7 k7l k2 k2l)
      have hsame : ∀ {e : TypeId} {c : Nat} {v : Value} {l : List (List Int)}, OwnR w9 w.heap.size e c v l → e ≠ 27 → OwnR (w9.setCell ⟨b7, 4, none⟩ (.slice D9 (x.ln + 1) q9)) w.heap.size e c v l := fun h h27 =>
        h.same fun g hg => Below.heap_setCell _ _ _ _ (fun q => h.ne_blk HB9.out h27 (by rw [hg, q]))
      have hoth : ∀ {e : TypeId} {c : Nat} {v : Value} {l : List (List Int)}, OwnR w7 w.heap.size e c v l → e ≠ 27 → e ≠ 68 → OwnR (w9.setCell ⟨b7, 4, none⟩ (.slice D9 (x.ln + 1) q9)) w.heap.size e c v l := fun h h27 h68 =>
        hsame ((h.ext e8).grownBy_other HG9.out (fun g hg => (h.ext e8).apart' (HO.out.o3.ext e8) h68 g hg)) h27
      have hrows : rowsG 3 x.ln x.lo ++ [[a, y, n]] = rowsG 3 (x.ln + 1) (lendD x a y n).lo := by
        rw [rowsG3_succ]
        congr 1
        · unfold rowsG
          refine List.map_congr_left fun k hk => List.map_congr_left fun j _ => ?_
          rw [List.mem_range] at hk
          unfold lendD
          dsimp only
          rw [if_neg (by omega)]
        · simp [lendD]
      have HN := hid (show OwnLg (w9.setCell ⟨b7, 4, none⟩ (.slice D9 (x.ln + 1) q9)) w.heap.size (lendD x a y n) (.slice D1 x.bn q1) (.slice D2 x.fn q2) (.slice D9 (x.ln + 1) q9) (.slice D4 x.pn q4) (.slice D5 x.mn q5) from
        ⟨hoth HO.out.o1 (by decide) (by decide), hoth HO.out.o2 (by decide) (by decide), by rw [show (lendD x a y n).ln = x.ln + 1 from rfl, ← hrows]; exact hsame HO9.out (by decide), hoth HO.out.o4 (by decide) (by decide), hoth HO.out.o5 (by decide) (by decide), HO.out.ne⟩)
      have E9 := hid (((HE7.out.trans e8).grown HG9.out (fun q hq => HO.out.o3.block hq)).setCell (p := ⟨b7, 4, none⟩) (.slice D9 (x.ln + 1) q9) hwb)
      have B79 := hid (HB9.out.set_ 4 (.slice D9 (x.ln + 1) q9))
      have hg3 : (w9.setCell ⟨b7, 4, none⟩ (.slice D9 (x.ln + 1) q9)).heap[w.heap.size + 1 + 1]? = w7.heap[w.heap.size + 1 + 1]? := by
        rw [Below.heap_setCell _ _ _ _ (show w.heap.size + 1 + 1 ≠ b7 by omega), HG9.out.block _ (Nat.lt_of_lt_of_le HB3.out.lt e8.size) (fun q => (HO.out.o3.ext e8).ne_blk (HB3.out.ext e8) (by decide) q.symm)]
        exact e8.block HB3.out.lt
      have HB39 := hid (show Blk (w9.setCell ⟨b7, 4, none⟩ (.slice D9 (x.ln + 1) q9)) (w.heap.size + 1 + 1) 27 _ from hg3.trans HB3.out)
      obtain ⟨wA, hwA⟩ : ∃ W : World, Hid (W = w9.setCell ⟨b7, 4, none⟩ (.slice D9 (x.ln + 1) q9)) := ⟨_, hid rfl⟩
      rw [← hwA.out] at HN E9 B79 HB39 ⊢
      clear k9 k9l k9f hsame hoth hrows hg3 e8 HB9 HG9 HO9 HO HB7 hwA HB1 HB2 HB3
      have k7 := B79.out.cell
      have k7l := B79.out.lt
      have hsmy : Sm (lendD x a y n) := ⟨h1, h2, show x.ln + 1 ≤ 1000 by omega, h4, h5⟩
      have HSy := hid hsmy
      clear hsmy
      obtain ⟨zc, hzc⟩ : ∃ z, Hid (yl.chk = z) := ⟨_, hid rfl⟩
      have hzc' := hid (show (lendD x a y n).chk = zc by rw [hyl.out]; exact hzc.out)
      by_cases hc : zc = 0
      · subst hc
        go_wp2_with (go_at_call 158; refine (right158 (x := lendD x a y n) (p := ⟨D1, q1, D2, q2, D9, q9, D4, q4, D5, q5⟩) HN.out.la HSy.out).mono ?_; rintro e wB ⟨heB, hA, -⟩; obtain rfl := hA hzc'.out; unfold ledV; have HN := hid (HN.out.ext heB); have EB := hid (E9.out.trans heB); have HB3B := hid (HB39.out.ext heB); have k3 := HB3B.out.cell; have k3l := HB3B.out.lt; have k3f := HB3B.out.frozen; clear heB hA k7 k7l)
        refine bodyPost_ret (v := .tuple #[.agg #[.int .i64 x.folk, .int .i64 x.years, .slice D1 x.bn q1, .slice D2 x.fn q2, .slice D9 (x.ln + 1) q9, .slice D4 x.pn q4, .slice D5 x.mn q5], .int .i64 0]) (by simp [results, Tryz.results82, go_sem, k3, lendD]) rfl ?_
        rw [← hQ.out, he.out, hzc.out, ← hyl.out]
        exact ⟨_, rfl, ext7L EB.out (by omega) _ _ _ _ _ _ _, fun h => absurd rfl h, fun _ => ⟨_, _, _, _, _, rfl, HN.out.box7 HB3B.out _ _ _ _ _ _ _⟩⟩
      · have H0 := hid hc
        clear hc
        go_wp2_with (go_at_call 158; refine (right158 (x := lendD x a y n) (p := ⟨D1, q1, D2, q2, D9, q9, D4, q4, D5, q5⟩) HN.out.la HSy.out).mono ?_; rintro e wB ⟨heB, -, hA⟩; obtain rfl := hA (by rw [hzc'.out]; exact H0.out); rw [hzc'.out]; have EB := hid (E9.out.trans heB); have HB3B := hid (HB39.out.ext heB); have k3 := HB3B.out.cell; have k3l := HB3B.out.lt; have k3f := HB3B.out.frozen; clear heB hA k7 k7l)
        refine bodyPost_ret (v := .tuple #[ZeroL, .int .i64 zc]) (by simp [results, Tryz.results82, go_sem, k3, ZeroL]) rfl ?_
        rw [← hQ.out, he.out, hzc.out]
        exact ⟨_, rfl, ext7L EB.out (by omega) _ _ _ _ _ _ _, fun _ => rfl, fun h => absurd h H0.out⟩
  · have t0 : (s != 0) = true := by simpa using h0
    have he := hid (show er = s by rw [← her.out]; unfold lendEr; rw [if_pos (by rw [hs.out]; exact h0), hs.out])
    have H0 := hid h0
    clear h0
    go_wp2_with fail
    refine bodyPost_ret (v := .tuple #[ZeroL, .int .i64 s]) (by simp [results, Tryz.results82, go_sem, k3, ZeroL]) rfl ?_
    rw [← hQ.out, he.out]
    exact ⟨_, rfl, ext7L HE1.out (by omega) _ _ _ _ _ _ _, fun _ => rfl, fun h => absurd h H0.out⟩
def payEr (x : LD) (a y n : Int) : Int := if x.chk ≠ 0 then x.chk else if x.pn = 12 then 9 else (payD x a y n).chk
theorem pay83 {x : LD} {w : World} {p : LA} (hv : IsLA w x p) (hm : Sm x) (a y n : Int) :
    Calls Tryz.prog 83 #[ledV x p, .agg #[.int .i64 a, .int .i64 y, .int .i64 n]] w (NewL w (payD x a y n) (payEr x a y n)) := by
  have HSM := hid hm
  obtain ⟨h1, h2, h3, h4, h5⟩ := hm
  obtain ⟨A1, c1, A2, c2, A3, c3, A4, c4, A5, c5⟩ := p
  have HL := hid hv
  clear hv
  obtain ⟨s, hs⟩ : ∃ s, Hid (x.chk = s) := ⟨_, hid rfl⟩
  obtain ⟨er, her⟩ : ∃ s, Hid (payEr x a y n = s) := ⟨_, hid rfl⟩
  obtain ⟨yl, hyl⟩ : ∃ s, Hid (payD x a y n = s) := ⟨_, hid rfl⟩
  rw [her.out, hyl.out]
  obtain ⟨Q, hQ⟩ : ∃ Q, Hid (NewL w yl er = Q) := ⟨_, hid rfl⟩
  rw [hQ.out]
  unfold ledV
  go_enter Tryz.func83, Tryz.ntmps83
  go_upto_region 1 with fail
  refine wp_later fun w1 hw1 => ?_
  obtain ⟨e12, B3⟩ := hw1.newB
  obtain ⟨E1, B1, B2⟩ := e12.newB2
  simp only [World.size_alloc] at B3
  have HE1 := hid E1
  have HB1 := hid B1
  have HB2 := hid B2
  have HB3 := hid B3
  have k1 := B1.cell
  have k1l := B1.lt
  clear hw1 e12 B1 B2 B3 E1
  have HL1 := hid (show IsL w1 (.agg #[.int .i64 x.folk, .int .i64 x.years, .slice A1 x.bn c1, .slice A2 x.fn c2, .slice A3 x.ln c3, .slice A4 x.pn c4, .slice A5 x.mn c5]) x from (HL.out.ext HE1.out).isL)
  go_upto_region 2 with (go_at_call 37; refine (check37 HL1.out h1 h2 h3 h4 h5).mono ?_; rintro e w2 ⟨rfl, he⟩; rw [hs.out]; have HB1 := hid (HB1.out.ext he); have HB2 := hid (HB2.out.ext he); have HB3 := hid (HB3.out.ext he); have HE1 := hid (HE1.out.trans he); clear he k1 k1l)
  have k1 := HB1.out.cell
  have k1l := HB1.out.lt
  have k3 := HB3.out.cell
  have k3l := HB3.out.lt
  have k3f := HB3.out.frozen
  by_cases h0 : s = 0
  · have t0 : (s != 0) = false := by simp [h0]
    subst h0
    have hx := hid (Ok.of_chk hs.out)
    have hl := hx.out.ln
    by_cases h10 : x.pn = 12
    · have t10 : ((x.pn : Int) == 12) = true := by simp; omega
      have he := hid (show er = 9 by rw [← her.out]; unfold payEr; rw [if_neg (by rw [hs.out]; simp), if_pos h10])
      clear h10
      go_wp2_with fail
      refine bodyPost_ret (v := .tuple #[ZeroL, .int .i64 9]) (by simp [results, Tryz.results83, go_sem, k3, ZeroL]) rfl ?_
      rw [← hQ.out, he.out]
      exact ⟨_, rfl, ext7L HE1.out (by omega) _ _ _ _ _ _ _, fun _ => rfl, fun h => by cases h⟩
    · have t10 : ((x.pn : Int) == 12) = false := by simp; omega
      have he := hid (show er = yl.chk by rw [← her.out]; unfold payEr; rw [if_neg (by rw [hs.out]; simp), if_neg h10, hyl.out])
      have hp12 := hx.out.pn
      have hl9 : x.pn < 12 := by omega
      clear h10
      go_upto_region 7 with (go_at_call 157; refine (owned157 (p := ⟨A1, c1, A2, c2, A3, c3, A4, c4, A5, c5⟩) (HL.out.ext HE1.out) HSM.out hl).mono ?_; rintro e w3 ⟨u1, u2, u3, u4, u5, rfl, he3, hO⟩; obtain ⟨D1, q1, rfl, -⟩ := hO.o1.slR; obtain ⟨D2, q2, rfl, -⟩ := hO.o2.slR; obtain ⟨D3, q3, rfl, -⟩ := hO.o3.slR; obtain ⟨D4, q4, rfl, -⟩ := hO.o4.slR; obtain ⟨D5, q5, rfl, -⟩ := hO.o5.slR; simp only [rowsG_length] at hO ⊢; have HO := hid (hO.base HE1.out.size); have HB1 := hid (HB1.out.ext he3); have HB2 := hid (HB2.out.ext he3); have HB3 := hid (HB3.out.ext he3); have HE3 := hid (HE1.out.trans he3); clear he3 hO k1 k1l k3 k3l k3f)
      refine wp_later fun w7 hw7 => ?_
      obtain ⟨e7, B7⟩ := hw7.newB
      have HO := hid (HO.out.ext e7)
      have HB2 := hid (HB2.out.ext e7)
      have hne3 : w.heap.size + 1 + 1 < w3.heap.size := HB3.out.lt
      have HB3 := hid (HB3.out.ext e7)
      have HE7 := hid (HE3.out.trans e7)
      have hwb : w.heap.size ≤ w3.heap.size := HE3.out.size
      obtain ⟨b7, hb7⟩ : ∃ q, Hid (w3.heap.size = q) := ⟨_, hid rfl⟩
      rw [hb7.out] at B7 hwb hne3 ⊢
      have HB7 := hid B7
      have k7 := B7.cell
      have k7l := B7.lt
      have k2 := HB2.out.cell
      have k2l := HB2.out.lt
      have hlr := hid (show (rowsG 3 x.pn x.pa ++ [[a, y, n]]).length = x.pn + 1 by rw [List.length_append, rowsG_length]; rfl)
      have e8 : Ext w7 (w7.alloc (.cells #[.int .i64 a, .int .i64 y, .int .i64 n] 71)) := (Ext.refl _).alloc _
      have hsz : w.heap.size ≤ w7.heap.size := HE7.out.size
      clear B7 hw7 e7
      go_upto_region 8 with (at_builtin; refine wpList_append_rows rfl _ _ 24 rfl el24 rfl (HO.out.o4.ext (Ext.alloc (Ext.refl _) _)) _ 1 1 [[a, y, n]] rfl rfl (by simp) (by intro j; simp [cellsOf]) (by rw [rowsG_length]; omega) (by simp; omega) ?_; intro v9 w9 ho9 hg9; obtain ⟨D9, q9, rfl, -⟩ := OwnR.slR ho9; rw [hlr.out] at ho9 ⊢; have HO9 := hid ho9; have HG9 := hid hg9; have B9 := ((HB7.out.ext e8).grown hg9 (fun q => (HO.out.o4.ext e8).ne_blk (HB7.out.ext e8) (by decide) q.symm)); have HB9 := hid B9; have k9 := B9.cell; have k9l := B9.lt; have k9f := B9.frozen; clear ho9 hg9 B9 k7 k7l k2 k2l)
      have hsame : ∀ {e : TypeId} {c : Nat} {v : Value} {l : List (List Int)}, OwnR w9 w.heap.size e c v l → e ≠ 27 → OwnR (w9.setCell ⟨b7, 5, none⟩ (.slice D9 (x.pn + 1) q9)) w.heap.size e c v l := fun h h27 =>
        h.same fun g hg => Below.heap_setCell _ _ _ _ (fun q => h.ne_blk HB9.out h27 (by rw [hg, q]))
      have hoth : ∀ {e : TypeId} {c : Nat} {v : Value} {l : List (List Int)}, OwnR w7 w.heap.size e c v l → e ≠ 27 → e ≠ 71 → OwnR (w9.setCell ⟨b7, 5, none⟩ (.slice D9 (x.pn + 1) q9)) w.heap.size e c v l := fun h h27 h68 =>
        hsame ((h.ext e8).grownBy_other HG9.out (fun g hg => (h.ext e8).apart' (HO.out.o4.ext e8) h68 g hg)) h27
      have hrows : rowsG 3 x.pn x.pa ++ [[a, y, n]] = rowsG 3 (x.pn + 1) (payD x a y n).pa := by
        rw [rowsG3_succ]
        congr 1
        · unfold rowsG
          refine List.map_congr_left fun k hk => List.map_congr_left fun j _ => ?_
          rw [List.mem_range] at hk
          unfold payD
          dsimp only
          rw [if_neg (by omega)]
        · simp [payD]
      have HN := hid (show OwnLg (w9.setCell ⟨b7, 5, none⟩ (.slice D9 (x.pn + 1) q9)) w.heap.size (payD x a y n) (.slice D1 x.bn q1) (.slice D2 x.fn q2) (.slice D3 x.ln q3) (.slice D9 (x.pn + 1) q9) (.slice D5 x.mn q5) from
        ⟨hoth HO.out.o1 (by decide) (by decide), hoth HO.out.o2 (by decide) (by decide), hoth HO.out.o3 (by decide) (by decide), by rw [show (payD x a y n).pn = x.pn + 1 from rfl, ← hrows]; exact hsame HO9.out (by decide), hoth HO.out.o5 (by decide) (by decide), HO.out.ne⟩)
      have E9 := hid (((HE7.out.trans e8).grown HG9.out (fun q hq => HO.out.o4.block hq)).setCell (p := ⟨b7, 5, none⟩) (.slice D9 (x.pn + 1) q9) hwb)
      have B79 := hid (HB9.out.set_ 5 (.slice D9 (x.pn + 1) q9))
      have hg3 : (w9.setCell ⟨b7, 5, none⟩ (.slice D9 (x.pn + 1) q9)).heap[w.heap.size + 1 + 1]? = w7.heap[w.heap.size + 1 + 1]? := by
        rw [Below.heap_setCell _ _ _ _ (show w.heap.size + 1 + 1 ≠ b7 by omega), HG9.out.block _ (Nat.lt_of_lt_of_le HB3.out.lt e8.size) (fun q => (HO.out.o4.ext e8).ne_blk (HB3.out.ext e8) (by decide) q.symm)]
        exact e8.block HB3.out.lt
      have HB39 := hid (show Blk (w9.setCell ⟨b7, 5, none⟩ (.slice D9 (x.pn + 1) q9)) (w.heap.size + 1 + 1) 27 _ from hg3.trans HB3.out)
      obtain ⟨wA, hwA⟩ : ∃ W : World, Hid (W = w9.setCell ⟨b7, 5, none⟩ (.slice D9 (x.pn + 1) q9)) := ⟨_, hid rfl⟩
      rw [← hwA.out] at HN E9 B79 HB39 ⊢
      clear k9 k9l k9f hsame hoth hrows hg3 e8 HB9 HG9 HO9 HO HB7 hwA HB1 HB2 HB3
      have k7 := B79.out.cell
      have k7l := B79.out.lt
      have hsmy : Sm (payD x a y n) := ⟨h1, h2, h3, show x.pn + 1 ≤ 1000 by omega, h5⟩
      have HSy := hid hsmy
      clear hsmy
      obtain ⟨zc, hzc⟩ : ∃ z, Hid (yl.chk = z) := ⟨_, hid rfl⟩
      have hzc' := hid (show (payD x a y n).chk = zc by rw [hyl.out]; exact hzc.out)
      by_cases hc : zc = 0
      · subst hc
        go_wp2_with (go_at_call 158; refine (right158 (x := payD x a y n) (p := ⟨D1, q1, D2, q2, D3, q3, D9, q9, D5, q5⟩) HN.out.la HSy.out).mono ?_; rintro e wB ⟨heB, hA, -⟩; obtain rfl := hA hzc'.out; unfold ledV; have HN := hid (HN.out.ext heB); have EB := hid (E9.out.trans heB); have HB3B := hid (HB39.out.ext heB); have k3 := HB3B.out.cell; have k3l := HB3B.out.lt; have k3f := HB3B.out.frozen; clear heB hA k7 k7l)
        refine bodyPost_ret (v := .tuple #[.agg #[.int .i64 x.folk, .int .i64 x.years, .slice D1 x.bn q1, .slice D2 x.fn q2, .slice D3 x.ln q3, .slice D9 (x.pn + 1) q9, .slice D5 x.mn q5], .int .i64 0]) (by simp [results, Tryz.results83, go_sem, k3, payD]) rfl ?_
        rw [← hQ.out, he.out, hzc.out, ← hyl.out]
        exact ⟨_, rfl, ext7L EB.out (by omega) _ _ _ _ _ _ _, fun h => absurd rfl h, fun _ => ⟨_, _, _, _, _, rfl, HN.out.box7 HB3B.out _ _ _ _ _ _ _⟩⟩
      · have H0 := hid hc
        clear hc
        go_wp2_with (go_at_call 158; refine (right158 (x := payD x a y n) (p := ⟨D1, q1, D2, q2, D3, q3, D9, q9, D5, q5⟩) HN.out.la HSy.out).mono ?_; rintro e wB ⟨heB, -, hA⟩; obtain rfl := hA (by rw [hzc'.out]; exact H0.out); rw [hzc'.out]; have EB := hid (E9.out.trans heB); have HB3B := hid (HB39.out.ext heB); have k3 := HB3B.out.cell; have k3l := HB3B.out.lt; have k3f := HB3B.out.frozen; clear heB hA k7 k7l)
        refine bodyPost_ret (v := .tuple #[ZeroL, .int .i64 zc]) (by simp [results, Tryz.results83, go_sem, k3, ZeroL]) rfl ?_
        rw [← hQ.out, he.out, hzc.out]
        exact ⟨_, rfl, ext7L EB.out (by omega) _ _ _ _ _ _ _, fun _ => rfl, fun h => absurd h H0.out⟩
  · have t0 : (s != 0) = true := by simpa using h0
    have he := hid (show er = s by rw [← her.out]; unfold payEr; rw [if_pos (by rw [hs.out]; exact h0), hs.out])
    have H0 := hid h0
    clear h0
    go_wp2_with fail
    refine bodyPost_ret (v := .tuple #[ZeroL, .int .i64 s]) (by simp [results, Tryz.results83, go_sem, k3, ZeroL]) rfl ?_
    rw [← hQ.out, he.out]
    exact ⟨_, rfl, ext7L HE1.out (by omega) _ _ _ _ _ _ _, fun _ => rfl, fun h => absurd h H0.out⟩
end Go.Proofs.YtbceepjjdfpfmaaGreat
namespace Go.Proofs.YtbceepjjdfpfmaaGreat
open Go.RowKit HandSpec
set_option maxHeartbeats 2000000
set_option maxRecDepth 100000
/-- Number k of a list. -/
def ni (l : List Int) (k : Nat) : Int := l.getD k 0
theorem ni_get (l : List Int) {k : Nat} (h : k < l.length) : ni l k = l[k] := by
  unfold ni
  rw [List.getD_eq_getElem?_getD, List.getElem?_eq_getElem h]
  rfl
theorem nanS174 (a : Int) (w : World) : Calls Tryz.prog 174 #[.int .i64 a] w fun e w' => e = .returned (.bool false) ∧ w = w' := by
  go_enter Tryz.func174, Tryz.ntmps174
  go_wp2
  go_ret
  exact ⟨ret_bool (by simp), rfl⟩
theorem less202 (a b : Int) (w : World) : Calls Tryz.prog 202 #[.int .i64 a, .int .i64 b] w fun e w' => e = .returned (.bool (decide (a < b))) ∧ Ext w w' := by
  go_enter Tryz.func202, Tryz.ntmps202
  go_wp2_with (go_at_call 174; refine (nanS174 _ _).mono ?_; rintro e w' ⟨rfl, rfl⟩)
  go_ret
  exact ⟨rfl, Ext.refl _⟩
def swapI (S : List Int) (q : Nat) : List Int := S.take q ++ ni S (q+1) :: ni S q :: S.drop (q+2)
theorem swapI_perm {S : List Int} {q : Nat} (h : q + 1 < S.length) : (swapI S q).Perm S := by
 have e : S = S.take q ++ ni S q :: ni S (q+1) :: S.drop (q+2) := by
  conv => lhs; rw [← List.take_append_drop q S]
  rw [List.drop_eq_getElem_cons (show q < S.length by omega), List.drop_eq_getElem_cons h, ni_get S (show q < S.length by omega), ni_get S h]
 conv => rhs; rw [e]
 exact List.Perm.append_left _ (List.Perm.swap _ _ _)
theorem ni_swapI {S : List Int} {q : Nat} (h : q + 1 < S.length) (k : Nat) : ni (swapI S q) k = if k = q then ni S (q+1) else if k = q + 1 then ni S q else ni S k := by
 have hl : (S.take q).length = q := by simp; omega
 unfold ni swapI
 simp only [List.getD_eq_getElem?_getD]
 rcases Nat.lt_or_ge k q with h1 | h1
 ·rw [List.getElem?_append_left (by omega), List.getElem?_take_of_lt h1, if_neg (by omega), if_neg (by omega)]
 ·rw [List.getElem?_append_right (by omega), hl]
  obtain ⟨d, rfl⟩ := Nat.le.dest h1
  rw [show q + d - q = d by omega]
  match d with
  | 0 => simp [ni]
  | 1 => simp [ni]
  | d + 2 =>
   rw [if_neg (by omega), if_neg (by omega)]
   simp only [List.getElem?_cons_succ, List.getElem?_drop]
   rw [show q + 2 + d = q + (d + 2) by omega]
/-- The first n are sorted. -/
def SortedI (S : List Int) (n : Nat) : Prop := ∀ a b, a < b → b < n → ni S a ≤ ni S b
/-- The first i + 1 are sorted but for the one at j, which is less than those behind it. -/
def MovingI (S : List Int) (i j : Nat) : Prop := (∀ a b, a < b → b ≤ i → a ≠ j → b ≠ j → ni S a ≤ ni S b) ∧ ∀ b, j < b → b ≤ i → ni S j ≤ ni S b
theorem MovingI.first {S : List Int} {i : Nat} (h : SortedI S i) : MovingI S i i := ⟨fun a b h1 h2 _ h4 => h a b h1 (by omega), fun b h1 h2 => absurd h1 (by omega)⟩
theorem MovingI.done {S : List Int} {i j : Nat} (h : MovingI S i j) (hj : j = 0 ∨ ∃ q, j = q + 1 ∧ ni S q ≤ ni S (q+1)) : SortedI S (i+1) := by
 intro a b hab hb
 by_cases h1 : a = j
 ·subst h1; exact h.2 b hab (by omega)
 ·by_cases h2 : b = j
  ·subst h2
   rcases hj with rfl | ⟨q, rfl, hq⟩
   ·omega
   ·rcases Nat.lt_or_ge a q with h3 | h3
    ·exact Int.le_trans (h.1 a q h3 (by omega) h1 (by omega)) hq
    ·obtain rfl : a = q := by omega
     exact hq
  ·exact h.1 a b hab (by omega) h1 h2
theorem MovingI.swap {S : List Int} {i q : Nat} (h : MovingI S i (q+1)) (hl : q + 1 < S.length) (hq : ni S (q+1) < ni S q) : MovingI (swapI S q) i q := by
 constructor
 ·intro a b hab hb ha hb'
  rw [ni_swapI hl, ni_swapI hl, if_neg ha, if_neg hb']
  by_cases h1 : a = q + 1
  ·rw [if_pos h1, if_neg (by omega)]
   exact h.1 q b (by omega) hb (by omega) (by omega)
  ·rw [if_neg h1]
   by_cases h2 : b = q + 1
   ·rw [if_pos h2]
    exact h.1 a q (by omega) (by omega) (by omega) (by omega)
   ·rw [if_neg h2]
    exact h.1 a b hab hb h1 h2
 ·intro b hb hbi
  rw [ni_swapI hl, ni_swapI hl, if_pos rfl, if_neg (by omega)]
  by_cases h2 : b = q + 1
  ·rw [if_pos h2]; exact Int.le_of_lt hq
  ·rw [if_neg h2]; exact h.2 b (by omega) hbi
theorem ni_swap {S : List Int} {q : Nat} (h : q + 1 < S.length) {i : Nat} : upd (upd (ni S) (q+1) (ni S q)) q (ni S (q+1)) i = ni (swapI S q) i := by
 rw [ni_swapI h]
 rfl
theorem swap_allI {w0 w W : World} {s : TypeId × Nat} {g N : Nat} {l S : List Int} {i q : Nat} (h1 : S.Perm l) (h2 : MovingI S i (q + 1)) (hq : q + 1 < S.length) (hk : ni S (q + 1) < ni S q) (a : Arr W g l.length (ni S))
    (hK : KpM N (fun k => k = g) w W) (he : Es w0 s g W) (hB : w0.heap.size ≤ g) :
    (swapI S q).Perm l ∧ MovingI (swapI S q) i q ∧ Arr ((W.setCell ⟨g, q + 1, none⟩ (.int .i64 (ni S q))).setCell ⟨g, q, none⟩ (.int .i64 (ni S (q + 1)))) g l.length (ni (swapI S q)) ∧
    KpM N (fun k => k = g) w ((W.setCell ⟨g, q + 1, none⟩ (.int .i64 (ni S q))).setCell ⟨g, q, none⟩ (.int .i64 (ni S (q + 1)))) ∧ Es w0 s g ((W.setCell ⟨g, q + 1, none⟩ (.int .i64 (ni S q))).setCell ⟨g, q, none⟩ (.int .i64 (ni S (q + 1)))) := by
  have hl := h1.length_eq
  have k1 : KpM N (fun k => k = g) W (W.setCell ⟨g, q + 1, none⟩ (.int .i64 (ni S q))) := KpM.setCell (p := ⟨g, q + 1, none⟩) W _ (Or.inr (show g = g from rfl))
  have k2 : KpM N (fun k => k = g) (W.setCell ⟨g, q + 1, none⟩ (.int .i64 (ni S q))) ((W.setCell ⟨g, q + 1, none⟩ (.int .i64 (ni S q))).setCell ⟨g, q, none⟩ (.int .i64 (ni S (q + 1)))) := KpM.setCell (p := ⟨g, q, none⟩) _ _ (Or.inr (show g = g from rfl))
  have e1 : Es w0 s g (W.setCell ⟨g, q + 1, none⟩ (.int .i64 (ni S q))) := he.setCell _ hB
  have e2 := e1.setCell (i := q) (.int .i64 (ni S (q + 1))) hB
  exact ⟨(swapI_perm hq).trans h1, h2.swap hq hk, Arr.congr ((a.set_ (q + 1) _ (by omega)).set_ q _ (by omega)) (fun i _ => ni_swap hq), (hK.trans k1).trans k2, e2⟩
theorem insort196 {w0 w : World} {s : TypeId × Nat} {g cap : Nat} {l : List Int} (he0 : Es w0 s g w) (hB : w0.heap.size ≤ g) (ha : Arr w g l.length (ni l)) (hn : l.length ≤ 100) (hcap : l.length ≤ cap) :
    Calls Tryz.prog 196 #[.slice (some ⟨g, 0, none⟩) l.length cap, .int .i64 0, .int .i64 (l.length : Int)] w fun e w' => e = .returned (.tuple #[]) ∧ Es w0 s g w' ∧ KpM w.heap.size (fun k => k = g) w w' ∧ ∃ l', l'.Perm l ∧ SortedI l' l.length ∧ Arr w' g l.length (ni l') := by
  have HA := hid ha
  clear ha
  go_enter Tryz.func196, Tryz.ntmps196
  go_wp2
  go_loopw [6] (fun i wr => ∃ (k : Nat) (S : List Int), 1 ≤ k ∧ i = .int .i64 (k : Int) ∧ Hid (S.Perm l ∧ SortedI S (min k l.length) ∧ Arr wr g l.length (ni S) ∧ KpM w.heap.size (fun k => k = g) w wr) ∧ Es w0 s g wr) (fun i _ => l.length - (intOf i).toNat)
  case atStart => exact ⟨1, l, Nat.le_refl _, rfl, hid ⟨List.Perm.refl _, fun a b h1 h2 => absurd h2 (by omega), HA.out, KpM.refl _⟩, he0⟩
  case round =>
    obtain ⟨i, S, hi, rfl, HI, he⟩ := hrel
    by_cases hlt : i < l.length
    · obtain ⟨wo, rfl⟩ : ∃ wo : World, wo = wr := ⟨_, rfl⟩
      go_wp2
      go_loopw [7] (fun jj wr => ∃ (j : Nat) (S : List Int), j ≤ i ∧ jj = .int .i64 (j : Int) ∧ Hid (S.Perm l ∧ MovingI S i j ∧ Arr wr g l.length (ni S) ∧ KpM w.heap.size (fun k => k = g) w wr) ∧ Es w0 s g wr) (fun jj _ => (intOf jj).toNat)
      case atStart => exact ⟨i, S, Nat.le_refl _, rfl, hid ⟨HI.out.1, MovingI.first (by have := HI.out.2.1; rwa [Nat.min_eq_left (by omega)] at this), HI.out.2.2⟩, he⟩
      case round =>
        clear HI he
        obtain ⟨j, S, hj, rfl, HI, he⟩ := hrel
        rcases Nat.eq_zero_or_pos j with hz | hz
        · subst hz
          have hd := HI.out.2.1.done (.inl rfl)
          have HD := hid hd
          clear hd
          go_upto_region 4 with fail
          refine wp_region_later (by kernel_rfl) (by kernel_rfl) ?_
          repeat (go_big_quiet_step (fail))
          refine wpQuiet_nil ?_
          rintro _ ⟨⟨w2, he2⟩, rfl⟩
          go_wp2
          go_roundw
          case rel => exact ⟨i + 1, S, by omega, by go_num, hid ⟨HI.out.1, by rw [Nat.min_eq_left (by omega)]; exact HD.out, HI.out.2.2.1.ext he2, HI.out.2.2.2.trans (KpM.ext he2 HI.out.2.2.2.1)⟩, he.trans he2⟩
          case measure => simp [intOf]; omega
        · obtain ⟨q, rfl⟩ : ∃ q, j = q + 1 := ⟨j - 1, by omega⟩
          have hSl := HI.out.1.length_eq
          have hq0 : q < S.length := by omega
          have hq1 : q + 1 < S.length := by omega
          have a0 := HI.out.2.2.1.cell (i := q) (by omega)
          have b0 := HI.out.2.2.1.cell (i := q + 1) (by omega)
          have hb := HI.out.2.2.1.1
          have hqi : ((q + 1 : Nat) : Int) < l.length := by omega
          have hqc : ((q + 1 : Nat) : Int) ≤ cap := by omega
          by_cases hlt2 : ni S (q+1) < ni S q
          · have hd : decide (ni S (q+1) < ni S q) = true := by simpa using hlt2
            have HLT := hid hlt2
            clear hlt2
            go_upto_region 4 with fail
            refine wp_region_later (by kernel_rfl) (by kernel_rfl) ?_
            repeat (go_big_quiet_step ((go_at_call 202; exact Calls.later (less202 _ _ _))))
            refine wpQuiet_nil ?_
            rintro _ ⟨⟨w2, he2⟩, rfl⟩
            have A2 := hid (HI.out.2.2.1.ext he2)
            have K2 := hid (HI.out.2.2.2.trans (KpM.ext he2 HI.out.2.2.2.1))
            have a0 := A2.out.cell (i := q) (by omega)
            have b0 := A2.out.cell (i := q + 1) (by omega)
            have f0 := A2.out.frozen (i := q) (by omega)
            have g0 := A2.out.frozen (i := q + 1) (by omega)
            have hb := A2.out.1
            go_upto_region 6 with fail
            have HAll := hid (swap_allI HI.out.1 HI.out.2.1 hq1 HLT.out A2.out K2.out (he.trans he2) hB)
            go_region
            all_goals
              go_wp2
              refine ⟨⟨q, swapI S q, by omega, rfl, ?_⟩, by simp [intOf]; try omega⟩
              first
                | exact ⟨hid ⟨HAll.out.1, HAll.out.2.1, HAll.out.2.2.1, HAll.out.2.2.2.1⟩, HAll.out.2.2.2.2⟩
                | exact ⟨hid ⟨HAll.out.1, HAll.out.2.1, HAll.out.2.2.1.ext (Ext.refl _).drew, HAll.out.2.2.2.1.trans (KpM.ext (Ext.refl _).drew HAll.out.2.2.2.1.1)⟩, HAll.out.2.2.2.2.drew⟩
          · have hd : decide (ni S (q+1) < ni S q) = false := by simpa using hlt2
            have HD := hid (HI.out.2.1.done (.inr ⟨q, rfl, Int.not_lt.1 hlt2⟩))
            clear hlt2
            go_upto_region 4 with fail
            refine wp_region_later (by kernel_rfl) (by kernel_rfl) ?_
            repeat (go_big_quiet_step ((go_at_call 202; exact Calls.later (less202 _ _ _))))
            refine wpQuiet_nil ?_
            rintro _ ⟨⟨w2, he2⟩, rfl⟩
            go_wp2
            go_roundw
            case rel => exact ⟨i + 1, S, by omega, by go_num, hid ⟨HI.out.1, by rw [Nat.min_eq_left (by omega)]; exact HD.out, HI.out.2.2.1.ext he2, HI.out.2.2.2.trans (KpM.ext he2 HI.out.2.2.2.1)⟩, he.trans he2⟩
            case measure => simp [intOf]; omega
    · go_wp2
      go_end0
      exact ⟨rfl, he, HI.out.2.2.2, S, HI.out.1, by have := HI.out.2.1; rwa [Nat.min_eq_right (by omega)] at this, HI.out.2.2.1⟩
theorem insort196_nil (w : World) : Calls Tryz.prog 196 #[.slice none 0 0, .int .i64 0, .int .i64 0] w fun e w' => e = .returned (.tuple #[]) ∧ w = w' := by
  go_enter Tryz.func196, Tryz.ntmps196
  go_wp2
  refine wp_loop_rounds 1 ?_
  rw [rounds_succ]
  go_wp2
  exact bodyPost_end (results_none rfl _ _ _) rfl ⟨rfl, rfl⟩
theorem pdq186 {w0 w : World} {s : TypeId × Nat} {g cap : Nat} {l : List Int} (he0 : Es w0 s g w) (hB : w0.heap.size ≤ g) (ha : Arr w g l.length (ni l)) (hn : l.length ≤ 12) (hcap : l.length ≤ cap) (z : Int) :
    Calls Tryz.prog 186 #[.slice (some ⟨g, 0, none⟩) l.length cap, .int .i64 0, .int .i64 (l.length : Int), .int .i64 z] w fun e w' => e = .returned (.tuple #[]) ∧ Es w0 s g w' ∧ KpM w.heap.size (fun k => k = g) w w' ∧ ∃ l', l'.Perm l ∧ SortedI l' l.length ∧ Arr w' g l.length (ni l') := by
  have HA := hid ha
  clear ha
  go_enter Tryz.func186, Tryz.ntmps186
  go_wp2
  refine wp_loop_rounds 1 ?_
  rw [rounds_succ]
  go_wp2_with (go_at_call 196; refine (insort196 he0 hB HA.out (by omega) hcap).mono ?_; rintro e w1 ⟨rfl, he1, hk, hp⟩)
  exact bodyPost_ret (results_none rfl _ _ _) rfl ⟨rfl, he1, hk, hp⟩
theorem pdq186_nil (w : World) (z : Int) : Calls Tryz.prog 186 #[.slice none 0 0, .int .i64 0, .int .i64 0, .int .i64 z] w fun e w' => e = .returned (.tuple #[]) ∧ w = w' := by
  go_enter Tryz.func186, Tryz.ntmps186
  go_wp2
  refine wp_loop_rounds 1 ?_
  rw [rounds_succ]
  go_wp2_with (go_at_call 196; refine (insort196_nil _).mono ?_; rintro e w1 ⟨rfl, rfl⟩)
  exact bodyPost_ret (results_none rfl _ _ _) rfl ⟨rfl, rfl⟩
theorem sort159 {w0 w : World} {s : TypeId × Nat} {g cap : Nat} {l : List Int} (he0 : Es w0 s g w) (hB : w0.heap.size ≤ g) (ha : Arr w g l.length (ni l)) (hn : l.length ≤ 12) (hcap : l.length ≤ cap) :
    Calls Tryz.prog 159 #[.slice (some ⟨g, 0, none⟩) l.length cap] w fun e w' => e = .returned (.tuple #[]) ∧ Es w0 s g w' ∧ KpM w.heap.size (fun k => k = g) w w' ∧ ∃ l', l'.Perm l ∧ SortedI l' l.length ∧ Arr w' g l.length (ni l') := by
  have HA := hid ha
  clear ha
  go_enter Tryz.func159, Tryz.ntmps159
  go_wp2_with (first
    | (go_at_call 187; refine (blen _ hn _).mono ?_; rintro e w' ⟨⟨z, rfl⟩, rfl⟩)
    | (go_at_call 186; refine (pdq186 he0 hB HA.out hn hcap _).mono ?_; rintro e w1 ⟨rfl, he1, hk, hp⟩))
  exact bodyPost_end (results_none rfl _ _ _) rfl ⟨rfl, he1, hk, hp⟩
theorem sort159_nil (w : World) : Calls Tryz.prog 159 #[.slice none 0 0] w fun e w' => e = .returned (.tuple #[]) ∧ w = w' := by
  go_enter Tryz.func159, Tryz.ntmps159
  go_wp2_with (first
    | (go_at_call 187; refine (blen0 _).mono ?_; rintro e w' ⟨⟨z, rfl⟩, rfl⟩)
    | (go_at_call 186; refine (pdq186_nil _ _).mono ?_; rintro e w1 ⟨rfl, rfl⟩))
  exact bodyPost_end (results_none rfl _ _ _) rfl ⟨rfl, rfl⟩
def rowsI (l : List Int) : List (List Int) := l.map fun i => [i]
theorem rowsI_length (l : List Int) : (rowsI l).length = l.length := by simp [rowsI]
theorem rowsI_row (l : List Int) : ∀ r ∈ rowsI l, r.length = 1 := fun r h => by
  simp only [rowsI, List.mem_map] at h
  obtain ⟨p, -, rfl⟩ := h
  rfl
theorem rowsI_at (l : List Int) (k : Nat) : rowsAt (rowsI l) k 0 = ni l k := by
  unfold rowsAt rowsI ni
  simp only [List.getD_eq_getElem?_getD, List.getElem?_map]
  cases l[k]? <;> simp
theorem OwnR.sortedI {w' w0 : World} {B g cap : Nat} {C : Array Value} {l l' : List Int} (hB : B ≤ g) (h1 : l.length ≤ cap) (h2 : cap ≤ maxLen) (h3 : C.size = cap * 1) (he : Es w0 (3, C.size) g w') (hp : l'.Perm l) (ha : Arr w' g l.length (ni l')) :
    OwnR w' B 3 1 (.slice (some ⟨g, 0, none⟩) l.length cap) (rowsI l') := by
  obtain ⟨-, D, hD, hs⟩ := he
  have hl := hp.length_eq
  have hr := rowsI_row l'
  have hc := cellsOf_length hr
  refine ⟨hr, hc, .inr ⟨g, cap, D, by rw [rowsI_length, hl], hB, hD, by rw [rowsI_length]; omega, h2, hs.trans h3, ?_⟩⟩
  have hs' : D.size = C.size := hs
  apply List.ext_getElem?
  intro i
  by_cases hi : i < l'.length
  · rw [List.getElem?_take_of_lt (by rw [rowsI_length]; omega), Array.getElem?_toList]
    have h4 := (ha.2 i (by omega)).1
    rw [hD.cell] at h4
    rw [h4]
    have h5 := cellsOf_get hr (k := i) (j := 0) (by rw [rowsI_length]; omega) (by omega)
    rw [Nat.mul_one, Nat.add_zero] at h5
    rw [h5]
    simp [rowsI, ni, hi]
  · rw [List.getElem?_take_eq_none (by rw [rowsI_length]; omega), List.getElem?_eq_none (by rw [hc, rowsI_length]; omega)]
/-- An own list of numbers is sorted; no other block is changed. -/
theorem sort_own {w0 w : World} {B : Nat} {v : Value} {l : List Int} (h : OwnR w B 3 1 v (rowsI l)) (he0 : Ext w0 w) (hB : w0.heap.size ≤ B) (hn : l.length ≤ 12) :
    Calls Tryz.prog 159 #[v] w fun e w' => e = .returned (.tuple #[]) ∧ Ext w0 w' ∧ Ch (fun b => v.ownBlock = some b) w w' ∧ ∃ l', l'.Perm l ∧ SortedI l' l'.length ∧ OwnR w' B 3 1 v (rowsI l') := by
  rcases OwnR.arr h with ⟨rfl, h2⟩ | ⟨g, cap, rfl, hBg, hcap, ha⟩
  · obtain rfl : l = [] := by cases l with | nil => rfl | cons a l => simp [rowsI] at h2
    refine (sort159_nil w).mono ?_
    rintro e w' ⟨rfl, rfl⟩
    exact ⟨rfl, he0, Ch.refl _ _, [], List.Perm.refl _, fun a b _ h => by simp at h, OwnR.nil⟩
  · rcases h.2.2 with ⟨h0, -⟩ | ⟨g', cap', C, hv, -, hh, h1, h2, h3, -⟩
    · cases h0
    · obtain ⟨rfl, rfl⟩ : g = g' ∧ cap = cap' := by simp at hv; exact ⟨hv.1, hv.2⟩
      rw [rowsI_length] at hcap ha ⊢
      rw [Nat.mul_one] at ha
      have ha := ha.congr (h' := ni l) fun i _ => by rw [Nat.div_one, Nat.mod_one, rowsI_at]
      refine (sort159 (s := (3, C.size)) ⟨he0, C, hh, rfl⟩ (by omega) ha hn hcap).mono ?_
      rintro e w' ⟨rfl, he, hk, l', hp, hs, ha'⟩
      exact ⟨rfl, he.1, ⟨hk.1, fun b hb h => hk.2 b hb fun q => h (by rw [q]; rfl)⟩, l', hp, by rw [hp.length_eq]; exact hs, OwnR.sortedI hBg hcap h2 h3 he hp ha'⟩
end Go.Proofs.YtbceepjjdfpfmaaGreat
namespace Go.Proofs.YtbceepjjdfpfmaaGreat
open Go.RowKit HandSpec LoanSpec
set_option maxHeartbeats 4000000
set_option maxRecDepth 100000
theorem append_rows_atF {P : Program} {w : World} {ops : Array Oper} {rest : List Oper} {o : Oper} {a : Act} {Q : Exit → Act → World → Prop} (hgd : o.guard = none) (s x : Operand) (T : TypeId)
    (ho : o.op = .call { callee := .builtin .append, args := #[s, x], argTypes := #[T, T] }) {e : TypeId} {c bytes : Nat} (hE : ElemOk P T e c bytes)
    {B : Nat} {v : Value} {l : List (List Int)} (hs : a.eval s = v) (hown : OwnR w B e c v l) (g m cap : Nat) (r : List (List Int)) (hx : a.eval x = .slice (some ⟨g, 0, none⟩) m cap)
    (hm : r.length = m) (hrc : ∀ q ∈ r, q.length = c) (hb : ∀ i, w.cell? ⟨g, i, none⟩ = (cellsOf r)[i]?) (hlen : l.length + m ≤ 1000000) (hB : B ≤ w.heap.size)
    (h : ∀ v' w', OwnR w' B e c v' (l ++ r) → w.grownBy w' v.ownBlock → (v'.ownBlock = v.ownBlock ∨ v'.ownBlock = some w.heap.size) → wpList P ops Q rest (a.put o.dst v') w') :
    wpList P ops Q (o :: rest) a w := by
  refine wpList_plain hgd fun K hK => ?_
  obtain ⟨i, z, hi, hz, h1, h2, h3⟩ := hE.i
  have hb0 := hE.b
  obtain ⟨v', w', hr, h4, h5, -, h6⟩ := run_append_own_at (P := P) w B T o.type e i z c bytes hE.u hi hz h1 h2 h3 hE.c0 v l.length (cellsOf l) hown.2 ⟨g, 0, none⟩ m cap (cellsOf r) (by rw [cellsOf_length hrc, hm]) (by
    intro j u hu
    rw [show (⟨g, 0, none⟩ : Addr).add j = ⟨g, j, none⟩ from by unfold Addr.add; by_cases h0 : j = 0 <;> simp [h0], hb, hu]) cellsOf_one (by unfold maxLen; omega) (by have := Nat.mul_le_mul hlen hb0; omega) hB
  unfold Oper.wp execOp
  simp only [ho, resolve, invoke, builtin, Sem.run_bind, Sem.run_pure, Result.andThen_ok, List.map_toArray, List.map_cons, List.map_nil, hs, hx, hr]
  exact hK _ _ (h v' w' ⟨fun q hq => (List.mem_append.1 hq).elim (hown.1 q) (hrc q), by rw [List.length_append, hm, cellsOf_append]; exact h4⟩ h5 h6)
theorem fo_le {x : LD} (hx : Ok x) : x.fn ≤ 10 := by
  have h : ∀ k, k < x.fn → (k : Int) ≤ x.fo k := fun k => by
    induction k with
    | zero => intro hk; have := (hx.fo 0 hk).1; omega
    | succ k ih => intro hk; have := hx.finc k hk; have := ih (by omega); omega
  rcases Nat.lt_or_ge 10 x.fn with h1 | h1
  · have := h 10 h1
    have := (hx.fo 10 h1).2
    have := hx.ln
    omega
  · exact h1
/-- The numbers of loans that are forgiven, and one more. -/
def forgL (x : LD) (i : Int) : List Int := (List.range x.fn).map x.fo ++ [i]
theorem forgL_length (x : LD) (i : Int) : (forgL x i).length = x.fn + 1 := by simp [forgL]
theorem forgL_rows (x : LD) (i : Int) : rowsG 1 x.fn (fun k _ => x.fo k) ++ [[i]] = rowsI (forgL x i) := by
  unfold rowsI forgL rowsG
  rw [List.map_append, List.map_map]
  rfl
theorem rowsG_ni (l : List Int) : rowsG 1 l.length (fun k _ => ni l k) = rowsI l := by
  apply List.ext_getElem
  · rw [rowsG_length, rowsI_length]
  · intro k h1 h2
    rw [rowsI_length] at h2
    simp [rowsG, rowsI, ni, h2]
/-- A ledger with these loans forgiven. -/
def forgD (x : LD) (l : List Int) : LD := { x with fn := l.length, fo := ni l }
def forgE (x : LD) (i : Int) : Int := if P.errL x i ≠ 0 then P.errL x i else if hasB x.fo x.fn i then 5 else 0
/-- A ledger of its own is handed back, or the error. -/
def FgQ (x : LD) (i : Int) (w : World) (er : Int) (e : Ending) (w' : World) : Prop := ∃ v, e = .returned (.tuple #[v, .int .i64 er]) ∧ Ext w w' ∧ (er ≠ 0 → v = ZeroL) ∧
  (er = 0 → ∃ l u1 u2 u3 u4 u5, l.Perm (forgL x i) ∧ SortedI l l.length ∧ v = .agg #[.int .i64 x.folk, .int .i64 x.years, u1, u2, u3, u4, u5] ∧ OwnLg w' w.heap.size (forgD x l) u1 u2 u3 u4 u5)
theorem forgive84 {x : LD} {w : World} {p : LA} (hv : IsLA w x p) (hm : Sm x) (i : Int) :
    Calls Tryz.prog 84 #[ledV x p, .int .i64 i] w (FgQ x i w (forgE x i)) := by
  have HSM := hid hm
  obtain ⟨h1, h2, h3, h4, h5⟩ := hm
  obtain ⟨A1, c1, A2, c2, A3, c3, A4, c4, A5, c5⟩ := p
  have HL := hid hv
  clear hv
  obtain ⟨s, hs⟩ : ∃ s, Hid (P.errL x i = s) := ⟨_, hid rfl⟩
  obtain ⟨er, her⟩ : ∃ s, Hid (forgE x i = s) := ⟨_, hid rfl⟩
  rw [her.out]
  obtain ⟨Q, hQ⟩ : ∃ Q, Hid (FgQ x i w er = Q) := ⟨_, hid rfl⟩
  rw [hQ.out]
  unfold ledV
  go_enter Tryz.func84, Tryz.ntmps84
  go_upto_region 1 with fail
  refine wp_later fun w1 hw1 => ?_
  obtain ⟨E1, B1, B2⟩ := hw1.newB2
  have HE1 := hid E1
  have HB1 := hid B1
  have HB2 := hid B2
  have k1 := B1.cell
  have k1l := B1.lt
  clear hw1 B1 B2 E1
  by_cases h0 : s = 0
  · subst h0
    have hk : Hid (Ok x ∧ ∃ j : Nat, i = (j : Int) ∧ j < x.ln) := hid ⟨(P.ok_of_errL hs.out).1, (P.ok_of_errL hs.out).2.2⟩
    have hl := hk.out.1.ln
    have hf := fo_le hk.out.1
    obtain ⟨b, hb⟩ : ∃ b, Hid (hasB x.fo x.fn i = b) := ⟨_, hid rfl⟩
    go_upto_region 2 with (go_at_call 114; refine (known_ok (p := ⟨A1, c1, A2, c2, A3, c3, A4, c4, A5, c5⟩) (HL.out.ext HE1.out) HSM.out hs.out).mono ?_; rintro e w2 ⟨g, rfl, he, -, -⟩; have HB1 := hid (HB1.out.ext he); have HB2 := hid (HB2.out.ext he); have HE1 := hid (HE1.out.trans he); clear he k1 k1l)
    have k1 := HB1.out.cell
    have k1l := HB1.out.lt
    have k2 := HB2.out.cell
    have k2l := HB2.out.lt
    have k2f := HB2.out.frozen
    cases b
    · have he0 := hid (show er = 0 by rw [← her.out]; unfold forgE; rw [if_neg (by rw [hs.out]; simp), hb.out]; rfl)
      go_upto_region 6 with (go_at_call 47; refine (has47 (HL.out.ext HE1.out).r2 h2 i).mono ?_; rintro e w3 ⟨rfl, he⟩; rw [hb.out]; have HB1 := hid (HB1.out.ext he); have HB2 := hid (HB2.out.ext he); have HE1 := hid (HE1.out.trans he); have k1 := HB1.out.cell; have k1l := HB1.out.lt; have k2 := HB2.out.cell; have k2l := HB2.out.lt; have k2f := HB2.out.frozen; clear he)
      go_upto_region 7 with (go_at_call 157; refine (owned157 (p := ⟨A1, c1, A2, c2, A3, c3, A4, c4, A5, c5⟩) (HL.out.ext HE1.out) HSM.out hl).mono ?_; rintro e w3 ⟨u1, u2, u3, u4, u5, rfl, he3, hO⟩; obtain ⟨D1, q1, rfl, -⟩ := hO.o1.slR; obtain ⟨D2, q2, rfl, -⟩ := hO.o2.slR; obtain ⟨D3, q3, rfl, -⟩ := hO.o3.slR; obtain ⟨D4, q4, rfl, -⟩ := hO.o4.slR; obtain ⟨D5, q5, rfl, -⟩ := hO.o5.slR; simp only [rowsG_length] at hO ⊢; have HO := hid (hO.base HE1.out.size); have HB1 := hid (HB1.out.ext he3); have HB2 := hid (HB2.out.ext he3); have HE3 := hid (HE1.out.trans he3); clear he3 hO k1 k1l k2 k2l k2f)
      refine wp_later fun w7 hw7 => ?_
      obtain ⟨e7, B7⟩ := hw7.newB
      have HO := hid (HO.out.ext e7)
      have hne2 : w.heap.size + 1 < w3.heap.size := HB2.out.lt
      have HB2 := hid (HB2.out.ext e7)
      have HE7 := hid (HE3.out.trans e7)
      have hwb : w.heap.size ≤ w3.heap.size := HE3.out.size
      obtain ⟨b7, hb7⟩ : ∃ q, Hid (w3.heap.size = q) := ⟨_, hid rfl⟩
      rw [hb7.out] at B7 hwb hne2 ⊢
      have HB7 := hid B7
      have k7 := B7.cell
      have k7l := B7.lt
      have hlr := hid (show (rowsG 1 x.fn (fun k _ => x.fo k) ++ [[i]]).length = x.fn + 1 by rw [List.length_append, rowsG_length]; rfl)
      have e8 : Ext w7 (w7.alloc (.cells #[.int .i64 i] 3)) := (Ext.refl _).alloc _
      have hsz : w.heap.size ≤ w7.heap.size := HE7.out.size
      clear B7 hw7 e7
      go_upto_region 8 with (at_builtin; refine append_rows_atF rfl _ _ 22 rfl el22 rfl (HO.out.o2.ext (Ext.alloc (Ext.refl _) _)) _ 1 1 [[i]] rfl rfl (by simp) (by intro j; simp [cellsOf]) (by rw [rowsG_length]; omega) (by simp; omega) ?_; intro v9 w9 ho9 hg9 at9; obtain ⟨D9, q9, rfl, -⟩ := OwnR.slR ho9; rw [hlr.out] at ho9 at9 ⊢; have HO9 := hid ho9; have HG9 := hid hg9; have HA9 := hid at9; have B9 := ((HB7.out.ext e8).grown hg9 (fun q => (HO.out.o2.ext e8).ne_blk (HB7.out.ext e8) (by decide) q.symm)); have HB9 := hid B9; have k9 := B9.cell; have k9l := B9.lt; have k9f := B9.frozen; clear ho9 hg9 at9 B9 k7 k7l)
      have hsame : ∀ {e : TypeId} {c : Nat} {v : Value} {l : List (List Int)}, OwnR w9 w.heap.size e c v l → e ≠ 27 → OwnR (w9.setCell ⟨b7, 3, none⟩ (.slice D9 (x.fn + 1) q9)) w.heap.size e c v l := fun h h27 =>
        h.same fun g hg => Below.heap_setCell _ _ _ _ (fun q => h.ne_blk HB9.out h27 (by rw [hg, q]))
      have hoth : ∀ {e : TypeId} {c : Nat} {v : Value} {l : List (List Int)}, OwnR w7 w.heap.size e c v l → e ≠ 27 → (∀ g, v.ownBlock = some g → some g ≠ (Value.slice D2 x.fn q2).ownBlock) → OwnR (w9.setCell ⟨b7, 3, none⟩ (.slice D9 (x.fn + 1) q9)) w.heap.size e c v l := fun h h27 hn =>
        hsame ((h.ext e8).grownBy_other HG9.out hn) h27
      have hap : ∀ {e : TypeId} {c : Nat} {v : Value} {l : List (List Int)}, OwnR w7 w.heap.size e c v l → e ≠ 3 → ∀ g, v.ownBlock = some g → some g ≠ (Value.slice D2 x.fn q2).ownBlock := fun h h3 g hg => (h.ext e8).apart' (HO.out.o2.ext e8) h3 g hg
      have hn1 : ∀ g, (Value.slice D1 x.bn q1).ownBlock = some g → some g ≠ (Value.slice D2 x.fn q2).ownBlock := fun g hg q => HO.out.ne g hg q.symm
      have N1 := hid (hoth HO.out.o1 (by decide) hn1)
      have N2 := hid (show OwnR (w9.setCell ⟨b7, 3, none⟩ (.slice D9 (x.fn + 1) q9)) w.heap.size 3 1 (.slice D9 (x.fn + 1) q9) (rowsI (forgL x i)) by rw [← forgL_rows]; exact hsame HO9.out (by decide))
      have N3 := hid (hoth HO.out.o3 (by decide) (hap HO.out.o3 (by decide)))
      have N4 := hid (hoth HO.out.o4 (by decide) (hap HO.out.o4 (by decide)))
      have N5 := hid (hoth HO.out.o5 (by decide) (hap HO.out.o5 (by decide)))
      have hne : Hid (∀ q, (Value.slice D1 x.bn q1).ownBlock = some q → (Value.slice D9 (x.fn + 1) q9).ownBlock ≠ some q) := hid fun q hq hq9 => by
        rcases HA9.out with h | h
        · exact HO.out.ne q hq (h ▸ hq9)
        · rw [hq9, Option.some.injEq] at h
          have := (HO.out.o1).lt hq
          rw [World.size_alloc] at h
          omega
      have E9 := hid (((HE7.out.trans e8).grown HG9.out (fun q hq => HO.out.o2.block hq)).setCell (p := ⟨b7, 3, none⟩) (.slice D9 (x.fn + 1) q9) hwb)
      have B79 := hid (HB9.out.set_ 3 (.slice D9 (x.fn + 1) q9))
      have hg2 : (w9.setCell ⟨b7, 3, none⟩ (.slice D9 (x.fn + 1) q9)).heap[w.heap.size + 1]? = w7.heap[w.heap.size + 1]? := by
        rw [Below.heap_setCell _ _ _ _ (show w.heap.size + 1 ≠ b7 by omega), HG9.out.block _ (Nat.lt_of_lt_of_le HB2.out.lt e8.size) (fun q => (HO.out.o2.ext e8).ne_blk (HB2.out.ext e8) (by decide) q.symm)]
        exact e8.block HB2.out.lt
      have HB29 := hid (show Blk (w9.setCell ⟨b7, 3, none⟩ (.slice D9 (x.fn + 1) q9)) (w.heap.size + 1) 27 _ from hg2.trans HB2.out)
      obtain ⟨wA, hwA⟩ : ∃ W : World, Hid (W = w9.setCell ⟨b7, 3, none⟩ (.slice D9 (x.fn + 1) q9)) := ⟨_, hid rfl⟩
      rw [← hwA.out] at N1 N2 N3 N4 N5 E9 B79 HB29 ⊢
      clear k9 k9l k9f hsame hoth hap hn1 hg2 e8 HB9 HG9 HO9 HO HB7 HA9 hwA HB1 HB2
      have k7 := B79.out.cell
      have k7l := B79.out.lt
      have hln := hid (show (forgL x i).length ≤ 12 by rw [forgL_length]; omega)
      go_upto_region 9 with (go_at_call 159; refine (sort_own N2.out E9.out (Nat.le_refl _) hln.out).mono ?_; rintro e wB ⟨rfl, heB, hch, l, hp, hso, hos⟩; have HS := hid (show l.Perm (forgL x i) ∧ SortedI l l.length from ⟨hp, hso⟩); have HCH := hid hch; have HOS := hid hos; have B7B := hid (hch.blk B79.out (fun q => N2.out.ne_blk B79.out (by decide) q)); have B2B := hid (hch.blk HB29.out (fun q => N2.out.ne_blk HB29.out (by decide) q)); have EB := hid heB; have k7 := B7B.out.cell; have k7l := B7B.out.lt; have k2 := B2B.out.cell; have k2l := B2B.out.lt; have k2f := B2B.out.frozen; clear hp hso hch hos heB)
      have hll := hid (show l.length = x.fn + 1 by rw [HS.out.1.length_eq, forgL_length])
      have HN := hid (show OwnLg wB w.heap.size (forgD x l) (.slice D1 x.bn q1) (.slice D9 (x.fn + 1) q9) (.slice D3 x.ln q3) (.slice D4 x.pn q4) (.slice D5 x.mn q5) from
        ⟨HCH.out.own N1.out fun g h1 h2 => hne.out g h1 h2, by rw [show (forgD x l).fn = l.length from rfl, show (fun k (_ : Nat) => (forgD x l).fo k) = fun k _ => ni l k from rfl, rowsG_ni]; exact HOS.out,
          HCH.out.own N3.out fun g h1 h2 => N3.out.apart' N2.out (by decide) g h1 h2.symm, HCH.out.own N4.out fun g h1 h2 => N4.out.apart' N2.out (by decide) g h1 h2.symm, HCH.out.own N5.out fun g h1 h2 => N5.out.apart' N2.out (by decide) g h1 h2.symm, hne.out⟩)
      go_wp2_with fail
      refine bodyPost_ret (v := .tuple #[.agg #[.int .i64 x.folk, .int .i64 x.years, .slice D1 x.bn q1, .slice D9 (x.fn + 1) q9, .slice D3 x.ln q3, .slice D4 x.pn q4, .slice D5 x.mn q5], .int .i64 0]) (by simp [results, Tryz.results84, go_sem, k2]) rfl ?_
      rw [← hQ.out, he0.out]
      exact ⟨_, rfl, ext7L EB.out (by omega) _ _ _ _ _ _ _, fun h => absurd rfl h, fun _ => ⟨l, _, _, _, _, _, HS.out.1, HS.out.2, rfl, HN.out.box7 B2B.out _ _ _ _ _ _ _⟩⟩
    · have he0 := hid (show er = 5 by rw [← her.out]; unfold forgE; rw [if_neg (by rw [hs.out]; simp), hb.out]; rfl)
      go_wp2_with (go_at_call 47; refine (has47 (HL.out.ext HE1.out).r2 h2 i).mono ?_; rintro e w3 ⟨rfl, he⟩; rw [hb.out]; have HB1 := hid (HB1.out.ext he); have HB2 := hid (HB2.out.ext he); have HE1 := hid (HE1.out.trans he); have k1 := HB1.out.cell; have k1l := HB1.out.lt; have k2 := HB2.out.cell; have k2l := HB2.out.lt; have k2f := HB2.out.frozen; clear he)
      refine bodyPost_ret (v := .tuple #[ZeroL, .int .i64 5]) (by simp [results, Tryz.results84, go_sem, k2, ZeroL]) rfl ?_
      rw [← hQ.out, he0.out]
      exact ⟨_, rfl, ext7L HE1.out (by omega) _ _ _ _ _ _ _, fun _ => rfl, fun h => by cases h⟩
  · have t0 : (s != 0) = true := by simpa using h0
    have t1 : (s == 0) = false := by simpa using h0
    have he := hid (show er = s by rw [← her.out]; unfold forgE; rw [if_pos (by rw [hs.out]; exact h0), hs.out])
    have H0 := hid h0
    clear h0
    go_wp2_with (go_at_call 114; refine (known_err (p := ⟨A1, c1, A2, c2, A3, c3, A4, c4, A5, c5⟩) (HL.out.ext HE1.out) HSM.out hs.out t1).mono ?_; rintro e w2 ⟨rfl, he2⟩; have HB1 := hid (HB1.out.ext he2); have HB2 := hid (HB2.out.ext he2); have HE1 := hid (HE1.out.trans he2); have k2 := HB2.out.cell; have k2l := HB2.out.lt; have k2f := HB2.out.frozen; clear he2 k1 k1l)
    refine bodyPost_ret (v := .tuple #[ZeroL, .int .i64 s]) (by simp [results, Tryz.results84, go_sem, k2, ZeroL]) rfl ?_
    rw [← hQ.out, he.out]
    exact ⟨_, rfl, ext7L HE1.out (by omega) _ _ _ _ _ _ _, fun _ => rfl, fun h => absurd h H0.out⟩
end Go.Proofs.YtbceepjjdfpfmaaGreat
namespace Go.Proofs.YtbceepjjdfpfmaaGreat
open Go.RowKit HandSpec LoanSpec
set_option maxHeartbeats 4000000
set_option maxRecDepth 100000
/-- A ledger whose lists lie there, each its own. -/
def OwnQ (w : World) (B : Nat) (x : LD) (q : LA) : Prop := OwnLg w B x (.slice q.A1 x.bn q.c1) (.slice q.A2 x.fn q.c2) (.slice q.A3 x.ln q.c3) (.slice q.A4 x.pn q.c4) (.slice q.A5 x.mn q.c5)
theorem OwnQ.la {w : World} {B : Nat} {x : LD} {q : LA} (h : OwnQ w B x q) : IsLA w x q := OwnLg.la (D1 := q.A1) (D2 := q.A2) (D3 := q.A3) (D4 := q.A4) (D5 := q.A5) h
theorem OwnQ.ext {w w' : World} {B : Nat} {x : LD} {q : LA} (h : OwnQ w B x q) (e : Ext w w') : OwnQ w' B x q := OwnLg.ext h e
theorem OwnQ.base {w : World} {B B' : Nat} {x : LD} {q : LA} (h : OwnQ w B x q) (hB : B' ≤ B) : OwnQ w B' x q := OwnLg.base h hB
theorem OwnQ.of {w : World} {B : Nat} {x : LD} {u1 u2 u3 u4 u5 : Value} (h : OwnLg w B x u1 u2 u3 u4 u5) : ∃ q : LA, u1 = .slice q.A1 x.bn q.c1 ∧ u2 = .slice q.A2 x.fn q.c2 ∧ u3 = .slice q.A3 x.ln q.c3 ∧ u4 = .slice q.A4 x.pn q.c4 ∧ u5 = .slice q.A5 x.mn q.c5 ∧ OwnQ w B x q := by
  obtain ⟨D1, q1, rfl, -⟩ := h.o1.slR
  obtain ⟨D2, q2, rfl, -⟩ := h.o2.slR
  obtain ⟨D3, q3, rfl, -⟩ := h.o3.slR
  obtain ⟨D4, q4, rfl, -⟩ := h.o4.slR
  obtain ⟨D5, q5, rfl, -⟩ := h.o5.slR
  simp only [rowsG_length] at h ⊢
  exact ⟨⟨D1, q1, D2, q2, D3, q3, D4, q4, D5, q5⟩, rfl, rfl, rfl, rfl, rfl, h⟩
/-- No ledger. -/
def Z0 : LD := ⟨0, 0, 0, 0, 0, 0, 0, fun _ => 0, fun _ => 0, fun _ _ => 0, fun _ _ => 0, fun _ _ => 0⟩
def nilA : LA := ⟨none, 0, none, 0, none, 0, none, 0, none, 0⟩
theorem zeroL_eq : ZeroL = ledV Z0 nilA := rfl
theorem OwnQ.zero {w : World} {B : Nat} : OwnQ w B Z0 nilA := ⟨OwnR.nil, OwnR.nil, OwnR.nil, OwnR.nil, OwnR.nil, fun q hq => by cases hq⟩
theorem Sm.zero : Sm Z0 := ⟨Nat.zero_le _, Nat.zero_le _, Nat.zero_le _, Nat.zero_le _, Nat.zero_le _⟩
/-- The ledger that is handed back. -/
def newLD (er : Int) (y : LD) : LD := if er = 0 then y else Z0
theorem lend_any {x : LD} {w : World} {p : LA} (hv : IsLA w x p) (hm : Sm x) (a y n : Int) :
    Calls Tryz.prog 82 #[ledV x p, .agg #[.int .i64 a, .int .i64 y, .int .i64 n]] w fun e w' => ∃ q, e = .returned (.tuple #[ledV (newLD (lendEr x a y n) (lendD x a y n)) q, .int .i64 (lendEr x a y n)]) ∧ Ext w w' ∧ OwnQ w' w.heap.size (newLD (lendEr x a y n) (lendD x a y n)) q := by
  refine (lend82 hv hm a y n).mono ?_
  rintro e w' ⟨v, rfl, he, h0, hok⟩
  by_cases h : lendEr x a y n = 0
  · obtain ⟨u1, u2, u3, u4, u5, rfl, hO⟩ := hok h
    obtain ⟨q, rfl, rfl, rfl, rfl, rfl, hq⟩ := OwnQ.of hO
    unfold newLD
    rw [if_pos h]
    exact ⟨q, rfl, he, hq⟩
  · rw [h0 h]
    unfold newLD
    rw [if_neg h]
    exact ⟨nilA, rfl, he, OwnQ.zero⟩
theorem pay_any {x : LD} {w : World} {p : LA} (hv : IsLA w x p) (hm : Sm x) (a y n : Int) :
    Calls Tryz.prog 83 #[ledV x p, .agg #[.int .i64 a, .int .i64 y, .int .i64 n]] w fun e w' => ∃ q, e = .returned (.tuple #[ledV (newLD (payEr x a y n) (payD x a y n)) q, .int .i64 (payEr x a y n)]) ∧ Ext w w' ∧ OwnQ w' w.heap.size (newLD (payEr x a y n) (payD x a y n)) q := by
  refine (pay83 hv hm a y n).mono ?_
  rintro e w' ⟨v, rfl, he, h0, hok⟩
  by_cases h : payEr x a y n = 0
  · obtain ⟨u1, u2, u3, u4, u5, rfl, hO⟩ := hok h
    obtain ⟨q, rfl, rfl, rfl, rfl, rfl, hq⟩ := OwnQ.of hO
    unfold newLD
    rw [if_pos h]
    exact ⟨q, rfl, he, hq⟩
  · rw [h0 h]
    unfold newLD
    rw [if_neg h]
    exact ⟨nilA, rfl, he, OwnQ.zero⟩
/-- The loans below j that are forgiven then. -/
def forgTo (x : LD) (i : Int) (j : Nat) : List Int := ((List.range j).filter fun k : Nat => ((k : Int) == i) || hasB x.fo x.fn (k : Int)).map fun k : Nat => (k : Int)
theorem forgTo_succ (x : LD) (i : Int) (j : Nat) : forgTo x i (j + 1) = forgTo x i j ++ (if ((j : Int) == i || hasB x.fo x.fn (j : Int)) then [(j : Int)] else []) := by
  unfold forgTo
  rw [List.range_succ, List.filter_append, List.map_append]
  congr 1
  cases hb : ((j : Int) == i || hasB x.fo x.fn (j : Int)) <;> simp [hb]
theorem forgTo_len (x : LD) (i : Int) (j : Nat) : (forgTo x i j).length ≤ j := by
  unfold forgTo
  rw [List.length_map]
  exact Nat.le_trans (List.length_filter_le _ _) (by simp)
theorem fgL_mem {x : LD} {i z : Int} : z ∈ forgL x i ↔ (∃ k, k < x.fn ∧ x.fo k = z) ∨ z = i := by
  unfold forgL
  simp
theorem hasB_is {f : Nat → Int} {n : Nat} {z : Int} : hasB f n z = true ↔ ∃ k, k < n ∧ f k = z := by
  unfold hasB
  rw [anyTo_true]
  simp
theorem fgL_nodup {x : LD} (hx : Ok x) {i : Int} (hi : hasB x.fo x.fn i = false) : (forgL x i).Nodup := by
  have hr : ∀ a b, a < b → b < x.fn → x.fo a < x.fo b := fun a b hab => by
    induction b with
    | zero => omega
    | succ b ih =>
      intro hb
      have h1 := hx.finc b hb
      rcases Nat.lt_or_ge a b with h | h
      · have := ih h (by omega); omega
      · obtain rfl : a = b := by omega
        exact h1
  unfold forgL
  rw [List.nodup_append]
  refine ⟨?_, by simp, ?_⟩
  · show List.Pairwise (· ≠ ·) ((List.range x.fn).map x.fo)
    rw [List.pairwise_map]
    exact (List.pairwise_lt_range).imp_of_mem fun {a b} _ hb h => by
      have := hr a b h (List.mem_range.1 hb)
      omega
  · intro a ha b hb
    simp at hb
    subst hb
    rintro rfl
    simp at ha
    have := hasB_is.2 ha
    rw [hi] at this
    cases this
theorem forgTo_is {x : LD} (hx : Ok x) {i : Nat} (hi : i < x.ln) (hno : hasB x.fo x.fn (i : Int) = false) {l : List Int} (hp : l.Perm (forgL x (i : Int))) (hs : SortedI l l.length) : l = forgTo x (i : Int) x.ln := by
  have hm : ∀ z, z ∈ l ↔ (∃ k, k < x.fn ∧ x.fo k = z) ∨ z = (i : Int) := fun z => by rw [hp.mem_iff, fgL_mem]
  have hnd : l.Nodup := (hp.nodup_iff).2 (fgL_nodup hx hno)
  have p1 : l.Pairwise (· ≤ ·) := by
    rw [List.pairwise_iff_getElem]
    intro a b ha hb hab
    have := hs a b hab hb
    rwa [ni_get l ha, ni_get l hb] at this
  have p2 : (forgTo x (i : Int) x.ln).Pairwise (· < ·) := by
    unfold forgTo
    rw [List.pairwise_map]
    exact ((List.pairwise_lt_range).filter _).imp fun h => by omega
  have hn2 : (forgTo x (i : Int) x.ln).Nodup := p2.imp fun h => by omega
  have hpm : l.Perm (forgTo x (i : Int) x.ln) := (List.perm_ext_iff_of_nodup hnd hn2).2 fun z => by
    rw [hm]
    unfold forgTo
    simp only [List.mem_map, List.mem_filter, List.mem_range, Bool.or_eq_true, beq_iff_eq, hasB_is]
    constructor
    · rintro (⟨k, hk, rfl⟩ | rfl)
      · have := hx.fo k hk
        exact ⟨(x.fo k).toNat, ⟨by omega, .inr ⟨k, hk, by omega⟩⟩, by omega⟩
      · exact ⟨i, ⟨hi, .inl rfl⟩, rfl⟩
    · rintro ⟨k, ⟨hk, h | ⟨j, hj, h⟩⟩, rfl⟩
      · exact .inr h
      · exact .inl ⟨j, hj, h⟩
  exact hpm.eq_of_pairwise (le := (· ≤ ·)) (fun a b _ _ h1 h2 => by omega) p1 (p2.imp fun h => by omega)
theorem forgE_ok {x : LD} {i : Int} (h : forgE x i = 0) : Ok x ∧ ∃ j : Nat, i = (j : Int) ∧ j < x.ln ∧ hasB x.fo x.fn (j : Int) = false := by
  unfold forgE at h
  by_cases h0 : P.errL x i = 0
  · rw [if_neg (by rw [h0]; simp)] at h
    obtain ⟨hx, -, j, rfl, hj⟩ := P.ok_of_errL h0
    cases hb : hasB x.fo x.fn (j : Int)
    · exact ⟨hx, j, rfl, hj, hb⟩
    · rw [hb] at h
      cases h
  · rw [if_pos h0] at h
    exact absurd h h0
theorem forg_any {x : LD} {w : World} {p : LA} (hv : IsLA w x p) (hm : Sm x) (i : Int) :
    Calls Tryz.prog 84 #[ledV x p, .int .i64 i] w fun e w' => ∃ q, e = .returned (.tuple #[ledV (newLD (forgE x i) (forgD x (forgTo x i x.ln))) q, .int .i64 (forgE x i)]) ∧ Ext w w' ∧ OwnQ w' w.heap.size (newLD (forgE x i) (forgD x (forgTo x i x.ln))) q := by
  refine (forgive84 hv hm i).mono ?_
  rintro e w' ⟨v, rfl, he, h0, hok⟩
  by_cases h : forgE x i = 0
  · obtain ⟨l, u1, u2, u3, u4, u5, hp, hs, rfl, hO⟩ := hok h
    obtain ⟨hx, j, rfl, hj, hno⟩ := forgE_ok h
    obtain rfl := forgTo_is hx hj hno hp hs
    obtain ⟨q, rfl, rfl, rfl, rfl, rfl, hq⟩ := OwnQ.of hO
    unfold newLD
    rw [if_pos h]
    exact ⟨q, rfl, he, hq⟩
  · rw [h0 h]
    unfold newLD
    rw [if_neg h]
    exact ⟨nilA, rfl, he, OwnQ.zero⟩
theorem own19O {x : LD} {w : World} {v : Value} (hv : IsL w v x) (hm : Sm x) :
    Calls Tryz.prog 19 #[v] w fun e w' => ∃ q, e = .returned (ledV x q) ∧ Ext w w' ∧ OwnQ w' w.heap.size x q := by
  obtain ⟨h1, h2, h3, h4, h5⟩ := hm
  obtain ⟨A1, c1, A2, c2, A3, c3, A4, c4, A5, c5, rfl, r1, r2, r3, r4, r5⟩ := hv
  have R1 := hid r1
  have R2 := hid r2
  have R3 := hid r3
  have R4 := hid r4
  have R5 := hid r5
  clear r1 r2 r3 r4 r5
  go_enter Tryz.func19, Tryz.ntmps19
  go_upto_region 1 with fail
  refine wp_later fun w1 hw1 => ?_
  obtain ⟨E0, b1, b2⟩ := hw1.newB2
  have B2 := hid b2
  have k1 := b1.cell
  have k1l := b1.lt
  have hz1 := b2.lt
  clear hw1 b1 b2
  refine wp_region_mono 19 [(6, OwI 3 1 x.bn (fun k _ => x.bad k)), (9, OwI 3 1 x.fn (fun k _ => x.fo k)), (12, OwI 68 3 x.ln x.lo), (15, OwI 71 3 x.pn x.pa), (18, OwI 64 3 x.mn x.pr)] (by kernel_rfl) (by kernel_rfl) (by kernel_rfl) ?hS ?_
  case hS =>
    simp only [List.forall_mem_cons]
    exact ⟨fun _ _ _ _ _ e h => OwI.ext h e, fun _ _ _ _ _ e h => OwI.ext h e, fun _ _ _ _ _ e h => OwI.ext h e, fun _ _ _ _ _ e h => OwI.ext h e, fun _ _ _ _ _ e h => OwI.ext h e, fun _ h => by simp at h⟩
  simp only [List.take_succ_cons, List.take_zero, List.drop_succ_cons, List.drop_zero]
  iterate 6
    refine wpM_plain rfl ?_
    go_big_quiet_step (fail)
    refine wpQuiet_nil ?_
  refine wpM_spec _ rfl rfl (fun w4 hw4 _ => ?_) (fun va la ha ga1 ga2 da hva => ?_)
  · go_wp2_with (go_at_call 66; refine (dup66 (R1.out.ext (E0.trans hw4)) h1).mono ?_; rintro e w5 ⟨u, rfl, he5, ho⟩)
    exact ⟨_, _, _, rfl, he5, Nat.le_refl _, he5.size, Nat.le_refl _, ho, fun q hq => ho.lt hq⟩
  simp only [Act.put, List.setIfInBounds_toArray, List.set_cons_succ, List.set_cons_zero]
  obtain ⟨wa, hva⟩ := hva
  obtain ⟨D1, q1, rfl, -⟩ := OwnR.slR hva.1
  clear hva
  rw [rowsG_length]
  iterate 2
    refine wpM_plain rfl ?_
    go_big_quiet_step (fail)
    refine wpQuiet_nil ?_
  refine wpM_spec _ rfl rfl (fun w4 hw4 _ => ?_) (fun vb lb hb gb1 gb2 db hvb => ?_)
  · go_wp2_with (go_at_call 66; refine (dup66 (R2.out.ext (E0.trans hw4)) h2).mono ?_; rintro e w5 ⟨u, rfl, he5, ho⟩)
    exact ⟨_, _, _, rfl, he5, Nat.le_refl _, he5.size, Nat.le_refl _, ho, fun q hq => ho.lt hq⟩
  simp only [Act.put, List.setIfInBounds_toArray, List.set_cons_succ, List.set_cons_zero]
  obtain ⟨wb, hvb⟩ := hvb
  obtain ⟨D2, q2, rfl, -⟩ := OwnR.slR hvb.1
  clear hvb
  rw [rowsG_length]
  iterate 2
    refine wpM_plain rfl ?_
    go_big_quiet_step (fail)
    refine wpQuiet_nil ?_
  refine wpM_spec _ rfl rfl (fun w4 hw4 _ => ?_) (fun vc lc hc gc1 gc2 dc hvc => ?_)
  · go_wp2_with (go_at_call 92; refine (dup92 (R3.out.ext (E0.trans hw4)) h3).mono ?_; rintro e w5 ⟨u, rfl, he5, ho⟩)
    exact ⟨_, _, _, rfl, he5, Nat.le_refl _, he5.size, Nat.le_refl _, ho, fun q hq => ho.lt hq⟩
  simp only [Act.put, List.setIfInBounds_toArray, List.set_cons_succ, List.set_cons_zero]
  obtain ⟨wc, hvc⟩ := hvc
  obtain ⟨D3, q3, rfl, -⟩ := OwnR.slR hvc.1
  clear hvc
  rw [rowsG_length]
  iterate 2
    refine wpM_plain rfl ?_
    go_big_quiet_step (fail)
    refine wpQuiet_nil ?_
  refine wpM_spec _ rfl rfl (fun w4 hw4 _ => ?_) (fun vd ld hd gd1 gd2 dd hvd => ?_)
  · go_wp2_with (go_at_call 93; refine (dup93 (R4.out.ext (E0.trans hw4)) h4).mono ?_; rintro e w5 ⟨u, rfl, he5, ho⟩)
    exact ⟨_, _, _, rfl, he5, Nat.le_refl _, he5.size, Nat.le_refl _, ho, fun q hq => ho.lt hq⟩
  simp only [Act.put, List.setIfInBounds_toArray, List.set_cons_succ, List.set_cons_zero]
  obtain ⟨wd, hvd⟩ := hvd
  obtain ⟨D4, q4, rfl, -⟩ := OwnR.slR hvd.1
  clear hvd
  rw [rowsG_length]
  iterate 2
    refine wpM_plain rfl ?_
    go_big_quiet_step (fail)
    refine wpQuiet_nil ?_
  refine wpM_spec _ rfl rfl (fun w4 hw4 _ => ?_) (fun ve le he ge1 ge2 de hve => ?_)
  · go_wp2_with (go_at_call 50; refine (dup50 (R5.out.ext (E0.trans hw4)) h5).mono ?_; rintro e w5 ⟨u, rfl, he5, ho⟩)
    exact ⟨_, _, _, rfl, he5, Nat.le_refl _, he5.size, Nat.le_refl _, ho, fun q hq => ho.lt hq⟩
  simp only [Act.put, List.setIfInBounds_toArray, List.set_cons_succ, List.set_cons_zero]
  obtain ⟨we, hve⟩ := hve
  obtain ⟨D5, q5, rfl, -⟩ := OwnR.slR hve.1
  clear hve
  rw [rowsG_length]
  refine wpM_nil fun w6 hw6 hF => ?_
  simp only [List.forall_mem_cons] at hF db
  obtain ⟨f5, f4, f3, f2, f1, -⟩ := hF
  have k8 := (B2.out.ext hw6).cell
  have l8 := (B2.out.ext hw6).lt
  have g8 := (B2.out.ext hw6).frozen
  have HF := hid (show OwnLg w6 (w.heap.size + 2) x (.slice D1 x.bn q1) (.slice D2 x.fn q2) (.slice D3 x.ln q3) (.slice D4 x.pn q4) (.slice D5 x.mn q5) from
    ⟨f1.2.1.base (by omega), f2.2.1.base (by omega), f3.2.1.base (by omega), f4.2.1.base (by omega), f5.2.1.base (by omega), fun q hq hq2 => by
      have a1 := f1.2.1.block hq
      have a2 := f1.2.2 q hq
      have a3 := f2.2.1.block hq2
      have a4 := f2.2.2 q hq2
      rcases db.1 with h | h <;> omega⟩)
  have HW := hid (E0.trans hw6)
  clear f1 f2 f3 f4 f5 k1 k1l hw6 da db dc dd de
  go_wp2_with fail
  refine bodyPost_ret (v := .agg #[.int .i64 x.folk, .int .i64 x.years, .slice D1 x.bn q1, .slice D2 x.fn q2, .slice D3 x.ln q3, .slice D4 x.pn q4, .slice D5 x.mn q5]) (by simp [results, Tryz.results19, go_sem, k8]) rfl ?_
  exact ⟨⟨D1, q1, D2, q2, D3, q3, D4, q4, D5, q5⟩, rfl, ext7 HW.out _ _ _ _ _ _ _, OwnQ.base (B := w.heap.size + 2) (HF.out.far7 (H := w.heap.size + 1) (by omega) _ _ _ _ _ _ _) (by omega)⟩
end Go.Proofs.YtbceepjjdfpfmaaGreat
