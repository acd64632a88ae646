/- DeleteFunc over spells; Delete of stretches and of counts. No condition. -/
import Derived.Test.YtkhjmedfhobebaaGreatLawsK
import Derived.ArgAppend
namespace HandSpec
/-- The numbers below j that are wanted. -/
def keptL (q : Nat → Bool) (j : Nat) : List Nat := (List.range j).filter q
theorem keptL_succ (q : Nat → Bool) (j : Nat) : keptL q (j+1) = keptL q j ++ if q j then [j] else [] := by
  unfold keptL
  rw [List.range_succ, List.filter_append]
  by_cases h : q j <;> simp [h]
theorem keptL_length (q : Nat → Bool) (j : Nat) : (keptL q j).length ≤ j := Nat.le_trans (List.length_filter_le _ _) (by simp)
theorem keptL_all {q : Nat → Bool} {j : Nat} (h : ∀ k, k < j → q k = true) : keptL q j = List.range j := by
  unfold keptL
  rw [List.filter_eq_self]
  exact fun k hk => h k (List.mem_range.1 hk)
theorem keptL_mem {q : Nat → Bool} {j a : Nat} (h : a < (keptL q j).length) : (keptL q j).getD a 0 < j ∧ q ((keptL q j).getD a 0) = true := by
  have hm : (keptL q j).getD a 0 ∈ keptL q j := by
    rw [List.getD_eq_getElem?_getD, List.getElem?_eq_getElem h]
    exact List.getElem_mem h
  unfold keptL at hm ⊢
  rw [List.mem_filter, List.mem_range] at hm
  exact hm
theorem mem_keptL {q : Nat → Bool} {j k : Nat} (h : k < j) (hq : q k = true) : ∃ a, a < (keptL q j).length ∧ (keptL q j).getD a 0 = k := by
  have hm : k ∈ keptL q j := by unfold keptL; rw [List.mem_filter, List.mem_range]; exact ⟨h, hq⟩
  obtain ⟨a, ha, he⟩ := List.getElem_of_mem hm
  exact ⟨a, ha, by rw [List.getD_eq_getElem?_getD, List.getElem?_eq_getElem ha]; exact he⟩
/-- What a round of DeleteFunc knows. -/
structure Kept3 (s : Nat → Nat → Int) (q : Nat → Bool) (n j : Nat) (h : Nat → Int) : Prop where
  old : ∀ a, a < (keptL q j).length → ∀ c, c < 3 → h (a * 3 + c) = s ((keptL q j).getD a 0) c
  new : ∀ a, j ≤ a → a < n → ∀ c, c < 3 → h (a * 3 + c) = s a c
namespace Kept3
open Go.Proofs.YtkhjmedfhobebaaGreat
variable {s : Nat → Nat → Int} {q : Nat → Bool} {n j : Nat} {h : Nat → Int}
theorem no (k : Kept3 s q n j h) (hq : q j = false) : Kept3 s q n (j+1) h := by
  have e : keptL q (j+1) = keptL q j := by rw [keptL_succ, hq]; simp
  refine ⟨?_, fun a ha => k.new a (by omega)⟩
  rw [e]
  exact k.old
theorem yes (k : Kept3 s q n j h) (hq : q j = true) :
    Kept3 s q n (j+1) (upd (upd (upd h ((keptL q j).length * 3) (s j 0)) ((keptL q j).length * 3 + 1) (s j 1)) ((keptL q j).length * 3 + 2) (s j 2)) := by
  have e : keptL q (j+1) = keptL q j ++ [j] := by rw [keptL_succ, hq]; simp
  have hl := keptL_length q j
  refine ⟨fun a ha c hc => ?_, fun a h1 h2 c hc => ?_⟩
  · rw [e] at ha ⊢
    simp only [List.length_append, List.length_singleton] at ha
    rcases Nat.lt_or_eq_of_le (Nat.le_of_lt_succ ha) with h1 | h1
    · rw [upd_other _ _ (by omega), upd_other _ _ (by omega), upd_other _ _ (by omega), k.old a h1 c hc]
      simp [List.getD_eq_getElem?_getD, List.getElem?_append_left h1]
    · subst h1
      have hg : (keptL q j ++ [j]).getD (keptL q j).length 0 = j := by simp
      rw [hg]
      rcases (show c = 0 ∨ c = 1 ∨ c = 2 by omega) with rfl | rfl | rfl
      · rw [upd_other _ _ (by omega), upd_other _ _ (by omega)]; exact upd_same _ _ _
      · rw [upd_other _ _ (by omega)]; exact upd_same _ _ _
      · exact upd_same _ _ _
  · rw [upd_other _ _ (by omega), upd_other _ _ (by omega), upd_other _ _ (by omega)]
    exact k.new a (by omega) h2 c hc
end Kept3
/-- The spells that are wanted. -/
def keepS (x : WD) (q : Nat → Bool) : WD := { x with sn := (keptL q x.sn).length, s := fun a c => x.s ((keptL q x.sn).getD a 0) c }
theorem keepS_ok {x : WD} (hx : Ok x) (q : Nat → Bool) : Ok (keepS x q) :=
  have hl : (keepS x q).sn ≤ x.sn := keptL_length q x.sn
  ⟨hx.hands, hx.cn, hx.bn, Nat.le_trans hl hx.sn, hx.hours, hx.allow, hx.hour, hx.lo, hx.hi, hx.bhour, hx.bsack, fun _ ha => hx.shand _ (keptL_mem ha).1, hx.le, hx.inc, hx.bnz, fun _ ha => hx.shour _ (keptL_mem ha).1, fun _ ha => hx.sord _ (keptL_mem ha).1⟩
end HandSpec
namespace Go.Proofs.YtkhjmedfhobebaaGreat
open Go.RowKit HandSpec
set_option maxHeartbeats 1600000
set_option maxRecDepth 100000
theorem tmodN (a : Nat) {b : Int} (hb : 0 < b) : Int.tmod (a : Int) b = ((a % b.toNat : Nat) : Int) ∧ ((a % b.toNat : Nat) : Int) < b := by
  obtain ⟨n, rfl⟩ := Int.eq_ofNat_of_zero_le (Int.le_of_lt hb)
  have := Nat.mod_lt a (show 0 < n by omega)
  exact ⟨rfl, by simp; omega⟩
theorem heap_setCells (g : Nat) : ∀ (l : List Value) (o : Nat) (w : World) (b : Nat), b ≠ g → (w.setCells g o l).heap[b]? = w.heap[b]?
  | [], _, _, _, _ => rfl
  | v :: r, o, w, b, hb => by
    rw [World.setCells, heap_setCells g r (o+1) _ b hb]
    exact Below.heap_setCell w ⟨g, o, none⟩ v b hb
theorem size_setCells (g : Nat) : ∀ (l : List Value) (o : Nat) (w : World), (w.setCells g o l).heap.size = w.heap.size
  | [], _, _ => rfl
  | v :: r, o, w => by
    rw [World.setCells, size_setCells g r (o+1) _]
    simp
/-- 'clear' of a piece of such a block; no other block changes. -/
theorem wpList_clear_ch {P : Program} {w : World} {ops : Array Oper} {rest : List Oper} {o : Oper} {a : Act} {Q : Exit → Act → World → Prop} (hgd : o.guard = none) (x : Operand) (T : TypeId)
    (ho : o.op = .call { callee := .builtin .clear, args := #[x], argTypes := #[T] }) {e : TypeId} {c bytes : Nat} (hE : ElemOk P T e c bytes) {z : Value} (hz : ∀ w, (zeroValue e).run P w = .ok z w) (hzc : z.cells = Array.replicate c (.int .i64 0))
    {g N s n cap : Nat} {h : Nat → Int} (hx : a.eval x = .slice (some ⟨g, s, none⟩) n cap) (ha : Arr w g N h) (hn : s + n * c ≤ N)
    (hk : ∀ w', Arr w' g N (fun i => if s ≤ i ∧ i < s + n * c then 0 else h i) → (∀ w0, Ext w0 w → w0.heap.size ≤ g → Ext w0 w') → Ch (· = g) w w' → wpList P ops Q rest (a.put o.dst (.tuple #[])) w') :
    wpList P ops Q (o :: rest) a w := by
  refine wpList_plain hgd fun K hK => ?_
  have fin : ∀ w', (Builtin.clear_ #[T] o.type #[.slice (some ⟨g, s, none⟩) n cap]).run P w = .ok (.tuple #[]) w' → K (a.put o.dst (.tuple #[])) w' → Oper.wp P o a w K Q := by
    intro w' hrun hw
    unfold Oper.wp
    simp [execOp, ho, resolve, invoke, builtin, hx, hrun, Result.andThen]
    exact hw
  rcases Nat.eq_zero_or_pos n with h0 | h0
  · subst h0
    refine fin w (by simp [Builtin.clear_, run_underlying hE.u]) (hK _ _ (hk w (ha.congr fun i _ => by rw [if_neg (by omega)]) (fun _ h _ => h) (Ch.refl _ _)))
  · obtain ⟨m, rfl⟩ : ∃ m, n = m + 1 := ⟨n - 1, by omega⟩
    have hlen : (Builtin.zeroCells z.cells (m + 1)).toList.length = (m + 1) * c := by simp [Builtin.zeroCells, hzc]
    have hall : ∀ v ∈ (Builtin.zeroCells z.cells (m + 1)).toList, v = .int .i64 0 := by
      intro v hv
      simp [Builtin.zeroCells, hzc] at hv
      obtain ⟨i, hi, rfl⟩ := hv
      have h0c : i % c < c := Nat.mod_lt _ hE.c0
      simp [h0c]
    have hst := run_storeCells_cells (P := P) g s (Builtin.zeroCells z.cells (m + 1)).toList 0 w (by intro j hj; rw [ha.cell (by omega)]; rfl) (by intro j hj; exact ha.frozen (by omega)) (by intro v hv; rw [hall v hv]; rfl)
    simp only [Nat.add_zero] at hst
    refine fin (w.setCells g s (Builtin.zeroCells z.cells (m + 1)).toList) (by simp [Builtin.clear_, run_underlying hE.u, hz, hst]) (hK _ _ (hk _ ⟨?_, fun i hi => ⟨?_, ?_⟩⟩ (fun w0 h0 hg => ?_) ⟨Nat.le_of_eq (size_setCells g _ _ _).symm, fun b _ hb => heap_setCells g _ _ _ b hb⟩))
    · rw [size_setCells]; exact ha.1
    · by_cases hin : s ≤ i ∧ i < s + (m + 1) * c
      · show _ = some (Value.int .i64 (if _ then _ else _))
        rw [if_pos hin]
        have := World.cell?_setCells_in g (Builtin.zeroCells z.cells (m + 1)).toList s w (fun j hj => by rw [ha.cell (by omega)]; rfl) (i - s) (by omega)
        rw [show s + (i - s) = i by omega] at this
        rw [this, hall _ (List.getElem_mem _)]
      · show _ = some (Value.int .i64 (if _ then _ else _))
        rw [if_neg hin, World.cell?_setCells_out _ _ _ _ _ (fun _ _ => by simp only; omega)]
        exact ha.cell hi
    · rw [World.frozen?_setCells]; exact ha.frozen hi
    · exact below_setCells hg _ _ _ h0
theorem el24z : ∀ w : World, (zeroValue 114).run Tryz.prog w = .ok (.agg #[.int .i64 0, .int .i64 0, .int .i64 0]) w := fun _ => by kernel_rfl
/-- A test of elements that holds wherever only block g is another. -/
def AsksC (w : World) (g : Nat) (fv : Value) (n : Nat) (enc : Nat → Value) (p : Nat → Bool) : Prop :=
  ∃ f caps, fv = .func (.func f) #[] caps ∧ (∀ args w, (callFunc f args).run Tryz.prog w = .ok (.enter f args) w) ∧
    ∀ k, k < n → ∀ w', Ch (· = g) w w' → Calls Tryz.prog f (#[enc k] ++ caps) w' (fun e w'' => e = .returned (.bool (p k)) ∧ Ext w' w'')
theorem chE {g : Nat} {w w1 w2 : World} (c : Ch (· = g) w w1) (e : Ext w1 w2) : Ch (· = g) w w2 := c.trans (Ch.ofExt e) fun _ _ h => h.elim
theorem AsksC.asks {w : World} {g : Nat} {fv : Value} {n : Nat} {enc : Nat → Value} {p : Nat → Bool} (h : AsksC w g fv n enc p) : Asks w fv n enc p := by
  obtain ⟨f, caps, h1, h2, h3⟩ := h
  exact ⟨f, caps, h1, h2, fun k hk w' e => h3 k hk w' (chE (Ch.refl _ _) e)⟩
theorem deleteFunc88 {w0 w : World} {g cap n : Nat} {s : Nat → Nat → Int} {fv : Value} {q : Nat → Bool} (he0 : Ext w0 w) (hB : w0.heap.size ≤ g) (hn : n ≤ 1000) (hcap : n ≤ cap) (hA : Arr w g (n * 3) (fun i => s (i / 3) (i % 3)))
    (ha : AsksC w g fv n (enc3 s) (fun k => !q k)) :
    Calls Tryz.prog 88 #[.slice (some ⟨g, 0, none⟩) n cap, fv] w fun e w' => e = .returned (.slice (some ⟨g, 0, none⟩) (keptL q n).length cap) ∧ Ext w0 w' ∧ Ch (· = g) w w' ∧ Rd w' (some ⟨g, 0, none⟩) (keptL q n).length 3 (fun a c => s ((keptL q n).getD a 0) c) := by
  have hr : Rd w (some ⟨g, 0, none⟩) n 3 s := (hA.rd (o := 0) (n := n) (c := 3) (by omega)).congr fun k hk j hj => by
    rw [Nat.zero_add, show (k * 3 + j) / 3 = k by omega, show (k * 3 + j) % 3 = j by omega]
  have HS := hid ha.asks
  obtain ⟨fn, caps, rfl, hfn, hf⟩ := ha
  have HF := hid hf; clear hf
  cases hany : anyTo (fun k => !q k) n
  · have hall := anyTo_false.1 hany
    have hl : keptL q n = List.range n := keptL_all fun k hk => by simpa using hall k hk
    have hfi : firstI (fun k => !q k) n = -1 := firstI_no hall
    have HL := hid hl
    have HI := hid hfi
    have HR := hid hr
    clear hany hall hl hfi hA
    go_enter Tryz.func88, Tryz.ntmps88
    go_wp2_with (go_at_call 189; refine (indexFunc189 HR.out (by omega) HS.out).mono ?_; rintro e w1 ⟨rfl, he1⟩; rw [HI.out])
    go_ret
    refine ⟨?_, he0.trans he1, chE (Ch.refl _ _) he1, ?_⟩
    · rw [HL.out, List.length_range]; rfl
    · rw [HL.out, List.length_range]
      exact (HR.out.ext he1).congr fun k hk j _ => by simp [List.getD_eq_getElem?_getD, hk]
  · obtain ⟨f, hfl, hfq, hf1⟩ : ∃ f, f < n ∧ (!q f) = true ∧ ∀ j, j < f → (!q j) = false := by
      have hex := anyTo_true.1 hany
      obtain ⟨k, hk⟩ := hex
      induction k using Nat.strongRecOn with
      | _ k ih =>
        by_cases h : ∃ j, j < k ∧ (!q j) = true
        · obtain ⟨j, hj, hq⟩ := h
          exact ih j hj ⟨by omega, hq⟩
        · exact ⟨k, hk.1, hk.2, fun j hj => Bool.eq_false_iff.2 fun hc => h ⟨j, hj, hc⟩⟩
    have hfi : firstI (fun k => !q k) n = f := firstI_yes hfl hf1 hfq
    have hkf : keptL q (f+1) = List.range f := by
      rw [keptL_succ, keptL_all fun k hk => by simpa using hf1 k hk]
      simp at hfq; simp [hfq]
    have K0 : Kept3 s q n (f+1) (fun i => s (i / 3) (i % 3)) := by
      refine ⟨fun a h1 c hc => ?_, fun a _ _ c hc => ?_⟩
      · rw [hkf] at h1 ⊢
        simp only [List.length_range] at h1
        rw [show (a * 3 + c) / 3 = a by omega, show (a * 3 + c) % 3 = c by omega]
        simp [List.getD_eq_getElem?_getD, h1]
      · rw [show (a * 3 + c) / 3 = a by omega, show (a * 3 + c) % 3 = c by omega]
    have hlf : (keptL q (f+1)).length = f := by rw [hkf, List.length_range]
    have K0 := hid K0
    have HI := hid hfi
    have HA0 := hid hA
    have HLF := hid hlf
    have HR := hid hr
    clear hany hfi hlf hkf hf1 hfq hA hr
    have hne : ((f : Int) == -1) = false := by simp
    go_enter Tryz.func88, Tryz.ntmps88
    go_wp2_with (go_at_call 189; refine (indexFunc189 HR.out (by omega) HS.out).mono ?_; rintro e w1 ⟨rfl, he1⟩; rw [HI.out])
    go_loopw [5, 6] (fun i j wr => ∃ (m p : Nat) (h : Nat → Int), m < p ∧ p ≤ n ∧ i = .int .i64 (m : Int) ∧ j = .int .i64 (p : Int) ∧ Hid (m = (keptL q p).length) ∧ Hid (Arr wr g (n * 3) h) ∧ Hid (Kept3 s q n p h) ∧ Ext w0 wr ∧ Hid (Ch (· = g) w wr)) (fun _ j _ => n - (intOf j).toNat)
    case atStart => exact ⟨f, f + 1, _, by omega, by omega, rfl, by go_num, hid HLF.out.symm, hid (HA0.out.ext he1), K0, he0.trans he1, hid (chE (Ch.refl _ _) he1)⟩
    case round =>
      clear K0 HLF
      obtain ⟨m, p, h, hmp, hp, rfl, rfl, hm, hA, hK, he, hC⟩ := hrel
      by_cases hlt : p < n
      · have a0 := hA.out.cell (i := p * 3) (by omega)
        have a1 := hA.out.cell (i := p * 3 + 1) (by omega)
        have a2 := hA.out.cell (i := p * 3 + 2) (by omega)
        rw [show h (p * 3) = s p 0 from hK.out.new p (Nat.le_refl _) hlt 0 (by omega)] at a0
        rw [hK.out.new p (Nat.le_refl _) hlt 1 (by omega)] at a1
        rw [hK.out.new p (Nat.le_refl _) hlt 2 (by omega)] at a2
        have hb := hA.out.1
        have hc0 := HF.out p hlt
        unfold enc3 at hc0
        have HC := hid hc0
        clear hc0
        cases hq : q p
        · have HQ := hid hq
          clear hq
          go_wp2_with (refine (HC.out _ (chE hC.out ((Ext.refl _).alloc _))).mono ?_; rintro e w2 ⟨rfl, he2⟩; rw [HQ.out])
          obtain ⟨he2, hb7⟩ := he2.newB
          go_roundw
          case rel => exact ⟨m, p + 1, h, by omega, by omega, rfl, by go_num, hid (by rw [keptL_succ, HQ.out]; simpa using hm.out), hid (hA.out.ext he2), hid (hK.out.no HQ.out), he.trans he2, hid (chE hC.out he2)⟩
          case measure => simp [intOf]; omega
        · have HQ := hid hq
          clear hq
          go_wp2_with (refine (HC.out _ (chE hC.out ((Ext.refl _).alloc _))).mono ?_; rintro e w2 ⟨rfl, he2⟩; rw [HQ.out]; obtain ⟨he2, hb7⟩ := he2.newB; have k7 := hb7.cell; have k7l := hb7.lt; have A2 := hid (hA.out.ext he2); have a0 := A2.out.cell (i := m * 3) (by omega); have a1 := A2.out.cell (i := m * 3 + 1) (by omega); have a2 := A2.out.cell (i := m * 3 + 2) (by omega); have f0 := A2.out.frozen (i := m * 3) (by omega); have f1 := A2.out.frozen (i := m * 3 + 1) (by omega); have f2 := A2.out.frozen (i := m * 3 + 2) (by omega); have hb := A2.out.1)
          go_roundw
          case rel =>
            refine ⟨m + 1, p + 1, _, by omega, by omega, by go_num, by go_num, hid (by rw [keptL_succ, HQ.out]; simp [hm.out]), hid (((A2.out.set_ _ _ (by omega)).set_ _ _ (by omega)).set_ _ _ (by omega)), hid (by have := hK.out.yes HQ.out; rw [← hm.out] at this; exact this), (((he.trans he2).setCell _ (by simp; omega)).setCell _ (by simp; omega)).setCell _ (by simp; omega), hid ?_⟩
            exact (((chE hC.out he2).trans (Ch.ofSet _ g _ _) fun _ _ h => h).trans (Ch.ofSet _ g _ _) fun _ _ h => h).trans (Ch.ofSet _ g _ _) fun _ _ h => h
          case measure => simp [intOf]; omega
      · obtain rfl : p = n := by omega
        have HM := hid hm.out
        clear hm
        have hmc : m ≤ cap := by omega
        go_wp2_with ((with_reducible refine wpList_here ⟨none, .call { callee := .builtin .clear, args := #[_], argTypes := #[24] }, _, _, _, _⟩ ?_); refine wpList_clear_ch rfl _ 24 rfl el24 (z := .agg #[.int .i64 0, .int .i64 0, .int .i64 0]) el24z rfl (g := g) (s := m * 3) (n := p - m) (cap := cap - m) rfl hA.out (by omega) ?_; intro w3 A3 E3 C3)
        go_ret
        refine ⟨by rw [HM.out]; rfl, E3 _ he (by omega), hC.out.trans C3 fun _ _ h => h, ?_⟩
        rw [← HM.out]
        refine ((A3.mono (M := m * 3) (by omega)).rd (o := 0) (n := m) (c := 3) (by omega)).congr fun k hk j hj => ?_
        rw [Nat.zero_add, if_neg (by omega)]
        exact hK.out.old k (by rw [← HM.out]; exact hk) j hj
end Go.Proofs.YtkhjmedfhobebaaGreat
namespace Go.Proofs.YtkhjmedfhobebaaGreat
open Go.RowKit HandSpec
set_option maxHeartbeats 1600000
set_option maxRecDepth 100000
/-- 'append' of a piece of a block to a piece that starts with it, where there is room. -/
theorem wpList_append_room {P : Program} {w : World} {ops : Array Oper} {rest : List Oper} {o : Oper} {a : Act} {Q : Exit → Act → World → Prop} (hgd : o.guard = none) (s x : Operand) (T : TypeId)
    (ho : o.op = .call { callee := .builtin .append, args := #[s, x], argTypes := #[T, T] }) {e : TypeId} {c bytes : Nat} (hE : ElemOk P T e c bytes)
    {g N k cap m off c2 : Nat} {h : Nat → Int} (hs : a.eval s = .slice (some ⟨g, 0, none⟩) k cap) (hx : a.eval x = .slice (some ⟨g, off, none⟩) m c2) (ha : Arr w g N h) (hroom : k + m ≤ cap) (h1 : k * c + m * c ≤ N) (h2 : off + m * c ≤ N)
    (hk : ∀ w', Arr w' g N (fun i => if k * c ≤ i ∧ i < k * c + m * c then h (off + (i - k * c)) else h i) → (∀ w0, Ext w0 w → w0.heap.size ≤ g → Ext w0 w') → Ch (· = g) w w' → wpList P ops Q rest (a.put o.dst (.slice (some ⟨g, 0, none⟩) (k + m) cap)) w') :
    wpList P ops Q (o :: rest) a w := by
  obtain ⟨i, z, hi, hz, h3, h4, h5⟩ := hE.i
  subst h3
  refine wpList_plain hgd fun K hK => ?_
  have hl : ((List.range (m * i.size)).map fun j => Value.int .i64 (h (off + j))).length = m * i.size := by simp
  have hst := run_append_room_cells (P := P) w T o.type e i hE.u hi g 0 k cap ⟨g, off, none⟩ m c2 ((List.range (m * i.size)).map fun j => Value.int .i64 (h (off + j))) hl (fun j u hu => by
      rw [List.getElem?_map] at hu
      rcases Nat.lt_or_ge j (m * i.size) with hj | hj
      · rw [List.getElem?_range hj] at hu
        simp only [Option.map_some, Option.some.injEq] at hu
        rw [addr_add, ← hu]
        exact ha.cell (by omega)
      · rw [List.getElem?_eq_none (by simpa using hj)] at hu
        cases hu) (fun u hu => by
      simp only [List.mem_map] at hu
      obtain ⟨_, _, rfl⟩ := hu
      rfl) hroom (fun j hj => by rw [hl] at hj; rw [ha.cell (by omega)]; rfl) (fun j hj => by rw [hl] at hj; exact ha.frozen (by omega))
  unfold Oper.wp
  simp [execOp, ho, resolve, invoke, builtin, hs, hx, hst, Result.andThen]
  refine hK _ _ (hk _ ⟨by rw [size_setCells]; exact ha.1, fun q hq => ⟨?_, ?_⟩⟩ (fun w0 h0 hg => below_setCells hg _ _ _ h0) ⟨Nat.le_of_eq (size_setCells g _ _ _).symm, fun b _ hb => heap_setCells g _ _ _ b hb⟩)
  · by_cases hin : k * i.size ≤ q ∧ q < k * i.size + m * i.size
    · show _ = some (Value.int .i64 (if _ then _ else _))
      rw [if_pos hin]
      have := World.cell?_setCells_in g ((List.range (m * i.size)).map fun j => Value.int .i64 (h (off + j))) (k * i.size) w (fun j hj => by rw [hl] at hj; rw [ha.cell (by omega)]; rfl) (q - k * i.size) (by rw [hl]; omega)
      rw [show k * i.size + (q - k * i.size) = q by omega] at this
      rw [this, List.getElem_map, List.getElem_range]
    · show _ = some (Value.int .i64 (if _ then _ else _))
      rw [if_neg hin, World.cell?_setCells_out _ _ _ _ _ (fun _ _ => by simp only [hl]; omega)]
      exact ha.cell hq
  · rw [World.frozen?_setCells]; exact ha.frozen hq
theorem el22z' (w : World) : (zeroValue 79).run Tryz.prog w = .ok (.agg #[.int .i64 0, .int .i64 0, .int .i64 0]) w := by kernel_rfl
theorem delete82 {w0 w : World} {g cap n i : Nat} {ii jj : Int} {h : Nat → Int} (he0 : Ext w0 w) (hB : w0.heap.size ≤ g) (hn : n ≤ 1000) (hcap : n ≤ cap) (hi : i < n) (hii : ii = (i : Int)) (hjj : jj = (i : Int) + 1) (hA : Arr w g (n * 2) h) :
    Calls Tryz.prog 82 #[.slice (some ⟨g, 0, none⟩) n cap, .int .i64 ii, .int .i64 jj] w fun e w' => e = .returned (.slice (some ⟨g, 0, none⟩) (n - 1) cap) ∧ Ext w0 w' ∧ Ch (· = g) w w' ∧ Arr w' g ((n - 1) * 2) (fun q => if q < i * 2 then h q else h (q + 2)) := by
  subst hii hjj
  have HA := hid hA
  clear hA
  have hne : ((i : Int) == (i : Int) + 1) = false := by simp; omega
  obtain ⟨m, rfl⟩ : ∃ m, n = i + 1 + m := ⟨n - (i + 1), by omega⟩
  have key : ∀ q, q < (i + m) * 2 → (if i * 2 ≤ q ∧ q < i * 2 + m * 2 then h ((i + 1) * 2 + (q - i * 2)) else h q) = if q < i * 2 then h q else h (q + 2) := fun q hq => by
    by_cases h1 : q < i * 2
    · rw [if_pos h1, if_neg (by omega)]
    · rw [if_neg h1, if_pos (by omega)]
      congr 1; omega
  have KEY := hid key
  clear key
  go_enter Tryz.func82, Tryz.ntmps82
  go_upto_region 5 with fail
  have hcI : ((i : Int) + 1 ≤ (cap : Int)) := by omega
  by_cases hc : i + 1 = cap
  · obtain rfl : m = 0 := by omega
    subst hc
    refine wp_region_tail 6 (by kernel_rfl) (by kernel_rfl) ?_
    simp only [List.take_succ_cons, List.take_zero, List.drop_succ_cons, List.drop_zero]
    repeat (go_big_quiet_step (fail))
    refine wpQuiet_nil ?_
    rintro w1 ⟨⟨_, he1⟩, rfl⟩
    have A1 := hid (HA.out.ext he1)
    refine wpList_append_room rfl (.tmp 22) (.tmp 25) 45 rfl el45 (k := i) (m := 0) (off := 0) rfl rfl A1.out (by omega) (by omega) (by omega) ?_
    intro w2 A2 E2 C2
    have A2 := hid A2
    go_wp2_with ((with_reducible refine wpList_here ⟨none, .call { callee := .builtin .clear, args := #[_], argTypes := #[45] }, _, _, _, _⟩ ?_); refine wpList_clear_ch rfl _ 45 rfl el45 (z := .agg #[.int .i64 0, .int .i64 0]) el45z rfl (g := g) (s := i * 2) (n := 1) (cap := 1) rfl A2.out (by omega) ?_; intro w3 A3 E3 C3)
    go_ret
    have C1 : Ch (· = g) w w1 := chE (Ch.refl _ _) he1
    refine ⟨rfl, E3 _ (E2 _ (he0.trans he1) hB) hB, (C1.trans C2 fun _ _ h => h).trans C3 fun _ _ h => h, (A3.mono (by omega)).congr fun q hq => ?_⟩
    rw [if_neg (by omega), if_neg (by omega), if_pos (by omega)]
  · have hc1 : ((i : Int) + 1 < (cap : Int)) := by omega
    refine wp_region_tail 6 (by kernel_rfl) (by kernel_rfl) ?_
    simp only [List.take_succ_cons, List.take_zero, List.drop_succ_cons, List.drop_zero]
    repeat (go_big_quiet_step (fail))
    refine wpQuiet_nil ?_
    rintro w1 ⟨⟨_, he1⟩, rfl⟩
    have A1 := hid (HA.out.ext he1)
    refine wpList_append_room rfl (.tmp 22) (.tmp 25) 45 rfl el45 (k := i) (m := m) (off := (i + 1) * 2) rfl rfl A1.out (by omega) (by omega) (by omega) ?_
    intro w2 A2 E2 C2
    have A2 := hid A2
    have hlm : ((i : Int) + (m : Int) ≤ (cap : Int)) := by omega
    go_wp2_with ((with_reducible refine wpList_here ⟨none, .call { callee := .builtin .clear, args := #[_], argTypes := #[45] }, _, _, _, _⟩ ?_); refine wpList_clear_ch rfl _ 45 rfl el45 (z := .agg #[.int .i64 0, .int .i64 0]) el45z rfl (g := g) (s := (i + m) * 2) (n := i + 1 + m - (i + m)) (cap := cap - (i + m)) rfl A2.out (by omega) ?_; intro w3 A3 E3 C3)
    go_ret
    have C1 : Ch (· = g) w w1 := chE (Ch.refl _ _) he1
    refine ⟨by rw [show i + 1 + m - 1 = i + m by omega]; rfl, E3 _ (E2 _ (he0.trans he1) hB) hB, (C1.trans C2 fun _ _ h => h).trans C3 fun _ _ h => h, (A3.mono (by omega)).congr fun q hq => ?_⟩
    rw [if_neg (by omega), KEY.out q (by omega)]
theorem delete99 {w0 w : World} {g cap n i : Nat} {ii jj : Int} {h : Nat → Int} (he0 : Ext w0 w) (hB : w0.heap.size ≤ g) (hn : n ≤ 1000) (hcap : n ≤ cap) (hi : i < n) (hii : ii = (i : Int)) (hjj : jj = (i : Int) + 1) (hA : Arr w g (n * 3) h) :
    Calls Tryz.prog 99 #[.slice (some ⟨g, 0, none⟩) n cap, .int .i64 ii, .int .i64 jj] w fun e w' => e = .returned (.slice (some ⟨g, 0, none⟩) (n - 1) cap) ∧ Ext w0 w' ∧ Ch (· = g) w w' ∧ Arr w' g ((n - 1) * 3) (fun q => if q < i * 3 then h q else h (q + 3)) := by
  subst hii hjj
  have HA := hid hA
  clear hA
  have hne : ((i : Int) == (i : Int) + 1) = false := by simp; omega
  obtain ⟨m, rfl⟩ : ∃ m, n = i + 1 + m := ⟨n - (i + 1), by omega⟩
  have key : ∀ q, q < (i + m) * 3 → (if i * 3 ≤ q ∧ q < i * 3 + m * 3 then h ((i + 1) * 3 + (q - i * 3)) else h q) = if q < i * 3 then h q else h (q + 3) := fun q hq => by
    by_cases h1 : q < i * 3
    · rw [if_pos h1, if_neg (by omega)]
    · rw [if_neg h1, if_pos (by omega)]
      congr 1; omega
  have KEY := hid key
  clear key
  go_enter Tryz.func99, Tryz.ntmps99
  go_upto_region 5 with fail
  have hcI : ((i : Int) + 1 ≤ (cap : Int)) := by omega
  by_cases hc : i + 1 = cap
  · obtain rfl : m = 0 := by omega
    subst hc
    refine wp_region_tail 6 (by kernel_rfl) (by kernel_rfl) ?_
    simp only [List.take_succ_cons, List.take_zero, List.drop_succ_cons, List.drop_zero]
    repeat (go_big_quiet_step (fail))
    refine wpQuiet_nil ?_
    rintro w1 ⟨⟨_, he1⟩, rfl⟩
    have A1 := hid (HA.out.ext he1)
    refine wpList_append_room rfl (.tmp 22) (.tmp 25) 22 rfl el22 (k := i) (m := 0) (off := 0) rfl rfl A1.out (by omega) (by omega) (by omega) ?_
    intro w2 A2 E2 C2
    have A2 := hid A2
    go_wp2_with ((with_reducible refine wpList_here ⟨none, .call { callee := .builtin .clear, args := #[_], argTypes := #[22] }, _, _, _, _⟩ ?_); refine wpList_clear_ch rfl _ 22 rfl el22 (z := .agg #[.int .i64 0, .int .i64 0, .int .i64 0]) el22z' rfl (g := g) (s := i * 3) (n := 1) (cap := 1) rfl A2.out (by omega) ?_; intro w3 A3 E3 C3)
    go_ret
    have C1 : Ch (· = g) w w1 := chE (Ch.refl _ _) he1
    refine ⟨rfl, E3 _ (E2 _ (he0.trans he1) hB) hB, (C1.trans C2 fun _ _ h => h).trans C3 fun _ _ h => h, (A3.mono (by omega)).congr fun q hq => ?_⟩
    rw [if_neg (by omega), if_neg (by omega), if_pos (by omega)]
  · have hc1 : ((i : Int) + 1 < (cap : Int)) := by omega
    refine wp_region_tail 6 (by kernel_rfl) (by kernel_rfl) ?_
    simp only [List.take_succ_cons, List.take_zero, List.drop_succ_cons, List.drop_zero]
    repeat (go_big_quiet_step (fail))
    refine wpQuiet_nil ?_
    rintro w1 ⟨⟨_, he1⟩, rfl⟩
    have A1 := hid (HA.out.ext he1)
    refine wpList_append_room rfl (.tmp 22) (.tmp 25) 22 rfl el22 (k := i) (m := m) (off := (i + 1) * 3) rfl rfl A1.out (by omega) (by omega) (by omega) ?_
    intro w2 A2 E2 C2
    have A2 := hid A2
    have hlm : ((i : Int) + (m : Int) ≤ (cap : Int)) := by omega
    go_wp2_with ((with_reducible refine wpList_here ⟨none, .call { callee := .builtin .clear, args := #[_], argTypes := #[22] }, _, _, _, _⟩ ?_); refine wpList_clear_ch rfl _ 22 rfl el22 (z := .agg #[.int .i64 0, .int .i64 0, .int .i64 0]) el22z' rfl (g := g) (s := (i + m) * 3) (n := i + 1 + m - (i + m)) (cap := cap - (i + m)) rfl A2.out (by omega) ?_; intro w3 A3 E3 C3)
    go_ret
    have C1 : Ch (· = g) w w1 := chE (Ch.refl _ _) he1
    refine ⟨by rw [show i + 1 + m - 1 = i + m by omega]; rfl, E3 _ (E2 _ (he0.trans he1) hB) hB, (C1.trans C2 fun _ _ h => h).trans C3 fun _ _ h => h, (A3.mono (by omega)).congr fun q hq => ?_⟩
    rw [if_neg (by omega), KEY.out q (by omega)]
end Go.Proofs.YtkhjmedfhobebaaGreat
