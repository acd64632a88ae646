/- Walks of slices.Delete of one element of a list that is one's own; no other block changes. The element is there. -/
import Derived.Test.YtkhjmedfhobebaaGreatDel
import Derived.ArgAppend
namespace Go.Proofs.YtkhjmedfhobebaaGreat
open Go.RowKit HandSpec
set_option maxHeartbeats 1600000
set_option maxRecDepth 100000
/-- 'append' of a piece of a block to a piece that starts with it, where there is room. -/
theorem wpList_append_room {P : Program} {w : World} {ops : Array Oper} {rest : List Oper} {o : Oper} {a : Act} {Q : Exit → Act → World → Prop} (hgd : o.guard = none) (s x : Operand) (T : TypeId)
    (ho : o.op = .call { callee := .builtin .append, args := #[s, x], argTypes := #[T, T] }) {e : TypeId} {c bytes : Nat} (hE : ElemOk P T e c bytes)
    {g N k cap m off c2 : Nat} {h : Nat → Int} (hs : a.eval s = .slice (some ⟨g, 0, none⟩) k cap) (hx : a.eval x = .slice (some ⟨g, off, none⟩) m c2) (ha : Arr w g N h) (hroom : k + m ≤ cap) (h1 : k * c + m * c ≤ N) (h2 : off + m * c ≤ N)
    (hk : ∀ w', Arr w' g N (fun i => if k * c ≤ i ∧ i < k * c + m * c then h (off + (i - k * c)) else h i) → (∀ w0, Ext w0 w → w0.heap.size ≤ g → Ext w0 w') → Ch (· = g) w w' → wpList P ops Q rest (a.put o.dst (.slice (some ⟨g, 0, none⟩) (k + m) cap)) w') :
    wpList P ops Q (o :: rest) a w := by
  obtain ⟨i, z, hi, hz, h3, h4, h5⟩ := hE.i
  subst h3
  refine wpList_plain hgd fun K hK => ?_
  have hl : ((List.range (m * i.size)).map fun j => Value.int .i64 (h (off + j))).length = m * i.size := by simp
  have hst := run_append_room_cells (P := P) w T o.type e i hE.u hi g 0 k cap ⟨g, off, none⟩ m c2 ((List.range (m * i.size)).map fun j => Value.int .i64 (h (off + j))) hl (fun j u hu => by
      rw [List.getElem?_map] at hu
      rcases Nat.lt_or_ge j (m * i.size) with hj | hj
      · rw [List.getElem?_range hj] at hu
        simp only [Option.map_some, Option.some.injEq] at hu
        rw [addr_add, ← hu]
        exact ha.cell (by omega)
      · rw [List.getElem?_eq_none (by simpa using hj)] at hu
        cases hu) (fun u hu => by
      simp only [List.mem_map] at hu
      obtain ⟨_, _, rfl⟩ := hu
      rfl) hroom (fun j hj => by rw [hl] at hj; rw [ha.cell (by omega)]; rfl) (fun j hj => by rw [hl] at hj; exact ha.frozen (by omega))
  unfold Oper.wp
  simp [execOp, ho, resolve, invoke, builtin, hs, hx, hst, Result.andThen]
  refine hK _ _ (hk _ ⟨by rw [size_setCells]; exact ha.1, fun q hq => ⟨?_, ?_⟩⟩ (fun w0 h0 hg => below_setCells hg _ _ _ h0) ⟨Nat.le_of_eq (size_setCells g _ _ _).symm, fun b _ hb => heap_setCells g _ _ _ b hb⟩)
  · by_cases hin : k * i.size ≤ q ∧ q < k * i.size + m * i.size
    · show _ = some (Value.int .i64 (if _ then _ else _))
      rw [if_pos hin]
      have := World.cell?_setCells_in g ((List.range (m * i.size)).map fun j => Value.int .i64 (h (off + j))) (k * i.size) w (fun j hj => by rw [hl] at hj; rw [ha.cell (by omega)]; rfl) (q - k * i.size) (by rw [hl]; omega)
      rw [show k * i.size + (q - k * i.size) = q by omega] at this
      rw [this, List.getElem_map, List.getElem_range]
    · show _ = some (Value.int .i64 (if _ then _ else _))
      rw [if_neg hin, World.cell?_setCells_out _ _ _ _ _ (fun _ _ => by simp only [hl]; omega)]
      exact ha.cell hq
  · rw [World.frozen?_setCells]; exact ha.frozen hq
theorem el22z' (w : World) : (zeroValue 79).run Tryz.prog w = .ok (.agg #[.int .i64 0, .int .i64 0, .int .i64 0]) w := by kernel_rfl
theorem delete82 {w0 w : World} {g cap n i : Nat} {ii jj : Int} {h : Nat → Int} (he0 : Ext w0 w) (hB : w0.heap.size ≤ g) (hn : n ≤ 1000) (hcap : n ≤ cap) (hi : i < n) (hii : ii = (i : Int)) (hjj : jj = (i : Int) + 1) (hA : Arr w g (n * 2) h) :
    Calls Tryz.prog 82 #[.slice (some ⟨g, 0, none⟩) n cap, .int .i64 ii, .int .i64 jj] w fun e w' => e = .returned (.slice (some ⟨g, 0, none⟩) (n - 1) cap) ∧ Ext w0 w' ∧ Ch (· = g) w w' ∧ Arr w' g ((n - 1) * 2) (fun q => if q < i * 2 then h q else h (q + 2)) := by
  subst hii hjj
  have HA := hid hA
  clear hA
  have hne : ((i : Int) == (i : Int) + 1) = false := by simp; omega
  obtain ⟨m, rfl⟩ : ∃ m, n = i + 1 + m := ⟨n - (i + 1), by omega⟩
  have key : ∀ q, q < (i + m) * 2 → (if i * 2 ≤ q ∧ q < i * 2 + m * 2 then h ((i + 1) * 2 + (q - i * 2)) else h q) = if q < i * 2 then h q else h (q + 2) := fun q hq => by
    by_cases h1 : q < i * 2
    · rw [if_pos h1, if_neg (by omega)]
    · rw [if_neg h1, if_pos (by omega)]
      congr 1; omega
  have KEY := hid key
  clear key
  go_enter Tryz.func82, Tryz.ntmps82
  go_upto_region 5 with fail
  have hcI : ((i : Int) + 1 ≤ (cap : Int)) := by omega
  by_cases hc : i + 1 = cap
  · obtain rfl : m = 0 := by omega
    subst hc
    refine wp_region_tail 6 (by kernel_rfl) (by kernel_rfl) ?_
    simp only [List.take_succ_cons, List.take_zero, List.drop_succ_cons, List.drop_zero]
    repeat (go_big_quiet_step (fail))
    refine wpQuiet_nil ?_
    rintro w1 ⟨⟨_, he1⟩, rfl⟩
    have A1 := hid (HA.out.ext he1)
    refine wpList_append_room rfl (.tmp 22) (.tmp 25) 45 rfl el45 (k := i) (m := 0) (off := 0) rfl rfl A1.out (by omega) (by omega) (by omega) ?_
    intro w2 A2 E2 C2
    have A2 := hid A2
    go_wp2_with ((with_reducible refine wpList_here ⟨none, .call { callee := .builtin .clear, args := #[_], argTypes := #[45] }, _, _, _, _⟩ ?_); refine wpList_clear_ch rfl _ 45 rfl el45 (z := .agg #[.int .i64 0, .int .i64 0]) el45z rfl (g := g) (s := i * 2) (n := 1) (cap := 1) rfl A2.out (by omega) ?_; intro w3 A3 E3 C3)
    go_ret
    have C1 : Ch (· = g) w w1 := chE (Ch.refl _ _) he1
    refine ⟨rfl, E3 _ (E2 _ (he0.trans he1) hB) hB, (C1.trans C2 fun _ _ h => h).trans C3 fun _ _ h => h, (A3.mono (by omega)).congr fun q hq => ?_⟩
    rw [if_neg (by omega), if_neg (by omega), if_pos (by omega)]
  · have hc1 : ((i : Int) + 1 < (cap : Int)) := by omega
    refine wp_region_tail 6 (by kernel_rfl) (by kernel_rfl) ?_
    simp only [List.take_succ_cons, List.take_zero, List.drop_succ_cons, List.drop_zero]
    repeat (go_big_quiet_step (fail))
    refine wpQuiet_nil ?_
    rintro w1 ⟨⟨_, he1⟩, rfl⟩
    have A1 := hid (HA.out.ext he1)
    refine wpList_append_room rfl (.tmp 22) (.tmp 25) 45 rfl el45 (k := i) (m := m) (off := (i + 1) * 2) rfl rfl A1.out (by omega) (by omega) (by omega) ?_
    intro w2 A2 E2 C2
    have A2 := hid A2
    have hlm : ((i : Int) + (m : Int) ≤ (cap : Int)) := by omega
    go_wp2_with ((with_reducible refine wpList_here ⟨none, .call { callee := .builtin .clear, args := #[_], argTypes := #[45] }, _, _, _, _⟩ ?_); refine wpList_clear_ch rfl _ 45 rfl el45 (z := .agg #[.int .i64 0, .int .i64 0]) el45z rfl (g := g) (s := (i + m) * 2) (n := i + 1 + m - (i + m)) (cap := cap - (i + m)) rfl A2.out (by omega) ?_; intro w3 A3 E3 C3)
    go_ret
    have C1 : Ch (· = g) w w1 := chE (Ch.refl _ _) he1
    refine ⟨by rw [show i + 1 + m - 1 = i + m by omega]; rfl, E3 _ (E2 _ (he0.trans he1) hB) hB, (C1.trans C2 fun _ _ h => h).trans C3 fun _ _ h => h, (A3.mono (by omega)).congr fun q hq => ?_⟩
    rw [if_neg (by omega), KEY.out q (by omega)]
theorem delete99 {w0 w : World} {g cap n i : Nat} {ii jj : Int} {h : Nat → Int} (he0 : Ext w0 w) (hB : w0.heap.size ≤ g) (hn : n ≤ 1000) (hcap : n ≤ cap) (hi : i < n) (hii : ii = (i : Int)) (hjj : jj = (i : Int) + 1) (hA : Arr w g (n * 3) h) :
    Calls Tryz.prog 99 #[.slice (some ⟨g, 0, none⟩) n cap, .int .i64 ii, .int .i64 jj] w fun e w' => e = .returned (.slice (some ⟨g, 0, none⟩) (n - 1) cap) ∧ Ext w0 w' ∧ Ch (· = g) w w' ∧ Arr w' g ((n - 1) * 3) (fun q => if q < i * 3 then h q else h (q + 3)) := by
  subst hii hjj
  have HA := hid hA
  clear hA
  have hne : ((i : Int) == (i : Int) + 1) = false := by simp; omega
  obtain ⟨m, rfl⟩ : ∃ m, n = i + 1 + m := ⟨n - (i + 1), by omega⟩
  have key : ∀ q, q < (i + m) * 3 → (if i * 3 ≤ q ∧ q < i * 3 + m * 3 then h ((i + 1) * 3 + (q - i * 3)) else h q) = if q < i * 3 then h q else h (q + 3) := fun q hq => by
    by_cases h1 : q < i * 3
    · rw [if_pos h1, if_neg (by omega)]
    · rw [if_neg h1, if_pos (by omega)]
      congr 1; omega
  have KEY := hid key
  clear key
  go_enter Tryz.func99, Tryz.ntmps99
  go_upto_region 5 with fail
  have hcI : ((i : Int) + 1 ≤ (cap : Int)) := by omega
  by_cases hc : i + 1 = cap
  · obtain rfl : m = 0 := by omega
    subst hc
    refine wp_region_tail 6 (by kernel_rfl) (by kernel_rfl) ?_
    simp only [List.take_succ_cons, List.take_zero, List.drop_succ_cons, List.drop_zero]
    repeat (go_big_quiet_step (fail))
    refine wpQuiet_nil ?_
    rintro w1 ⟨⟨_, he1⟩, rfl⟩
    have A1 := hid (HA.out.ext he1)
    refine wpList_append_room rfl (.tmp 22) (.tmp 25) 22 rfl el22 (k := i) (m := 0) (off := 0) rfl rfl A1.out (by omega) (by omega) (by omega) ?_
    intro w2 A2 E2 C2
    have A2 := hid A2
    go_wp2_with ((with_reducible refine wpList_here ⟨none, .call { callee := .builtin .clear, args := #[_], argTypes := #[22] }, _, _, _, _⟩ ?_); refine wpList_clear_ch rfl _ 22 rfl el22 (z := .agg #[.int .i64 0, .int .i64 0, .int .i64 0]) el22z' rfl (g := g) (s := i * 3) (n := 1) (cap := 1) rfl A2.out (by omega) ?_; intro w3 A3 E3 C3)
    go_ret
    have C1 : Ch (· = g) w w1 := chE (Ch.refl _ _) he1
    refine ⟨rfl, E3 _ (E2 _ (he0.trans he1) hB) hB, (C1.trans C2 fun _ _ h => h).trans C3 fun _ _ h => h, (A3.mono (by omega)).congr fun q hq => ?_⟩
    rw [if_neg (by omega), if_neg (by omega), if_pos (by omega)]
  · have hc1 : ((i : Int) + 1 < (cap : Int)) := by omega
    refine wp_region_tail 6 (by kernel_rfl) (by kernel_rfl) ?_
    simp only [List.take_succ_cons, List.take_zero, List.drop_succ_cons, List.drop_zero]
    repeat (go_big_quiet_step (fail))
    refine wpQuiet_nil ?_
    rintro w1 ⟨⟨_, he1⟩, rfl⟩
    have A1 := hid (HA.out.ext he1)
    refine wpList_append_room rfl (.tmp 22) (.tmp 25) 22 rfl el22 (k := i) (m := m) (off := (i + 1) * 3) rfl rfl A1.out (by omega) (by omega) (by omega) ?_
    intro w2 A2 E2 C2
    have A2 := hid A2
    have hlm : ((i : Int) + (m : Int) ≤ (cap : Int)) := by omega
    go_wp2_with ((with_reducible refine wpList_here ⟨none, .call { callee := .builtin .clear, args := #[_], argTypes := #[22] }, _, _, _, _⟩ ?_); refine wpList_clear_ch rfl _ 22 rfl el22 (z := .agg #[.int .i64 0, .int .i64 0, .int .i64 0]) el22z' rfl (g := g) (s := (i + m) * 3) (n := i + 1 + m - (i + m)) (cap := cap - (i + m)) rfl A2.out (by omega) ?_; intro w3 A3 E3 C3)
    go_ret
    have C1 : Ch (· = g) w w1 := chE (Ch.refl _ _) he1
    refine ⟨by rw [show i + 1 + m - 1 = i + m by omega]; rfl, E3 _ (E2 _ (he0.trans he1) hB) hB, (C1.trans C2 fun _ _ h => h).trans C3 fun _ _ h => h, (A3.mono (by omega)).congr fun q hq => ?_⟩
    rw [if_neg (by omega), KEY.out q (by omega)]
end Go.Proofs.YtkhjmedfhobebaaGreat
