/- Walks of instances of library functions that copy and compare lists. No condition. -/
import Derived.Test.YtkhjmedfhobebaaGreatGenA
import Derived.Test.YtkhjmedfhobebaaGreatBaseD
namespace Go.Proofs.YtkhjmedfhobebaaGreat
open Go.RowKit HandSpec
set_option maxHeartbeats 400000
set_option maxRecDepth 100000
def neB (c : Nat) (g h : Nat → Nat → Int) (k : Nat) : Bool := anyTo (fun j => decide (g k j ≠ h k j)) c
/-- Two lists of rows are the same. -/
def eqB (c n m : Nat) (g h : Nat → Nat → Int) : Bool := decide (n = m) && !anyTo (neB c g h) n

theorem el45 : ElemOk Tryz.prog 45 51 2 16 := ⟨Tryz.underlying45, by
  obtain ⟨i, hi, h1, h2, h3⟩ := info_parts (show (Tryz.prog.info? 51).map (fun i => (i.zero, i.size, i.bytes)) = some (some (.agg #[.int .i64 0, .int .i64 0]), 2, 16) by kernel_rfl)
  exact ⟨i, _, hi, h1, h2, h3, rfl⟩, by omega, by omega⟩

theorem el56 : ElemOk Tryz.prog 56 3 1 8 := ⟨Tryz.underlying56, by
  obtain ⟨i, hi, h1, h2, h3⟩ := info_parts (show (Tryz.prog.info? 3).map (fun i => (i.zero, i.size, i.bytes)) = some (some (.int .i64 0), 1, 8) by kernel_rfl)
  exact ⟨i, _, hi, h1, h2, h3, rfl⟩, by omega, by omega⟩

theorem el22 : ElemOk Tryz.prog 22 79 3 24 := ⟨Tryz.underlying22, by
  obtain ⟨i, hi, h1, h2, h3⟩ := info_parts (show (Tryz.prog.info? 79).map (fun i => (i.zero, i.size, i.bytes)) = some (some (.agg #[.int .i64 0, .int .i64 0, .int .i64 0]), 3, 24) by kernel_rfl)
  exact ⟨i, _, hi, h1, h2, h3, rfl⟩, by omega, by omega⟩

theorem el23 : ElemOk Tryz.prog 23 119 2 16 := ⟨Tryz.underlying23, by
  obtain ⟨i, hi, h1, h2, h3⟩ := info_parts (show (Tryz.prog.info? 119).map (fun i => (i.zero, i.size, i.bytes)) = some (some (.agg #[.int .i64 0, .int .i64 0]), 2, 16) by kernel_rfl)
  exact ⟨i, _, hi, h1, h2, h3, rfl⟩, by omega, by omega⟩

theorem el24 : ElemOk Tryz.prog 24 114 3 24 := ⟨Tryz.underlying24, by
  obtain ⟨i, hi, h1, h2, h3⟩ := info_parts (show (Tryz.prog.info? 114).map (fun i => (i.zero, i.size, i.bytes)) = some (some (.agg #[.int .i64 0, .int .i64 0, .int .i64 0]), 3, 24) by kernel_rfl)
  exact ⟨i, _, hi, h1, h2, h3, rfl⟩, by omega, by omega⟩

theorem clone80 {w : World} {A : Option Addr} {n cap : Nat} {g : Nat → Nat → Int} (hr : Rd w A n 2 g) (hn : n ≤ 1000) :
    Calls Tryz.prog 80 #[.slice A n cap] w fun e w' => ∃ u, e = .returned u ∧ Ext w w' ∧ OwnR w' w.heap.size 51 2 u (rowsG 2 n g) := by
  cases A with
  | none =>
    obtain rfl : n = 0 := by rcases hr.wf with h | ⟨b, o, h⟩ <;> first | exact h | cases h
    have hnil := fun (w : World) => Lib.run_eql_slice_nil (P := Tryz.prog) w 45 51 none 0 cap 0 0 Tryz.underlying45
    clear hr
    go_enter Tryz.func80, Tryz.ntmps80
    go_wp2
    go_ret
    exact ⟨_, rfl, Ext.refl _, by simpa [rowsG] using OwnR.nil⟩
  | some ad =>
    have hnil := fun (w : World) => Lib.run_eql_slice_nil (P := Tryz.prog) w 45 51 (some ad) n cap 0 0 Tryz.underlying45
    go_enter Tryz.func80, Tryz.ntmps80
    go_wp2_with (at_builtin; refine wpList_append_rd rfl _ _ 45 rfl el45 rfl (OwnR.made (B := w.heap.size) (c := 2) [] (by simp) rfl (n := 0) rfl (Nat.le_refl _) (by omega)) rfl (hr.ext ((Ext.refl _).alloc _)) (by simp; omega) (by simp) ?_; intro v' w2 hown2 hg2)
    go_ret
    have hg2 : World.grownBy _ w2 (some w.heap.size) := hg2
    exact ⟨_, rfl, ((Ext.refl _).alloc _).grown hg2 (fun k hk => by cases hk; omega), by simpa using hown2⟩

theorem clone100 {w : World} {A : Option Addr} {n cap : Nat} {g : Nat → Nat → Int} (hr : Rd w A n 3 g) (hn : n ≤ 1000) :
    Calls Tryz.prog 100 #[.slice A n cap] w fun e w' => ∃ u, e = .returned u ∧ Ext w w' ∧ OwnR w' w.heap.size 79 3 u (rowsG 3 n g) := by
  cases A with
  | none =>
    obtain rfl : n = 0 := by rcases hr.wf with h | ⟨b, o, h⟩ <;> first | exact h | cases h
    have hnil := fun (w : World) => Lib.run_eql_slice_nil (P := Tryz.prog) w 22 79 none 0 cap 0 0 Tryz.underlying22
    clear hr
    go_enter Tryz.func100, Tryz.ntmps100
    go_wp2
    go_ret
    exact ⟨_, rfl, Ext.refl _, by simpa [rowsG] using OwnR.nil⟩
  | some ad =>
    have hnil := fun (w : World) => Lib.run_eql_slice_nil (P := Tryz.prog) w 22 79 (some ad) n cap 0 0 Tryz.underlying22
    go_enter Tryz.func100, Tryz.ntmps100
    go_wp2_with (at_builtin; refine wpList_append_rd rfl _ _ 22 rfl el22 rfl (OwnR.made (B := w.heap.size) (c := 3) [] (by simp) rfl (n := 0) rfl (Nat.le_refl _) (by omega)) rfl (hr.ext ((Ext.refl _).alloc _)) (by simp; omega) (by simp) ?_; intro v' w2 hown2 hg2)
    go_ret
    have hg2 : World.grownBy _ w2 (some w.heap.size) := hg2
    exact ⟨_, rfl, ((Ext.refl _).alloc _).grown hg2 (fun k hk => by cases hk; omega), by simpa using hown2⟩

theorem clone167 {w : World} {A : Option Addr} {n cap : Nat} {g : Nat → Nat → Int} (hr : Rd w A n 2 g) (hn : n ≤ 1000) :
    Calls Tryz.prog 167 #[.slice A n cap] w fun e w' => ∃ u, e = .returned u ∧ Ext w w' ∧ OwnR w' w.heap.size 119 2 u (rowsG 2 n g) := by
  cases A with
  | none =>
    obtain rfl : n = 0 := by rcases hr.wf with h | ⟨b, o, h⟩ <;> first | exact h | cases h
    have hnil := fun (w : World) => Lib.run_eql_slice_nil (P := Tryz.prog) w 23 119 none 0 cap 0 0 Tryz.underlying23
    clear hr
    go_enter Tryz.func167, Tryz.ntmps167
    go_wp2
    go_ret
    exact ⟨_, rfl, Ext.refl _, by simpa [rowsG] using OwnR.nil⟩
  | some ad =>
    have hnil := fun (w : World) => Lib.run_eql_slice_nil (P := Tryz.prog) w 23 119 (some ad) n cap 0 0 Tryz.underlying23
    go_enter Tryz.func167, Tryz.ntmps167
    go_wp2_with (at_builtin; refine wpList_append_rd rfl _ _ 23 rfl el23 rfl (OwnR.made (B := w.heap.size) (c := 2) [] (by simp) rfl (n := 0) rfl (Nat.le_refl _) (by omega)) rfl (hr.ext ((Ext.refl _).alloc _)) (by simp; omega) (by simp) ?_; intro v' w2 hown2 hg2)
    go_ret
    have hg2 : World.grownBy _ w2 (some w.heap.size) := hg2
    exact ⟨_, rfl, ((Ext.refl _).alloc _).grown hg2 (fun k hk => by cases hk; omega), by simpa using hown2⟩

theorem clone168 {w : World} {A : Option Addr} {n cap : Nat} {g : Nat → Nat → Int} (hr : Rd w A n 3 g) (hn : n ≤ 1000) :
    Calls Tryz.prog 168 #[.slice A n cap] w fun e w' => ∃ u, e = .returned u ∧ Ext w w' ∧ OwnR w' w.heap.size 114 3 u (rowsG 3 n g) := by
  cases A with
  | none =>
    obtain rfl : n = 0 := by rcases hr.wf with h | ⟨b, o, h⟩ <;> first | exact h | cases h
    have hnil := fun (w : World) => Lib.run_eql_slice_nil (P := Tryz.prog) w 24 114 none 0 cap 0 0 Tryz.underlying24
    clear hr
    go_enter Tryz.func168, Tryz.ntmps168
    go_wp2
    go_ret
    exact ⟨_, rfl, Ext.refl _, by simpa [rowsG] using OwnR.nil⟩
  | some ad =>
    have hnil := fun (w : World) => Lib.run_eql_slice_nil (P := Tryz.prog) w 24 114 (some ad) n cap 0 0 Tryz.underlying24
    go_enter Tryz.func168, Tryz.ntmps168
    go_wp2_with (at_builtin; refine wpList_append_rd rfl _ _ 24 rfl el24 rfl (OwnR.made (B := w.heap.size) (c := 3) [] (by simp) rfl (n := 0) rfl (Nat.le_refl _) (by omega)) rfl (hr.ext ((Ext.refl _).alloc _)) (by simp; omega) (by simp) ?_; intro v' w2 hown2 hg2)
    go_ret
    have hg2 : World.grownBy _ w2 (some w.heap.size) := hg2
    exact ⟨_, rfl, ((Ext.refl _).alloc _).grown hg2 (fun k hk => by cases hk; omega), by simpa using hown2⟩

theorem clone202 {w : World} {A : Option Addr} {n cap : Nat} {g : Nat → Nat → Int} (hr : Rd w A n 1 g) (hn : n ≤ 1000) :
    Calls Tryz.prog 202 #[.slice A n cap] w fun e w' => ∃ u, e = .returned u ∧ Ext w w' ∧ OwnR w' w.heap.size 3 1 u (rowsG 1 n g) := by
  cases A with
  | none =>
    obtain rfl : n = 0 := by rcases hr.wf with h | ⟨b, o, h⟩ <;> first | exact h | cases h
    have hnil := fun (w : World) => Lib.run_eql_slice_nil (P := Tryz.prog) w 56 3 none 0 cap 0 0 Tryz.underlying56
    clear hr
    go_enter Tryz.func202, Tryz.ntmps202
    go_wp2
    go_ret
    exact ⟨_, rfl, Ext.refl _, by simpa [rowsG] using OwnR.nil⟩
  | some ad =>
    have hnil := fun (w : World) => Lib.run_eql_slice_nil (P := Tryz.prog) w 56 3 (some ad) n cap 0 0 Tryz.underlying56
    go_enter Tryz.func202, Tryz.ntmps202
    go_wp2_with (at_builtin; refine wpList_append_rd rfl _ _ 56 rfl el56 rfl (OwnR.made (B := w.heap.size) (c := 1) [] (by simp) rfl (n := 0) rfl (Nat.le_refl _) (by omega)) rfl (hr.ext ((Ext.refl _).alloc _)) (by simp; omega) (by simp) ?_; intro v' w2 hown2 hg2)
    go_ret
    have hg2 : World.grownBy _ w2 (some w.heap.size) := hg2
    exact ⟨_, rfl, ((Ext.refl _).alloc _).grown hg2 (fun k hk => by cases hk; omega), by simpa using hown2⟩

theorem dup39 {w : World} {A : Option Addr} {n cap : Nat} {g : Nat → Nat → Int} (hr : Rd w A n 2 g) (hn : n ≤ 1000) :
    Calls Tryz.prog 39 #[.slice A n cap] w fun e w' => ∃ u, e = .returned u ∧ Ext w w' ∧ OwnR w' w.heap.size 51 2 u (rowsG 2 n g) := by
  obtain ⟨i, z, hi, hz, h1, h2, h3⟩ := el45.i
  go_enter Tryz.func39, Tryz.ntmps39
  go_wp2_with (first
    | (at_make; refine wpList_make_own _ rfl _ _ 45 rfl w.heap.size 51 i z 2 Tryz.underlying45 hi hz h1 .i64 .i64 _ n rfl rfl rfl (by rw [h2]; omega) (by unfold maxLen; omega) (Nat.le_refl _) ?_; intro w1 hown1 hg1)
    | (at_builtin; refine wpList_append_rd rfl _ _ 45 rfl el45 rfl (⟨by simp, hown1⟩ : OwnR w1 w.heap.size 51 2 (.slice (some ⟨w.heap.size, 0, none⟩) 0 n) []) rfl (hr.ext ((Ext.refl _).grown hg1 (fun k hk => by cases hk))) (by simp; omega) hg1.size ?_; intro v' w2 hown2 hg2))
  go_ret
  have hg2 : World.grownBy _ w2 (some w.heap.size) := hg2
  exact ⟨_, rfl, ((Ext.refl _).grown hg1 (fun k hk => by cases hk)).grown hg2 (fun k hk => by cases hk; omega), by simpa using hown2⟩

theorem dup75 {w : World} {A : Option Addr} {n cap : Nat} {g : Nat → Nat → Int} (hr : Rd w A n 1 g) (hn : n ≤ 1000) :
    Calls Tryz.prog 75 #[.slice A n cap] w fun e w' => ∃ u, e = .returned u ∧ Ext w w' ∧ OwnR w' w.heap.size 3 1 u (rowsG 1 n g) := by
  obtain ⟨i, z, hi, hz, h1, h2, h3⟩ := el56.i
  go_enter Tryz.func75, Tryz.ntmps75
  go_wp2_with (first
    | (at_make; refine wpList_make_own _ rfl _ _ 56 rfl w.heap.size 3 i z 1 Tryz.underlying56 hi hz h1 .i64 .i64 _ n rfl rfl rfl (by rw [h2]; omega) (by unfold maxLen; omega) (Nat.le_refl _) ?_; intro w1 hown1 hg1)
    | (at_builtin; refine wpList_append_rd rfl _ _ 56 rfl el56 rfl (⟨by simp, hown1⟩ : OwnR w1 w.heap.size 3 1 (.slice (some ⟨w.heap.size, 0, none⟩) 0 n) []) rfl (hr.ext ((Ext.refl _).grown hg1 (fun k hk => by cases hk))) (by simp; omega) hg1.size ?_; intro v' w2 hown2 hg2))
  go_ret
  have hg2 : World.grownBy _ w2 (some w.heap.size) := hg2
  exact ⟨_, rfl, ((Ext.refl _).grown hg1 (fun k hk => by cases hk)).grown hg2 (fun k hk => by cases hk; omega), by simpa using hown2⟩

theorem dup114 {w : World} {A : Option Addr} {n cap : Nat} {g : Nat → Nat → Int} (hr : Rd w A n 3 g) (hn : n ≤ 1000) :
    Calls Tryz.prog 114 #[.slice A n cap] w fun e w' => ∃ u, e = .returned u ∧ Ext w w' ∧ OwnR w' w.heap.size 79 3 u (rowsG 3 n g) := by
  obtain ⟨i, z, hi, hz, h1, h2, h3⟩ := el22.i
  go_enter Tryz.func114, Tryz.ntmps114
  go_wp2_with (first
    | (at_make; refine wpList_make_own _ rfl _ _ 22 rfl w.heap.size 79 i z 3 Tryz.underlying22 hi hz h1 .i64 .i64 _ n rfl rfl rfl (by rw [h2]; omega) (by unfold maxLen; omega) (Nat.le_refl _) ?_; intro w1 hown1 hg1)
    | (at_builtin; refine wpList_append_rd rfl _ _ 22 rfl el22 rfl (⟨by simp, hown1⟩ : OwnR w1 w.heap.size 79 3 (.slice (some ⟨w.heap.size, 0, none⟩) 0 n) []) rfl (hr.ext ((Ext.refl _).grown hg1 (fun k hk => by cases hk))) (by simp; omega) hg1.size ?_; intro v' w2 hown2 hg2))
  go_ret
  have hg2 : World.grownBy _ w2 (some w.heap.size) := hg2
  exact ⟨_, rfl, ((Ext.refl _).grown hg1 (fun k hk => by cases hk)).grown hg2 (fun k hk => by cases hk; omega), by simpa using hown2⟩

theorem dup115 {w : World} {A : Option Addr} {n cap : Nat} {g : Nat → Nat → Int} (hr : Rd w A n 2 g) (hn : n ≤ 1000) :
    Calls Tryz.prog 115 #[.slice A n cap] w fun e w' => ∃ u, e = .returned u ∧ Ext w w' ∧ OwnR w' w.heap.size 119 2 u (rowsG 2 n g) := by
  obtain ⟨i, z, hi, hz, h1, h2, h3⟩ := el23.i
  go_enter Tryz.func115, Tryz.ntmps115
  go_wp2_with (first
    | (at_make; refine wpList_make_own _ rfl _ _ 23 rfl w.heap.size 119 i z 2 Tryz.underlying23 hi hz h1 .i64 .i64 _ n rfl rfl rfl (by rw [h2]; omega) (by unfold maxLen; omega) (Nat.le_refl _) ?_; intro w1 hown1 hg1)
    | (at_builtin; refine wpList_append_rd rfl _ _ 23 rfl el23 rfl (⟨by simp, hown1⟩ : OwnR w1 w.heap.size 119 2 (.slice (some ⟨w.heap.size, 0, none⟩) 0 n) []) rfl (hr.ext ((Ext.refl _).grown hg1 (fun k hk => by cases hk))) (by simp; omega) hg1.size ?_; intro v' w2 hown2 hg2))
  go_ret
  have hg2 : World.grownBy _ w2 (some w.heap.size) := hg2
  exact ⟨_, rfl, ((Ext.refl _).grown hg1 (fun k hk => by cases hk)).grown hg2 (fun k hk => by cases hk; omega), by simpa using hown2⟩

theorem dup116 {w : World} {A : Option Addr} {n cap : Nat} {g : Nat → Nat → Int} (hr : Rd w A n 3 g) (hn : n ≤ 1000) :
    Calls Tryz.prog 116 #[.slice A n cap] w fun e w' => ∃ u, e = .returned u ∧ Ext w w' ∧ OwnR w' w.heap.size 114 3 u (rowsG 3 n g) := by
  obtain ⟨i, z, hi, hz, h1, h2, h3⟩ := el24.i
  go_enter Tryz.func116, Tryz.ntmps116
  go_wp2_with (first
    | (at_make; refine wpList_make_own _ rfl _ _ 24 rfl w.heap.size 114 i z 3 Tryz.underlying24 hi hz h1 .i64 .i64 _ n rfl rfl rfl (by rw [h2]; omega) (by unfold maxLen; omega) (Nat.le_refl _) ?_; intro w1 hown1 hg1)
    | (at_builtin; refine wpList_append_rd rfl _ _ 24 rfl el24 rfl (⟨by simp, hown1⟩ : OwnR w1 w.heap.size 114 3 (.slice (some ⟨w.heap.size, 0, none⟩) 0 n) []) rfl (hr.ext ((Ext.refl _).grown hg1 (fun k hk => by cases hk))) (by simp; omega) hg1.size ?_; intro v' w2 hown2 hg2))
  go_ret
  have hg2 : World.grownBy _ w2 (some w.heap.size) := hg2
  exact ⟨_, rfl, ((Ext.refl _).grown hg1 (fun k hk => by cases hk)).grown hg2 (fun k hk => by cases hk; omega), by simpa using hown2⟩

end Go.Proofs.YtkhjmedfhobebaaGreat
