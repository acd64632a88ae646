/- slices.Insert (156) of one number into an own list: the library's contract, laid at this program. The list has at most 1000 numbers. Shuffle (80): the numbers below n in some order, as an own list. n is at most 100. Plain law of LoanNamed: with other names, and promises in another order, each owes as much; the nets, the open ones and the most groups are the same. Walk of the law LoanNamed (12): for all sacks it returns true. No condition. -/
import Derived.Test.YtbceepjjdfpfmaaGreatFrg
import Derived.Shelf.Spec.SlicesInsertGrow
import Derived.Test.YtbceepjjdfpfmaaGreatMk
import Derived.Test.YtbceepjjdfpfmaaGreatOwdP
import Derived.Test.YtbceepjjdfpfmaaGreatFewT
import Derived.Test.YtbceepjjdfpfmaaGreatAwk
import Derived.Test.YtbceepjjdfpfmaaGreatOpen
namespace Go.Proofs.YtbceepjjdfpfmaaGreat
open Go.RowKit HandSpec LoanSpec
set_option maxHeartbeats 4000000
set_option maxRecDepth 100000
def insRen : Go.Shelf.Ren := ⟨fun | 21 => 156 | 27 => 182 | 28 => 183 | 35 => 195 | 39 => 219 | n => n, fun | 22 => 22 | 3 => 3 | 4 => 4 | 0 => 0 | n => n, fun | n => n⟩
theorem insLays : Go.Proofs.Lays2.n21 Tryz.prog insRen := {
  mixed := by kernel_rfl
  f21 := Tryz.func156.trans (congrArg some (by kernel_rfl))
  f27 := Tryz.func182.trans (congrArg some (by kernel_rfl))
  f28 := Tryz.func183.trans (congrArg some (by kernel_rfl))
  f35 := Tryz.func195.trans (congrArg some (by kernel_rfl))
  f39 := Tryz.func219.trans (congrArg some (by kernel_rfl))
  t0 := Tryz.underlying0
  a0 := Tryz.isAgg0
  z0 := Tryz.sizeOf0
  v0 := Tryz.zeroValue0
  t3 := Tryz.underlying3
  a3 := Tryz.isAgg3
  z3 := Tryz.sizeOf3
  v3 := Tryz.zeroValue3
  t4 := Tryz.underlying4
  a4 := Tryz.isAgg4
  z4 := Tryz.sizeOf4
  v4 := Tryz.zeroValue4
  t22 := Tryz.underlying22
  a22 := Tryz.isAgg22
  z22 := Tryz.sizeOf22
  v22 := Tryz.zeroValue22
  i3 := by kernel_rfl }
/-- An own list of numbers, from its cells. -/
theorem OwnR.ofCells {w : World} {B g cap : Nat} {C : Array Value} {l : List Int} (hB : B ≤ g) (hb : Blk w g 3 C) (h1 : l.length ≤ cap) (h2 : cap ≤ maxLen) (h3 : C.size = cap) (hc : ∀ k, k < l.length → C[k]? = some (.int .i64 (ni l k))) :
    OwnR w B 3 1 (.slice (some ⟨g, 0, none⟩) l.length cap) (rowsI l) := by
  have hr := rowsI_row l
  have hcl := cellsOf_length hr
  refine ⟨hr, hcl, .inr ⟨g, cap, C, by rw [rowsI_length], hB, hb, by rw [rowsI_length]; omega, h2, by rw [h3, Nat.mul_one], ?_⟩⟩
  apply List.ext_getElem?
  intro i
  by_cases hi : i < l.length
  · rw [List.getElem?_take_of_lt (by rw [rowsI_length]; omega), Array.getElem?_toList, hc i hi]
    have h5 := cellsOf_get hr (k := i) (j := 0) (by rw [rowsI_length]; omega) (by omega)
    rw [Nat.mul_one, Nat.add_zero] at h5
    rw [h5]
    simp [rowsI, ni, hi]
  · rw [List.getElem?_take_eq_none (by rw [rowsI_length]; omega), List.getElem?_eq_none (by rw [hcl, rowsI_length]; omega)]
/-- The list with z at place i. -/
def insL (l : List Int) (i : Nat) (z : Int) : List Int := l.take i ++ z :: l.drop i
theorem insL_length {l : List Int} {i : Nat} (h : i ≤ l.length) (z : Int) : (insL l i z).length = l.length + 1 := by
  simp [insL]
  omega
theorem ni_insL {l : List Int} {i : Nat} (h : i ≤ l.length) (z : Int) (k : Nat) : ni (insL l i z) k = if k < i then ni l k else if k = i then z else ni l (k - 1) := by
  have hl : (l.take i).length = i := by simp; omega
  unfold ni insL
  simp only [List.getD_eq_getElem?_getD]
  by_cases h1 : k < i
  · rw [if_pos h1, List.getElem?_append_left (by omega), List.getElem?_take_of_lt h1]
  · rw [if_neg h1, List.getElem?_append_right (by omega), hl]
    by_cases h2 : k = i
    · subst h2; simp
    · rw [if_neg h2]
      obtain ⟨d, rfl⟩ : ∃ d, k = i + (d + 1) := ⟨k - i - 1, by omega⟩
      rw [show i + (d + 1) - i = d + 1 by omega, List.getElem?_cons_succ, List.getElem?_drop, show i + (d + 1) - 1 = i + d by omega]
theorem insL_perm (l : List Int) (i : Nat) (z : Int) : (insL l i z).Perm (z :: l) := by
  unfold insL
  refine List.perm_middle.trans ?_
  rw [List.take_append_drop]
/-- Values of a list of numbers. -/
def valsI (l : List Int) : List Value := l.map fun a => .int .i64 a
theorem valsI_get {l : List Int} {j : Nat} {v : Value} (h : (valsI l)[j]? = some v) : j < l.length ∧ v = .int .i64 (ni l j) := by
  unfold valsI at h
  rw [List.getElem?_map] at h
  rcases Nat.lt_or_ge j l.length with q | q
  · rw [List.getElem?_eq_getElem q] at h
    exact ⟨q, by rw [ni_get l q]; simpa using h.symm⟩
  · rw [List.getElem?_eq_none q] at h
    cases h
theorem valsI_at {l : List Int} {j : Nat} (h : j < l.length) : (valsI l)[j]? = some (.int .i64 (ni l j)) := by
  unfold valsI
  rw [List.getElem?_map, List.getElem?_eq_getElem h, ni_get l h]
  rfl
theorem valsI_one (l : List Int) : ∀ v ∈ valsI l, v.oneCell' = true := fun v h => by
  unfold valsI at h
  simp only [List.mem_map] at h
  obtain ⟨a, -, rfl⟩ := h
  rfl
theorem grown_cells {w w' : World} {g : Nat} {row : Option Nat} (off : Nat) (vs : List Value) (h : w.grownBy w' row) (hg : row = some g ∨ w.heap.size ≤ g) : w.grownBy (w'.setCells g off vs) row := by
  have e : Ext (cutW w' 0) (w'.setCells g off vs) := below_setCells (by rw [cutW_size (Nat.zero_le _)]; exact Nat.zero_le _) _ _ _ (cutW_ext (Nat.zero_le _))
  refine ⟨(Below.os e).trans h.os, (Below.tape e).trans h.tape, (Below.output e).trans h.output, by rw [size_cells]; exact h.size, fun b hb hne => ?_⟩
  rw [heap_cellsL g (fun q => ?_)]
  · exact h.block b hb hne
  · subst q
    rcases hg with q | q
    · exact hne q.symm
    · omega
theorem grown_drew {w w' : World} {row : Option Nat} (h : w.grownBy w' row) : w.grownBy w'.drew row := ⟨h.os, h.tape, h.output, h.size, h.block⟩
theorem _root_.Go.World.grownBy.drewL {w w' : World} {row : Option Nat} (h : w.drew.grownBy w' row) : w.grownBy w' row := ⟨h.os, h.tape, h.output, h.size, h.block⟩
theorem grown_refl (w : World) (row : Option Nat) : w.grownBy w row := ⟨rfl, rfl, rfl, Nat.le_refl _, fun _ _ _ => rfl⟩
theorem grown_alloc {w : World} (o : Obj) (row : Option Nat) : w.grownBy (w.alloc o) row := ⟨rfl, rfl, rfl, by rw [World.size_alloc]; omega, fun b hb _ => ((Ext.refl w).alloc o).block hb⟩
theorem zc_size (n : Nat) : (Builtin.zeroCells (Value.int .i64 0).cells n).size = n := by simp [Builtin.zeroCells, Value.cells]
theorem blk_drew {w : World} {g : Nat} {t : TypeId} {C : Array Value} (h : Blk w g t C) : Blk w.drew g t C := h
/-- What a block holds behind the two copies of an insertion. -/
theorem ins_cells {C C1 C2 : Array Value} {l : List Int} {i : Nat} {z : Int} (hi : i ≤ l.length) (hs : l.length + 1 ≤ C.size) (h0 : ∀ k, k < i → C[k]? = some (.int .i64 (ni l k))) (s1 : C1.size = C.size)
    (h1 : ∀ k, C1[k]? = if i + 1 ≤ k ∧ k < i + 1 + ((valsI l).drop i).length ∧ k < C.size then ((valsI l).drop i)[k - (i + 1)]? else C[k]?)
    (h2 : ∀ k, C2[k]? = if i ≤ k ∧ k < i + (valsI [z]).length ∧ k < C1.size then (valsI [z])[k - i]? else C1[k]?) {k : Nat} (hk : k < l.length + 1) : C2[k]? = some (.int .i64 (ni (insL l i z) k)) := by
  have e1 : (valsI [z]).length = 1 := rfl
  have e2 : ((valsI l).drop i).length = l.length - i := by simp [valsI]
  rw [e1] at h2
  rw [e2] at h1
  rw [h2, ni_insL hi]
  by_cases a : k < i
  · rw [if_neg (by omega), if_pos a, h1, if_neg (by omega)]
    exact h0 k a
  · by_cases b : k = i
    · subst b
      rw [if_pos ⟨by omega, by omega, by omega⟩, if_neg (by omega), if_pos rfl, Nat.sub_self]
      rfl
    · rw [if_neg (by omega), if_neg a, if_neg b, h1, if_pos ⟨by omega, by omega, by omega⟩, List.getElem?_drop, show i + (k - (i + 1)) = k - 1 by omega]
      exact valsI_at (by omega)
theorem ins_cells' {C C1 C2 : Array Value} {l : List Int} {i : Nat} {z : Int} (hi : i ≤ l.length) (hs : l.length + 1 ≤ C.size) (h0 : ∀ k, k < i → C[k]? = some (.int .i64 (ni l k))) (s1 : C1.size = C.size) (s2 : C2.size = C1.size)
    (h1 : ∀ k, C1[k]? = if i ≤ k ∧ k < i + (valsI [z]).length ∧ k < C.size then (valsI [z])[k - i]? else C[k]?)
    (h2 : ∀ k, C2[k]? = if i + 1 ≤ k ∧ k < i + 1 + ((valsI l).drop i).length ∧ k < C1.size then ((valsI l).drop i)[k - (i + 1)]? else C1[k]?) {k : Nat} (hk : k < l.length + 1) : C2[k]? = some (.int .i64 (ni (insL l i z) k)) := by
  have e1 : (valsI [z]).length = 1 := rfl
  have e2 : ((valsI l).drop i).length = l.length - i := by simp [valsI]
  rw [e1] at h1
  rw [e2] at h2
  rw [h2, ni_insL hi]
  by_cases a : k < i
  · rw [if_neg (by omega), if_pos a, h1, if_neg (by omega)]
    exact h0 k a
  · by_cases b : k = i
    · subst b
      rw [if_neg (by omega), if_neg (by omega), if_pos rfl, h1, if_pos ⟨by omega, by omega, by omega⟩, Nat.sub_self]
      rfl
    · rw [if_pos ⟨by omega, by omega, by omega⟩, if_neg a, if_neg b, List.getElem?_drop, show i + (k - (i + 1)) = k - 1 by omega]
      exact valsI_at (by omega)
/-- The library's contract, at the end of the list, where it grows. -/
theorem ins_grow_end {w : World} {B : Nat} {base : Option Addr} {c : Nat} {l : List Int} {z : Int} {vb : Nat} (hnc : l.length ≤ c) (hc : c < l.length + 1) (hn : l.length ≤ 1000) (hnil : base = none → l.length = 0)
    (hcs : ∀ a, base = some a → ∀ j v, (valsI l)[j]? = some v → w.cell? (a.add j) = some v) (hvs : ∀ j u, (valsI [z])[j]? = some u → w.cell? ⟨vb, 0 + j, none⟩ = some u) (hB : B ≤ w.heap.size) (row : Option Nat) :
    Calls Tryz.prog 156 #[.slice base l.length c, .int .i64 (l.length : Int), .slice (some ⟨vb, 0, none⟩) 1 1] w fun e w' => ∃ v', e = .returned v' ∧ OwnR w' B 3 1 v' (rowsI (insL l l.length z)) ∧ w.grownBy w' row := by
  refine (Any2.slices_Insert_int_end_grow insLays base l.length c vb 0 1 1 (valsI l) (valsI [z]) w (by omega) hnc hc (by omega) (by simp [valsI]) rfl hnil hcs hvs (valsI_one _)).mono ?_
  rintro e w' ⟨rfl, rfl⟩
  have hl : (insL l l.length z).length = l.length + 1 := insL_length (Nat.le_refl _) z
  have hge := grownCap_ge w (l.length + 1) c 3
  have hle := grownCap_le_maxLen w (l.length + 1) c 3 (by unfold maxLen; omega)
  have hlen : (valsI l ++ valsI [z]).length = l.length + 1 := by simp [valsI]
  refine ⟨_, rfl, ?_, (grown_alloc (w := w.drew) _ row).drewL⟩
  have := OwnR.ofCells (w := w.drew.alloc (.cells ((valsI l ++ valsI [z]).toArray ++ Builtin.zeroCells (Value.int .i64 0).cells (grownCap w (l.length + 1) c 3 - (l.length + 1))) 3)) (B := B) (l := insL l l.length z) (cap := grownCap w (l.length + 1) c 3) (g := w.heap.size) hB (Blk.new w.drew 3 _) (by omega) hle
    (by rw [Array.size_append, zc_size, List.size_toArray, hlen]; omega)
    (fun k hk => by
      rw [hl] at hk
      rw [Array.getElem?_append_left (by rw [List.size_toArray, hlen]; exact hk), List.getElem?_toArray]
      have e : insL l l.length z = l ++ [z] := by unfold insL; rw [List.take_length, List.drop_length]
      rw [show valsI l ++ valsI [z] = valsI (l ++ [z]) by simp [valsI], e]
      exact valsI_at (by simp; omega))
  rw [hl] at this
  exact this
theorem insert156 {w : World} {B : Nat} {v : Value} {l : List Int} {i : Nat} {z : Int} {vb : Nat} (h : OwnR w B 3 1 v (rowsI l)) (hi : i ≤ l.length) (hn : l.length ≤ 1000) (hvb : Blk w vb 3 #[.int .i64 z]) (hne : v.ownBlock ≠ some vb) (hB : B ≤ w.heap.size) :
    Calls Tryz.prog 156 #[v, .int .i64 (i : Int), .slice (some ⟨vb, 0, none⟩) 1 1] w fun e w' => ∃ v', e = .returned v' ∧ OwnR w' B 3 1 v' (rowsI (insL l i z)) ∧ w.grownBy w' v.ownBlock := by
  have hvs : ∀ j u, (valsI [z])[j]? = some u → w.cell? ⟨vb, 0 + j, none⟩ = some u := fun j u hu => by
    obtain ⟨hj, rfl⟩ := valsI_get hu
    have hj : j < 1 := hj
    obtain rfl : j = 0 := by omega
    rw [hvb.cell]
    rfl
  have hsh : w.shape? vb = some (3, 1) := by unfold World.shape?; rw [hvb]; rfl
  rcases h.2.2 with ⟨rfl, h0⟩ | ⟨g, cap, C, hv, hBg, hh, hnc, hm, hs, ht⟩
  · obtain rfl : l = [] := by
      cases l with
      | nil => rfl
      | cons a l => simp [rowsI] at h0
    obtain rfl : i = 0 := by simpa using hi
    exact ins_grow_end (l := []) (Nat.le_refl _) (by simp) (by simp) (fun _ => rfl) (fun a e => by cases e) hvs hB _
  · subst hv
    rw [rowsI_length] at hnc ht hne ⊢
    rw [Nat.mul_one] at hs
    have hC : ∀ k, k < l.length → C[k]? = some (.int .i64 (ni l k)) := fun k hk => by
      have h5 := cellsOf_get (rowsI_row l) (k := k) (j := 0) (by rw [rowsI_length]; omega) (by omega)
      rw [← ht] at h5
      simp only [Nat.mul_one, Nat.add_zero] at h5
      rw [List.getElem?_take_of_lt (by omega), Array.getElem?_toList] at h5
      rw [h5]
      simp [rowsI, ni, hk]
    have hb : Blk w g 3 C := hh
    have hcell : ∀ k, w.cell? ⟨g, 0 + k, none⟩ = C[k]? := fun k => by rw [Nat.zero_add]; exact hb.cell k
    have hcs : ∀ j u, (valsI l)[j]? = some u → w.cell? ⟨g, 0 + j, none⟩ = some u := fun j u hu => by
      obtain ⟨hj, rfl⟩ := valsI_get hu
      rw [hcell, hC j hj]
    have hvg : vb ≠ g := fun q => hne (by rw [q]; rfl)
    have hlv : (valsI l).length = l.length := by simp [valsI]
    rcases Nat.lt_or_ge i l.length with hin | hin
    · rcases Nat.lt_or_ge l.length cap with hroom | hroom
      · refine (Any2.slices_Insert_int_shift insLays g 0 l.length cap i vb 0 1 1 (valsI l) (valsI [z]) w hin (by omega) (by omega) (by unfold maxLen at hm; omega) hvg hlv rfl hcs
          (fun j hj => by rw [hcell, Array.getElem?_eq_getElem (by omega)]; rfl) (fun j hj => hb.frozen _) hvs (valsI_one _) (valsI_one _) 3 3 1 C.size hsh (by unfold World.shape?; rw [hh]) (by omega) (hvb.frozen _) (hvb.frozen _)).mono ?_
        rintro e w' ⟨rfl, rfl⟩
        simp only [Nat.zero_add]
        obtain ⟨C1, b1, s1, g1⟩ := blk_cells ((valsI l).drop i) (i + 1) C w.drew (blk_drew hb)
        obtain ⟨C2, b2, s2, g2⟩ := blk_cells (valsI [z]) i C1 _ b1
        refine ⟨_, rfl, ?_, grown_cells _ _ (grown_cells _ _ (grown_drew (grown_refl w _)) (.inl rfl)) (.inl rfl)⟩
        have := OwnR.ofCells (B := B) (l := insL l i z) (cap := cap) hBg b2 (by rw [insL_length hi]; omega) hm (by rw [s2, s1]; exact hs) (fun k hk => ins_cells hi (by omega) (fun k hk => hC k (by omega)) s1 g1 g2 (by rw [insL_length hi] at hk; exact hk))
        rw [insL_length hi] at this
        exact this
      · refine (Any2.slices_Insert_int_grow insLays g 0 l.length cap i vb 0 1 1 (valsI l) (valsI [z]) w hin (by omega) hnc (by omega) (by omega) hlv rfl hcs hvs (valsI_one _) (valsI_one _)).mono ?_
        rintro e w' ⟨rfl, rfl⟩
        have hge := grownCap_ge w (l.length + 1) cap 3
        have hle := grownCap_le_maxLen w (l.length + 1) cap 3 (by unfold maxLen; omega)
        have ht3 : insRen.t 3 = 3 := rfl
        rw [ht3]
        obtain ⟨C0, hC0⟩ : ∃ C0, C0 = ((valsI l).take i).toArray ++ Builtin.zeroCells (Value.int .i64 0).cells (l.length + 1 - i) ++ Builtin.zeroCells (Value.int .i64 0).cells (grownCap w (l.length + 1) cap 3 - (l.length + 1)) := ⟨_, rfl⟩
        rw [← hC0]
        have hti : ((valsI l).take i).length = i := by rw [List.length_take, hlv]; omega
        have hs0 : C0.size = grownCap w (l.length + 1) cap 3 := by rw [hC0]; simp only [Array.size_append, zc_size, List.size_toArray, hti]; omega
        have h00 : ∀ k, k < i → C0[k]? = some (.int .i64 (ni l k)) := fun k hk => by
          rw [hC0, Array.append_assoc, Array.getElem?_append_left (by rw [List.size_toArray, hti]; exact hk), List.getElem?_toArray, List.getElem?_take_of_lt hk]
          exact valsI_at (by omega)
        have b0 : Blk (w.alloc (.cells C0 3)).drew w.heap.size 3 C0 := blk_drew (Blk.new w 3 C0)
        obtain ⟨C1, b1, s1, g1⟩ := blk_cells (valsI [z]) i C0 _ b0
        obtain ⟨C2, b2, s2, g2⟩ := blk_cells ((valsI l).drop i) (i + 1) C1 _ (blk_drew b1)
        refine ⟨_, rfl, ?_, grown_cells _ _ (grown_drew (grown_cells _ _ (grown_drew (grown_alloc _ _)) (.inr (Nat.le_refl _)))) (.inr (Nat.le_refl _))⟩
        have := OwnR.ofCells (B := B) (l := insL l i z) (cap := grownCap w (l.length + 1) cap 3) hB b2 (by rw [insL_length hi]; omega) hle (by rw [s2, s1]; exact hs0) (fun k hk => ins_cells' hi (by omega) h00 s1 s2 g1 g2 (by rw [insL_length hi] at hk; exact hk))
        rw [insL_length hi] at this
        exact this
    · obtain rfl : i = l.length := by omega
      rcases Nat.lt_or_ge l.length cap with hroom | hroom
      · refine (Any2.slices_Insert_int_end_room insLays g 0 l.length cap vb 0 1 1 (valsI [z]) w (by omega) (by omega) (by unfold maxLen at hm; omega) rfl
          (fun j hj => by rw [Nat.zero_add, hb.cell, Array.getElem?_eq_getElem (by omega)]; rfl) (fun j hj => hb.frozen _) hvs (valsI_one _)).mono ?_
        rintro e w' ⟨rfl, rfl⟩
        simp only [Nat.zero_add]
        obtain ⟨C2, b2, s2, g2⟩ := blk_cells (valsI [z]) l.length C w hb
        refine ⟨_, rfl, ?_, grown_cells _ _ (grown_refl w _) (.inl rfl)⟩
        have := OwnR.ofCells (B := B) (l := insL l l.length z) (cap := cap) hBg b2 (by rw [insL_length hi]; omega) hm (by rw [s2]; exact hs) (fun k hk => by
          rw [insL_length hi] at hk
          rw [g2, ni_insL hi]
          by_cases a : k < l.length
          · rw [if_neg (by omega), if_pos a]; exact hC k a
          · obtain rfl : k = l.length := by omega
            rw [if_pos ⟨by omega, by show l.length < l.length + 1; omega, by omega⟩, if_neg a, if_pos rfl, Nat.sub_self]
            rfl)
        rw [insL_length hi] at this
        exact this
      · exact ins_grow_end hnc (by omega) hn (fun e => by cases e) (fun a e j u hu => by
          cases e
          have := hcs j u hu
          rw [Nat.zero_add] at this
          rw [addr_add, Nat.zero_add]
          exact this) hvs hB _
end Go.Proofs.YtbceepjjdfpfmaaGreat
namespace Go.Proofs.YtbceepjjdfpfmaaGreat
open Go.RowKit HandSpec LoanSpec
set_option maxHeartbeats 4000000
set_option maxRecDepth 100000
/-- The numbers of a list, as Go's. -/
def ofN (l : List Nat) : List Int := l.map fun k : Nat => (k : Int)
theorem ofN_length (l : List Nat) : (ofN l).length = l.length := by simp [ofN]
theorem ofN_ins {l : List Nat} {q k : Nat} : insL (ofN l) q (k : Int) = ofN (l.take q ++ k :: l.drop q) := by
  unfold insL ofN
  rw [List.map_append, List.map_cons, List.map_take, List.map_drop]
theorem shuffle80 {d : SackD} {w0 W : World} {k0 n : Nat} (hs : Start d w0) (x : Sx d k0 w0 W) (hn : n ≤ 100) (hk0 : k0 ≤ 900000) :
    Calls Tryz.prog 80 #[.pointer (some ⟨d.blk, 0, none⟩), .int .i64 (n : Int)] W fun e w' => ∃ (l : List Nat) (v : Value), e = .returned v ∧ l.Perm (List.range n) ∧ OwnR w' W.heap.size 3 1 v (rowsI (ofN l)) ∧ Sx d n W w' := by
  have HX0 := hid x
  have HS := hid hs
  have hlt : d.blk < W.heap.size := Nat.lt_of_lt_of_le hs.lt x.size
  clear x hs
  go_enter Tryz.func80, Tryz.ntmps80
  go_upto_region 3 with fail
  go_loopw [5, 8] (fun v i Wr => ∃ (j : Nat) (l : List Nat), j ≤ n ∧ i = .int .i64 (j : Int) ∧ Hid (l.Perm (List.range j) ∧ OwnR Wr W.heap.size 3 1 v (rowsI (ofN l)) ∧ Sx d j W Wr)) (fun _ i _ => n - (intOf i).toNat)
  case atStart => exact ⟨0, [], Nat.zero_le _, rfl, hid ⟨List.Perm.refl _, show OwnR W W.heap.size 3 1 (.slice none 0 0) [] from OwnR.nil, Sx.refl d W⟩⟩
  case round =>
    obtain ⟨j, l, hj, rfl, HR⟩ := hrel
    by_cases hlj : j < n
    · have hll := HR.out.1.length_eq
      rw [List.length_range] at hll
      have hO := hid HR.out.2.1
      have hX := hid HR.out.2.2
      have hP := hid HR.out.1
      have hLL := hid hll
      clear HR hll
      go_upto_region 6 with (first
        | (go_at_call 67; refine (below_b HS.out (HX0.out.trans hX.out) (by omega) _ (by omega)).mono ?_; rintro e wz ⟨q, rfl, hq, hsx⟩; have hQ := hid (show q ≤ j by omega); have hO := hid (hO.out.sx hsx (fun e => by have := hO.out.block e; omega)); have hX := hid (hX.out.trans hsx); clear hq hsx)
        | (go_at_call 156; refine (insert156 (l := ofN l) (i := q) (z := (j : Int)) (hO.out.ext ((Ext.refl _).alloc (.cells #[.int .i64 (j : Int)] 3))) (by rw [ofN_length]; have := hQ.out; have := hLL.out; omega) (by rw [ofN_length]; have := hLL.out; omega) (Blk.new _ 3 _) (fun e => by have := hO.out.lt e; omega) (by rw [World.size_alloc]; have := hX.out.size; omega)).mono ?_; rintro e w6 ⟨v', rfl, ho6, hg6⟩; have hO6 := hid ho6; have hG6 := hid hg6; clear ho6 hg6))
      go_wp2_with fail
      go_roundw
      case rel =>
        refine ⟨j + 1, l.take q ++ j :: l.drop q, by omega, by go_num, hid ⟨?_, by rw [← ofN_ins]; exact hO6.out, ?_⟩⟩
        · rw [List.range_succ]
          refine List.perm_middle.trans ?_
          rw [List.take_append_drop]
          exact ((hP.out.cons j).trans (List.perm_append_singleton j _).symm)
        · exact ((hX.out.trans (Sx.ofExt ((Ext.refl _).alloc (.cells #[.int .i64 (j : Int)] 3)))).mono (by omega)).grown hG6.out (fun b hb => hO.out.block hb)
      case measure => simp [intOf]; omega
    · have hjn : j = n := by omega
      subst hjn
      go_wp2_with fail
      go_ret
      exact ⟨l, _, rfl, HR.out.1, HR.out.2.1, HR.out.2.2⟩
end Go.Proofs.YtbceepjjdfpfmaaGreat
namespace Go.Proofs.YtbceepjjdfpfmaaGreat
open Go.RowKit HandSpec LoanSpec
set_option maxHeartbeats 2000000
set_option maxRecDepth 100000
theorem nodup_lenN : ∀ (n : Nat) (l : List Nat), l.Nodup → (∀ x, x ∈ l → x < n) → l.length ≤ n
  | 0, l, _, h => by
    cases l with
    | nil => simp
    | cons a l => exact absurd (h a (by simp)) (by omega)
  | n + 1, l, hd, h => by
    by_cases e : n ∈ l
    · have := nodup_lenN n (l.erase n) (hd.erase n) fun x hx => by
        rw [hd.mem_erase_iff] at hx
        have := h x hx.2
        have := hx.1
        omega
      rw [List.length_erase_of_mem e] at this
      omega
    · have := nodup_lenN n l hd fun x hx => by
        have := h x hx
        have : x ≠ n := fun q => e (q ▸ hx)
        omega
      omega
/-- The numbers below n in some order. -/
structure PermN (n : Nat) (s : Nat → Nat) : Prop where
  lt : ∀ i, i < n → s i < n
  inj : ∀ i j, i < n → j < n → s i = s j → i = j
theorem PermN.back {n : Nat} {s : Nat → Nat} (h : PermN n s) : ∃ t, PermN n t ∧ ∀ i, i < n → t (s i) = i ∧ s (t i) = i := by
  have hl : ∀ k, k ≤ n → ((List.range k).map s).Nodup := fun k => by
    induction k with
    | zero => intro _; simp
    | succ k ih =>
      intro hk
      rw [List.range_succ, List.map_append, List.nodup_append]
      refine ⟨ih (by omega), by simp, fun a ha b hb => ?_⟩
      simp at ha hb
      obtain ⟨i, hi, rfl⟩ := ha
      subst hb
      intro e
      have := h.inj i k (by omega) (by omega) e
      omega
  have hs : ∀ a, a < n → ∃ i, i < n ∧ s i = a := fun a ha => Classical.byContradiction fun q => by
    have := nodup_lenN n (a :: (List.range n).map s) (List.nodup_cons.2 ⟨fun hm => by
      simp at hm
      obtain ⟨i, hi, e⟩ := hm
      exact q ⟨i, hi, e⟩, hl n (Nat.le_refl _)⟩) fun x hx => by
      rw [List.mem_cons] at hx
      rcases hx with rfl | hx
      · exact ha
      · simp at hx
        obtain ⟨i, hi, rfl⟩ := hx
        exact h.lt i hi
    simp at this
    omega
  have hch : ∀ a : Nat, ∃ i, a < n → i < n ∧ s i = a := fun a => by
    by_cases ha : a < n
    · obtain ⟨i, hi⟩ := hs a ha
      exact ⟨i, fun _ => hi⟩
    · exact ⟨0, fun q => absurd q ha⟩
  obtain ⟨t, ht⟩ := Classical.axiomOfChoice hch
  refine ⟨t, ⟨fun i hi => (ht i hi).1, fun i j hi hj e => ?_⟩, fun i hi => ⟨?_, (ht i hi).2⟩⟩
  · rw [← (ht i hi).2, ← (ht j hj).2, e]
  · have := ht (s i) (h.lt i hi)
    exact h.inj _ _ this.1 hi this.2
/-- A sum in another order. -/
theorem sum_perm {n : Nat} {s : Nat → Nat} (h : PermN n s) (F : Nat → Int) : sumTo (fun i => F (s i)) n = sumTo F n := by
  obtain ⟨t, ht, hb⟩ := h.back
  have e1 : sumTo (fun i => F (s i)) n = sumTo (fun i => sumTo (fun j => if True then (if s i = j then F (s i) else 0) else 0) n) n := sumTo_congr fun i hi => by
    rw [sum_at (fun _ => True), if_pos ⟨h.lt i hi, trivial⟩]
  rw [e1, sum_swap]
  refine sumTo_congr fun j hj => ?_
  have e2 : sumTo (fun i => if True then (if s i = j then F (s i) else 0) else 0) n = sumTo (fun i => if True then (if t j = i then F j else 0) else 0) n := sumTo_congr fun i hi => by
    rw [if_pos trivial, if_pos trivial]
    by_cases e : s i = j
    · rw [if_pos e, if_pos (by rw [← e]; exact (hb i hi).1), e]
    · rw [if_neg e, if_neg (fun q => e (by rw [← q]; exact (hb j hj).2))]
  rw [e2, sum_at (fun _ => True), if_pos ⟨ht.lt j hj, trivial⟩]
theorem cnt_sum (p : Nat → Bool) : ∀ n, (cntP p n : Int) = sumTo (fun i => if p i = true then 1 else 0) n
  | 0 => rfl
  | n + 1 => by
    rw [sumTo_succ, ← cnt_sum p n]
    simp only [cntP]
    split <;> simp
theorem cnt_perm {n : Nat} {s : Nat → Nat} (h : PermN n s) (p : Nat → Bool) : cntP (fun i => p (s i)) n = cntP p n := by
  have h1 := cnt_sum (fun i => p (s i)) n
  have h2 := cnt_sum p n
  have h3 := sum_perm h (fun i => if p i = true then 1 else 0)
  omega
/-- As many groups with other names. -/
theorem ways_perm {n k : Nat} {s : Nat → Nat} {f g : Nat → Int} (h : PermN n s) (hg : ∀ i, i < n → g (s i) = f i) (hw : WayS f n (openM f n) k) : WayS g n (openM g n) k := by
  obtain ⟨t, ht, hb⟩ := h.back
  obtain ⟨col, h1, h2, h3⟩ := hw
  have hof : ∀ i, i < n → ((openM f n).testBit i = true ↔ f i ≠ 0) := fun i hi => by rw [openM_bit]; simp [hi]
  have hog : ∀ i, i < n → ((openM g n).testBit i = true ↔ g i ≠ 0) := fun i hi => by rw [openM_bit]; simp [hi]
  have hgt : ∀ j, j < n → g j = f (t j) := fun j hj => by
    have := hg (t j) (ht.lt j hj)
    rw [(hb j hj).2] at this
    exact this
  refine ⟨fun j => col (t j), fun j hj hj2 => ?_, fun c hc => ?_, fun c hc => ?_⟩
  · rw [hog j hj, hgt j hj] at hj2
    exact h1 (t j) (ht.lt j hj) ((hof _ (ht.lt j hj)).2 hj2)
  · obtain ⟨i, i1, i2, i3⟩ := h2 c hc
    refine ⟨s i, h.lt i i1, (hog _ (h.lt i i1)).2 ?_, ?_⟩
    · rw [hg i i1]
      exact (hof i i1).1 i2
    · show col (t (s i)) = c
      rw [(hb i i1).1]
      exact i3
  · have e1 := sum_perm h (fun j => if (openM g n).testBit j = true ∧ col (t j) = c then g j else 0)
    show sumTo (fun j => if (openM g n).testBit j = true ∧ col (t j) = c then g j else 0) n = 0
    refine e1.symm.trans (Eq.trans (sumTo_congr fun i hi => ?_) (h3 c hc))
    rw [(hb i hi).1, hg i hi]
    have e : ((openM g n).testBit (s i) = true) ↔ ((openM f n).testBit i = true) := by
      rw [hog _ (h.lt i hi), hof i hi, hg i hi]
    by_cases q : (openM f n).testBit i = true ∧ col i = c
    · rw [if_pos q, if_pos ⟨e.2 q.1, q.2⟩]
    · rw [if_neg q, if_neg (fun z => q ⟨e.1 z.1, z.2⟩)]
theorem groups_perm {n : Nat} {s : Nat → Nat} {f g : Nat → Int} (hn : n ≤ 7) (h : PermN n s) (hg : ∀ i, i < n → g (s i) = f i) (hf : totTo f n = 0) (hg0 : totTo g n = 0) :
    (groupsM g n).length = (groupsM f n).length ∧ cntP (nzB g) n = cntP (nzB f) n := by
  obtain ⟨t, ht, hb⟩ := h.back
  have h1 := groups_best hn hf (List.Perm.refl _)
  have h2 := groups_best hn hg0 (List.Perm.refl _)
  have a1 := h2.2.1 _ (ways_perm h hg h1.1)
  have a2 := h1.2.1 _ (ways_perm ht (fun j hj => by
    have := hg (t j) (ht.lt j hj)
    rw [(hb j hj).2] at this
    exact this.symm) h2.1)
  refine ⟨Nat.le_antisymm a2 a1, ?_⟩
  rw [← cnt_perm h (nzB g)]
  exact cntP_congr fun i hi => by unfold nzB; rw [hg i hi]
/-- The same ledger with other names, and promises in another order. -/
structure NamedL (x y : LD) (s r : Nat → Nat) : Prop where
  ps : PermN x.folk.toNat s
  s0 : s 0 = 0
  pm : PermN x.mn r
  folk : y.folk = x.folk
  years : y.years = x.years
  bn : y.bn = x.bn
  fn : y.fn = x.fn
  ln : y.ln = x.ln
  pn : y.pn = x.pn
  mn : y.mn = x.mn
  bad : ∀ i, i < x.bn → y.bad i = x.bad i
  fo : ∀ i, i < x.fn → y.fo i = x.fo i
  lo : ∀ i, i < x.ln → y.lo i 0 = (s (x.lo i 0).toNat : Int) ∧ y.lo i 1 = x.lo i 1 ∧ y.lo i 2 = x.lo i 2
  pa : ∀ i, i < x.pn → y.pa i 0 = (s (x.pa i 0).toNat : Int) ∧ y.pa i 1 = x.pa i 1 ∧ y.pa i 2 = x.pa i 2
  pr : ∀ i, i < x.mn → y.pr (r i) 0 = (s (x.pr i 0).toNat : Int) ∧ y.pr (r i) 1 = (s (x.pr i 1).toNat : Int) ∧ y.pr (r i) 2 = x.pr i 2
namespace NamedL
variable {x y : LD} {s r : Nat → Nat}
theorem pos (h : NamedL x y s r) {i : Nat} (hi : 0 < i) (hl : i < x.folk.toNat) : 0 < s i := by
  rcases Nat.eq_zero_or_pos (s i) with e | e
  · have := h.ps.inj i 0 hl (by omega) (by rw [e, h.s0])
    omega
  · exact e
theorem ok (hx : Ok x) (h : NamedL x y s r) : Ok y := by
  obtain ⟨t, ht, hb⟩ := h.pm.back
  have hfo := hx.folk
  have hat : ∀ i, i < x.mn → y.pr i 0 = (s (x.pr (t i) 0).toNat : Int) ∧ y.pr i 1 = (s (x.pr (t i) 1).toNat : Int) ∧ y.pr i 2 = x.pr (t i) 2 := fun i hi => by
    have := h.pr (t i) (ht.lt i hi)
    rwa [(hb i hi).2] at this
  refine ⟨by rw [h.folk]; exact hx.folk, by rw [h.years]; exact hx.years, by rw [h.ln]; exact hx.ln, by rw [h.pn]; exact hx.pn, by rw [h.mn]; exact hx.mn, ?_, ?_, ?_, ?_, ?_, ?_, ?_, ?_, ?_, ?_, ?_, ?_, ?_, ?_, ?_⟩
  · intro i hi
    rw [h.ln] at hi
    have h1 := hx.lwho i hi
    rw [(h.lo i hi).1, h.folk]
    have h2 := h.ps.lt (x.lo i 0).toNat (by omega)
    have h3 := h.pos (i := (x.lo i 0).toNat) (by omega) (by omega)
    omega
  · intro i hi
    rw [h.ln] at hi
    rw [(h.lo i hi).2.1, h.years]
    exact hx.lyear i hi
  · intro i hi
    rw [h.ln] at hi
    rw [(h.lo i hi).2.2]
    exact hx.lsack i hi
  · intro i hi
    rw [h.pn] at hi
    have h1 := hx.pwho i hi
    rw [(h.pa i hi).1, h.folk]
    have h2 := h.ps.lt (x.pa i 0).toNat (by omega)
    have h3 := h.pos (i := (x.pa i 0).toNat) (by omega) (by omega)
    omega
  · intro i hi
    rw [h.pn] at hi
    rw [(h.pa i hi).2.1, h.years]
    exact hx.pyear i hi
  · intro i hi
    rw [h.pn] at hi
    rw [(h.pa i hi).2.2]
    exact hx.psack i hi
  · intro i hi
    rw [h.mn] at hi
    have h1 := hx.mfrom (t i) (ht.lt i hi)
    rw [(hat i hi).1, h.folk]
    have h2 := h.ps.lt (x.pr (t i) 0).toNat (by omega)
    omega
  · intro i hi
    rw [h.mn] at hi
    have h1 := hx.mto (t i) (ht.lt i hi)
    rw [(hat i hi).2.1, h.folk]
    have h2 := h.ps.lt (x.pr (t i) 1).toNat (by omega)
    omega
  · intro i hi
    rw [h.mn] at hi
    rw [(hat i hi).2.2]
    exact hx.msack (t i) (ht.lt i hi)
  · intro i hi
    rw [h.mn] at hi
    have h1 := hx.mfrom (t i) (ht.lt i hi)
    have h2 := hx.mto (t i) (ht.lt i hi)
    have h3 := hx.mne (t i) (ht.lt i hi)
    rw [(hat i hi).1, (hat i hi).2.1]
    intro e
    have := h.ps.inj (x.pr (t i) 0).toNat (x.pr (t i) 1).toNat (by omega) (by omega) (by omega)
    omega
  · intro i hi
    rw [h.bn] at hi
    rw [h.bad i hi, h.years]
    exact hx.bad i hi
  · intro i hi
    rw [h.fn] at hi
    rw [h.fo i hi, h.ln]
    exact hx.fo i hi
  · intro i hi
    rw [h.bn] at hi
    rw [h.bad i (by omega), h.bad (i + 1) hi]
    exact hx.binc i hi
  · intro i hi
    rw [h.fn] at hi
    rw [h.fo i (by omega), h.fo (i + 1) hi]
    exact hx.finc i hi
  · intro i hi
    rw [h.pn] at hi
    rw [(h.pa i (by omega)).2.1, (h.pa (i + 1) hi).2.1]
    exact hx.pinc i hi
theorem who (h : NamedL x y s r) {z : Int} {w : Nat} (h1 : 0 ≤ z) (h2 : z < x.folk) (hw : w < x.folk.toNat) : ((s z.toNat : Int) = (s w : Int)) ↔ z = (w : Int) := by
  constructor
  · intro e
    have := h.ps.inj z.toNat w (by omega) hw (by omega)
    omega
  · intro e
    rw [e]
    rfl
theorem asked (h : NamedL x y s r) {i : Nat} (hi : i < x.ln) : P.asked y i = P.asked x i := by
  unfold P.asked
  rw [(h.lo i hi).2.2, h.fn]
  have : hasB y.fo x.fn i = hasB x.fo x.fn i := by
    unfold hasB
    exact anyTo_same2 fun k hk => by rw [h.fo k hk]
  rw [this]
theorem cap (hx : Ok x) (h : NamedL x y s r) {w : Nat} (hw : w < x.folk.toNat) (z : Int) : capW y (s w : Int) z = capW x (w : Int) z := by
  unfold capW
  rw [h.ln]
  refine sumTo_congr fun i hi => ?_
  have h1 := hx.lwho i hi
  rw [(h.lo i hi).1, (h.lo i hi).2.1, h.asked hi]
  have e := h.who (z := x.lo i 0) (w := w) (by omega) (by omega) hw
  by_cases q : x.lo i 0 = (w : Int) ∧ x.lo i 1 ≤ z
  · rw [if_pos q, if_pos ⟨e.2 q.1, q.2⟩]
  · rw [if_neg q, if_neg (fun p => q ⟨e.1 p.1, p.2⟩)]
theorem que (hx : Ok x) (h : NamedL x y s r) {w : Nat} (hw : w < x.folk.toNat) : ∀ k, k ≤ x.pn → queW y (s w : Int) k = queW x (w : Int) k
  | 0, _ => rfl
  | k + 1, hk => by
    have ih := h.que hx hw k (by omega)
    have h1 := hx.pwho k (by omega)
    have e := h.who (z := x.pa k 0) (w := w) (by omega) (by omega) hw
    simp only [queW]
    rw [(h.pa k (by omega)).1, (h.pa k (by omega)).2.1, (h.pa k (by omega)).2.2, ih, h.cap hx hw]
    by_cases q : x.pa k 0 = (w : Int)
    · rw [if_pos q, if_pos (e.2 q)]
    · rw [if_neg q, if_neg (fun p => q (e.1 p))]
theorem owes (hx : Ok x) (h : NamedL x y s r) {w : Nat} (hw : w < x.folk.toNat) : P.owes y (s w : Int) (x.years - 1) = P.owes x (w : Int) (x.years - 1) := by
  have h1 := owes_que (h.ok hx) (s w : Int)
  rw [h.years, h.pn, h.cap hx hw, h.que hx hw x.pn (Nat.le_refl _)] at h1
  rw [h1, owes_que hx]
theorem owed (hx : Ok x) (h : NamedL x y s r) {a b : Nat} (ha : a < x.folk.toNat) (hb : b < x.folk.toNat) : P.owed y (s a) (s b) = P.owed x a b := by
  rw [owed_parts, owed_parts]
  have e1 : base y (s a) (s b) = base x a b := by
    unfold base
    rw [h.years, h.owes hx ha]
    have q1 : 0 < s a ↔ 0 < a := ⟨fun p => Nat.pos_of_ne_zero fun e => by rw [e, h.s0] at p; omega, fun p => h.pos p ha⟩
    have q2 : s b = 0 ↔ b = 0 := ⟨fun p => Classical.byContradiction fun e => by have := h.pos (i := b) (by omega) hb; omega, fun p => by rw [p, h.s0]⟩
    by_cases q : 0 < a ∧ b = 0
    · rw [if_pos q, if_pos ⟨q1.2 q.1, q2.2 q.2⟩]
    · rw [if_neg q, if_neg (fun p => q ⟨q1.1 p.1, q2.1 p.2⟩)]
  have e2 : prom y (s a) (s b) y.mn = prom x a b x.mn := by
    unfold prom
    rw [h.mn, ← sum_perm h.pm (fun i => if y.pr i 0 = (s a : Int) ∧ y.pr i 1 = (s b : Int) then y.pr i 2 else 0)]
    refine sumTo_congr fun i hi => ?_
    have h1 := hx.mfrom i hi
    have h2 := hx.mto i hi
    rw [(h.pr i hi).1, (h.pr i hi).2.1, (h.pr i hi).2.2]
    have q1 := h.who (z := x.pr i 0) (w := a) (by omega) (by omega) ha
    have q2 := h.who (z := x.pr i 1) (w := b) (by omega) (by omega) hb
    by_cases q : x.pr i 0 = (a : Int) ∧ x.pr i 1 = (b : Int)
    · rw [if_pos q, if_pos ⟨q1.2 q.1, q2.2 q.2⟩]
    · rw [if_neg q, if_neg (fun p => q ⟨q1.1 p.1, q2.1 p.2⟩)]
  rw [e1, e2]
theorem net (hx : Ok x) (h : NamedL x y s r) {a : Nat} (ha : a < x.folk.toNat) : netTo (P.owed y) x.folk.toNat x.folk.toNat (s a) = netTo (P.owed x) x.folk.toNat x.folk.toNat a := by
  rw [net_sum _ (h.ps.lt a ha), net_sum _ ha, ← sum_perm h.ps (fun j => P.owed y j (s a) - P.owed y (s a) j)]
  exact sumTo_congr fun j hj => by rw [h.owed hx hj ha, h.owed hx ha hj]
/-- As many groups, and as many open ones. -/
theorem few (hx : Ok x) (h : NamedL x y s r) : (groupsM (netTo (P.owed y) x.folk.toNat x.folk.toNat) x.folk.toNat).length = (groupsM (netTo (P.owed x) x.folk.toNat x.folk.toNat) x.folk.toNat).length ∧
    cntP (nzB (netTo (P.owed y) x.folk.toNat x.folk.toNat)) x.folk.toNat = cntP (nzB (netTo (P.owed x) x.folk.toNat x.folk.toNat)) x.folk.toNat :=
  groups_perm (by have := hx.folk; omega) h.ps (fun i hi => h.net hx hi) (totTo_net _ _ _ (Nat.le_refl _)) (totTo_net _ _ _ (Nat.le_refl _))
end NamedL
end Go.Proofs.YtbceepjjdfpfmaaGreat
namespace Go.Proofs.YtbceepjjdfpfmaaGreat
open Go.RowKit HandSpec LoanSpec
set_option maxHeartbeats 4000000
set_option maxRecDepth 100000
theorem ni_ofN (l : List Nat) (k : Nat) : ni (ofN l) k = ((l.getD k 0 : Nat) : Int) := by
  unfold ni ofN
  simp only [List.getD_eq_getElem?_getD, List.getElem?_map]
  cases l[k]? <;> rfl
/-- The names: who stands at place i. -/
def nmL (l : List Nat) : List Nat := 0 :: l.map (· + 1)
theorem nmL_perm {l : List Nat} {F : Nat} (h : l.Perm (List.range F)) : PermN (F + 1) (fun i => (nmL l).getD i 0) := by
  have hl := h.length_eq
  rw [List.length_range] at hl
  have hnd : l.Nodup := (h.nodup_iff).2 List.nodup_range
  have hat : ∀ i, i < F → (nmL l).getD (i + 1) 0 = l.getD i 0 + 1 ∧ l.getD i 0 < F ∧ l.getD i 0 ∈ l := fun i hi => by
    have e : l[i]? = some l[i] := List.getElem?_eq_getElem (by omega)
    have hm : l[i] ∈ l := List.getElem_mem _
    have := List.mem_range.1 (h.mem_iff.1 hm)
    simp only [nmL, List.getD_eq_getElem?_getD, List.getElem?_cons_succ, List.getElem?_map, e]
    exact ⟨rfl, this, hm⟩
  refine ⟨fun i hi => ?_, fun i j hi hj e => ?_⟩
  · cases i with
    | zero => show 0 < F + 1; omega
    | succ i => have := hat i (by omega); show (nmL l).getD (i + 1) 0 < F + 1; omega
  · cases i with
    | zero =>
      cases j with
      | zero => rfl
      | succ j => have h1 := (hat j (by omega)).1; have e : (nmL l).getD 0 0 = (nmL l).getD (j + 1) 0 := e; rw [h1] at e; cases e
    | succ i =>
      cases j with
      | zero => have h1 := (hat i (by omega)).1; have e : (nmL l).getD (i + 1) 0 = (nmL l).getD 0 0 := e; rw [h1] at e; cases e
      | succ j =>
        have h1 := (hat i (by omega)).1
        have h2 := (hat j (by omega)).1
        have e : (nmL l).getD (i + 1) 0 = (nmL l).getD (j + 1) 0 := e
        rw [h1, h2] at e
        have e : l.getD i 0 = l.getD j 0 := by omega
        rw [List.getD_eq_getElem?_getD, List.getD_eq_getElem?_getD, List.getElem?_eq_getElem (show i < l.length by omega), List.getElem?_eq_getElem (show j < l.length by omega)] at e
        have := (List.getElem_inj hnd).1 (show l[i] = l[j] from e)
        omega
theorem perm_permN {l : List Nat} {n : Nat} (h : l.Perm (List.range n)) : PermN n (fun i => l.getD i 0) := by
  have hl := h.length_eq
  rw [List.length_range] at hl
  have hnd : l.Nodup := (h.nodup_iff).2 List.nodup_range
  refine ⟨fun i hi => ?_, fun i j hi hj e => ?_⟩
  · have e : l[i]? = some l[i] := List.getElem?_eq_getElem (by omega)
    have := List.mem_range.1 (h.mem_iff.1 (List.getElem_mem (l := l) (show i < l.length by omega)))
    simp only [List.getD_eq_getElem?_getD, e]
    exact this
  · have e : l.getD i 0 = l.getD j 0 := e
    rw [List.getD_eq_getElem?_getD, List.getD_eq_getElem?_getD, List.getElem?_eq_getElem (show i < l.length by omega), List.getElem?_eq_getElem (show j < l.length by omega)] at e
    exact (List.getElem_inj hnd).1 (show l[i] = l[j] from e)
/-- One cell of an own list of rows is written. -/
theorem OwnR.setG {w : World} {B g cap n k c : Nat} {e : TypeId} {f : Nat → Nat → Int} {z : Int} (h : OwnR w B e 3 (.slice (some ⟨g, 0, none⟩) n cap) (rowsG 3 n f)) (hc : c < 3) :
    OwnR (w.setCell ⟨g, k * 3 + c, none⟩ (.int .i64 z)) B e 3 (.slice (some ⟨g, 0, none⟩) n cap) (rowsG 3 n fun i j => if i = k ∧ j = c then z else f i j) := by
  have hl : (rowsG 3 n f).length = n := rowsG_length _ _ _
  rcases h.2.2 with ⟨h0, -⟩ | ⟨g', cap', C, hv, hb, hh, h1, h2, h3, ht⟩
  · cases h0
  · obtain ⟨rfl, rfl⟩ : g = g' ∧ cap = cap' := by simp at hv; exact ⟨hv.1, hv.2.2⟩
    rw [hl] at h1 ht
    have hbk : Blk w g e C := hh
    have hr : ∀ r ∈ rowsG 3 n (fun i j => if i = k ∧ j = c then z else f i j), r.length = 3 := rowsG_row
    have hcl := cellsOf_length hr
    refine ⟨hr, hcl, .inr ⟨g, cap, _, by rw [rowsG_length], hb, hbk.set_ (k * 3 + c) (.int .i64 z), by rw [rowsG_length]; exact h1, h2, by rw [Array.size_setIfInBounds]; exact h3, ?_⟩⟩
    rw [rowsG_length] at hcl ⊢
    apply List.ext_getElem?
    intro i
    by_cases hi : i < n * 3
    · have hd : i / 3 < n := by omega
      have hm : i % 3 < 3 := Nat.mod_lt _ (by omega)
      have e1 := cellsOf_get hr (k := i / 3) (j := i % 3) (by rw [rowsG_length]; exact hd) hm
      have e2 := cellsOf_get (rowsG_row (c := 3) (m := n) (g := f)) (k := i / 3) (j := i % 3) (by rw [rowsG_length]; exact hd) hm
      rw [show i / 3 * 3 + i % 3 = i by omega] at e1 e2
      rw [e1, List.getElem?_take_of_lt hi, Array.getElem?_toList]
      rw [← ht, List.getElem?_take_of_lt hi, Array.getElem?_toList] at e2
      have a1 := rowsG_at (c := 3) (m := n) (g := fun i j => if i = k ∧ j = c then z else f i j) hd hm
      have a2 := rowsG_at (c := 3) (m := n) (g := f) hd hm
      unfold rowsAt at a1 a2
      rw [a1]
      rw [a2] at e2
      rw [Array.getElem?_setIfInBounds]
      by_cases q : i / 3 = k ∧ i % 3 = c
      · rw [if_pos q, if_pos (by omega)]
        rw [if_pos (by omega)]
      · rw [if_neg q, if_neg (by omega)]
        exact e2
    · rw [List.getElem?_take_eq_none (by omega), List.getElem?_eq_none (by omega)]
/-- The first k loans are renamed. -/
def renL (x : LD) (s : Nat → Nat) (k : Nat) : LD := { x with lo := fun i c => if i < k ∧ c = 0 then (s (x.lo i 0).toNat : Int) else x.lo i c }
theorem renL_zero (x : LD) (s : Nat → Nat) : renL x s 0 = x := by
  unfold renL
  have : (fun i c => if i < 0 ∧ c = 0 then (s (x.lo i 0).toNat : Int) else x.lo i c) = x.lo := by funext i c; rw [if_neg (by omega)]
  rw [this]
/-- And the first k payments. -/
def renP (x : LD) (s : Nat → Nat) (k : Nat) : LD := { renL x s x.ln with pa := fun i c => if i < k ∧ c = 0 then (s (x.pa i 0).toNat : Int) else x.pa i c }
theorem renP_zero (x : LD) (s : Nat → Nat) : renP x s 0 = renL x s x.ln := by
  unfold renP
  have : (fun i c => if i < 0 ∧ c = 0 then (s (x.pa i 0).toNat : Int) else x.pa i c) = (renL x s x.ln).pa := by funext i c; rw [if_neg (by omega)]; rfl
  rw [this]
theorem OwnQ.ren {w : World} {B g k c3 : Nat} {x : LD} {s : Nat → Nat} {q : LA} (h : OwnQ w B (renL x s k) q) (hg : q.A3 = some ⟨g, 0, none⟩) (_ : q.c3 = c3) : OwnQ (w.setCell ⟨g, k * 3, none⟩ (.int .i64 (s (x.lo k 0).toNat : Int))) B (renL x s (k + 1)) q := by
  have h3 := h.o3
  rw [hg] at h3
  have hb : (Value.slice (some ⟨g, 0, none⟩) (renL x s k).ln q.c3).ownBlock = some g := rfl
  have far : ∀ {e : TypeId} {c : Nat} {v : Value} {l : List (List Int)}, OwnR w B e c v l → e ≠ 68 → OwnR (w.setCell ⟨g, k * 3, none⟩ (.int .i64 (s (x.lo k 0).toNat : Int))) B e c v l := fun o he =>
    o.same fun g' hg' => Below.heap_setCell _ _ _ _ (fun e => o.apart' h3 he g' hg' (by rw [hb]; exact congrArg some e))
  refine ⟨far h.o1 (by decide), far h.o2 (by decide), ?_, far h.o4 (by decide), far h.o5 (by decide), h.ne⟩
  have := OwnR.setG (k := k) (c := 0) (z := (s (x.lo k 0).toNat : Int)) h3 (by omega)
  rw [hg]
  rw [Nat.add_zero] at this
  have e : rowsG 3 (renL x s k).ln (fun i j => if i = k ∧ j = 0 then (s (x.lo k 0).toNat : Int) else (renL x s k).lo i j) = rowsG 3 (renL x s (k + 1)).ln (renL x s (k + 1)).lo := by
    congr 1
    funext i j
    unfold renL
    dsimp only
    by_cases q : i = k ∧ j = 0
    · obtain ⟨rfl, rfl⟩ := q
      rw [if_pos ⟨rfl, rfl⟩, if_pos ⟨by omega, rfl⟩]
    · rw [if_neg q]
      by_cases r : i < k ∧ j = 0
      · rw [if_pos r, if_pos ⟨by omega, r.2⟩]
      · rw [if_neg r, if_neg (by omega)]
  rw [← e]
  exact this
theorem OwnQ.renp {w : World} {B g k c3 : Nat} {x : LD} {s : Nat → Nat} {q : LA} (h : OwnQ w B (renP x s k) q) (hg : q.A4 = some ⟨g, 0, none⟩) (_ : q.c4 = c3) : OwnQ (w.setCell ⟨g, k * 3, none⟩ (.int .i64 (s (x.pa k 0).toNat : Int))) B (renP x s (k + 1)) q := by
  have h3 := h.o4
  rw [hg] at h3
  have hb : (Value.slice (some ⟨g, 0, none⟩) (renP x s k).pn q.c4).ownBlock = some g := rfl
  have far : ∀ {e : TypeId} {c : Nat} {v : Value} {l : List (List Int)}, OwnR w B e c v l → e ≠ 71 → OwnR (w.setCell ⟨g, k * 3, none⟩ (.int .i64 (s (x.pa k 0).toNat : Int))) B e c v l := fun o he =>
    o.same fun g' hg' => Below.heap_setCell _ _ _ _ (fun e => o.apart' h3 he g' hg' (by rw [hb]; exact congrArg some e))
  refine ⟨far h.o1 (by decide), far h.o2 (by decide), far h.o3 (by decide), ?_, far h.o5 (by decide), h.ne⟩
  have := OwnR.setG (k := k) (c := 0) (z := (s (x.pa k 0).toNat : Int)) h3 (by omega)
  rw [hg]
  rw [Nat.add_zero] at this
  have e : rowsG 3 (renP x s k).pn (fun i j => if i = k ∧ j = 0 then (s (x.pa k 0).toNat : Int) else (renP x s k).pa i j) = rowsG 3 (renP x s (k + 1)).pn (renP x s (k + 1)).pa := by
    congr 1
    funext i j
    unfold renP
    dsimp only
    by_cases q : i = k ∧ j = 0
    · obtain ⟨rfl, rfl⟩ := q
      rw [if_pos ⟨rfl, rfl⟩, if_pos ⟨by omega, rfl⟩]
    · rw [if_neg q]
      by_cases r : i < k ∧ j = 0
      · rw [if_pos r, if_pos ⟨by omega, r.2⟩]
      · rw [if_neg r, if_neg (by omega)]
  rw [← e]
  exact this
theorem few_named {x y : LD} {s r : Nat → Nat} (hx : Ok x) (h : NamedL x y s r) {n : Nat} (hn : x.folk.toNat = n) {L1 L2 : List Nat} (p1 : L1.Perm (groupsM (netTo (P.owed x) n n) n)) (p2 : L2.Perm (groupsM (netTo (P.owed y) n n) n)) :
    (settleM L1 (netTo (P.owed x) n n)).l.length = (settleM L2 (netTo (P.owed y) n n)).l.length ∧ L1.length = L2.length := by
  subst hn
  have hn7 : x.folk.toNat ≤ 7 := by have := hx.folk; omega
  have c1 := owed_debts hx
  have c2 := owed_debts (h.ok hx)
  rw [h.folk] at c2
  have bd : ∀ {g : Nat → Nat → Int}, DOk x.folk.toNat g → ∀ i, -49000000 ≤ netTo g x.folk.toNat x.folk.toNat i ∧ netTo g x.folk.toNat x.folk.toNat i ≤ 49000000 := fun hd i => by
    have := netTo_bd hd.hd hn7 x.folk.toNat (Nat.le_refl _) i
    omega
  have q1 := (settle_ok (bd (chkD_zero c1).1) hn7 (totTo_net _ _ _ (Nat.le_refl _)) p1).1
  have q2 := (settle_ok (bd (chkD_zero c2).1) hn7 (totTo_net _ _ _ (Nat.le_refl _)) p2).1
  obtain ⟨f1, f2⟩ := h.few hx
  have e1 := p1.length_eq
  have e2 := p2.length_eq
  omega
theorem law12 {A A2 : Option Addr} {n0 n2 cap cap2 : Nat} {w : World} (hb : ByteS w A n0) (hb2 : ByteS w A2 n2) :
    Calls Tryz.prog 12 #[.slice A n0 cap, .slice A2 n2 cap2] w fun e w' => e = .returned (.bool true) ∧ Ext w w' := by
  have HB := hid hb
  have HB2 := hid hb2
  clear hb hb2
  go_enter Tryz.func12, Tryz.ntmps12
  go_upto_region 2 with (first
    | (go_at_call 31; refine (fill31 _).mono ?_; rintro e wa ⟨rfl, hea, hsa⟩; have ST := hid (start_of HB.out hea hsa); have EA := hid hea; clear hsa hea)
    | (go_at_call 30; (with_reducible refine (made30 ST.out (fk := 6) (ys := 5) (lm := 8) (pm := 10) (mm := 10) (by omega) (by omega) (by omega) (by omega) (by omega)).mono ?_); rintro e wb ⟨x, p, rfl, hsx, hla, hok, hsm, hcap, hf2, -, -, hln, hpn, hmn, hin⟩; have HSX := hid hsx; have HL0 := hid hla; have hx := hid hok; have HSM := hid hsm; have HIN := hid hin; unfold ledV; clear hsx hla hok hsm hln hpn hmn hin hcap))
  refine wp_later fun w1 hw1 => ?_
  obtain ⟨e1, b5⟩ := hw1.newB
  obtain ⟨N5, hN5⟩ : ∃ N, Hid (N = wb.heap.size) := ⟨_, hid rfl⟩
  rw [← hN5.out] at b5 ⊢
  have B5 : Hid (Blk w1 N5 27 #[.int .i64 x.folk, .int .i64 x.years, .slice p.A1 x.bn p.c1, .slice p.A2 x.fn p.c2, .slice p.A3 x.ln p.c3, .slice p.A4 x.pn p.c4, .slice p.A5 x.mn p.c5]) := hid b5
  have HL := hid (HL0.out.ext e1)
  have EW := hid ((HSX.out.ext EA.out (Nat.le_refl _)).trans e1)
  have hW1 := hid EW.out.size
  clear hw1 e1 b5 HL0 HSX ST EA
  have hN5l := B5.out.lt
  go_upto_region 3 with (go_at_call 31; refine (fill31 _).mono ?_; rintro e wF ⟨rfl, hea, hsa⟩; have ST := hid (start_of (HB2.out.ext EW.out) hea hsa); have HL := hid (HL.out.ext hea); have B5 := hid (B5.out.ext hea); have EW := hid (EW.out.trans hea); clear hsa hea)
  obtain ⟨d, hd⟩ : ∃ d : SackD, Hid (d = ⟨w1.heap.size, A2, n2, cap2⟩) := ⟨_, hid rfl⟩
  have hdb : Hid (w1.heap.size = d.blk) := hid (by rw [hd.out])
  rw [← hd.out] at ST
  rw [hdb.out] at hN5l ⊢
  have hin := hid (show InA 0 d.blk p from ⟨fun b o q => ⟨Nat.zero_le _, by have := (HIN.out.a1 b o q).2; have := hN5.out; omega⟩, fun b o q => ⟨Nat.zero_le _, by have := (HIN.out.a2 b o q).2; have := hN5.out; omega⟩, fun b o q => ⟨Nat.zero_le _, by have := (HIN.out.a3 b o q).2; have := hN5.out; omega⟩, fun b o q => ⟨Nat.zero_le _, by have := (HIN.out.a4 b o q).2; have := hN5.out; omega⟩, fun b o q => ⟨Nat.zero_le _, by have := (HIN.out.a5 b o q).2; have := hN5.out; omega⟩⟩)
  have hdF := ST.out.lt
  have hdW := hid (show w.heap.size ≤ d.blk by have := hW1.out; have := hdb.out; omega)
  clear hd HIN hN5 HB2 HB
  go_upto_region 4 with fail
  refine wp_later fun w4 hw4 => ?_
  obtain ⟨e4, b7⟩ := hw4.newB
  obtain ⟨bF, hbF⟩ : ∃ N, Hid (N = wF.heap.size) := ⟨_, hid rfl⟩
  rw [← hbF.out] at b7 ⊢
  have hdB : d.blk < bF := by have := hbF.out; omega
  have O7 := hid (show OwnR w4 bF 3 1 (.slice (some ⟨bF, 0, none⟩) 1 1) (rowsI (ofN [0])) from OwnR.ofCells (l := [0]) (cap := 1) (Nat.le_refl _) b7 (Nat.le_refl _) (by unfold maxLen; omega) rfl (fun k hk => by
    have hk : k < 1 := hk
    obtain rfl : k = 0 := by omega
    rfl))
  have XS := hid (Sx.ofExt (d := d) e4)
  clear hw4 e4 b7 hdF
  have k5 := (B5.out.sx XS.out (by omega)).cell
  have k5l := (B5.out.sx XS.out (by omega)).lt
  have hfk := hx.out.folk
  obtain ⟨F, hF⟩ : ∃ F : Nat, Hid (x.folk - 1 = (F : Int)) := ⟨(x.folk - 1).toNat, hid (by omega)⟩
  have hF6 : F ≤ 6 := by have := hF.out; omega
  go_upto_region 5 with (go_at_call 80; rw [hF.out]; refine (shuffle80 (n := F) ST.out XS.out (by omega) (by omega)).mono ?_; rintro e wz ⟨l1, v1, rfl, hp, ho, hx1⟩; have HP := hid hp; obtain ⟨A1s, c1s, rfl, -⟩ := OwnR.slR ho; have hl1 := hid (show l1.length = F by rw [hp.length_eq, List.length_range]); rw [show (rowsI (ofN l1)).length = F by rw [rowsI_length, ofN_length]; exact hl1.out] at ho ⊢; have O1 := hid ho; have X1 := hid hx1; clear hp ho hx1 k5 k5l)
  have hb7 : d.blk < w4.heap.size := by have := XS.out.size; have := hbF.out; omega
  have hbw : bF < w4.heap.size := O7.out.lt rfl
  have O7 := hid (O7.out.sx X1.out (fun e => by have := O7.out.block e; omega))
  have hap := hid (show ∀ g, (Value.slice (some ⟨bF, 0, none⟩) 1 1).ownBlock = some g → (Value.slice A1s F c1s).ownBlock ≠ some g from fun g hg h1 => by
    have h2 : bF = g := by simpa [Value.ownBlock] using hg
    have := O1.out.block h1
    omega)
  have O1 := hid (O1.out.base (show bF ≤ w4.heap.size by omega))
  have XS := hid (XS.out.trans X1.out)
  clear X1 hb7 hbw
  go_loopw [7, 48] (fun v i W => ∃ j : Nat, j ≤ F ∧ i = .int .i64 (j : Int) ∧ Hid (Sx d (0 + F) wF W ∧ OwnR W bF 3 1 v (rowsI (ofN (0 :: (l1.take j).map (· + 1)))) ∧ OwnR W bF 3 1 (.slice A1s F c1s) (rowsI (ofN l1)) ∧ ∀ g, v.ownBlock = some g → (Value.slice A1s F c1s).ownBlock ≠ some g)) (fun _ i _ => F - (intOf i).toNat)
  case atStart => exact ⟨0, Nat.zero_le _, rfl, hid ⟨XS.out, O7.out, O1.out, hap.out⟩⟩
  case round =>
    clear XS O7 O1 hap
    obtain ⟨j, hj, rfl, hR⟩ := hrel
    obtain ⟨x0, o7, o1, ap⟩ := hR.out
    have XS := hid x0
    have O7 := hid o7
    have O1 := hid o1
    have hap := hid ap
    clear hR x0 o7 o1 ap
    by_cases hlj : j < F
    · obtain ⟨z, hz⟩ : ∃ z : Nat, Hid (l1.getD j 0 = z) := ⟨_, hid rfl⟩
      have hz6 : z < F := by
        have e : l1[j]? = some z := by rw [← hz.out, List.getD_eq_getElem?_getD, List.getElem?_eq_getElem (by rw [hl1.out]; exact hlj)]; rfl
        exact List.mem_range.1 (HP.out.mem_iff.1 (List.mem_of_getElem? e))
      have hnx := hid (show (l1.take (j + 1)).map (· + 1) = (l1.take j).map (· + 1) ++ [z + 1] by
        rw [List.take_succ_eq_append_getElem (by rw [hl1.out]; exact hlj), List.map_append]
        congr 1
        rw [List.getD_eq_getElem?_getD, List.getElem?_eq_getElem (by rw [hl1.out]; exact hlj)] at hz
        have := hz.out
        simp at this
        simp [this])
      obtain ⟨L, hL⟩ : ∃ L, Hid ((l1.take j).map (· + 1) = L) := ⟨_, hid rfl⟩
      have hLl : L.length = j := by rw [← hL.out, List.length_map, List.length_take, hl1.out]; omega
      rw [hL.out] at O7 hnx
      obtain ⟨A7, c7, rfl, -⟩ := O7.out.slR
      obtain ⟨b1, o1, hA1, hb1, c1⟩ := O1.out.rd.at1 hlj
      have hc1 := hid (show rowsAt (rowsI (ofN l1)) j 0 = (z : Int) by rw [rowsI_at, ni_ofN, hz.out])
      rw [hc1.out] at c1
      have hlr := hid (show (rowsI (ofN (0 :: L)) ++ [[((z + 1 : Nat) : Int)]]).length = (rowsI (ofN (0 :: L))).length + 1 by rw [List.length_append]; rfl)
      rw [hA1]
      have HAl := hid hA1
      clear hA1
      have hzi : (z : Int) + 1 = ((z + 1 : Nat) : Int) := by omega
      have hZI := hid hzi
      clear hzi
      go_upto_region 8 with (at_builtin; refine append_rows_atF rfl _ _ 22 rfl el22 rfl (O7.out.ext ((Ext.refl _).alloc (.cells #[.int .i64 ((z : Int) + 1)] 3))) _ 1 1 [[(z : Int) + 1]] rfl rfl (by simp) (by intro j; simp [cellsOf]) (by rw [rowsI_length, ofN_length, List.length_cons]; omega) (by rw [World.size_alloc]; have := XS.out.size; have := hbF.out; omega) ?_; intro v9 w9 ho9 hg9 at9; have HO9 := hid ho9; have HG9 := hid hg9; have HA9 := hid at9; clear ho9 hg9 at9)
      clear hb1 c1
      go_wp2_with fail
      go_roundw
      case rel =>
        rw [← HAl.out]
        refine ⟨j + 1, by omega, by go_num, hid ⟨((XS.out.trans (Sx.ofExt ((Ext.refl _).alloc (.cells #[.int .i64 ((z : Int) + 1)] 3)))).mono (by omega)).grown HG9.out (fun b hb => by have := O7.out.block hb; have := hbF.out; omega), ?_, (O1.out.ext ((Ext.refl _).alloc _)).grownBy_other HG9.out (fun g hg q => hap.out g q.symm hg), fun g hg hg1 => ?_⟩⟩
        · have h := HO9.out
          rw [hZI.out] at h
          rw [hnx.out]
          have e : rowsI (ofN (0 :: (L ++ [z + 1]))) = rowsI (ofN (0 :: L)) ++ [[((z + 1 : Nat) : Int)]] := by simp [rowsI, ofN]
          rw [e]
          exact h
        · rcases HA9.out with h | h
          · exact hap.out g (h ▸ hg) hg1
          · rw [hg, Option.some.injEq, World.size_alloc] at h
            have := O1.out.lt hg1
            omega
      case measure => simp [intOf]; omega
    · have hjF : j = F := by omega
      subst hjF
      rw [show l1.take j = l1 from List.take_of_length_le (by rw [hl1.out]; omega)] at O7
      clear O1 hap hlj hj
      have hlen7 : (rowsI (ofN (0 :: l1.map (· + 1)))).length = j + 1 := by rw [rowsI_length, ofN_length, List.length_cons, List.length_map, hl1.out]
      obtain ⟨g7, c7, rfl, hB7, hc7, ha7⟩ : ∃ g7 c7, u7 = .slice (some ⟨g7, 0, none⟩) (rowsI (ofN (0 :: l1.map (· + 1)))).length c7 ∧ bF ≤ g7 ∧ j + 1 ≤ c7 ∧ Arr wr g7 ((rowsI (ofN (0 :: l1.map (· + 1)))).length * 1) (fun i => rowsAt (rowsI (ofN (0 :: l1.map (· + 1)))) (i / 1) (i % 1)) := by
        rcases OwnR.arr O7.out with ⟨-, h0⟩ | ⟨g7, c7, h1, h2, h3, h4⟩
        · rw [h0] at hlen7
          cases hlen7
        · exact ⟨g7, c7, h1, h2, by omega, h4⟩
      have hn7 := hid hlen7
      obtain ⟨s, hs⟩ : ∃ s : Nat → Nat, Hid (s = fun i => (nmL l1).getD i 0) := ⟨_, hid rfl⟩
      have hps := hid (show PermN (j + 1) s by rw [hs.out]; exact nmL_perm HP.out)
      have hs0 := hid (show s 0 = 0 by rw [hs.out]; rfl)
      have hfn := hid (show x.folk.toNat = j + 1 by have := hF.out; omega)
      have hr7 := hid (show ∀ k, k < j + 1 → wr.cell? ⟨g7, k, none⟩ = some (.int .i64 (s k : Int)) from fun k hk => by
        rw [ha7.cell (by rw [hn7.out]; omega), Nat.div_one, Nat.mod_one, rowsI_at, ni_ofN, hs.out]
        rfl)
      have hg7 := hid (show bF ≤ g7 ∧ g7 < wr.heap.size from ⟨hB7, ha7.1⟩)
      rw [hn7.out]
      obtain ⟨wB, rfl⟩ : ∃ W : World, W = wr := ⟨_, rfl⟩
      clear hn7 O7 hl1 HP hs hlen7 hB7 ha7
      have hN5b : N5 < wF.heap.size := by have := hbF.out; omega
      have B5 := hid (B5.out.sx XS.out (by omega))
      have HL := hid (show IsLA wB x p from ⟨HL.out.r1.sx XS.out (fun b o q => by have := (hin.out.a1 b o q).2; omega), HL.out.r2.sx XS.out (fun b o q => by have := (hin.out.a2 b o q).2; omega), HL.out.r3.sx XS.out (fun b o q => by have := (hin.out.a3 b o q).2; omega), HL.out.r4.sx XS.out (fun b o q => by have := (hin.out.a4 b o q).2; omega), HL.out.r5.sx XS.out (fun b o q => by have := (hin.out.a5 b o q).2; omega)⟩)
      have k5 := B5.out.cell
      have k5l := B5.out.lt
      go_upto_region 10 with (go_at_call 19; refine (own19O HL.out.isL HSM.out).mono ?_; rintro e wz ⟨q, rfl, he, hO⟩; have HO := hid hO; have EQ := hid he; unfold ledV; clear hO he k5 k5l)
      refine wp_later fun w10 hw10 => ?_
      obtain ⟨e10, b10⟩ := hw10.newB
      obtain ⟨N10, hN10⟩ : ∃ N, Hid (N = wz.heap.size) := ⟨_, hid rfl⟩
      rw [← hN10.out] at b10 ⊢
      have B10 : Hid (Blk w10 N10 27 #[.int .i64 x.folk, .int .i64 x.years, .slice q.A1 x.bn q.c1, .slice q.A2 x.fn q.c2, .slice q.A3 x.ln q.c3, .slice q.A4 x.pn q.c4, .slice q.A5 x.mn q.c5]) := hid b10
      have HO := hid (HO.out.ext e10)
      have EB := hid (EQ.out.trans e10)
      have hN10g := hid (show wB.heap.size ≤ N10 by have := EQ.out.size; have := hN10.out; omega)
      clear hw10 e10 b10 EQ
      have hN5n := hid (show N5 < wB.heap.size by have := XS.out.size; omega)
      have k10 := B10.out.cell
      have k10l := B10.out.lt
      go_upto_region 11 with fail
      clear k10 k10l
      go_loopw [63] (fun i W => ∃ k : Nat, k ≤ x.ln ∧ i = .int .i64 (k : Int) ∧ Hid (Ext wB W ∧ Blk W N10 27 #[.int .i64 x.folk, .int .i64 x.years, .slice q.A1 x.bn q.c1, .slice q.A2 x.fn q.c2, .slice q.A3 x.ln q.c3, .slice q.A4 x.pn q.c4, .slice q.A5 x.mn q.c5] ∧ OwnQ W wB.heap.size (renL x s k) q)) (fun i _ => x.ln - (intOf i).toNat)
      case atStart => exact ⟨0, Nat.zero_le _, rfl, hid ⟨EB.out, B10.out, by rw [renL_zero]; exact HO.out⟩⟩
      case round =>
        clear EB B10 HO
        obtain ⟨k, hk, rfl, hR⟩ := hrel
        obtain ⟨eb, b10, ho⟩ := hR.out
        have EB := hid eb
        have B10 := hid b10
        have HO := hid ho
        clear hR eb b10 ho
        by_cases hlk : k < x.ln
        · obtain ⟨g3, c3, hq3, hBg3, ha3⟩ : ∃ g3 c3, Value.slice q.A3 x.ln q.c3 = .slice (some ⟨g3, 0, none⟩) x.ln c3 ∧ wB.heap.size ≤ g3 ∧ Arr wr g3 (x.ln * 3) (fun i => rowsAt (rowsG 3 x.ln (renL x s k).lo) (i / 3) (i % 3)) := by
            rcases OwnR.arr HO.out.o3 with ⟨-, h0⟩ | ⟨g3, c3, h1, h2, h3, h4⟩
            · have := congrArg List.length h0
              rw [rowsG_length] at this
              have : x.ln = 0 := this
              omega
            · rw [rowsG_length] at h1 h4
              exact ⟨g3, c3, h1, h2, h4⟩
          obtain ⟨z0, hz0⟩ : ∃ z : Nat, Hid (x.lo k 0 = (z : Int)) := ⟨(x.lo k 0).toNat, hid (by have := hx.out.lwho k hlk; omega)⟩
          have hz0l : z0 < j + 1 := by have := hx.out.lwho k hlk; have := hz0.out; have := hF.out; omega
          obtain ⟨bp, op, hpA, hbp, l0, -, -⟩ := ((HL.out.ext EB.out).r3).at3 hlk
          rw [hz0.out] at l0
          have k5 := (B5.out.ext ((Ext.refl wB).trans EB.out)).cell
          have k5l := (B5.out.ext ((Ext.refl wB).trans EB.out)).lt
          have k10 := B10.out.cell
          have k10l := B10.out.lt
          rw [hpA] at k5
          rw [hq3] at k10
          have n7 := EB.out.some_ (hr7.out z0 hz0l)
          have n7l := Nat.lt_of_lt_of_le hg7.out.2 EB.out.size
          have hkl : (k : Int) < (x.ln : Int) := by omega
          have hl10 := hx.out.ln
          have hzl : (z0 : Int) < ((j + 1 : Nat) : Int) := by omega
          have hq3' := hid (show q.A3 = some ⟨g3, 0, none⟩ from (Value.slice.inj hq3).1)
          have HA3 := hid ha3
          clear hq3 ha3
          go_upto_region 13 with fail
          refine wp_region_tail 14 (by kernel_rfl) (by kernel_rfl) ?_
          simp only [List.take_succ_cons, List.take_zero, List.drop_succ_cons, List.drop_zero]
          repeat (go_big_quiet_step (fail))
          refine wpQuiet_nil ?_
          rintro w6 ⟨⟨_, he6⟩, rfl⟩
          have a3c := (HA3.out.ext he6).cell (i := k * 3) (by omega)
          have a3f := (HA3.out.ext he6).frozen (i := k * 3) (by omega)
          have a3l := (HA3.out.ext he6).1
          have HE6 := hid he6
          clear k5 k5l k10 k10l n7 n7l l0 hbp he6
          go_wp2_with fail
          go_roundw
          case rel =>
            refine ⟨k + 1, by omega, by go_num, hid ⟨(EB.out.trans HE6.out).setCell (p := ⟨g3, k * 3, none⟩) _ hBg3, (B10.out.ext HE6.out).far (by show N10 ≠ g3; intro e; exact (HO.out.o3.ne_blk B10.out (by decide)) (by rw [hq3'.out, e]; rfl)) _, ?_⟩⟩
            have h := (HO.out.ext HE6.out).ren (s := s) hq3'.out rfl
            rw [hz0.out, Int.toNat_natCast] at h
            exact h
          case measure => simp [intOf]; omega
        · obtain rfl : k = x.ln := by omega
          rw [← renP_zero] at HO
          clear hlk hk
          have k10 := B10.out.cell
          have k10l := B10.out.lt
          go_upto_region 16 with fail
          clear k10 k10l
          go_loopw [84] (fun i W => ∃ k : Nat, k ≤ x.pn ∧ i = .int .i64 (k : Int) ∧ Hid (Ext wB W ∧ Blk W N10 27 #[.int .i64 x.folk, .int .i64 x.years, .slice q.A1 x.bn q.c1, .slice q.A2 x.fn q.c2, .slice q.A3 x.ln q.c3, .slice q.A4 x.pn q.c4, .slice q.A5 x.mn q.c5] ∧ OwnQ W wB.heap.size (renP x s k) q)) (fun i _ => x.pn - (intOf i).toNat)
          case atStart => exact ⟨0, Nat.zero_le _, rfl, hid ⟨EB.out, B10.out, HO.out⟩⟩
          case round =>
            clear EB B10 HO
            obtain ⟨k, hk, rfl, hR⟩ := hrel
            obtain ⟨eb, b10, ho⟩ := hR.out
            have EB := hid eb
            have B10 := hid b10
            have HO := hid ho
            clear hR eb b10 ho
            by_cases hlk : k < x.pn
            · obtain ⟨g4, c4, hq4, hBg4, ha3⟩ : ∃ g4 c4, Value.slice q.A4 x.pn q.c4 = .slice (some ⟨g4, 0, none⟩) x.pn c4 ∧ wB.heap.size ≤ g4 ∧ Arr wr g4 (x.pn * 3) (fun i => rowsAt (rowsG 3 x.pn (renP x s k).pa) (i / 3) (i % 3)) := by
                rcases OwnR.arr HO.out.o4 with ⟨-, h0⟩ | ⟨g4, c4, h1, h2, h3, h4⟩
                · have := congrArg List.length h0
                  rw [rowsG_length] at this
                  have : x.pn = 0 := this
                  omega
                · rw [rowsG_length] at h1 h4
                  exact ⟨g4, c4, h1, h2, h4⟩
              obtain ⟨z0, hz0⟩ : ∃ z : Nat, Hid (x.pa k 0 = (z : Int)) := ⟨(x.pa k 0).toNat, hid (by have := hx.out.pwho k hlk; omega)⟩
              have hz0l : z0 < j + 1 := by have := hx.out.pwho k hlk; have := hz0.out; have := hF.out; omega
              obtain ⟨bp, op, hpA, hbp, l0, -, -⟩ := ((HL.out.ext EB.out).r4).at3 hlk
              rw [hz0.out] at l0
              have k5 := (B5.out.ext ((Ext.refl wB).trans EB.out)).cell
              have k5l := (B5.out.ext ((Ext.refl wB).trans EB.out)).lt
              have k10 := B10.out.cell
              have k10l := B10.out.lt
              rw [hpA] at k5
              rw [hq4] at k10
              have n7 := EB.out.some_ (hr7.out z0 hz0l)
              have n7l := Nat.lt_of_lt_of_le hg7.out.2 EB.out.size
              have hkl : (k : Int) < (x.pn : Int) := by omega
              have hl10 := hx.out.pn
              have hzl : (z0 : Int) < ((j + 1 : Nat) : Int) := by omega
              have hq4' := hid (show q.A4 = some ⟨g4, 0, none⟩ from (Value.slice.inj hq4).1)
              have HA4 := hid ha3
              clear hq4 ha3
              go_upto_region 18 with fail
              refine wp_region_tail 14 (by kernel_rfl) (by kernel_rfl) ?_
              simp only [List.take_succ_cons, List.take_zero, List.drop_succ_cons, List.drop_zero]
              repeat (go_big_quiet_step (fail))
              refine wpQuiet_nil ?_
              rintro w6 ⟨⟨_, he6⟩, rfl⟩
              have a3c := (HA4.out.ext he6).cell (i := k * 3) (by omega)
              have a3f := (HA4.out.ext he6).frozen (i := k * 3) (by omega)
              have a3l := (HA4.out.ext he6).1
              have HE6 := hid he6
              clear k5 k5l k10 k10l n7 n7l l0 hbp he6
              go_wp2_with fail
              go_roundw
              case rel =>
                refine ⟨k + 1, by omega, by go_num, hid ⟨(EB.out.trans HE6.out).setCell (p := ⟨g4, k * 3, none⟩) _ hBg4, (B10.out.ext HE6.out).far (by show N10 ≠ g4; intro e; exact (HO.out.o4.ne_blk B10.out (by decide)) (by rw [hq4'.out, e]; rfl)) _, ?_⟩⟩
                have h := (HO.out.ext HE6.out).renp (s := s) hq4'.out rfl
                rw [hz0.out, Int.toNat_natCast] at h
                exact h
              case measure => simp [intOf]; omega
            · obtain rfl : k = x.pn := by omega
              clear hlk hk
              have k5 := (B5.out.ext EB.out).cell
              have k5l := (B5.out.ext EB.out).lt
              have X0 := hid (XS.out.trans (Sx.ofExt EB.out))
              obtain ⟨wr0, rfl⟩ : ∃ W : World, W = wr := ⟨_, rfl⟩
              have hmn := hx.out.mn
              go_upto_region 21 with (go_at_call 80; refine (shuffle80 (n := x.mn) ST.out X0.out (by omega) (by omega)).mono ?_; rintro e wz ⟨l2, v2, rfl, hp, ho, hx2⟩; have HP2 := hid hp; obtain ⟨A2s, c2s, rfl, -⟩ := OwnR.slR ho; have hl2 := hid (show l2.length = x.mn by rw [hp.length_eq, List.length_range]); rw [show (rowsI (ofN l2)).length = x.mn by rw [rowsI_length, ofN_length]; exact hl2.out] at ho ⊢; have O2 := hid ho; have X2 := hid hx2; clear hp ho hx2 k5 k5l)
              obtain ⟨wC, rfl⟩ : ∃ W : World, W = wz := ⟨_, rfl⟩
              have hBr := hid EB.out.size
              have hdw := hid (show d.blk < wB.heap.size by have := XS.out.size; have := hbF.out; omega)
              have hdr := hid (show d.blk < wr0.heap.size by have := hBr.out; have := hdw.out; omega)
              have hne := hid (fun (b : Nat) (h : wB.heap.size ≤ b) => show b ≠ d.blk by have := hdw.out; omega)
              have B5 := hid ((B5.out.ext EB.out).sx X2.out (by omega))
              have B10 := hid (B10.out.sx X2.out (hne.out N10 hN10g.out))
              have HL := hid (show IsLA wC x p from ⟨(HL.out.r1.ext EB.out).sx X2.out (fun b o q => by have := (hin.out.a1 b o q).2; omega), (HL.out.r2.ext EB.out).sx X2.out (fun b o q => by have := (hin.out.a2 b o q).2; omega), (HL.out.r3.ext EB.out).sx X2.out (fun b o q => by have := (hin.out.a3 b o q).2; omega), (HL.out.r4.ext EB.out).sx X2.out (fun b o q => by have := (hin.out.a4 b o q).2; omega), (HL.out.r5.ext EB.out).sx X2.out (fun b o q => by have := (hin.out.a5 b o q).2; omega)⟩)
              have hr7 := hid (fun k hk => (X2.out.cell (Nat.lt_of_lt_of_le hg7.out.2 hBr.out) (by have := hg7.out.1; omega)).trans (EB.out.some_ (hr7.out k hk)))
              have hg7 := hid (show bF ≤ g7 ∧ g7 < wB.heap.size from hg7.out)
              have hsx : ∀ {e : TypeId} {c : Nat} {v : Value} {l : List (List Int)}, OwnR wr0 wB.heap.size e c v l → OwnR wC wB.heap.size e c v l := fun o => o.sx X2.out (fun h => hne.out _ (o.block h) rfl)
              have hA5 := hid (show ∀ b, (Value.slice q.A5 x.mn q.c5).ownBlock = some b → wB.heap.size ≤ b ∧ b < wr0.heap.size from fun b h => ⟨HO.out.o5.block h, HO.out.o5.lt h⟩)
              have HO := hid (show OwnQ wC wB.heap.size (renP x s x.pn) q from ⟨hsx HO.out.o1, hsx HO.out.o2, hsx HO.out.o3, hsx HO.out.o4, hsx HO.out.o5, HO.out.ne⟩)
              have EW := hid (show Ext w wC from X2.out.ext (((XS.out.ext EW.out hdW.out)).trans EB.out) hdW.out)
              have hwB := hid (show wB.heap.size ≤ wC.heap.size from Nat.le_trans hBr.out X2.out.size)
              have hwr := hid (show wB.heap.size ≤ wr0.heap.size from hBr.out)
              clear hsx X0 EB XS ST hN10g X2 hne hdr hbF hBr
              obtain ⟨r, hr⟩ : ∃ r : Nat → Nat, Hid (r = fun i => l2.getD i 0) := ⟨_, hid rfl⟩
              have hpr := hid (show PermN x.mn r by rw [hr.out]; exact perm_permN HP2.out)
              go_loopw [108] (fun i W => ∃ k : Nat, k ≤ x.mn ∧ i = .int .i64 (k : Int) ∧ Hid (Ext w W ∧ Ch (fun b => (Value.slice q.A5 x.mn q.c5).ownBlock = some b) wC W ∧ ∃ f : Nat → Nat → Int, OwnR W wB.heap.size 64 3 (.slice q.A5 x.mn q.c5) (rowsG 3 x.mn f) ∧ ∀ i, i < k → f (r i) 0 = (s (x.pr i 0).toNat : Int) ∧ f (r i) 1 = (s (x.pr i 1).toNat : Int) ∧ f (r i) 2 = x.pr i 2)) (fun i _ => x.mn - (intOf i).toNat)
              case atStart => exact ⟨0, Nat.zero_le _, rfl, hid ⟨EW.out, Ch.refl _ _, x.pr, HO.out.o5, fun i hi => absurd hi (by omega)⟩⟩
              case round =>
                clear EW
                obtain ⟨k, hk, rfl, hR⟩ := hrel
                obtain ⟨ew, ch, f, of, hf⟩ := hR.out
                have EW := hid ew
                have CH := hid ch
                have OF := hid of
                have HF := hid hf
                clear hR ew ch of hf
                by_cases hlk : k < x.mn
                · obtain ⟨rk, hrk⟩ : ∃ z, Hid (r k = z) := ⟨_, hid rfl⟩
                  have hrl : rk < x.mn := by rw [← hrk.out]; exact hpr.out.lt k hlk
                  obtain ⟨b2, o2, hA2, hb2, c2⟩ := (O2.out.rd.ch CH.out (fun b o e => by
                    have h1 : (Value.slice A2s x.mn c2s).ownBlock = some b := by rw [e]; rfl
                    exact ⟨O2.out.lt h1, fun h => by have := (hA5.out b h).2; have := O2.out.block h1; omega⟩)).at1 hlk
                  rw [rowsI_at, ni_ofN, show l2.getD k 0 = rk by rw [← hrk.out, hr.out]] at c2
                  obtain ⟨b5, o5, hp5, hb5, l0, l1', l2'⟩ := (HL.out.r5.ch CH.out (fun b o e => by
                    have h1 := (hin.out.a5 b o e).2
                    have h2 := hdw.out
                    have h3 := hwB.out
                    exact ⟨by omega, fun h => by have := (hA5.out b h).1; omega⟩)).at3 hlk
                  obtain ⟨z1, hz1⟩ : ∃ z : Nat, Hid (x.pr k 0 = (z : Int)) := ⟨(x.pr k 0).toNat, hid (by have := hx.out.mfrom k hlk; omega)⟩
                  obtain ⟨z2, hz2⟩ : ∃ z : Nat, Hid (x.pr k 1 = (z : Int)) := ⟨(x.pr k 1).toNat, hid (by have := hx.out.mto k hlk; omega)⟩
                  obtain ⟨z3, hz3⟩ : ∃ z : Int, Hid (x.pr k 2 = z) := ⟨_, hid rfl⟩
                  have hz1l : z1 < j + 1 := by have := hx.out.mfrom k hlk; have := hz1.out; have := hF.out; omega
                  have hz2l : z2 < j + 1 := by have := hx.out.mto k hlk; have := hz2.out; have := hF.out; omega
                  rw [hz1.out] at l0
                  rw [hz2.out] at l1'
                  rw [hz3.out] at l2'
                  have B5r := hid (CH.out.blk B5.out (fun h => by have := (hA5.out N5 h).1; have := hN5n.out; omega))
                  have B10r := hid (CH.out.blk B10.out (fun h => HO.out.o5.ne_blk B10.out (by decide) h))
                  have h7r : Hid (∀ i, i < j + 1 → wr.cell? ⟨g7, i, none⟩ = some (.int .i64 (s i : Int))) := hid fun i hi => by
                    have e : wr.heap[g7]? = wC.heap[g7]? := CH.out.block g7 (by have := hg7.out.2; have := hwB.out; omega) (fun h => by have := (hA5.out g7 h).1; have := hg7.out.2; omega)
                    rw [World.cell?_of_block (a := ⟨g7, i, none⟩) e]
                    exact hr7.out i hi
                  have HA2 := hid hA2
                  have k5 := B5r.out.cell
                  have k5l := B5r.out.lt
                  rw [hp5] at k5
                  rw [hA2]
                  clear hA2
                  have hkm : (k : Int) < (x.mn : Int) := by omega
                  have hm12 := hmn
                  go_upto_region 24 with fail
                  refine wp_later fun w15 hw => ?_
                  obtain ⟨e15, b15⟩ := hw.newB
                  obtain ⟨N15, hN15⟩ : ∃ N, Hid (N = wr.heap.size) := ⟨_, hid rfl⟩
                  rw [← hN15.out] at b15 ⊢
                  obtain ⟨g5, c5, hq5, hBg5, ha5⟩ : ∃ g5 c5, Value.slice q.A5 x.mn q.c5 = .slice (some ⟨g5, 0, none⟩) x.mn c5 ∧ wB.heap.size ≤ g5 ∧ Arr wr g5 (x.mn * 3) (fun i => rowsAt (rowsG 3 x.mn f) (i / 3) (i % 3)) := by
                    rcases OwnR.arr OF.out with ⟨-, h0⟩ | ⟨g5, c5, h1, h2, h3, h4⟩
                    · have := congrArg List.length h0
                      rw [rowsG_length] at this
                      have : x.mn = 0 := this
                      omega
                    · rw [rowsG_length] at h1 h4
                      exact ⟨g5, c5, h1, h2, h4⟩
                  have hq5' := hid hq5
                  have HA5 := hid (ha5.ext e15)
                  have B15 := hid (show Blk w15 N15 64 #[.int .i64 (z1 : Int), .int .i64 (z2 : Int), .int .i64 z3] from b15)
                  have k15 := B15.out.cell
                  have k15l := B15.out.lt
                  have k10 := (B10r.out.ext e15).cell
                  have k10l := (B10r.out.ext e15).lt
                  rw [hq5] at k10
                  have n1 := e15.some_ (h7r.out z1 hz1l)
                  have n2 := e15.some_ (h7r.out z2 hz2l)
                  have n7l : g7 < w15.heap.size := by have := hg7.out.2; have := hwB.out; have := CH.out.size; have := e15.size; omega
                  have hz1i : (z1 : Int) < ((j + 1 : Nat) : Int) := by omega
                  have hz2i : (z2 : Int) < ((j + 1 : Nat) : Int) := by omega
                  have hrki : (rk : Int) < (x.mn : Int) := by omega
                  have E15 := hid e15
                  clear hw e15 b15 hN15 hq5 ha5 k5 k5l l0 l1' l2' hb5 hb2 c2
                  refine wp_region_tail 17 (by kernel_rfl) (by kernel_rfl) ?_
                  simp only [List.take_succ_cons, List.take_zero, List.drop_succ_cons, List.drop_zero]
                  repeat (go_big_quiet_step (fail))
                  refine wpQuiet_nil ?_
                  rintro w6 ⟨⟨_, he6⟩, rfl⟩
                  have a50 := (HA5.out.ext he6).cell (i := rk * 3) (by omega)
                  have a51 := (HA5.out.ext he6).cell (i := rk * 3 + 1) (by omega)
                  have a52 := (HA5.out.ext he6).cell (i := rk * 3 + 2) (by omega)
                  have f50 := (HA5.out.ext he6).frozen (i := rk * 3) (by omega)
                  have f51 := (HA5.out.ext he6).frozen (i := rk * 3 + 1) (by omega)
                  have f52 := (HA5.out.ext he6).frozen (i := rk * 3 + 2) (by omega)
                  have a5l := (HA5.out.ext he6).1
                  have HE6 := hid (E15.out.trans he6)
                  clear k15 k15l k10 k10l n1 n2 n7l he6
                  go_wp2_with fail
                  go_roundw
                  case rel =>
                    have ho := OF.out.ext HE6.out
                    rw [hq5'.out] at ho
                    have h1 := OwnR.setG (k := rk) (c := 0) (z := (s z1 : Int)) ho (by omega)
                    have h2 := OwnR.setG (k := rk) (c := 1) (z := (s z2 : Int)) h1 (by omega)
                    have h3 := OwnR.setG (k := rk) (c := 2) (z := z3) h2 (by omega)
                    rw [Nat.add_zero] at h3
                    have hwg : w.heap.size ≤ g5 := by have := hdW.out; have := hdw.out; omega
                    refine ⟨k + 1, by omega, by go_num, hid ⟨(((EW.out.trans HE6.out).setCell (p := ⟨g5, rk * 3, none⟩) _ hwg).setCell (p := ⟨g5, rk * 3 + 1, none⟩) _ hwg).setCell (p := ⟨g5, rk * 3 + 2, none⟩) _ hwg, ?_, _, by rw [hq5'.out]; exact h3, fun i hi => ?_⟩⟩
                    · have hS : ∀ b, b = g5 → (Value.slice q.A5 x.mn q.c5).ownBlock = some b := fun b e => by rw [hq5'.out, e]; rfl
                      exact (((CH.out.trans (Ch.ofExt HE6.out) (fun b _ e => e.elim)).trans (Ch.ofSet _ g5 (rk * 3) _) (fun b _ e => hS b e)).trans (Ch.ofSet _ g5 (rk * 3 + 1) _) (fun b _ e => hS b e)).trans (Ch.ofSet _ g5 (rk * 3 + 2) _) (fun b _ e => hS b e)
                    · by_cases e : i = k
                      · subst e
                        rw [hrk.out, hz1.out, hz2.out, hz3.out, Int.toNat_natCast, Int.toNat_natCast]
                        simp
                      · have hn : ¬ r i = rk := fun q => e (hpr.out.inj i k (by omega) hlk (q.trans hrk.out.symm))
                        have h := HF.out i (by omega)
                        simp [hn]
                        exact h
                  case measure => simp [intOf]; omega
                · obtain rfl : k = x.mn := by omega
                  clear hlk hk
                  obtain ⟨y, hy⟩ : ∃ y : LD, Hid (y = { renP x s x.pn with pr := f }) := ⟨_, hid rfl⟩
                  have hN := hid (show NamedL x y s r from by
                    rw [hy.out]
                    refine ⟨by rw [hfn.out]; exact hps.out, hs0.out, hpr.out, rfl, rfl, rfl, rfl, rfl, rfl, rfl, fun _ _ => rfl, fun _ _ => rfl, fun i hi => ⟨?_, ?_, ?_⟩, fun i hi => ⟨?_, ?_, ?_⟩, fun i hi => HF.out i hi⟩
                    · show (if i < x.ln ∧ 0 = 0 then _ else _) = _
                      rw [if_pos ⟨hi, rfl⟩]
                    · show (if i < x.ln ∧ 1 = 0 then _ else _) = _
                      rw [if_neg (by omega)]
                    · show (if i < x.ln ∧ 2 = 0 then _ else _) = _
                      rw [if_neg (by omega)]
                    · show (if i < x.pn ∧ 0 = 0 then _ else _) = _
                      rw [if_pos ⟨hi, rfl⟩]
                    · show (if i < x.pn ∧ 1 = 0 then _ else _) = _
                      rw [if_neg (by omega)]
                    · show (if i < x.pn ∧ 2 = 0 then _ else _) = _
                      rw [if_neg (by omega)])
                  have hap5 : ∀ {e : TypeId} {c : Nat} {v : Value} {l : List (List Int)}, OwnR wC wB.heap.size e c v l → e ≠ 64 → OwnR wr wB.heap.size e c v l := fun o he => CH.out.own o (fun g hg h => o.apart' HO.out.o5 he g hg h.symm)
                  have HQ := hid (show OwnQ wr wB.heap.size y q from by
                    rw [hy.out]
                    exact ⟨hap5 HO.out.o1 (by decide), hap5 HO.out.o2 (by decide), hap5 HO.out.o3 (by decide), hap5 HO.out.o4 (by decide), OF.out, HO.out.ne⟩)
                  have HY := hid HQ.out.la
                  have B5 := hid (CH.out.blk B5.out (fun h => by have := (hA5.out N5 h).1; have := hN5n.out; omega))
                  have B10 := hid (CH.out.blk B10.out (fun h => HO.out.o5.ne_blk B10.out (by decide) h))
                  have hlow : ∀ b, b < d.blk → b < wC.heap.size ∧ ¬ (Value.slice q.A5 x.mn q.c5).ownBlock = some b := fun b hb => ⟨by have := hdw.out; have := hwB.out; omega, fun h => by have := (hA5.out b h).1; have := hdw.out; omega⟩
                  have HL := hid (show IsLA wr x p from ⟨HL.out.r1.ch CH.out (fun b o e => hlow b (hin.out.a1 b o e).2), HL.out.r2.ch CH.out (fun b o e => hlow b (hin.out.a2 b o e).2), HL.out.r3.ch CH.out (fun b o e => hlow b (hin.out.a3 b o e).2), HL.out.r4.ch CH.out (fun b o e => hlow b (hin.out.a4 b o e).2), HL.out.r5.ch CH.out (fun b o e => hlow b (hin.out.a5 b o e).2)⟩)
                  have h7r : Hid (∀ i, i < j + 1 → wr.cell? ⟨g7, i, none⟩ = some (.int .i64 (s i : Int))) := hid fun i hi => by
                    have e : wr.heap[g7]? = wC.heap[g7]? := CH.out.block g7 (by have := hg7.out.2; have := hwB.out; omega) (fun h => by have := (hA5.out g7 h).1; have := hg7.out.2; omega)
                    rw [World.cell?_of_block (a := ⟨g7, i, none⟩) e]
                    exact hr7.out i hi
                  have hg7l := hid (show g7 < wr.heap.size by have := hg7.out.2; have := hwB.out; have := CH.out.size; omega)
                  clear hap5 hlow CH OF HF HQ O2 HP2 hl2 hr hA5 HO hr7 hg7 hwB hwr hdw hN5n
                  have hyok := hid (hN.out.ok hx.out)
                  have hysm := hid (show Sm y from ⟨by rw [hN.out.bn]; exact HSM.out.b, by rw [hN.out.fn]; exact HSM.out.f, by rw [hN.out.ln]; exact HSM.out.l, by rw [hN.out.pn]; exact HSM.out.p, by rw [hN.out.mn]; exact HSM.out.m⟩)
                  obtain ⟨wD, rfl⟩ : ∃ W : World, W = wr := ⟨_, rfl⟩
                  go_upto_region 27 with fail
                  have hyr := hx.out.years
                  have hB10 : Hid (Blk wD N10 27 #[.int .i64 y.folk, .int .i64 y.years, .slice q.A1 y.bn q.c1, .slice q.A2 y.fn q.c2, .slice q.A3 y.ln q.c3, .slice q.A4 y.pn q.c4, .slice q.A5 y.mn q.c5]) := hid (by rw [hN.out.folk, hN.out.years, hN.out.bn, hN.out.fn, hN.out.ln, hN.out.pn, hN.out.mn]; exact B10.out)
                  clear B10
                  go_loopw [138] (fun i W => ∃ k : Nat, k ≤ j + 1 ∧ i = .int .i64 (k : Int) ∧ Hid (Ext wD W)) (fun i _ => j + 1 - (intOf i).toNat)
                  case atStart => exact ⟨0, Nat.zero_le _, rfl, hid (Ext.refl _)⟩
                  case round =>
                    obtain ⟨k, hk, rfl, E⟩ := hrel
                    by_cases hlk : k < j + 1
                    · have n7 := E.out.some_ (h7r.out k hlk)
                      have n7l := Nat.lt_of_lt_of_le hg7l.out E.out.size
                      have k5 := (B5.out.ext E.out).cell
                      have k5l := (B5.out.ext E.out).lt
                      have k10 := (hB10.out.ext E.out).cell
                      have k10l := (hB10.out.ext E.out).lt
                      have hki : (k : Int) < ((j + 1 : Nat) : Int) := by omega
                      have hj8 := hF6
                      have hsk := hid (hps.out.lt k hlk)
                      have ew1 := hid (eW_at hx.out (a := (k : Int)) (y := x.years - 1) (by omega) (by have := hF.out; omega) (by omega) (by omega))
                      have ew2 := hid (eW_at hyok.out (a := (s k : Int)) (y := x.years - 1) (by omega) (by rw [hN.out.folk]; have := hF.out; have := hsk.out; omega) (by omega) (by rw [hN.out.years]; omega))
                      have hoe := hid (hN.out.owes hx.out (w := k) (by rw [hfn.out]; exact hlk))
                      obtain ⟨vo, hvo⟩ : ∃ z, Hid (P.owes x (k : Int) (x.years - 1) = z) := ⟨_, hid rfl⟩
                      rw [hvo.out] at hoe
                      obtain ⟨sk, hskk⟩ : ∃ z, Hid (s k = z) := ⟨_, hid rfl⟩
                      rw [hskk.out] at n7 hsk ew2 hoe
                      go_upto_region 30 with (go_at_call 25; refine (owes_ok (p := p) (HL.out.ext E.out) HSM.out ew1.out).mono ?_; rintro e wz ⟨rfl, he⟩; rw [hvo.out]; have E := hid (E.out.trans he); clear n7 n7l k5 k5l k10 k10l; have k5 := (B5.out.ext E.out).cell; have k5l := (B5.out.ext E.out).lt; have k10 := (hB10.out.ext E.out).cell; have k10l := (hB10.out.ext E.out).lt; clear he)
                      go_wp2_with (go_at_call 25; refine (owes_ok (p := q) (HY.out.ext E.out) hysm.out ew2.out).mono ?_; rintro e wz ⟨rfl, he⟩; rw [hoe.out]; have E := hid (E.out.trans he); clear he)
                      go_roundw
                      case rel => exact ⟨k + 1, by omega, by go_num, E⟩
                      case measure => simp [intOf]; omega
                    · obtain rfl : k = j + 1 := by omega
                      clear hlk hk
                      have hft := hid (show (((j + 1 : Nat) : Int) != x.folk) = false by have := hF.out; simp; omega)
                      have hfy := hid (show y.folk.toNat = j + 1 by rw [hN.out.folk]; exact hfn.out)
                      have ca := hid (show chkD (j + 1) (fun _ => j + 1) (P.owed x) = 0 by have := owed_debts hx.out; rw [hfn.out] at this; exact this)
                      have cb := hid (show chkD (j + 1) (fun _ => j + 1) (P.owed y) = 0 by have := owed_debts hyok.out; rw [hfy.out] at this; exact this)
                      have hmm := hid (fun a b (ha : a < j + 1) (hb : b < j + 1) => show P.owed y (s a) (s b) = P.owed x a b from hN.out.owed hx.out (by rw [hfn.out]; exact ha) (by rw [hfn.out]; exact hb))
                      have hfew := hid (fun (L1 L2 : List Nat) p1 p2 => few_named hx.out hN.out hfn.out (L1 := L1) (L2 := L2) p1 p2)
                      obtain ⟨ma, hma⟩ : ∃ m, Hid (P.owed x = m) := ⟨_, hid rfl⟩
                      obtain ⟨mb, hmb⟩ : ∃ m, Hid (P.owed y = m) := ⟨_, hid rfl⟩
                      rw [hma.out] at ca hmm hfew
                      rw [hmb.out] at cb hmm hfew
                      have hj7 : j + 1 ≤ 7 := by omega
                      have k5 := (B5.out.ext E.out).cell
                      have k5l := (B5.out.ext E.out).lt
                      go_upto_region 35 with (go_at_call 27; refine (owed_ok (p := p) (HL.out.ext E.out) HSM.out (chk_of_ok hx.out)).mono ?_; rintro e wz ⟨u, rfl, he, hu⟩; obtain ⟨gu, ru, cu, capu, rfl, hmu⟩ := hu; rw [hfn.out, hma.out] at hmu; rw [hfn.out]; have HMA := hid hmu; have E := hid (E.out.trans he); clear he hmu k5 k5l)
                      have k10 := (hB10.out.ext E.out).cell
                      have k10l := (hB10.out.ext E.out).lt
                      go_upto_region 36 with (go_at_call 27; refine (owed_ok (p := q) (HY.out.ext E.out) hysm.out (chk_of_ok hyok.out)).mono ?_; rintro e wz ⟨u, rfl, he, hu⟩; obtain ⟨gv, rv, cv, capv, rfl, hmv⟩ := hu; rw [hfy.out, hmb.out] at hmv; rw [hfy.out]; have HMB := hid hmv; have HMA := hid (HMA.out.ext he); have E := hid (E.out.trans he); clear he hmv k10 k10l)
                      have k5 := (B5.out.ext E.out).cell
                      have k5l := (B5.out.ext E.out).lt
                      have hftv := hft.out
                      have hftw : (((j : Int) + 1) != x.folk) = false := by have := hF.out; simp; omega
                      have G := hid (Ext.refl wz)
                      obtain ⟨wE, rfl⟩ : ∃ W : World, W = wz := ⟨_, rfl⟩
                      go_upto_region 38 with (first
                        | (go_at_call 33; (fail_if_success (have := hS1.out)); refine (checkDebts33 (HMA.out.rdN.ext G.out) (by omega) (fun _ _ => show j + 1 ≤ 1000 by omega)).mono ?_; rintro e wz ⟨rfl, he⟩; rw [ca.out]; have hS1 := hid he; have G := hid (G.out.trans he); clear he k5 k5l; have k5 := (B5.out.ext (E.out.trans G.out)).cell; have k5l := (B5.out.ext (E.out.trans G.out)).lt)
                        | (go_at_call 33; refine (checkDebts33 (HMB.out.rdN.ext G.out) (by omega) (fun _ _ => show j + 1 ≤ 1000 by omega)).mono ?_; rintro e wz ⟨rfl, he⟩; rw [cb.out]; have G := hid (G.out.trans he); clear he k5 k5l; have k5 := (B5.out.ext (E.out.trans G.out)).cell; have k5l := (B5.out.ext (E.out.trans G.out)).lt))
                      clear hftv hftw k5 k5l hS1
                      have HMA := hid (HMA.out.ext G.out)
                      have HMB := hid (HMB.out.ext G.out)
                      have E := hid (E.out.trans G.out)
                      obtain ⟨wG, rfl⟩ : ∃ W : World, W = wz := ⟨_, rfl⟩
                      clear G
                      have h7r := hid (fun k hk => E.out.some_ (h7r.out k hk))
                      have hg7l := hid (Nat.lt_of_lt_of_le hg7l.out E.out.size)
                      go_upto_region 39 with fail
                      go_loopw [215] (fun i W => ∃ k : Nat, k ≤ j + 1 ∧ i = .int .i64 (k : Int) ∧ Hid (Ext wG W)) (fun i _ => j + 1 - (intOf i).toNat)
                      case atStart => exact ⟨0, Nat.zero_le _, rfl, hid (Ext.refl _)⟩
                      case round =>
                        obtain ⟨a, ha, rfl, G⟩ := hrel
                        by_cases hla : a < j + 1
                        · have ka := (HMA.out.ext G.out).atRow hla
                          have kal := (HMA.out.ext G.out).lt
                          have hai : (a : Int) < ((j + 1 : Nat) : Int) := by omega
                          go_upto_region 42 with fail
                          clear ka kal
                          obtain ⟨w42, rfl⟩ : ∃ W : World, W = wr := ⟨_, rfl⟩
                          go_loopw [222] (fun i W => ∃ k : Nat, k ≤ j + 1 ∧ i = .int .i64 (k : Int) ∧ Hid (Ext wG W)) (fun i _ => j + 1 - (intOf i).toNat)
                          case atStart => exact ⟨0, Nat.zero_le _, rfl, G⟩
                          case round =>
                            clear G
                            obtain ⟨b, hb, rfl, G⟩ := hrel
                            by_cases hlb : b < j + 1
                            · have hbi : (b : Int) < ((j + 1 : Nat) : Int) := by omega
                              obtain ⟨sa, hsa⟩ : ∃ z, Hid (s a = z) := ⟨_, hid rfl⟩
                              obtain ⟨sb, hsb⟩ : ∃ z, Hid (s b = z) := ⟨_, hid rfl⟩
                              have hsal : sa < j + 1 := by rw [← hsa.out]; exact hps.out.lt a hla
                              have hsbl : sb < j + 1 := by rw [← hsb.out]; exact hps.out.lt b hlb
                              have n1 := G.out.some_ (h7r.out a hla)
                              have n2 := G.out.some_ (h7r.out b hlb)
                              rw [hsa.out] at n1
                              rw [hsb.out] at n2
                              have n7l := Nat.lt_of_lt_of_le hg7l.out G.out.size
                              have MA := hid (HMA.out.ext G.out)
                              have MB := hid (HMB.out.ext G.out)
                              obtain ⟨v, hv⟩ : ∃ z, Hid (ma a b = z) := ⟨_, hid rfl⟩
                              have hrow := MA.out.row a hla
                              have kr := hrow.cell hlb
                              have krl := hrow.1
                              rw [hv.out] at kr
                              have kb := MB.out.atRow hsal
                              have kbl := MB.out.lt
                              have hrw := MB.out.row sa hsal
                              have kq := hrw.cell hsbl
                              have kql := hrw.1
                              rw [show mb sa sb = v by rw [← hsa.out, ← hsb.out, hmm.out a b hla hlb, hv.out]] at kq
                              have hsai : (sa : Int) < ((j + 1 : Nat) : Int) := by omega
                              have hsbi : (sb : Int) < ((j + 1 : Nat) : Int) := by omega
                              clear hrow hrw
                              go_upto_region 44 with fail
                              refine wp_region_later (by kernel_rfl) (by kernel_rfl) ?_
                              repeat (go_big_quiet_step (fail))
                              refine wpQuiet_nil ?_
                              rintro w7 ⟨⟨_, he7⟩, rfl⟩
                              have G7 := hid (G.out.trans he7)
                              clear n1 n2 n7l kr krl kb kbl kq kql he7
                              go_wp2_with fail
                              go_roundw
                              case rel => exact ⟨b + 1, by omega, by go_num, G7⟩
                              case measure => simp [intOf]; omega
                            · go_wp2_with fail
                              go_roundw
                              case rel => exact ⟨a + 1, by omega, by go_num, G⟩
                              case measure => simp [intOf]; omega
                        · obtain rfl : a = j + 1 := by omega
                          clear hla ha
                          have HRA := hid (HMA.out.rdN.ext G.out)
                          have HRB := hid (HMB.out.rdN.ext G.out)
                          have E := hid (E.out.trans G.out)
                          have hM1 := hid (show ∀ k, k < j + 1 → (fun _ : Nat => j + 1) k ≤ 1000 from fun k _ => by show j + 1 ≤ 1000; omega)
                          obtain ⟨wH, rfl⟩ : ∃ W : World, W = wr := ⟨_, rfl⟩
                          have R := hid (Ext.refl wH)
                          clear G HMA HMB
                          go_upto_region 49 with (go_at_call 59; (with_reducible refine (fewest59 (HRA.out.ext R.out) (by omega) hM1.out).mono ?_); rintro e wz ⟨u1, rfl, he, -, hu⟩; rw [ca.out] at hu ⊢; have HU1 := hid (hu rfl); have R := hid (R.out.trans he); clear he hu)
                          go_upto_region 50 with (go_at_call 59; (with_reducible refine (fewest59 (HRB.out.ext R.out) (by omega) hM1.out).mono ?_); rintro e wz ⟨u2, rfl, he, -, hu⟩; rw [cb.out] at hu ⊢; have HU2 := hid (hu rfl); have R := hid (R.out.trans he); clear he hu)
                          obtain ⟨L1, q1, -, z1⟩ := HU1.out
                          obtain ⟨L2, q2, -, z2⟩ := HU2.out
                          have e12 := (hfew.out L1 L2 q1 q2).1
                          obtain ⟨Z, hZ⟩ : ∃ Z : Nat, (settleM L1 (netTo ma (j + 1) (j + 1))).l.length = Z := ⟨_, rfl⟩
                          rw [hZ] at z1 e12
                          rw [← e12] at z2
                          subst z1 z2
                          clear HU1 HU2 q1 q2 hZ e12
                          go_upto_region 51 with (go_at_call 61; (with_reducible refine (groups61 (HRA.out.ext R.out) (by omega) hM1.out).mono ?_); rintro e wz ⟨u3, rfl, he, -, hu⟩; rw [ca.out] at hu ⊢; obtain ⟨L3, q3, -, o3⟩ := hu rfl; obtain ⟨A3, c3, rfl, -⟩ := o3.rd.rdN; have HQ3 := hid q3; have R := hid (R.out.trans he); clear he hu o3 q3)
                          go_upto_region 52 with (go_at_call 61; (with_reducible refine (groups61 (HRB.out.ext R.out) (by omega) hM1.out).mono ?_); rintro e wz ⟨u4, rfl, he, -, hu⟩; rw [cb.out] at hu ⊢; obtain ⟨L4, q4, -, o4⟩ := hu rfl; obtain ⟨A4, c4, rfl, -⟩ := o4.rd.rdN; rw [← (hfew.out _ _ HQ3.out q4).2]; have R := hid (R.out.trans he); clear he hu o4 q4)
                          go_wp2_with (go_at_call 18; refine (awake_any _).mono ?_; rintro e wz ⟨rfl, he⟩; have R := hid (R.out.trans he); clear he)
                          go_ret
                          exact ⟨rfl, EW.out.trans (E.out.trans R.out)⟩
end Go.Proofs.YtbceepjjdfpfmaaGreat
