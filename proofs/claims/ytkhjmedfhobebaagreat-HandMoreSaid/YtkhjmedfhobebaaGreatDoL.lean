/- Walks of SortFunc at an own list of stretches, nil too; what is read through a return over marks. -/
import Derived.Test.YtkhjmedfhobebaaGreatDoH
namespace Go
theorem World.cell_obj {w : World} {b o : Nat} {v : Value} (h : w.cell? ⟨b, o, none⟩ = some v) : ∃ x, w.heap[b]? = some x ∧ x.isCells = true := by
 unfold World.cell? at h
 cases hx : w.heap[b]? with
 | none => simp [hx] at h
 | some x =>
  refine ⟨x, rfl, ?_⟩
  cases x <;> simp [hx] at h <;> rfl
theorem Kc.cell {B : Nat} {W W' : World} (k : Kc B W W') {b o : Nat} {v : Value} (h : W.cell? ⟨b, o, none⟩ = some v) : W'.cell? ⟨b, o, none⟩ = some v := by
 obtain ⟨x, h1, h2⟩ := World.cell_obj h
 have h3 := k.2.2.2.2 b x h1 (.inl h2)
 rw [← h]
 unfold World.cell?
 simp [h1, h3]
theorem Rd.kc {B : Nat} {W W' : World} {A : Option Addr} {n c : Nat} {g : Nat → Nat → Int} (h : Rd W A n c g) (k : Kc B W W') : Rd W' A n c g := fun hn => by
 obtain ⟨b, o, hA, hc⟩ := h hn
 exact ⟨b, o, hA, fun i hi j hj => k.cell (hc i hi j hj)⟩
theorem SlR.kc {B : Nat} {W W' : World} {c : Nat} {v : Value} {l : List (List Int)} (h : SlR W c v l) (k : Kc B W W') : SlR W' c v l := by
 obtain ⟨A, cap, hv, hr⟩ := h
 exact ⟨A, cap, hv, hr.kc k⟩
end Go
namespace Go.Proofs.YtkhjmedfhobebaaGreat
open Go.RowKit HandSpec
set_option maxHeartbeats 800000
set_option maxRecDepth 100000
theorem insort260_nil (w : World) : Calls Tryz.prog 260 #[.slice none 0 0, .int .i64 0, .int .i64 0, .func (.func 196) #[] #[]] w fun e w' => e = .returned (.tuple #[]) ∧ w = w' := by
 go_enter Tryz.func260, Tryz.ntmps260
 go_wp2
 refine wp_loop_rounds 1 ?_
 rw [rounds_succ]
 go_wp2
 exact bodyPost_end (results_none rfl _ _ _) rfl ⟨rfl, rfl⟩
theorem pdq237_nil (w : World) (z : Int) : Calls Tryz.prog 237 #[.slice none 0 0, .int .i64 0, .int .i64 0, .int .i64 z, .func (.func 196) #[] #[]] w fun e w' => e = .returned (.tuple #[]) ∧ w = w' := by
 go_enter Tryz.func237, Tryz.ntmps237
 go_wp2
 refine wp_loop_rounds 1 ?_
 rw [rounds_succ]
 go_wp2_with (go_at_call 260; refine (insort260_nil _).mono ?_; rintro e w1 ⟨rfl, rfl⟩)
 exact bodyPost_ret (results_none rfl _ _ _) rfl ⟨rfl, rfl⟩
theorem blen0 (w : World) : Calls Tryz.prog 230 #[.int .u64 0] w fun e w' => (∃ k : Int, e = .returned (.int .i64 k)) ∧ w = w' := blen 0 (by omega) w
theorem sort195_nil (w : World) : Calls Tryz.prog 195 #[.slice none 0 0, .func (.func 196) #[] #[]] w fun e w' => e = .returned (.tuple #[]) ∧ w = w' := by
 go_enter Tryz.func195, Tryz.ntmps195
 go_wp2_with (first
  | (go_at_call 230; refine (blen0 _).mono ?_; rintro e w' ⟨⟨z, rfl⟩, rfl⟩)
  | (go_at_call 237; refine (pdq237_nil _ _).mono ?_; rintro e w1 ⟨rfl, rfl⟩))
 exact bodyPost_end (results_none rfl _ _ _) rfl ⟨rfl, rfl⟩
theorem OwnR.kc {B B' : Nat} {W W' : World} {e : TypeId} {c : Nat} {v : Value} {l : List (List Int)} (h : OwnR W B e c v l) (k : Kc B' W W') : OwnR W' B e c v l :=
 ⟨h.1, h.2.1, h.2.2.imp id fun ⟨g, cap, cur, hv, hb, hh, hr⟩ => ⟨g, cap, cur, hv, hb, k.2.2.2.2 g _ hh (.inl rfl), hr⟩⟩
theorem OwnR.sorted {w' w0 : World} {B g cap : Nat} {C : Array Value} {l l' : List (Nat × Nat)} (hB : B ≤ g) (h1 : l.length ≤ cap) (h2 : cap ≤ maxLen) (h3 : C.size = cap * 2) (he : Es w0 (51, C.size) g w') (hp : l'.Perm l) (ha : Arr w' g (l.length * 2) (c2 l')) :
  OwnR w' B 51 2 (.slice (some ⟨g, 0, none⟩) l.length cap) (rows2 l') := by
 have hr : ∀ r ∈ rows2 l', r.length = 2 := fun r h => by
  simp only [rows2, List.mem_map] at h
  obtain ⟨p, -, rfl⟩ := h
  rfl
 obtain ⟨-, D, hD, hs⟩ := he
 have hl := hp.length_eq
 have hc := cellsOf_length hr
 refine ⟨hr, hc, .inr ⟨g, cap, D, by rw [rows2_length, hl], hB, hD, by rw [rows2_length]; omega, h2, hs.trans h3, ?_⟩⟩
 have hs' : D.size = C.size := hs
 apply List.ext_getElem?
 intro i
 by_cases hi : i < l'.length * 2
 ·rw [List.getElem?_take_of_lt (by rw [rows2_length]; exact hi), Array.getElem?_toList]
  have h4 := (ha.2 i (by omega)).1
  rw [hD.cell] at h4
  rw [h4]
  obtain ⟨k, rfl | rfl⟩ : ∃ k, i = k * 2 ∨ i = k * 2 + 1 := ⟨i / 2, by omega⟩
  ·have h5 := cellsOf_get hr (k := k) (j := 0) (by rw [rows2_length]; omega) (by omega)
   rw [c2_0 l' (by omega)]
   rw [Nat.add_zero] at h5
   rw [h5]
   simp [rows2, nth, show k < l'.length by omega]
  ·have h5 := cellsOf_get hr (k := k) (j := 1) (by rw [rows2_length]; omega) (by omega)
   rw [c2_1 l' (by omega), h5]
   simp [rows2, nth, show k < l'.length by omega]
 ·rw [List.getElem?_take_eq_none (by rw [rows2_length]; omega), List.getElem?_eq_none (by rw [hc, rows2_length]; omega)]
theorem sort_own {w0 w : World} {B : Nat} {v : Value} {l : List (Nat × Nat)} (h : OwnR w B 51 2 v (rows2 l)) (he0 : Ext w0 w) (hB : w0.heap.size ≤ B) (hn : l.length ≤ 12) (hl : ∀ p, p ∈ l → p.1 ≤ 100 ∧ p.2 ≤ 100) :
  Calls Tryz.prog 195 #[v, .func (.func 196) #[] #[]] w fun e w' => e = .returned (.tuple #[]) ∧ Ext w0 w' ∧ ∃ l', l'.Perm l ∧ SortedTo l' l'.length ∧ OwnR w' B 51 2 v (rows2 l') := by
 rcases MyP.of_own h with ⟨rfl, rfl⟩ | ⟨g, cap, rfl, hBg, hcap, ha⟩
 ·refine (sort195_nil w).mono ?_
  rintro e w' ⟨rfl, rfl⟩
  exact ⟨rfl, he0, [], List.Perm.refl _, fun a b _ h => by simp at h, OwnR.nil⟩
 ·rcases h.2.2 with ⟨h0, -⟩ | ⟨g', cap', C, hv, -, hh, h1, h2, h3, -⟩
  ·cases h0
  ·obtain ⟨rfl, rfl⟩ : g = g' ∧ cap = cap' := by simp at hv; exact ⟨hv.1, hv.2.2⟩
   refine (sort195 (s := (51, C.size)) ⟨he0, C, hh, rfl⟩ (by omega) ha hn hcap hl).mono ?_
   rintro e w' ⟨rfl, he, l', hp, hs, ha'⟩
   exact ⟨rfl, he.1, l', hp, by rw [hp.length_eq]; exact hs, OwnR.sorted hBg hcap h2 h3 he hp ha'⟩
end Go.Proofs.YtkhjmedfhobebaaGreat
