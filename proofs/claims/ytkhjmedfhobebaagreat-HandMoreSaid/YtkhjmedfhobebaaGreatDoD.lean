/- Walks of lists of stretches. No condition. -/
import Derived.Test.YtkhjmedfhobebaaGreatWork
import Derived.Test.YtkhjmedfhobebaaGreatSpec
namespace Go.Proofs.YtkhjmedfhobebaaGreat
open Go.RowKit HandSpec
set_option maxHeartbeats 800000
set_option maxRecDepth 100000
/-- The cells of a list of pairs. -/
def c2 (l : List (Nat × Nat)) (i : Nat) : Int := rowsAt (rows2 l) (i / 2) (i % 2)
theorem rows2_at0 (l : List (Nat × Nat)) {k : Nat} (h : k < l.length) : rowsAt (rows2 l) k 0 = ((nth l k).1 : Int) := by unfold rowsAt; rw [rowsAt_nth l h]; rfl
theorem rows2_at1 (l : List (Nat × Nat)) {k : Nat} (h : k < l.length) : rowsAt (rows2 l) k 1 = ((nth l k).2 : Int) := by unfold rowsAt; rw [rowsAt_nth l h]; rfl
theorem c2_0 (l : List (Nat × Nat)) {k : Nat} (h : k < l.length) : c2 l (k * 2) = ((nth l k).1 : Int) := by
 unfold c2; rw [show k * 2 / 2 = k by omega, show k * 2 % 2 = 0 by omega]; exact rows2_at0 l h
theorem c2_1 (l : List (Nat × Nat)) {k : Nat} (h : k < l.length) : c2 l (k * 2 + 1) = ((nth l k).2 : Int) := by
 unfold c2; rw [show (k * 2 + 1) / 2 = k by omega, show (k * 2 + 1) % 2 = 1 by omega]; exact rows2_at1 l h
/-- A list of stretches in a block of one's own from B on, or nil. -/
def MyP (w : World) (B : Nat) (v : Value) (l : List (Nat × Nat)) : Prop :=
 (v = .slice none 0 0 ∧ l = []) ∨ ∃ g cap, v = .slice (some ⟨g, 0, none⟩) l.length cap ∧ B ≤ g ∧ l.length ≤ cap ∧ Arr w g (l.length * 2) (c2 l)
theorem MyP.of_own {w : World} {B : Nat} {e : TypeId} {v : Value} {l : List (Nat × Nat)} (h : OwnR w B e 2 v (rows2 l)) : MyP w B v l := by
 rcases OwnR.arr h with ⟨h1, h2⟩ | ⟨g, cap, h1, h2, h3, h4⟩
 ·exact .inl ⟨h1, by cases l with | nil => rfl | cons a l => simp [rows2] at h2⟩
 ·rw [rows2_length] at h1 h3 h4
  exact .inr ⟨g, cap, h1, h2, h3, h4⟩
theorem MyP.ext {w w' : World} {B : Nat} {v : Value} {l : List (Nat × Nat)} (h : MyP w B v l) (e : Ext w w') : MyP w' B v l :=
 h.imp id fun ⟨g, cap, h1, h2, h3, h4⟩ => ⟨g, cap, h1, h2, h3, h4.ext e⟩
theorem MyP.base {w : World} {B B' : Nat} {v : Value} {l : List (Nat × Nat)} (h : MyP w B v l) (hB : B' ≤ B) : MyP w B' v l :=
 h.imp id fun ⟨g, cap, h1, h2, h3, h4⟩ => ⟨g, cap, h1, by omega, h3, h4⟩
theorem MyP.slR {w : World} {B : Nat} {v : Value} {l : List (Nat × Nat)} (h : MyP w B v l) : SlR w 2 v (rows2 l) := by
 rcases h with ⟨rfl, rfl⟩ | ⟨g, cap, rfl, _, _, ha⟩
 ·exact ⟨none, 0, rfl, Rd.nil⟩
 ·refine ⟨_, cap, by rw [rows2_length], ?_⟩
  rw [rows2_length]
  refine (ha.rd (o := 0) (n := l.length) (c := 2) (by omega)).congr fun k hk j hj => ?_
  rw [Nat.zero_add]
  unfold c2
  rw [show (k * 2 + j) / 2 = k by omega, show (k * 2 + j) % 2 = j by omega]
theorem rowsG2 (l : List (Nat × Nat)) : rowsG 2 l.length (rowsAt (rows2 l)) = rows2 l := by
 apply List.ext_getElem?
 intro i
 unfold rowsG rows2
 simp only [List.getElem?_map]
 rcases Nat.lt_or_ge i l.length with h | h
 ·have h0 := rows2_at0 l h
  have h1 := rows2_at1 l h
  unfold rowsAt rows2 at h0 h1
  simp only [nth_get l h] at h0 h1
  simp [h, List.range_succ, rowsAt]
 ·simp [h]
theorem filter_take {l : List (Nat × Nat)} {q : Nat × Nat → Bool} {j : Nat} (h : j < l.length) : (l.take (j+1)).filter q = (l.take j).filter q ++ if q (nth l j) then [nth l j] else [] := by
 rw [List.take_succ_eq_append_getElem h, List.filter_append, nth_get l h]
 by_cases hq : q l[j] <;> simp [hq]
theorem nth_append {l r : List (Nat × Nat)} {a : Nat} (h : a < l.length) : nth (l ++ r) a = nth l a := by
 unfold nth
 simp [List.getD_eq_getElem?_getD, List.getElem?_append_left h]
theorem nth_append_one (l : List (Nat × Nat)) (p : Nat × Nat) : nth (l ++ [p]) l.length = p := by simp [nth]
/-- What a round of DeleteFunc knows: the first ones are those that stay of the first q, the others are as they were. -/
def Kept (l : List (Nat × Nat)) (q : Nat × Nat → Bool) (j : Nat) (h : Nat → Int) : Prop :=
 (∀ a, a < ((l.take j).filter q).length → h (a * 2) = ((nth ((l.take j).filter q) a).1 : Int) ∧ h (a * 2 + 1) = ((nth ((l.take j).filter q) a).2 : Int)) ∧
  ∀ a, j ≤ a → a < l.length → h (a * 2) = ((nth l a).1 : Int) ∧ h (a * 2 + 1) = ((nth l a).2 : Int)
theorem Kept.no {l : List (Nat × Nat)} {q : Nat × Nat → Bool} {j : Nat} {h : Nat → Int} (k : Kept l q j h) (hj : j < l.length) (hq : q (nth l j) = false) : Kept l q (j+1) h := by
 have e : (l.take (j+1)).filter q = (l.take j).filter q := by rw [filter_take hj, hq]; simp
 unfold Kept
 rw [e]
 exact ⟨k.1, fun a ha => k.2 a (by omega)⟩
theorem Kept.yes {l : List (Nat × Nat)} {q : Nat × Nat → Bool} {j : Nat} {h : Nat → Int} (k : Kept l q j h) (hj : j < l.length) (hq : q (nth l j) = true) (hm : ((l.take j).filter q).length < j + 1) :
  Kept l q (j+1) (upd (upd h (((l.take j).filter q).length * 2) ((nth l j).1 : Int)) (((l.take j).filter q).length * 2 + 1) ((nth l j).2 : Int)) := by
 have e : (l.take (j+1)).filter q = (l.take j).filter q ++ [nth l j] := by rw [filter_take hj, hq]; simp
 unfold Kept
 rw [e]
 refine ⟨fun a ha => ?_, fun a h1 h2 => ?_⟩
 ·simp only [List.length_append, List.length_singleton] at ha
  rcases Nat.lt_or_eq_of_le (Nat.le_of_lt_succ ha) with h1 | h1
  ·rw [nth_append h1, upd_other _ _ (by omega), upd_other _ _ (by omega), upd_other _ _ (by omega), upd_other _ _ (by omega)]
   exact k.1 a h1
  ·subst h1
   rw [nth_append_one, upd_other _ _ (by omega), upd_same, upd_same]
   exact ⟨rfl, rfl⟩
 ·rw [upd_other _ _ (by omega), upd_other _ _ (by omega), upd_other _ _ (by omega), upd_other _ _ (by omega)]
  exact k.2 a (by omega) h2
theorem Kept.c2 {l : List (Nat × Nat)} {q : Nat × Nat → Bool} {h : Nat → Int} (k : Kept l q l.length h) {i : Nat} (hi : i < (l.filter q).length * 2) : h i = c2 (l.filter q) i := by
 have k1 := k.1
 rw [List.take_length] at k1
 obtain ⟨a, rfl | rfl⟩ : ∃ a, i = a * 2 ∨ i = a * 2 + 1 := ⟨i / 2, by omega⟩
 ·rw [(k1 a (by omega)).1, c2_0 _ (by omega)]
 ·rw [(k1 a (by omega)).2, c2_1 _ (by omega)]
theorem filter_none {l : List (Nat × Nat)} {q : Nat × Nat → Bool} : ∀ {j : Nat}, (∀ k, k < j → k < l.length → q (nth l k) = true) → (l.take j).filter q = l.take j := by
 intro j h
 rw [List.filter_eq_self]
 intro p hp
 obtain ⟨k, hk, rfl⟩ := List.getElem_of_mem hp
 simp only [List.length_take] at hk
 have := h k (by omega) (by omega)
 rw [nth_get l (by omega)] at this
 simpa using this
theorem el45z : ∀ w : World, (zeroValue 51).run Tryz.prog w = .ok (.agg #[.int .i64 0, .int .i64 0]) w := fun _ => by kernel_rfl
theorem deleteFunc199 {w0 w : World} {B : Nat} {v fv : Value} {l : List (Nat × Nat)} {q : Nat × Nat → Bool} (hv : MyP w B v l) (he0 : Ext w0 w) (hB : w0.heap.size ≤ B) (hn : l.length ≤ 1000)
  (ha : Asks w0 fv l.length (enc2 (rowsAt (rows2 l))) (fun k => !q (nth l k))) :
  Calls Tryz.prog 199 #[v, fv] w fun e w' => ∃ u, e = .returned u ∧ Ext w0 w' ∧ MyP w' B u (l.filter q) := by
 have HS := hid hv.slR
 have HA := hid ha
 obtain ⟨fn, caps, rfl, hfn, hf⟩ := ha
 have HF := hid hf; clear hf
 cases hany : anyTo (fun k => !q (nth l k)) l.length
 ·-- nothing goes
  have hall := anyTo_false.1 hany
  have hl : l.filter q = l := by
   have := filter_none (l := l) (q := q) (j := l.length) (fun k hk _ => by simpa using hall k hk)
   rwa [List.take_length] at this
  have hfi : firstI (fun k => !q (nth l k)) l.length = -1 := firstI_no hall
  have HV := hid hv
  have HL := hid hl
  have HI := hid hfi
  obtain ⟨A, cap, rfl, hr⟩ := HS.out
  rw [rows2_length] at hr
  clear hany hall hl hfi hv
  go_enter Tryz.func199, Tryz.ntmps199
  rw [rows2_length]
  go_wp2_with (go_at_call 90; refine (indexFunc90 hr (by omega) (HA.out.ext he0)).mono ?_; rintro e w1 ⟨rfl, he1⟩; rw [HI.out])
  go_ret
  refine ⟨_, rfl, he0.trans he1, ?_⟩
  rw [HL.out]
  have := HV.out.ext he1
  rwa [rows2_length] at this
 ·obtain ⟨f, hfl, hfq, hf1⟩ : ∃ f, f < l.length ∧ (!q (nth l f)) = true ∧ ∀ j, j < f → (!q (nth l j)) = false := by
   have hex := anyTo_true.1 hany
   obtain ⟨k, hk⟩ := hex
   induction k using Nat.strongRecOn with
   | _ k ih =>
    by_cases h : ∃ j, j < k ∧ (!q (nth l j)) = true
    ·obtain ⟨j, hj, hq⟩ := h
     exact ih j hj ⟨by omega, hq⟩
    ·exact ⟨k, hk.1, hk.2, fun j hj => Bool.eq_false_iff.2 fun hc => h ⟨j, hj, hc⟩⟩
  have hfi : firstI (fun k => !q (nth l k)) l.length = f := firstI_yes hfl hf1 hfq
  rcases hv with ⟨_, rfl⟩ | ⟨g, cap, rfl, hBg, hcap, harr⟩
  ·simp at hfl
  have K0 : Kept l q (f+1) (c2 l) := by
   have e : (l.take (f+1)).filter q = l.take f := by
    rw [filter_take hfl, filter_none fun k hk hk' => by simpa using hf1 k hk]
    simp at hfq; simp [hfq]
   unfold Kept
   rw [e]
   refine ⟨fun a ha => ?_, fun a h1 h2 => ⟨c2_0 l h2, c2_1 l h2⟩⟩
   simp only [List.length_take] at ha
   have e2 : nth (l.take f) a = nth l a := by unfold nth; simp [List.getD_eq_getElem?_getD, List.getElem?_take_of_lt (show a < f by omega)]
   rw [e2]
   exact ⟨c2_0 l (by omega), c2_1 l (by omega)⟩
  have hlf : ((l.take (f+1)).filter q).length = f := by
   rw [filter_take hfl, filter_none fun k hk hk' => by simpa using hf1 k hk]
   simp at hfq; simp [hfq]; try omega
  have K0 := hid K0
  have HI := hid hfi
  have HA0 := hid harr
  have HLF := hid hlf
  obtain ⟨A, cap', hq', hr⟩ := HS.out
  rw [rows2_length] at hr hq'
  cases hq'
  clear hany hfi hlf harr hf1 hfq
  have hne : ((f : Int) == -1) = false := by simp
  go_enter Tryz.func199, Tryz.ntmps199
  go_wp2_with (go_at_call 90; refine (indexFunc90 hr (by omega) (HA.out.ext he0)).mono ?_; rintro e w1 ⟨rfl, he1⟩; rw [HI.out])
  go_loopw [5, 6] (fun i j wr => ∃ (m p : Nat) (h : Nat → Int), m < p ∧ p ≤ l.length ∧ i = .int .i64 (m : Int) ∧ j = .int .i64 (p : Int) ∧ Hid (m = ((l.take p).filter q).length) ∧ Hid (Arr wr g (l.length * 2) h) ∧ Hid (Kept l q p h) ∧ Ext w0 wr) (fun _ j _ => l.length - (intOf j).toNat)
  case atStart => exact ⟨f, f + 1, c2 l, by omega, by omega, rfl, by go_num, hid HLF.out.symm, hid (HA0.out.ext he1), K0, he0.trans he1⟩
  case round =>
   clear K0 HLF
   obtain ⟨m, p, h, hmp, hp, rfl, rfl, hm, hA, hK, he⟩ := hrel
   by_cases hlt : p < l.length
   ·have a0 := hA.out.cell (i := p * 2) (by omega)
    have a1 := hA.out.cell (i := p * 2 + 1) (by omega)
    obtain ⟨e0, e1⟩ := hK.out.2 p (Nat.le_refl _) hlt
    rw [e0] at a0
    rw [e1] at a1
    have hb := hA.out.1
    have hc0 := HF.out p hlt
    unfold enc2 at hc0
    rw [rows2_at0 l hlt, rows2_at1 l hlt] at hc0
    have HC := hid hc0
    clear e0 e1 hc0
    cases hq : q (nth l p)
    ·have HQ := hid hq
     clear hq
     go_wp2_with (refine (HC.out _ (he.alloc _)).mono ?_; rintro e w2 ⟨rfl, he2⟩; rw [HQ.out])
     obtain ⟨he2, hb7⟩ := he2.newB
     go_roundw
     case rel => exact ⟨m, p + 1, h, by omega, by omega, rfl, by go_num, hid (by rw [filter_take hlt, HQ.out]; simpa using hm.out), hid (hA.out.ext he2), hid (hK.out.no hlt HQ.out), he.trans he2⟩
     case measure => simp [intOf]; omega
    ·have HQ := hid hq
     clear hq
     go_wp2_with (refine (HC.out _ (he.alloc _)).mono ?_; rintro e w2 ⟨rfl, he2⟩; rw [HQ.out]; obtain ⟨he2, hb7⟩ := he2.newB; have k7 := hb7.cell; have k7l := hb7.lt; have A2 := hid (hA.out.ext he2); have a0 := A2.out.cell (i := m * 2) (by omega); have a1 := A2.out.cell (i := m * 2 + 1) (by omega); have f0 := A2.out.frozen (i := m * 2) (by omega); have f1 := A2.out.frozen (i := m * 2 + 1) (by omega); have hb := A2.out.1)
     go_roundw
     case rel => exact ⟨m + 1, p + 1, _, by omega, by omega, by go_num, by go_num, hid (by rw [filter_take hlt, HQ.out]; simp [hm.out]), hid ((A2.out.set_ _ _ (by omega)).set_ _ _ (by omega)), hid (by have := hK.out.yes hlt HQ.out (by rw [← hm.out]; omega); rw [← hm.out] at this; exact this), ((he.trans he2).setCell _ (by simp; omega)).setCell _ (by simp; omega)⟩
     case measure => simp [intOf]; omega
   ·obtain rfl : p = l.length := by omega
    have hm' := hm.out
    rw [List.take_length] at hm'
    have HM := hid hm'
    clear hm' hm
    have hmc : m ≤ cap := by omega
    go_wp2_with ((with_reducible refine wpList_here ⟨none, .call { callee := .builtin .clear, args := #[_], argTypes := #[45] }, _, _, _, _⟩ ?_); refine wpList_clear_arr rfl _ 45 rfl el45 (z := .agg #[.int .i64 0, .int .i64 0]) el45z rfl (g := g) (s := m * 2) (n := l.length - m) (cap := cap - m) rfl hA.out (by omega) ?_; intro w3 A3 E3)
    go_ret
    refine ⟨_, rfl, E3 _ he (by omega), .inr ⟨g, cap, by show Value.slice _ m cap = _; rw [HM.out], hBg, by rw [← HM.out]; omega, ?_⟩⟩
    rw [← HM.out]
    refine (A3.mono (M := m * 2) (by omega)).congr fun i hi => ?_
    rw [if_neg (by omega)]
    exact hK.out.c2 (by rw [← HM.out]; omega)
end Go.Proofs.YtkhjmedfhobebaaGreat
namespace HandSpec
namespace P
/-- Stretch y is another one, and lies within s. -/
def innerB (s y : Nat × Nat) : Bool := decide (y ≠ s) && decide (s.1 ≤ y.1) && decide (y.2 ≤ s.2)
def smQ (l : List (Nat × Nat)) (s : Nat × Nat) : Bool := !l.any (innerB s)
def smallest (x : WD) : List (Nat × Nat) := (R.short x).filter (smQ (R.short x))
def lfQ (x : WD) (m : Nat) (s : Nat × Nat) : Bool := !decide (th x s.1 s.2 &&& m ≠ 0)
def left (x : WD) (m : Nat) : List (Nat × Nat) := (smallest x).filter (lfQ x m)
end P
end HandSpec
namespace Go.Proofs.YtkhjmedfhobebaaGreat
open Go.RowKit HandSpec
set_option maxHeartbeats 800000
set_option maxRecDepth 100000
theorem keep_short {x : WD} (hx : Ok x) : P.keep x (stretches x.cn) = R.short x := by
 unfold P.keep R.short
 refine List.filter_congr fun p hp => ?_
 obtain ⟨h1, h2⟩ := mem_stretches.1 hp
 rw [P.gap_eq hx (Nat.le_of_lt h1) h2]
theorem run205 (p q a b : Nat) {w : World} {g : Nat} (hb : Blk w g 51 #[.int .i64 (a : Int), .int .i64 (b : Int)]) :
  Calls Tryz.prog 205 #[.agg #[.int .i64 (p : Int), .int .i64 (q : Int)], .pointer (some ⟨g, 0, none⟩)] w fun e w' => e = .returned (.bool (P.innerB (a, b) (p, q))) ∧ Ext w w' := by
 have k0 := hb.cell
 have kl := hb.lt
 go_enter Tryz.func205, Tryz.ntmps205
 go_wp2
 all_goals
  go_ret
  refine ⟨ret_bool ?_, (Ext.refl _).alloc _⟩
  simp [P.innerB] at *
  omega
/-- A block of one pointer, and one of a number. -/
theorem run200 {x : WD} (hx : Ok x) {w : World} {u : Value} (hu : IsD w u x) {a b : Nat} (hab : a < b) (hb : b < x.cn) {g1 g2 m : Nat} (hm : m < 64) (h1 : Blk w g1 170 #[u]) (h2 : Blk w g2 3 #[.int .i64 (m : Int)]) :
  Calls Tryz.prog 200 #[.agg #[.int .i64 (a : Int), .int .i64 (b : Int)], .pointer (some ⟨g1, 0, none⟩), .pointer (some ⟨g2, 0, none⟩)] w fun e w' => e = .returned (.bool (decide (P.th x a b &&& m ≠ 0))) ∧ Ext w w' := by
 obtain ⟨db, A1, c1, A2, c2, A3, c3, mb, L, rfl, hk, -, -, -, hmp, hl⟩ := hu
 have hlk : ∀ w1, Ext w w1 → ∀ n : Later w1, (Instr.lookup 187 (.map (some mb)) (.agg #[.int .i64 (a : Int), .int .i64 (b : Int)]) false).run Tryz.prog n.at_ = .ok (.int .i64 (P.th x a b : Int)) n.at_ := fun w1 e n => by
  rw [lookup_run (hmp.ext (e.trans n.ok)), hl a b hab hb]
 have HLK := hid hlk
 have ha : bits .and .i64 (P.th x a b : Int) (m : Int) = ((P.th x a b &&& m : Nat) : Int) := and64 (P.th_lt hx a b) hm
 clear hl hlk
 have he : (((P.th x a b &&& m : Nat) : Int) == 0) = !decide (P.th x a b &&& m ≠ 0) := by
  by_cases q : P.th x a b &&& m = 0 <;> simp [q]
 have HE := hid he
 clear he
 go_enter Tryz.func200, Tryz.ntmps200
 go_wp2
 refine wp_later fun w1 hw1 => ?_
 obtain ⟨he, hb3⟩ := hw1.newB
 have k3 := hb3.cell
 have k3l := hb3.lt
 have k1 := (h1.ext he).cell
 have k1l := (h1.ext he).lt
 have k2 := (h2.ext he).cell
 have k2l := (h2.ext he).lt
 have kd := (hk.ext he).cell
 have kdl := (hk.ext he).lt
 have hlk := HLK.out w1 he
 clear hw1
 refine wp_region_later (by kernel_rfl) (by kernel_rfl) ?_
 repeat (go_big_quiet_step (fail))
 refine wpQuiet_nil ?_
 rintro _ ⟨⟨w2, he2⟩, rfl⟩
 go_wp2
 go_ret
 exact ⟨ret_bool (by show (!(((P.th x a b &&& m : Nat) : Int) == 0)) = _; rw [HE.out]; simp), he.trans he2⟩
theorem asks205 {w : World} {g : Nat} {s : Nat × Nat} (l : List (Nat × Nat)) (hb : Blk w g 51 #[.int .i64 (s.1 : Int), .int .i64 (s.2 : Int)]) :
  Asks w (.func (.func 205) #[] #[.pointer (some ⟨g, 0, none⟩)]) l.length (enc2 (rowsAt (rows2 l))) (fun k => P.innerB s (nth l k)) :=
 ⟨_, _, rfl, enters_ Tryz.func205 (by kernel_rfl) rfl, fun k hk w' e => by
  unfold enc2
  rw [rows2_at0 l hk, rows2_at1 l hk]
  exact run205 _ _ _ _ (hb.ext e)⟩
theorem asks200 {x : WD} (hx : Ok x) {w : World} {u : Value} (hu : IsD w u x) {g1 g2 m : Nat} (hm : m < 64) (h1 : Blk w g1 170 #[u]) (h2 : Blk w g2 3 #[.int .i64 (m : Int)]) (l : List (Nat × Nat)) (hl : ∀ p, p ∈ l → p.1 < p.2 ∧ p.2 < x.cn) :
  Asks w (.func (.func 200) #[] #[.pointer (some ⟨g1, 0, none⟩), .pointer (some ⟨g2, 0, none⟩)]) l.length (enc2 (rowsAt (rows2 l))) (fun k => !P.lfQ x m (nth l k)) :=
 ⟨_, _, rfl, enters_ Tryz.func200 (by kernel_rfl) rfl, fun k hk w' e => by
  unfold enc2
  rw [rows2_at0 l hk, rows2_at1 l hk]
  obtain ⟨a1, a2⟩ := hl (nth l k) (by rw [nth_get l hk]; exact List.getElem_mem hk)
  have := run200 hx (hu.ext e) a1 a2 hm (h1.ext e) (h2.ext e)
  unfold P.lfQ
  simp only [Bool.not_not]
  exact this⟩
theorem anyTo_any (l : List (Nat × Nat)) (f : Nat × Nat → Bool) : anyTo (fun k => f (nth l k)) l.length = l.any f := by
 rw [Bool.eq_iff_iff, anyTo_true, List.any_eq_true]
 constructor
 ·rintro ⟨k, hk, h⟩
  exact ⟨nth l k, by rw [nth_get l hk]; exact List.getElem_mem hk, h⟩
 ·rintro ⟨p, hp, h⟩
  obtain ⟨k, hk, rfl⟩ := List.getElem_of_mem hp
  exact ⟨k, hk, by rw [nth_get l hk]; exact h⟩
theorem run204 {w : World} {g : Nat} {u : Value} {l : List (Nat × Nat)} (hb : Blk w g 45 #[u]) (hu : SlR w 2 u (rows2 l)) (hn : l.length ≤ 1000) (s : Nat × Nat) :
  Calls Tryz.prog 204 #[.agg #[.int .i64 (s.1 : Int), .int .i64 (s.2 : Int)], .pointer (some ⟨g, 0, none⟩)] w fun e w' => e = .returned (.bool (l.any (P.innerB s))) ∧ Ext w w' := by
 have hmf : ∀ (fn : Fn) (first cap : Array Value) (w : World), (Instr.makeFunc fn first cap).run Tryz.prog w = .ok (.func fn first cap) w := fun _ _ _ _ => rfl
 obtain ⟨A, cap, rfl, hr⟩ := hu
 rw [rows2_length] at hr hb
 have k0 := hb.cell
 have kl := hb.lt
 have e0 : Ext w (w.alloc (.cells #[.int .i64 (s.1 : Int), .int .i64 (s.2 : Int)] 51)) := (Ext.refl _).alloc _
 have HA := hid (asks205 l (Blk.new w 51 #[.int .i64 (s.1 : Int), .int .i64 (s.2 : Int)]))
 have HE := hid (anyTo_any l (P.innerB s))
 go_enter Tryz.func204, Tryz.ntmps204
 go_wp2_with (go_at_call 105; refine (containsFunc105 (hr.ext e0) (by omega) HA.out).mono ?_; rintro e w1 ⟨rfl, he1⟩)
 go_ret
 exact ⟨ret_bool HE.out, e0.trans he1⟩
theorem asks204 {w : World} {g : Nat} {u : Value} {l : List (Nat × Nat)} (hb : Blk w g 45 #[u]) (hu : SlR w 2 u (rows2 l)) (hn : l.length ≤ 1000) :
  Asks w (.func (.func 204) #[] #[.pointer (some ⟨g, 0, none⟩)]) l.length (enc2 (rowsAt (rows2 l))) (fun k => !P.smQ l (nth l k)) :=
 ⟨_, _, rfl, enters_ Tryz.func204 (by kernel_rfl) rfl, fun k hk w' e => by
  unfold enc2
  rw [rows2_at0 l hk, rows2_at1 l hk]
  have := run204 (hb.ext e) (hu.ext e) hn (nth l k)
  unfold P.smQ
  simp only [Bool.not_not]
  exact this⟩
theorem smallestP_any {x : WD} (hx : Ok x) {w : World} {v : Value} (hv : IsD w v x) :
  Calls Tryz.prog 143 #[v] w fun e w' => ∃ u, e = .returned u ∧ Ext w w' ∧ MyP w' w.heap.size u (P.smallest x) := by
 have hmf : ∀ (fn : Fn) (first cap : Array Value) (w : World), (Instr.makeFunc fn first cap).run Tryz.prog w = .ok (.func fn first cap) w := fun _ _ _ _ => rfl
 have HV := hid hv
 obtain ⟨db, A1, c1, A2, c2, A3, c3, mb, L, rfl, -, -, -, -, -, -⟩ := hv
 have hll : (R.short x).length ≤ 1000 := by
  have := R.short_length x
  have h1 := hx.cn
  have : x.cn * x.cn ≤ 8 * 8 := Nat.mul_le_mul h1.2 h1.2
  omega
 go_enter Tryz.func143, Tryz.ntmps143
 go_upto_region 2 with (go_at_call 142; refine (shortP_any hx HV.out).mono ?_; rintro e w1 ⟨u, rfl, he1, hu⟩; rw [keep_short hx] at hu; have HU := hid hu.slR; clear hu; obtain ⟨A, cap, rfl, hr⟩ := HU.out; rw [rows2_length] at hr)
 refine wp_later fun w2 hw2 => ?_
 obtain ⟨he2, hb3⟩ := hw2.newB
 have HA := hid (asks204 hb3 (HU.out.ext he2) hll)
 have k3 := hb3.cell
 have k3l := hb3.lt
 have hs1 := he1.size
 have hr := hr.ext he2
 clear hw2
 go_wp2_with (first
  | (go_at_call 80; rw [rows2_length]; refine (clone80 hr (by omega)).mono ?_; rintro e w3 ⟨u2, rfl, he3, hu2⟩; rw [rowsG2] at hu2; have HO := hid (MyP.of_own hu2); clear hu2)
  | (go_at_call 199; refine (deleteFunc199 HO.out he3 (Nat.le_refl _) hll HA.out).mono ?_; rintro e w4 ⟨u3, rfl, he4, hu3⟩))
 go_ret
 exact ⟨u3, rfl, he1.trans (he2.trans he4), hu3.base (Nat.le_trans hs1 he2.size)⟩
theorem smallest_mem {x : WD} {p : Nat × Nat} (h : p ∈ P.smallest x) : p.1 < p.2 ∧ p.2 < x.cn := by
 unfold P.smallest at h
 exact (R.mem_short.1 (List.mem_filter.1 h).1).1
theorem leftP_any {x : WD} (hx : Ok x) {w : World} {v : Value} (hv : IsD w v x) {m : Nat} (hm : m < 64) :
  Calls Tryz.prog 131 #[v, .int .i64 (m : Int)] w fun e w' => ∃ u, e = .returned u ∧ Ext w w' ∧ MyP w' w.heap.size u (P.left x m) := by
 have hmf : ∀ (fn : Fn) (first cap : Array Value) (w : World), (Instr.makeFunc fn first cap).run Tryz.prog w = .ok (.func fn first cap) w := fun _ _ _ _ => rfl
 have HV := hid hv
 obtain ⟨db, A1, c1, A2, c2, A3, c3, mb, L, rfl, -, -, -, -, -, -⟩ := hv
 have hll : (P.smallest x).length ≤ 1000 := by
  have := R.short_length x
  have h1 := hx.cn
  have : x.cn * x.cn ≤ 8 * 8 := Nat.mul_le_mul h1.2 h1.2
  have := List.length_filter_le (P.smQ (R.short x)) (R.short x)
  unfold P.smallest
  omega
 go_enter Tryz.func131, Tryz.ntmps131
 go_upto_region 1 with fail
 refine wp_later fun w1 hw1 => ?_
 obtain ⟨he, hb2, hb3⟩ := hw1.newB2
 have HA := hid (asks200 hx (HV.out.ext he) hm hb2 hb3 (P.smallest x) (fun p hp => smallest_mem hp))
 have k2 := hb2.cell
 have k2l := hb2.lt
 have k3 := hb3.cell
 have k3l := hb3.lt
 go_wp2_with (first
  | (go_at_call 143; refine (smallestP_any hx (HV.out.ext he)).mono ?_; rintro e w2 ⟨u2, rfl, he2, hu2⟩; have HO := hid hu2; clear hu2)
  | (go_at_call 199; refine (deleteFunc199 HO.out he2 (Nat.le_refl _) hll HA.out).mono ?_; rintro e w3 ⟨u3, rfl, he3, hu3⟩))
 go_ret
 exact ⟨u3, rfl, he.trans he3, hu3.base he.size⟩
end Go.Proofs.YtkhjmedfhobebaaGreat
