/- Searches, maps that are kept, bits, and a watch at work. The watch is right, as Ok says. -/
import Derived.Test.YtkhjmedfhobebaaGreatRefH
import Derived.MapKept
import Derived.BigFrameIn
namespace Go.Proofs.YtkhjmedfhobebaaGreat
open Go.RowKit HandSpec
set_option maxHeartbeats 800000
set_option maxRecDepth 100000
/-- A function value that compares a count's hour with a number. -/
def Cmps (f : Nat) (n : Nat) (g : Nat → Nat → Int) (t : Int) : Prop :=
 (∀ args w, (callFunc f args).run Tryz.prog w = .ok (.enter f args) w) ∧
  ∀ k, k < n → ∀ w, ∃ v, (v < 0 ↔ g k 0 < t) ∧ (v = 0 ↔ g k 0 = t) ∧ Calls Tryz.prog f #[enc3 g k, .int .i64 t] w (fun e w' => e = .returned (.int .i64 v) ∧ Ext w w')
theorem cmp238 {n : Nat} {g : Nat → Nat → Int} {t : Int} (h : ∀ k, k < n → -1000 ≤ g k 0 ∧ g k 0 ≤ 1000) (ht : -1000 ≤ t ∧ t ≤ 1000) : Cmps 238 n g t := by
 refine ⟨enters_ Tryz.func238 (by kernel_rfl) rfl, fun k hk w => ⟨g k 0 - t, by omega, by omega, ?_⟩⟩
 have := h k hk
 unfold enc3
 go_enter Tryz.func238, Tryz.ntmps238
 go_wp2
 go_ret
 exact ⟨ret_int (by go_num), (Ext.refl _).alloc _⟩
theorem cmp166 (n : Nat) (g : Nat → Nat → Int) (t : Int) : Cmps 166 n g t := by
 refine ⟨enters_ Tryz.func166 (by kernel_rfl) rfl, fun k hk w => ?_⟩
 unfold enc3
 rcases Int.lt_trichotomy (g k 0) t with h | h | h
 ·refine ⟨-1, by omega, by omega, ?_⟩
  go_enter Tryz.func166, Tryz.ntmps166
  go_wp2
  go_ret
  exact ⟨rfl, (Ext.refl _).alloc _⟩
 ·refine ⟨0, by omega, by omega, ?_⟩
  have h1 : ¬ g k 0 < t := by omega
  have h2 : ¬ g k 0 > t := by omega
  clear h
  go_enter Tryz.func166, Tryz.ntmps166
  go_wp2
  go_ret
  exact ⟨rfl, (Ext.refl _).alloc _⟩
 ·refine ⟨1, by omega, by omega, ?_⟩
  have h1 : ¬ g k 0 < t := by omega
  go_enter Tryz.func166, Tryz.ntmps166
  go_wp2
  go_ret
  exact ⟨rfl, (Ext.refl _).alloc _⟩
theorem bsearch165 {w : World} {A : Option Addr} {n cap : Nat} {g : Nat → Nat → Int} {f : Nat} {t : Int} (hr : Rd w A n 3 g) (hn : n ≤ 1000) (hs : ∀ i j, i < j → j < n → g i 0 < g j 0) (hf : Cmps f n g t) :
  Calls Tryz.prog 165 #[.slice A n cap, .int .i64 t, .func (.func f) #[] #[]] w (fun e w' => ∃ p : Nat, e = .returned (.tuple #[.int .i64 p, .bool (decide (p < n) && (g p 0 == t))]) ∧ p ≤ n ∧ (∀ k, k < p → g k 0 < t) ∧ (∀ k, p ≤ k → k < n → t ≤ g k 0) ∧ Ext w w') := by
 obtain ⟨hcf, hf⟩ := hf
 have HF := hid hf
 have HS := hid hs
 have R := hid hr
 clear hf hs hr
 unfold enc3 at HF
 go_enter Tryz.func165, Tryz.ntmps165
 go_wp2
 go_loopw [9, 10, 11] (fun i j m wr => ∃ p q : Nat, p ≤ q ∧ q ≤ n ∧ i = .int .i64 p ∧ j = .int .i64 q ∧ Hid (∀ k, k < p → g k 0 < t) ∧ Hid (∀ k, q ≤ k → k < n → t ≤ g k 0) ∧ Ext w wr) (fun i j _ _ => (intOf j - intOf i).toNat)
 case atStart => exact ⟨0, n, by omega, Nat.le_refl _, rfl, rfl, fun _ h => absurd h (by omega), fun k h h' => absurd h' (by omega), Ext.refl _⟩
 case round =>
  obtain ⟨p, q, hpq, hq, rfl, rfl, hlo, hhi, he⟩ := hrel
  by_cases hlt : p < q
  ·have hmn : (p + q) / 2 < n := by omega
   obtain ⟨b, o, rfl, hb, a0, a1, a2⟩ := (R.out.ext he).at3 hmn
   obtain ⟨v, v1, v2, hc⟩ := HF.out _ hmn wr
   have HC := hid hc
   clear hc v2
   by_cases hv : v < 0
   ·have hg := hid (v1.1 hv)
    clear v1
    go_wp2_with (refine HC.out.mono ?_; rintro e w2 ⟨rfl, he2⟩)
    go_roundw
    case rel =>
     refine ⟨(p + q) / 2 + 1, q, by omega, hq, by go_num, rfl, hid fun k hk => ?_, hhi, he.trans he2⟩
     rcases Nat.lt_or_eq_of_le (Nat.le_of_lt_succ hk) with h | h
     ·have := HS.out k _ h hmn
      have := hg.out
      omega
     ·subst h; exact hg.out
    case measure => simp [intOf]; omega
   ·have hg := hid (show t ≤ g ((p + q) / 2) 0 from Int.not_lt.1 fun h => hv (v1.2 h))
    clear v1
    go_wp2_with (refine HC.out.mono ?_; rintro e w2 ⟨rfl, he2⟩)
    go_roundw
    case rel =>
     refine ⟨p, (p + q) / 2, by omega, by omega, rfl, by go_num, hlo, hid fun k hk hk' => ?_, he.trans he2⟩
     rcases Nat.lt_or_eq_of_le hk with h | h
     ·have := HS.out _ k h hk'
      have := hg.out
      omega
     ·subst h; exact hg.out
    case measure => simp [intOf]; omega
  ·obtain rfl : p = q := by omega
   by_cases hpn : p < n
   ·obtain ⟨b, o, rfl, hb, a0, a1, a2⟩ := (R.out.ext he).at3 hpn
    obtain ⟨v, v1, v2, hc⟩ := HF.out _ hpn wr
    have HC := hid hc
    have V := hid v2
    clear hc v1 v2
    go_wp2_with (refine HC.out.mono ?_; rintro e w2 ⟨rfl, he2⟩)
    go_ret2
    refine ⟨p, ?_, hq, hlo.out, hhi.out, he.trans he2⟩
    have hv : (v == 0) = (g p 0 == t) := by rw [Bool.eq_iff_iff]; simpa using V.out
    simp [hpn, hv]
   ·go_wp2
    go_ret2
    exact ⟨p, by simp [hpn], hq, hlo.out, hhi.out, he⟩
end Go.Proofs.YtkhjmedfhobebaaGreat
namespace Go.Proofs.YtkhjmedfhobebaaGreat
open Go.RowKit
theorem ents_length : ∀ (b : Nat) (l : List ((Nat × Nat) × Nat)), (ents b l).length = l.length
 | _, [] => rfl
 | b, (p, v) :: l => by simp [ents, ents_length (b + 1) l]
theorem ents_get : ∀ (b : Nat) (l : List ((Nat × Nat) × Nat)) (i : Nat), (ents b l)[i]? = (l[i]?).map fun x => { key := keyV x.1, val := .int .i64 (x.2 : Int), born := b + i }
 | _, [], _ => by simp [ents]
 | b, (p, v) :: l, 0 => by simp [ents]
 | b, (p, v) :: l, i + 1 => by
  have := ents_get (b + 1) l i
  simp only [ents, List.getElem?_cons_succ, this]
  rw [show b + 1 + i = b + (i + 1) by omega]
theorem ents_append : ∀ (b : Nat) (l r : List ((Nat × Nat) × Nat)), ents b (l ++ r) = ents b l ++ ents (b + l.length) r
 | _, [], _ => by simp [ents]
 | b, (p, v) :: l, r => by
  simp only [List.cons_append, ents, ents_append (b + 1) l r, List.length_cons]
  rw [show b + 1 + l.length = b + (l.length + 1) by omega]
theorem lookAt_some {p : Nat × Nat} : ∀ {l : List ((Nat × Nat) × Nat)} {i j v : Nat}, lookAt p i l = some (j, v) → i ≤ j ∧ l[j - i]? = some (p, v)
 | (q, u) :: l, i, j, v, h => by
  unfold lookAt at h
  split at h
  ·next e => simp at h; obtain ⟨rfl, rfl⟩ := h; subst e; simp
  ·obtain ⟨h1, h2⟩ := lookAt_some h
   refine ⟨by omega, ?_⟩
   rw [show j - i = (j - (i + 1)) + 1 by omega]
   simpa using h2
def posOf (p : Nat × Nat) (l : List ((Nat × Nat) × Nat)) : Nat := ((lookAt p 0 l).map (·.1)).getD l.length
/-- The list with an entry for p. -/
def touch (p : Nat × Nat) (l : List ((Nat × Nat) × Nat)) : List ((Nat × Nat) × Nat) := if (lookAt p 0 l).isSome then l else l ++ [(p, 0)]
/-- The list in which p has the number v. -/
def putV (p : Nat × Nat) (v : Nat) (l : List ((Nat × Nat) × Nat)) : List ((Nat × Nat) × Nat) := (touch p l).modify (posOf p l) fun x => (x.1, v)
def putM (w : World) (m : Nat) (l : List ((Nat × Nat) × Nat)) : World := { w with heap := w.heap.setIfInBounds m (.map (ents 0 l).toArray l.length) }
theorem keyStays (p : Nat × Nat) (w : World) : (Instr.keyThatStays (keyV p) (keyV p)).run Tryz.prog w = .ok (keyV p) w := by
 have h : Instr.sameBits 10000 (keyV p) (keyV p) = true := by
  unfold keyV
  rw [show (10000 : Nat) = 9998 + 1 + 1 from rfl]
  simp [Instr.sameBits]
 simp [Instr.keyThatStays, h, Sem.run_pure]
theorem ents_modify (b : Nat) : ∀ (l : List ((Nat × Nat) × Nat)) (i : Nat) (v : Nat), (ents b l).modify i (fun e => { e with val := .int .i64 (v : Int) }) = ents b (l.modify i fun x => (x.1, v)) := by
 intro l i v
 apply List.ext_getElem?
 intro j
 rw [List.getElem?_modify, ents_get, ents_get, List.getElem?_modify]
 cases l[j]? with
 | none => simp
 | some x => by_cases h : i = j <;> simp [h]
theorem mapEntry_run {w : World} {m : Nat} {l : List ((Nat × Nat) × Nat)} (h : Mp w m l) (p : Nat × Nat) :
  (Instr.mapEntry 187 (.map (some m)) (keyV p)).run Tryz.prog w = .ok (.tuple #[.int .i64 (lookV p l : Int), .int .i64 (posOf p l : Int)]) (putM w m (touch p l)) := by
 have hu : (underlying 187).run Tryz.prog w = .ok (.map 51 3) w := run_underlying (by kernel_rfl) w
 have hg : (getObj m).run Tryz.prog w = .ok (.map (ents 0 l).toArray l.length) w := by unfold Mp at h; simp [getObj, Sem.run, h]
 have hz : (zeroValue 3).run Tryz.prog w = .ok (.int .i64 0) w := by kernel_rfl
 have hs := fun o => MapKept.run_setObj_map (P := Tryz.prog) (w := w) o h
 have hf := findKey_run p w l
 have hck := checkK false (p.1 : Int) (p.2 : Int) w
 change (Instr.checkKey false 10000 51 (keyV p)).run Tryz.prog w = .ok () w at hck
 simp only [Instr.mapEntry, Sem.run_bind, hu, Result.andThen_ok, hg, hck, hf]
 unfold lookV posOf touch putM
 cases hl : lookAt p 0 l with
 | none =>
  simp [hz, hs, goInt, ents_append, ents]
 | some x =>
  obtain ⟨i, v⟩ := x
  obtain ⟨-, hi⟩ := lookAt_some hl
  have he := ents_get 0 l i
  rw [show i - 0 = i from rfl] at hi
  rw [hi] at he
  have hmod : (ents 0 l).modify i (fun e => { e with key := keyV p }) = ents 0 l := by
   apply List.ext_getElem?
   intro j
   rw [List.getElem?_modify]
   by_cases h : i = j
   ·subst h
    simp [he]
   ·simp [h]
  simp [he, keyStays, hs, goInt, hmod]
theorem Mp.put {w : World} {m : Nat} {l l' : List ((Nat × Nat) × Nat)} (h : Mp w m l) : Mp (putM w m l') m l' := by
 have := h.lt
 unfold Mp putM
 simp [this]
theorem entryStore_run {w : World} {m : Nat} {l : List ((Nat × Nat) × Nat)} (h : Mp w m l) {i : Nat} (hi : i < l.length) (v : Nat) :
  (Instr.entryStore 187 (.map (some m)) (.int .i64 (i : Int)) (.int .i64 (v : Int))).run Tryz.prog w = .ok () (putM w m (l.modify i fun x => (x.1, v))) := by
 have hg : (getObj m).run Tryz.prog w = .ok (.map (ents 0 l).toArray l.length) w := by unfold Mp at h; simp [getObj, Sem.run, h]
 have hs := fun o => MapKept.run_setObj_map (P := Tryz.prog) (w := w) o h
 have hfi : (ents 0 l).findIdx? (fun e => (e.born : Int) == (i : Int)) = some i := by
  rw [List.findIdx?_eq_some_iff_getElem]
  refine ⟨by simpa [ents_length] using hi, ?_, fun j hj => ?_⟩
  ·have := ents_get 0 l i
   rw [List.getElem?_eq_getElem (by simpa [ents_length] using hi), List.getElem?_eq_getElem hi] at this
   simp at this
   simp [this]
  ·have := ents_get 0 l j
   rw [List.getElem?_eq_getElem (by rw [ents_length]; omega), List.getElem?_eq_getElem (by omega)] at this
   simp at this
   simp [this]
   omega
 unfold putM
 simp [Instr.entryStore, Sem.run_bind, hg, asInt, asIntOf, hfi, hs, ents_modify]
theorem lookAt_append {p : Nat × Nat} : ∀ (l r : List ((Nat × Nat) × Nat)) (i : Nat), lookAt p i (l ++ r) = (lookAt p i l).or (lookAt p (i + l.length) r)
 | [], r, i => by simp [lookAt]
 | (q, v) :: l, r, i => by
  simp only [List.cons_append, lookAt, lookAt_append l r (i + 1), List.length_cons]
  rw [show i + 1 + l.length = i + (l.length + 1) by omega]
  split <;> simp
theorem posOf_lt (p : Nat × Nat) (l : List ((Nat × Nat) × Nat)) : posOf p l < (touch p l).length := by
 unfold posOf touch
 cases h : lookAt p 0 l with
 | none => simp
 | some x =>
  obtain ⟨i, v⟩ := x
  obtain ⟨-, hi⟩ := lookAt_some h
  simp only [Nat.sub_zero] at hi
  have := (List.getElem?_eq_some_iff.1 hi).1
  simpa using this
theorem lookV_touch (q p : Nat × Nat) (l : List ((Nat × Nat) × Nat)) : lookV q (touch p l) = lookV q l := by
 unfold lookV touch
 cases h : lookAt p 0 l with
 | some x => simp
 | none =>
  simp only [Option.isSome_none, Bool.false_eq_true, if_false, lookAt_append, lookAt]
  cases h1 : lookAt q 0 l with
  | some x => simp
  | none => by_cases e : q = p <;> simp [e]
theorem posOf_touch (p : Nat × Nat) (l : List ((Nat × Nat) × Nat)) : lookAt p 0 (touch p l) = some (posOf p l, lookV p l) := by
 unfold lookV touch posOf
 cases h : lookAt p 0 l with
 | some x => simp [h]
 | none => simp [h, lookAt_append, lookAt]
theorem lookAt_modify (p q : Nat × Nat) (v : Nat) : ∀ (l : List ((Nat × Nat) × Nat)) (b i u : Nat), lookAt p b l = some (b + i, u) →
  lookAt q b (l.modify i fun x => (x.1, v)) = if q = p then some (b + i, v) else lookAt q b l
 | (r, y) :: l, b, 0, u, h => by
  have hr : p = r := by
   unfold lookAt at h
   split at h
   ·assumption
   ·have := (lookAt_some h).1; omega
  subst hr
  by_cases e : q = p <;> simp [lookAt, e]
 | (r, y) :: l, b, i + 1, u, h => by
  have hr : ¬ p = r := by
   intro e
   simp [lookAt, e] at h
  simp only [lookAt, hr, if_false] at h
  rw [show b + (i + 1) = b + 1 + i by omega] at h
  have ih := lookAt_modify p q v l (b + 1) i u h
  simp only [List.modify_succ_cons, lookAt, ih]
  by_cases e : q = r
  ·have : ¬ q = p := fun h' => hr (h'.symm.trans e)
   simp [e]
   intro h'; exact absurd h'.symm hr
  ·simp only [e, if_false]
   rw [show b + 1 + i = b + (i + 1) by omega]
theorem lookV_putV (p q : Nat × Nat) (v : Nat) (l : List ((Nat × Nat) × Nat)) : lookV q (putV p v l) = if q = p then v else lookV q l := by
 have h := lookAt_modify p q v (touch p l) 0 (posOf p l) (lookV p l) (by rw [posOf_touch]; simp)
 unfold putV
 unfold lookV at *
 rw [h]
 by_cases e : q = p
 ·simp [e]
 ·simp only [e, if_false]
  exact lookV_touch q p l
theorem Ext.putM {w0 w : World} (h : Ext w0 w) {m : Nat} (hm : w0.heap.size ≤ m) (l : List ((Nat × Nat) × Nat)) : Ext w0 (putM w m l) :=
 Below.trans h ⟨rfl, rfl, rfl, by unfold Go.Proofs.YtkhjmedfhobebaaGreat.putM; simp, fun k hk => by
  unfold Go.Proofs.YtkhjmedfhobebaaGreat.putM
  exact Array.getElem?_setIfInBounds_ne (by omega)⟩
theorem Blk.putM {w : World} {g : Nat} {t : TypeId} {C : Array Value} (h : Blk w g t C) {m : Nat} (hm : m ≠ g) (l : List ((Nat × Nat) × Nat)) : Blk (putM w m l) g t C := by
 unfold Blk Go.Proofs.YtkhjmedfhobebaaGreat.putM at *
 simp [hm, h]
end Go.Proofs.YtkhjmedfhobebaaGreat
namespace Go.Proofs.YtkhjmedfhobebaaGreat
open Go.RowKit
theorem wrapN {n : Nat} (h : n < 9223372036854775808) : IntKind.i64.wrap (n : Int) = n := by
 rw [IntKind.wrap_i64]
 omega
theorem ofIntN (a : Nat) : BitVec.ofInt 64 (a : Int) = BitVec.ofNat 64 a := by
 simp
theorem or64 {a b : Nat} (ha : a < 64) (hb : b < 64) : bits .or .i64 (a : Int) (b : Int) = ((a ||| b : Nat) : Int) := by
 have h : a ||| b < 2 ^ 6 := Nat.or_lt_two_pow ha hb
 have e : (BitVec.ofInt IntKind.i64.bits (a : Int) ||| BitVec.ofInt IntKind.i64.bits (b : Int)).toNat = a ||| b := by
  show (BitVec.ofInt 64 (a : Int) ||| BitVec.ofInt 64 (b : Int)).toNat = a ||| b
  rw [ofIntN, ofIntN, BitVec.toNat_or, BitVec.toNat_ofNat, BitVec.toNat_ofNat, Nat.mod_eq_of_lt (by omega), Nat.mod_eq_of_lt (by omega)]
 show IntKind.i64.wrap ((BitVec.ofInt IntKind.i64.bits (a : Int) ||| BitVec.ofInt IntKind.i64.bits (b : Int)).toNat : Int) = _
 rw [e, wrapN (by omega)]
theorem and64 {a b : Nat} (ha : a < 64) (hb : b < 64) : bits .and .i64 (a : Int) (b : Int) = ((a &&& b : Nat) : Int) := by
 have h : a &&& b ≤ a := Nat.and_le_left
 have e : (BitVec.ofInt IntKind.i64.bits (a : Int) &&& BitVec.ofInt IntKind.i64.bits (b : Int)).toNat = a &&& b := by
  show (BitVec.ofInt 64 (a : Int) &&& BitVec.ofInt 64 (b : Int)).toNat = a &&& b
  rw [ofIntN, ofIntN, BitVec.toNat_and, BitVec.toNat_ofNat, BitVec.toNat_ofNat, Nat.mod_eq_of_lt (by omega), Nat.mod_eq_of_lt (by omega)]
 show IntKind.i64.wrap ((BitVec.ofInt IntKind.i64.bits (a : Int) &&& BitVec.ofInt IntKind.i64.bits (b : Int)).toNat : Int) = _
 rw [e, wrapN (by omega)]
end Go.Proofs.YtkhjmedfhobebaaGreat
namespace Go.Proofs.YtkhjmedfhobebaaGreat
open Go.RowKit HandSpec
set_option maxHeartbeats 2000000
set_option maxRecDepth 100000
attribute [local go_sem] Oper.semAt_some
def wboxC (x : WD) (A1 : Option Addr) (c1 : Nat) (A2 : Option Addr) (c2 : Nat) (A3 : Option Addr) (c3 : Nat) : Array Value :=
 #[.int .i64 x.hours, .int .i64 x.allow, .int .i64 x.hands, .slice A1 x.cn c1, .slice A2 x.bn c2, .slice A3 x.sn c3]
def deskC (x : WD) (A1 : Option Addr) (c1 : Nat) (A2 : Option Addr) (c2 : Nat) (A3 : Option Addr) (c3 : Nat) (s : Nat → Int) (mb : Nat) : Array Value :=
 #[.int .i64 x.hours, .int .i64 x.allow, .int .i64 x.hands, .slice A1 x.cn c1, .slice A2 x.bn c2, .slice A3 x.sn c3, .int .i64 (s 0), .int .i64 (s 1), .int .i64 (s 2), .int .i64 (s 3), .int .i64 (s 4), .int .i64 (s 5), .int .i64 (s 6), .int .i64 (s 7), .map (some mb)]
/-- The call's own blocks, while it works. -/
structure WK (x : WD) (A1 : Option Addr) (c1 : Nat) (A2 : Option Addr) (c2 : Nat) (A3 : Option Addr) (c3 : Nat) (w W : World) (s : Nat → Int) (L : List ((Nat × Nat) × Nat)) : Prop where
 e : Ext w W
 b0 : Blk W w.heap.size 26 (wboxC x A1 c1 A2 c2 A3 c3)
 m : Mp W (w.heap.size + 1) L
 d : Blk W (w.heap.size + 2) 189 (deskC x A1 c1 A2 c2 A3 c3 s (w.heap.size + 1))
 p : Blk W (w.heap.size + 3) 170 #[.pointer (some ⟨w.heap.size + 2, 0, none⟩)]
namespace WK
variable {x : WD} {A1 : Option Addr} {c1 : Nat} {A2 : Option Addr} {c2 : Nat} {A3 : Option Addr} {c3 : Nat} {w W W' : World} {s : Nat → Int} {L : List ((Nat × Nat) × Nat)}
theorem ext (h : WK x A1 c1 A2 c2 A3 c3 w W s L) (e : Ext W W') : WK x A1 c1 A2 c2 A3 c3 w W' s L := ⟨h.e.trans e, h.b0.ext e, h.m.ext e, h.d.ext e, h.p.ext e⟩
theorem first (h : Ext ((((w.alloc (.cells (wboxC x A1 c1 A2 c2 A3 c3) 26)).alloc (.map #[] 0)).alloc (.cells (deskC x A1 c1 A2 c2 A3 c3 (fun _ => 0) (w.heap.size + 1)) 189)).alloc (.cells #[.pointer (some ⟨w.heap.size + 1 + 1, 0, none⟩)] 170)) W) : WK x A1 c1 A2 c2 A3 c3 w W (fun _ => 0) [] := by
 have e0 : Ext w (w.alloc (.cells (wboxC x A1 c1 A2 c2 A3 c3) 26)) := (Ext.refl _).alloc _
 have b0 := Blk.new w 26 (wboxC x A1 c1 A2 c2 A3 c3)
 generalize hw1 : w.alloc (.cells (wboxC x A1 c1 A2 c2 A3 c3) 26) = w1 at *
 have s1 : w1.heap.size = w.heap.size + 1 := by rw [← hw1]; simp
 have e1 : Ext w1 (w1.alloc (.map #[] 0)) := (Ext.refl _).alloc _
 have b1 : Mp (w1.alloc (.map #[] 0)) w1.heap.size [] := by unfold Mp World.alloc; simp [ents]
 generalize hw2 : w1.alloc (.map #[] 0) = w2 at *
 have s2 : w2.heap.size = w.heap.size + 2 := by rw [← hw2]; simp [s1]
 have e2 : Ext w2 (w2.alloc (.cells (deskC x A1 c1 A2 c2 A3 c3 (fun _ => 0) (w.heap.size + 1)) 189)) := (Ext.refl _).alloc _
 have b2 := Blk.new w2 189 (deskC x A1 c1 A2 c2 A3 c3 (fun _ => 0) (w.heap.size + 1))
 generalize hw3 : w2.alloc (.cells (deskC x A1 c1 A2 c2 A3 c3 (fun _ => 0) (w.heap.size + 1)) 189) = w3 at *
 have s3 : w3.heap.size = w.heap.size + 3 := by rw [← hw3]; simp [s2]
 have e3 : Ext w3 (w3.alloc (.cells #[.pointer (some ⟨w.heap.size + 1 + 1, 0, none⟩)] 170)) := (Ext.refl _).alloc _
 have b3 := Blk.new w3 170 #[.pointer (some ⟨w.heap.size + 1 + 1, 0, none⟩)]
 rw [s1] at b1
 rw [s2] at b2
 rw [s3] at b3
 exact ⟨e0.trans (e1.trans (e2.trans (e3.trans h))), b0.ext (e1.trans (e2.trans (e3.trans h))), b1.ext (e2.trans (e3.trans h)), b2.ext (e3.trans h), b3.ext h⟩
theorem set_ (h : WK x A1 c1 A2 c2 A3 c3 w W s L) {i : Nat} (hi : i < 8) (z : Int) : WK x A1 c1 A2 c2 A3 c3 w (W.setCell ⟨w.heap.size + 2, 6 + i, none⟩ (.int .i64 z)) (upd s i z) L := by
 refine ⟨h.e.setCell _ (by simp), h.b0.far (by simp) _, ?_, ?_, h.p.far (by simp) _⟩
 ·exact (Below.heap_setCell W ⟨w.heap.size + 2, 6 + i, none⟩ _ _ (by simp)).trans h.m
 ·have := h.d.set_ (6 + i) (.int .i64 z)
  have e : (deskC x A1 c1 A2 c2 A3 c3 s (w.heap.size + 1)).setIfInBounds (6 + i) (.int .i64 z) = deskC x A1 c1 A2 c2 A3 c3 (upd s i z) (w.heap.size + 1) := by
   match i, hi with
   | 0, _ | 1, _ | 2, _ | 3, _ | 4, _ | 5, _ | 6, _ | 7, _ => simp [deskC, upd]
  rwa [e] at this
theorem putM (h : WK x A1 c1 A2 c2 A3 c3 w W s L) (L' : List ((Nat × Nat) × Nat)) : WK x A1 c1 A2 c2 A3 c3 w (putM W (w.heap.size + 1) L') s L' :=
 ⟨Ext.putM h.e (by omega) _, Blk.putM h.b0 (by omega) _, h.m.put, Blk.putM h.d (by omega) _, Blk.putM h.p (by omega) _⟩
theorem sum (h : WK x A1 c1 A2 c2 A3 c3 w W s L) {i : Nat} (hi : i < 8) : W.cell? ⟨w.heap.size + 2, 6 + i, none⟩ = some (.int .i64 (s i)) := by
 have := h.d
 unfold deskC at this
 exact sums_at this hi
end WK
/-- What is booked in interval i by the first k bookings. -/
def smk (x : WD) (k i : Nat) : Int := if i + 1 < x.cn then sumTo (R.bookf x i (i+1)) k else 0
theorem smk_bound {x : WD} (h : Ok x) {k : Nat} (hk : k ≤ x.bn) (i : Nat) : -2000 ≤ smk x k i ∧ smk x k i ≤ 2000 := by
 unfold smk
 split
 ·exact R.booked_bound' h _ _ k hk
 ·omega
theorem Ok.mono {x : WD} (h : Ok x) : ∀ {i j : Nat}, i < j → j < x.cn → x.c i 0 < x.c j 0
 | i, j + 1, h1, h2 => by
  rcases Nat.lt_or_eq_of_le (Nat.le_of_lt_succ h1) with h3 | h3
  ·exact Int.lt_trans (Ok.mono h h3 (by omega)) (h.inc j h2)
  ·subst h3; exact h.inc i h2
theorem smk_at {x : WD} {k p : Nat} (_h : Ok x) (hp : 0 < p) (hpn : p < x.cn) (hlo : ∀ j, j < p → x.c j 0 < x.b k 0) (hhi : ∀ j, p ≤ j → j < x.cn → x.b k 0 ≤ x.c j 0) : smk x (k + 1) = upd (smk x k) (p - 1) (smk x k (p - 1) + x.b k 1) := by
 funext i
 by_cases e : i = p - 1
 ·subst e
  rw [upd_same]
  simp only [smk, show p - 1 + 1 = p by omega, hpn, if_true, sumTo, R.bookf]
  rw [if_pos ⟨hlo _ (by omega), hhi _ (Nat.le_refl _) hpn⟩]
 ·rw [upd_other _ _ e]
  simp only [smk]
  split
  ·next hi =>
   simp only [sumTo, R.bookf]
   rw [if_neg, Int.add_zero]
   rintro ⟨h1, h2⟩
   rcases Nat.lt_or_ge i (p - 1) with h3 | h3
   ·have := hlo (i + 1) (by omega); omega
   ·have := hhi i (by omega) (by omega); omega
  ·rfl
theorem smk_none {x : WD} {k p : Nat} (hpn : p = 0 ∨ x.cn ≤ p) (hlo : ∀ j, j < p → x.c j 0 < x.b k 0) (hhi : ∀ j, p ≤ j → j < x.cn → x.b k 0 ≤ x.c j 0) : smk x (k + 1) = smk x k := by
 funext i
 simp only [smk]
 split
 ·next hi =>
  simp only [sumTo, R.bookf]
  rw [if_neg, Int.add_zero]
  rintro ⟨h1, h2⟩
  rcases hpn with h3 | h3
  ·have := hhi i (by omega) (by omega); omega
  ·have := hlo (i + 1) (by omega); omega
 ·rfl
theorem Mp.kc {B : Nat} {W W' : World} {m : Nat} {L : List ((Nat × Nat) × Nat)} (h : Mp W m L) (k : Kc B W W') (hB : m < B) : Mp W' m L := k.2.2.2.2 m _ h (.inr hB)
theorem WK.kc {x : WD} {A1 : Option Addr} {c1 : Nat} {A2 : Option Addr} {c2 : Nat} {A3 : Option Addr} {c3 : Nat} {w W W' : World} {s : Nat → Int} {L : List ((Nat × Nat) × Nat)} {B : Nat} (h : WK x A1 c1 A2 c2 A3 c3 w W s L) (k : Kc B W W') (hB : w.heap.size + 1 < B) : WK x A1 c1 A2 c2 A3 c3 w W' s L :=
 ⟨h.e.kc k (by omega), h.b0.kc k, h.m.kc k hB, h.d.kc k, h.p.kc k⟩
/-- The map after the stretches of a list. -/
def LM (x : WD) (pre : List (Nat × Nat)) (L : List ((Nat × Nat) × Nat)) : Prop := ∀ a b, lookV (a, b) L = if (a, b) ∈ pre then P.th x a b else 0
theorem wpE_val {P : Program} {ops : Array Oper} {C : World → Prop} {T : World → World → Prop} {R : Act → (World → Prop) → Prop} {o : Oper} {rest : List Oper} {a : Act} {E : World → Prop} (v : Value)
  (hw : Region.wanted o (yielded ops a.tmps) = true) (hT : ∀ w, T w w) (h : ∀ w, C w → (execOp a.eval o).run P w = .ok (.value v) w) (hk : wpE P ops C T R rest (a.put o.dst v) E) : wpE P ops C T R (o :: rest) a E := by
 refine ⟨v, fun _ => True, .inl ⟨hw, fun _ _ _ h => h, fun w hw => ?_⟩, ?_⟩
 ·rw [h w hw]; exact ⟨rfl, hw, hT w, trivial⟩
 ·have : (fun w => E w ∧ True) = E := by funext w; simp
  rw [this]; exact hk
theorem touch_touch (p : Nat × Nat) (l : List ((Nat × Nat) × Nat)) : touch p (touch p l) = touch p l := by
 have := posOf_touch p l
 show (if (lookAt p 0 (touch p l)).isSome then touch p l else touch p l ++ [(p, 0)]) = touch p l
 rw [this]; simp
theorem posOf_touch' (p : Nat × Nat) (l : List ((Nat × Nat) × Nat)) : posOf p (touch p l) = posOf p l := by
 have := posOf_touch p l
 show ((lookAt p 0 (touch p l)).map (·.1)).getD (touch p l).length = posOf p l
 rw [this]; simp
theorem putM_putM (w : World) (m : Nat) (l l' : List ((Nat × Nat) × Nat)) : putM (putM w m l) m l' = putM w m l' := by
 unfold putM
 simp
/-- The class of worlds in a region that writes an entry. -/
def Cls (w : World) (m : Nat) (p : Nat × Nat) (l : List ((Nat × Nat) × Nat)) (w' : World) : Prop := w' = w ∨ w' = putM w m (touch p l)
def Tr (w : World) (m : Nat) (p : Nat × Nat) (l : List ((Nat × Nat) × Nat)) (a b : World) : Prop := b = a ∨ b = putM w m (touch p l)
theorem wpE_entry {ops : Array Oper} {R : Act → (World → Prop) → Prop} {o : Oper} {rest : List Oper} {a : Act} {E : World → Prop} {w0 : World} {m : Nat} {l : List ((Nat × Nat) × Nat)} (p : Nat × Nat) (hm : Mp w0 m l)
  (hw : Region.wanted o (yielded ops a.tmps) = true) (h : ∀ w, (execOp a.eval o).run Tryz.prog w = ((Instr.mapEntry 187 (.map (some m)) (keyV p)).run Tryz.prog w).andThen fun v w' => .ok (.value v) w')
  (hk : wpE Tryz.prog ops (Cls w0 m p l) (Tr w0 m p l) R rest (a.put o.dst (.tuple #[.int .i64 (lookV p l : Int), .int .i64 (posOf p l : Int)])) (fun w => E w ∧ w = putM w0 m (touch p l))) : wpE Tryz.prog ops (Cls w0 m p l) (Tr w0 m p l) R (o :: rest) a E := by
 refine ⟨_, _, .inl ⟨hw, ?_, ?_⟩, hk⟩
 ·rintro w w' (rfl | rfl) h
  ·exact h
  ·rfl
 ·rintro w (rfl | rfl)
  ·rw [h, mapEntry_run hm]
   exact ⟨rfl, .inr rfl, .inr rfl, rfl⟩
  ·rw [h, mapEntry_run hm.put, lookV_touch, posOf_touch', touch_touch, putM_putM]
   exact ⟨rfl, .inr rfl, .inl rfl, rfl⟩
theorem Mp.ne {w : World} {m g : Nat} {l : List ((Nat × Nat) × Nat)} {t : TypeId} {C : Array Value} (h : Mp w m l) (b : Blk w g t C) : m ≠ g := by
 rintro rfl
 unfold Mp at h
 unfold Blk at b
 rw [h] at b
 cases b
theorem KeepsFrom.putM {B m : Nat} (W : World) (l : List ((Nat × Nat) × Nat)) (hm : m < B) : KeepsFrom B W (putM W m l) :=
 ⟨by unfold Go.Proofs.YtkhjmedfhobebaaGreat.putM; simp, fun i o hB hi _ => by
  unfold Go.Proofs.YtkhjmedfhobebaaGreat.putM
  exact (Array.getElem?_setIfInBounds_ne (by omega)).trans hi⟩
theorem KpM.putM {n m : Nat} {M : Nat → Prop} (W : World) (l : List ((Nat × Nat) × Nat)) (hm : M m) : KpM n M W (putM W m l) :=
 ⟨by unfold Go.Proofs.YtkhjmedfhobebaaGreat.putM; simp, fun i _ hi => by
  unfold Go.Proofs.YtkhjmedfhobebaaGreat.putM
  exact Array.getElem?_setIfInBounds_ne fun e => hi (by rw [← e]; exact hm)⟩
theorem wpIn_later {F : Fence} {n : Nat} {P : Program} {c : Code} {Q : Exit → Act → World → Prop} {a : Act} {W : World} (h : ∀ w1, Ext W w1 → c.wpIn F n P Q a w1) : c.wpIn F n P Q a W := h W (Ext.refl _)
theorem worked_any {x : WD} (hx : Ok x) {w : World} {v : Value} (hv : IsW w v x) :
  Calls Tryz.prog 203 #[v] w fun e w' => ∃ u, e = .returned u ∧ Ext w w' ∧ IsD w' u x := by
 have HV := hid hv
 obtain ⟨A1, c1, A2, c2, A3, c3, rfl, r1, r2, r3⟩ := hv
 have R1 := hid r1
 have R2 := hid r2
 have R3 := hid r3
 clear r1 r2 r3
 have hcn := hx.cn
 have hbn := hx.bn
 have hsn := hx.sn
 have hmm : ∀ w : World, (Instr.makeMap 187 none).run Tryz.prog w = .ok (.map (some w.heap.size)) (w.alloc (.map #[] 0)) := fun w => by kernel_rfl
 refine (callsIn_wide (n := 3)).1 (callsIn_of_wp_marks Tryz.func203 rfl trivial (wpIn_wide.2 ?_) rfl)
 simp only [Tryz.ntmps203, List.size_toArray, List.length_cons, List.length_nil, Nat.reduceAdd, Nat.reduceSub, Array.replicate_succ, Array.replicate_zero, List.push_toArray, List.append_toArray, List.nil_append, List.cons_append]
 go_upto_region 2 with fail
 refine wp_later fun w1 hw1 => ?_
 have K1 : WK x A1 c1 A2 c2 A3 c3 w w1 (fun _ => 0) [] := WK.first hw1
 have k0 := K1.b0.cell
 have kl := K1.b0.lt
 clear hw1
 unfold wboxC at k0
 have K1 := hid K1
 go_wp2
 go_loopw [18] (fun i wr => ∃ k : Nat, k ≤ x.bn ∧ i = .int .i64 k ∧ Hid (WK x A1 c1 A2 c2 A3 c3 w wr (smk x k) [])) (fun i _ => x.bn - (intOf i).toNat)
 case atStart => exact ⟨0, Nat.zero_le _, rfl, hid (by rw [show smk x 0 = fun _ => 0 from by funext i; simp [smk, sumTo]]; exact K1.out)⟩
 case round =>
  clear k0 kl
  obtain ⟨k, hk, rfl, K⟩ := hrel
  have k0 := K.out.b0.cell
  have kl := K.out.b0.lt
  unfold wboxC at k0
  by_cases hlt : k < x.bn
  ·obtain ⟨b, o, rfl, hb, a0, a1⟩ := (R2.out.ext K.out.e).at2 hlt
   have hbh := hx.bhour k hlt
   have hbs := hx.bsack k hlt
   have hh := hx.hours
   have HS : ∀ i j, i < j → j < x.cn → x.c i 0 < x.c j 0 := fun i j h h' => Ok.mono hx h h'
   have HS := hid HS
   have HC : Cmps 238 x.cn x.c (x.b k 0) := cmp238 (fun j hj => by have := hx.hour j hj; omega) (by omega)
   have HC := hid HC
   go_upto_region 6 with (go_at_call 165; refine (bsearch165 ((R1.out.ext K.out.e).ext ((Ext.refl _).alloc _)) (by omega) HS.out HC.out).mono ?_; rintro e w2 ⟨p, rfl, hp, hlo, hhi, he2⟩)
   refine wp_later fun w3 hw3 => ?_
   obtain ⟨e3, b3⟩ := (he2.trans hw3).newB
   have K3 := hid (K.out.ext e3)
   have k0 := K3.out.b0.cell
   have kl := K3.out.b0.lt
   have kd := K3.out.d.cell
   have kdl := K3.out.d.lt
   have kp := K3.out.p.cell
   have kpl := K3.out.p.lt
   have kb := b3.cell
   have kbl := b3.lt
   unfold wboxC at k0
   unfold deskC at kd
   clear hw3 he2 a0 a1
   rcases Nat.eq_zero_or_pos p with hz | hz
   ·have HN := hid (smk_none (x := x) (k := k) (p := p) (.inl hz) hlo hhi)
    subst hz
    clear hlo hhi
    go_wp2
    go_roundw
    case rel => exact ⟨k + 1, by omega, by go_num, hid (by rw [HN.out]; exact K3.out)⟩
    case measure => simp [intOf]; omega
   ·by_cases hpn : p < x.cn
    ·have HN := hid (smk_at hx hz hpn hlo hhi)
     clear hlo hhi
     obtain ⟨q, rfl⟩ : ∃ q, p = q + 1 := ⟨p - 1, by omega⟩
     simp only [Nat.add_sub_cancel] at HN
     have hq1 : decide (q + 1 < x.cn) = true := by simpa using hpn
     have sb := smk_bound hx (Nat.le_of_lt hlt) q
     have sc := K3.out.sum (i := q) (by omega)
     have sf := K3.out.d.frozen (6 + q)
     have hpi : ((q + 1 : Nat) : Int) < x.cn := by omega
     cases hc : (x.c (q + 1) 0 == x.b k 0)
     all_goals
      have hcc := hid hc
      go_upto_region 7 with fail
      clear kd
      refine wp_region_tail 12 (by kernel_rfl) (by kernel_rfl) ?_
      simp only [List.take_succ_cons, List.take_zero, List.drop_succ_cons, List.drop_zero]
      repeat (go_big_quiet_step (fail))
      refine wpQuiet_nil ?_
      rintro _ ⟨⟨w4, he4⟩, rfl⟩
      have K4 := hid (K3.out.ext he4)
      have sc := K4.out.sum (i := q) (by omega)
      have sf := K4.out.d.frozen (6 + q)
      go_wp2
      go_roundw
      case rel => exact ⟨k + 1, by omega, by go_num, hid (by rw [HN.out]; exact K4.out.set_ (by omega) _)⟩
      case measure => simp [intOf]; omega
    ·have HN := hid (smk_none (x := x) (k := k) (p := p) (.inr (by omega)) hlo hhi)
     obtain rfl : p = x.cn := by omega
     have hq1 : decide (x.cn < x.cn) = false := by simp
     clear hlo hhi
     go_wp2
     go_roundw
     case rel => exact ⟨k + 1, by omega, by go_num, hid (by rw [HN.out]; exact K3.out)⟩
     case measure => simp [intOf]; omega
  ·obtain rfl : k = x.bn := by omega
   have kd := K.out.d.cell
   have kdl := K.out.d.lt
   have kp := K.out.p.cell
   have kpl := K.out.p.lt
   unfold deskC at kd
   go_wp2_with (go_at_call 193; refine (stretches_any _).mono ?_; rintro e w1 ⟨rfl, he1, hb1⟩)
   have K1 := K.out.ext he1
   have hbl := hb1.lt
   have hpl := K1.p.lt
   refine wp_range (gf := 236) rfl (enters_ Tryz.func236 (by kernel_rfl) rfl) (fun y : Str x.cn => .agg #[.int .i64 (y.1.1 : Int), .int .i64 (y.1.2 : Int)]) (fun k => k = w.heap.size + 1) (stretches1_stops (by omega) hb1 hbl (by have := K.out.p.lt; omega)) (Ext.refl _)
    (fun (pre : List (Str x.cn)) W => w1.heap.size ≤ W.heap.size ∧ ∃ L, WK x A1 c1 A2 c2 A3 c3 w W (P.sm x) L ∧ LM x (fsts pre) L)
    (ownFrom_of fun pre W W' k ⟨i0, L, i1, i2⟩ => ⟨Nat.le_trans i0 k.1, L, i1.kc k (by omega), i2⟩) ⟨Nat.le_refl _, [], K1, fun a b => by simp [fsts, lookV, lookAt]⟩
    (fun (y : Str x.cn) tm a' W => ∃ g, a' = { tmps := (tm.setIfInBounds 61 (.agg #[.int .i64 (y.1.1 : Int), .int .i64 (y.1.2 : Int)])).setIfInBounds 8 (.pointer (some ⟨g, 0, none⟩)), defers := [] } ∧ Blk W g 51 #[.int .i64 (y.1.1 : Int), .int .i64 (y.1.2 : Int)])
    (fun y a' => ownFrom_of fun _ W W' k ⟨g, h1, h2⟩ => ⟨g, h1, h2.kc k⟩) ?_ ?_ ?_
   ·intro l pre y W K hI hK
    simp only [List.setIfInBounds_toArray, List.set_cons_succ, List.set_cons_zero]
    gi_wp2
    obtain ⟨i0, L, i1, i2⟩ := hI
    have e : Ext W (W.alloc (.cells #[.int .i64 (y.1.1 : Int), .int .i64 (y.1.2 : Int)] 51)) := (Ext.refl _).alloc _
    exact hK _ _ (KeepsFrom.ext e) (KpM.ext e i0) ⟨Nat.le_trans i0 e.size, L, i1.ext e, i2⟩ ⟨_, rfl, Blk.new _ _ _⟩
   ·rintro l pre y a' W hl - ⟨i0, L, i1, i2⟩ ⟨g, rfl, hg⟩ hN
    simp only [List.setIfInBounds_toArray, List.set_cons_succ, List.set_cons_zero]
    obtain ⟨p1, p2⟩ := y.2
    clear k0 kl kd kdl kp kpl
    have k0 := i1.b0.cell
    have kl := i1.b0.lt
    unfold wboxC at k0
    have kg := hg.cell
    have I1 := hid i1
    have I2 := hid i2
    clear i2 hN
    gi_wp2
    gi_loopw [65] (fun i wr => ∃ k : Nat, k ≤ x.sn ∧ i = .int .i64 k ∧ ∃ L', Hid (KeepsFrom w1.heap.size W wr ∧ KpM w1.heap.size (fun k => k = w.heap.size + 1) W wr ∧ WK x A1 c1 A2 c2 A3 c3 w wr (P.sm x) L' ∧ Blk wr g 51 #[.int .i64 (y.1.1 : Int), .int .i64 (y.1.2 : Int)] ∧ (∀ a b, lookV (a, b) L' = if (a, b) = y.1 then lookV (a, b) L ||| orTo (P.thf x a b) k else lookV (a, b) L))) (fun i _ => x.sn - (intOf i).toNat)
    case atStart => exact ⟨0, Nat.zero_le _, rfl, L, hid ⟨.ext (Ext.refl _), .refl _, I1.out, hg, fun a b => by simp [orTo]⟩⟩
    case round =>
     clear k0 kl kg
     obtain ⟨k, hk, rfl, L', hI⟩ := hrel
     have k0 := hI.out.2.2.1.b0.cell
     have kl := hI.out.2.2.1.b0.lt
     have kg := hI.out.2.2.2.1.cell
     have kgl := hI.out.2.2.2.1.lt
     unfold wboxC at k0
     by_cases hlt : k < x.sn
     ·obtain ⟨b, o, rfl, hb, a0, a1, a2⟩ := (R3.out.ext hI.out.2.2.1.e).at3 hlt
      have hI0 := hI
      gi_wp2
      refine wpIn_later fun w5 hw5 => ?_
      obtain ⟨e5, b5⟩ := hw5.newB
      obtain ⟨cb, co, rfl, hcb, c0, _, _⟩ := (R1.out.ext (hI.out.2.2.1.e.trans e5)).at3 (k := y.1.1) (by omega)
      obtain ⟨_, _, hq, _, d0, _, _⟩ := (R1.out.ext (hI.out.2.2.1.e.trans e5)).at3 (k := y.1.2) p2
      obtain ⟨rfl, rfl⟩ := same_addr hq rfl
      have hI5 := hid (And.intro ((hI.out.1.trans (.ext e5))) (And.intro (hI.out.2.1.trans (.ext e5 (Nat.le_trans i0 hI.out.2.1.1))) (And.intro (hI.out.2.2.1.ext e5) (And.intro (hI.out.2.2.2.1.ext e5) hI.out.2.2.2.2))))
      have k0 := hI5.out.2.2.1.b0.cell
      have kl := hI5.out.2.2.1.b0.lt
      have kg := hI5.out.2.2.2.1.cell
      have kgl := hI5.out.2.2.2.1.lt
      have kb := b5.cell
      have kbl := b5.lt
      unfold wboxC at k0
      clear hI hI0 hw5 a0 a1 a2 hq
      by_cases o1 : x.s k 1 < x.c y.1.2 0
      ·have q1 : decide (x.s k 1 < x.c y.1.2 0) = true := by simpa using o1
       by_cases o2 : x.s k 2 > x.c y.1.1 0
       ·have q2 : decide (x.s k 2 > x.c y.1.1 0) = true := by simpa using o2
        have HT : Hid (P.thf x y.1.1 y.1.2 k = 2 ^ (x.s k 0).toNat) := hid (if_pos ⟨o1, o2⟩)
        clear o1 o2
        refine wpIn_round_later (by kernel_rfl) (by kernel_rfl) (by kernel_rfl) (by rintro ⟨a, w, h⟩; exact h) ?_
        repeat (go_big_quiet_step (fail))
        refine wpQuiet_nil ?_
        rintro w6 ⟨⟨_, he6⟩, rfl⟩
        have hI6 := hid (And.intro ((hI5.out.1.trans (.ext he6))) (And.intro (hI5.out.2.1.trans (.ext he6 (Nat.le_trans i0 hI5.out.2.1.1))) (And.intro (hI5.out.2.2.1.ext he6) (And.intro (hI5.out.2.2.2.1.ext he6) hI5.out.2.2.2.2))))
        gi_wp2
        refine wpIn_region_any (by kernel_rfl) (wpAnyIn_of_wpAny (by kernel_rfl) (by rintro ⟨a, w, h⟩; exact h) _ _ _ _ (wpAny_tailE (C := Cls { w6 with drawn := w6.drawn + 1 } (w.heap.size + 1) y.1 L') (T := Tr { w6 with drawn := w6.drawn + 1 } (w.heap.size + 1) y.1 L') 12 (by kernel_rfl) (fun w => .inl rfl) (.inl rfl) ?_))
        simp only [List.take_succ_cons, List.take_zero, List.drop_succ_cons, List.drop_zero]
        have K7 := hI6.out.2.2.1.ext (Ext.refl w6).drew
        have g7 := hI6.out.2.2.2.1.ext (Ext.refl w6).drew
        have b7 := (b5.ext he6).ext (Ext.refl w6).drew
        have hb1 : lookV y.1 L' < 64 := by
         have h1 := hI6.out.2.2.2.2 y.1.1 y.1.2
         rw [if_pos rfl, I2.out] at h1
         rw [h1]
         refine Nat.or_lt_two_pow (n := 6) ?_ (Nat.lt_of_lt_of_le (P.orTo_lt k fun i hi => P.thf_lt hx _ _ (by omega)) (Nat.pow_le_pow_right (by omega) (by have := hx.hands; omega)))
         split
         ·exact P.th_lt hx _ _
         ·omega
        have hb2 : 2 ^ (x.s k 0).toNat < 64 := Nat.pow_lt_pow_right (a := 2) (m := (x.s k 0).toNat) (n := 6) (by omega) (by have := hx.shand k hlt; have := hx.hands; omega)
        have hF : ∀ w', Cls { w6 with drawn := w6.drawn + 1 } (w.heap.size + 1) y.1 L' w' → w'.cell? ⟨w.heap.size + 3, 0, none⟩ = some (.pointer (some ⟨w.heap.size + 2, 0, none⟩)) ∧ w'.cell? ⟨w.heap.size + 2, 14, none⟩ = some (.map (some (w.heap.size + 1))) ∧ w'.cell? ⟨g, 0, none⟩ = some (.int .i64 (y.1.1 : Int)) ∧ w'.cell? ⟨g, 1, none⟩ = some (.int .i64 (y.1.2 : Int)) ∧ w'.cell? ⟨wr.heap.size, 0, none⟩ = some (.int .i64 (x.s k 0)) ∧ ∃ L'', Mp w' (w.heap.size + 1) L'' ∧ ∀ q, lookV q L'' = lookV q L' := by
         rintro w' (rfl | rfl)
         ·exact ⟨by have := K7.p.cell 0; simpa using this, by have := K7.d.cell 14; simpa [deskC] using this, by have := g7.cell 0; simpa using this, by have := g7.cell 1; simpa using this, by have := b7.cell 0; simpa using this, L', K7.m, fun _ => rfl⟩
         ·have K8 := K7.putM (touch y.1 L')
          have g8 := Blk.putM g7 (K7.m.ne g7) (touch y.1 L')
          have b8 := Blk.putM b7 (K7.m.ne b7) (touch y.1 L')
          exact ⟨by have := K8.p.cell 0; simpa using this, by have := K8.d.cell 14; simpa [deskC] using this, by have := g8.cell 0; simpa using this, by have := g8.cell 1; simpa using this, by have := b8.cell 0; simpa using this, _, K8.m, fun q => lookV_touch q y.1 L'⟩
        have hs := hx.shand k hlt
        have hh := hx.hands
        refine wpE_val (.pointer (some ⟨w.heap.size + 2, 0, none⟩)) rfl (fun w => .inl rfl) (fun w' hw' => ?_) ?_
        ·obtain ⟨f1, f2, f3, f4, f5, L'', f6, f7⟩ := hF w' hw'
         simp [execOp, go_sem, f1]
        refine wpE_val (.pointer (some ⟨w.heap.size + 2, 0, none⟩)) rfl (fun w => .inl rfl) (fun w' hw' => ?_) ?_
        ·obtain ⟨f1, f2, f3, f4, f5, L'', f6, f7⟩ := hF w' hw'
         simp [execOp, go_sem]
        refine wpE_val (.pointer (some ⟨w.heap.size + 2, 14, none⟩)) rfl (fun w => .inl rfl) (fun w' hw' => ?_) ?_
        ·obtain ⟨f1, f2, f3, f4, f5, L'', f6, f7⟩ := hF w' hw'
         simp [execOp, go_sem]
        refine wpE_val (.map (some (w.heap.size + 1))) rfl (fun w => .inl rfl) (fun w' hw' => ?_) ?_
        ·obtain ⟨f1, f2, f3, f4, f5, L'', f6, f7⟩ := hF w' hw'
         simp [execOp, go_sem, f2]
        refine wpE_val (.agg #[.int .i64 (y.1.1 : Int), .int .i64 (y.1.2 : Int)]) rfl (fun w => .inl rfl) (fun w' hw' => ?_) ?_
        ·obtain ⟨f1, f2, f3, f4, f5, L'', f6, f7⟩ := hF w' hw'
         simp [execOp, go_sem, f3, f4]
        refine wpE_val (.int .i64 (lookV y.1 L' : Int)) rfl (fun w => .inl rfl) (fun w' hw' => ?_) ?_
        ·obtain ⟨f1, f2, f3, f4, f5, L'', f6, f7⟩ := hF w' hw'
         simp [execOp, go_sem, lookup_run f6, f7]
        refine wpE_val (.pointer (some ⟨wr.heap.size, 0, none⟩)) rfl (fun w => .inl rfl) (fun w' hw' => ?_) ?_
        ·obtain ⟨f1, f2, f3, f4, f5, L'', f6, f7⟩ := hF w' hw'
         simp [execOp, go_sem]
        refine wpE_val (.int .i64 (x.s k 0)) rfl (fun w => .inl rfl) (fun w' hw' => ?_) ?_
        ·obtain ⟨f1, f2, f3, f4, f5, L'', f6, f7⟩ := hF w' hw'
         simp [execOp, go_sem, f5]
        refine wpE_val (.int .i64 ((2 ^ (x.s k 0).toNat : Nat) : Int)) rfl (fun w => .inl rfl) (fun w' hw' => ?_) ?_
        ·have : x.s k 0 = 0 ∨ x.s k 0 = 1 ∨ x.s k 0 = 2 ∨ x.s k 0 = 3 ∨ x.s k 0 = 4 ∨ x.s k 0 = 5 := by omega
         rcases this with h | h | h | h | h | h <;> simp [execOp, go_sem, h] <;> rfl
        refine wpE_val (.int .i64 ((lookV y.1 L' ||| 2 ^ (x.s k 0).toNat : Nat) : Int)) rfl (fun w => .inl rfl) (fun w' hw' => ?_) ?_
        ·have h3 := or64 hb1 hb2
         simpa [execOp, go_sem] using h3
        refine wpE_entry y.1 K7.m rfl (fun w' => by simp [execOp, go_sem]; rfl) ?_
        refine wpE_val (.int .i64 (posOf y.1 L' : Int)) rfl (fun w => .inl rfl) (fun w' hw' => ?_) ?_
        ·obtain ⟨f1, f2, f3, f4, f5, L'', f6, f7⟩ := hF w' hw'
         simp [execOp, go_sem]
        rintro w' - ⟨-, rfl⟩
        have he := entryStore_run (w := putM w6.drew (w.heap.size + 1) (touch y.1 L')) K7.m.put (posOf_lt y.1 L') (lookV y.1 L' ||| 2 ^ (x.s k 0).toNat)
        refine wpList_plain rfl fun K hK => ?_
        unfold Oper.wp
        simp [execOp, go_sem]
        rw [he]
        refine hK _ _ ?_
        have K8 := K7.putM (putV y.1 (lookV y.1 L' ||| 2 ^ (x.s k 0).toNat) L')
        have g8 := Blk.putM g7 (K7.m.ne g7) (putV y.1 (lookV y.1 L' ||| 2 ^ (x.s k 0).toNat) L')
        have e8 : putM (putM w6.drew (w.heap.size + 1) (touch y.1 L')) (w.heap.size + 1) ((touch y.1 L').modify (posOf y.1 L') fun x_1 => (x_1.1, lookV y.1 L' ||| 2 ^ (x.s k 0).toNat)) = putM w6.drew (w.heap.size + 1) (putV y.1 (lookV y.1 L' ||| 2 ^ (x.s k 0).toNat) L') := putM_putM _ _ _ _
        rw [e8]
        have hI8 := hid (And.intro ((hI6.out.1.trans (.ext (Ext.refl w6).drew)).trans (KeepsFrom.putM (m := w.heap.size + 1) _ (putV y.1 (lookV y.1 L' ||| 2 ^ (x.s k 0).toNat) L') (by have := K1.p.lt; omega))) (And.intro ((hI6.out.2.1.trans (.ext (Ext.refl w6).drew (Nat.le_trans i0 hI6.out.2.1.1))).trans (KpM.putM (m := w.heap.size + 1) _ (putV y.1 (lookV y.1 L' ||| 2 ^ (x.s k 0).toNat) L') rfl)) (And.intro K8 (And.intro g8 hI6.out.2.2.2.2))))
        clear e8 he hF K7 g7 b7 K8 g8
        unfold wpList
        gi_wp2
        refine ⟨?_, by simp [intOf]; omega⟩
        refine ⟨k + 1, by omega, by go_num, putV y.1 (lookV y.1 L' ||| 2 ^ (x.s k 0).toNat) L', hid ⟨hI8.out.1, hI8.out.2.1, hI8.out.2.2.1, hI8.out.2.2.2.1, fun a b => ?_⟩⟩
        rw [lookV_putV]
        have h1 := hI8.out.2.2.2.2 a b
        by_cases e : (a, b) = y.1
        ·rw [if_pos e, if_pos e, ← e]
         rw [if_pos e] at h1
         have ea : y.1.1 = a := by rw [← e]
         have eb : y.1.2 = b := by rw [← e]
         have HT := HT.out
         rw [ea, eb] at HT
         rw [h1]
         simp [orTo, HT, Nat.or_assoc]
        ·rw [if_neg e, if_neg e]
         rw [if_neg e] at h1
         exact h1
       ·have q2 : decide (x.s k 2 > x.c y.1.1 0) = false := by simpa using o2
        have HT : Hid (P.thf x y.1.1 y.1.2 k = 0) := hid (if_neg fun h => o2 h.2)
        clear o1 o2
        refine wpIn_round_later (by kernel_rfl) (by kernel_rfl) (by kernel_rfl) (by rintro ⟨a, w, h⟩; exact h) ?_
        repeat (go_big_quiet_step (fail))
        refine wpQuiet_nil ?_
        rintro w6 ⟨⟨_, he6⟩, rfl⟩
        have hI6 := hid (And.intro ((hI5.out.1.trans (.ext he6))) (And.intro (hI5.out.2.1.trans (.ext he6 (Nat.le_trans i0 hI5.out.2.1.1))) (And.intro (hI5.out.2.2.1.ext he6) (And.intro (hI5.out.2.2.2.1.ext he6) hI5.out.2.2.2.2))))
        gi_wp2
        refine ⟨?_, by simp [intOf]; omega⟩
        refine ⟨k + 1, by omega, by go_num, L', hid ⟨hI6.out.1, hI6.out.2.1, hI6.out.2.2.1, hI6.out.2.2.2.1, fun a b => ?_⟩⟩
        rw [hI6.out.2.2.2.2 a b]
        by_cases e : (a, b) = y.1
        ·rw [if_pos e, if_pos e]
         have ea : y.1.1 = a := by rw [← e]
         have eb : y.1.2 = b := by rw [← e]
         have HT := HT.out
         rw [ea, eb] at HT
         simp [orTo, HT]
        ·rw [if_neg e, if_neg e]
      ·have q1 : decide (x.s k 1 < x.c y.1.2 0) = false := by simpa using o1
       have HT : Hid (P.thf x y.1.1 y.1.2 k = 0) := hid (if_neg fun h => o1 h.1)
       clear o1
       refine wpIn_round_later (by kernel_rfl) (by kernel_rfl) (by kernel_rfl) (by rintro ⟨a, w, h⟩; exact h) ?_
       repeat (go_big_quiet_step (fail))
       refine wpQuiet_nil ?_
       rintro w6 ⟨⟨_, he6⟩, rfl⟩
       have hI6 := hid (And.intro ((hI5.out.1.trans (.ext he6))) (And.intro (hI5.out.2.1.trans (.ext he6 (Nat.le_trans i0 hI5.out.2.1.1))) (And.intro (hI5.out.2.2.1.ext he6) (And.intro (hI5.out.2.2.2.1.ext he6) hI5.out.2.2.2.2))))
       gi_wp2
       refine ⟨?_, by simp [intOf]; omega⟩
       refine ⟨k + 1, by omega, by go_num, L', hid ⟨hI6.out.1, hI6.out.2.1, hI6.out.2.2.1, hI6.out.2.2.2.1, fun a b => ?_⟩⟩
       rw [hI6.out.2.2.2.2 a b]
       by_cases e : (a, b) = y.1
       ·rw [if_pos e, if_pos e]
        have ea : y.1.1 = a := by rw [← e]
        have eb : y.1.2 = b := by rw [← e]
        have HT := HT.out
        rw [ea, eb] at HT
        simp [orTo, HT]
       ·rw [if_neg e, if_neg e]
     ·gi_wp2
      obtain rfl : k = x.sn := by omega
      obtain ⟨j1, j2, j3, j4, j5⟩ := hI.out
      refine ⟨j1, j2, Nat.le_trans i0 j2.1, L', j3, fun a b => ?_⟩
      rw [j5]
      have hy : fsts (pre ++ [y]) = fsts pre ++ [y.1] := by simp [fsts]
      rw [hy, I2.out a b]
      by_cases e : (a, b) = y.1
      ·simp only [e, if_true, List.mem_append, List.mem_singleton, or_true]
       rw [show orTo (P.thf x a b) x.sn = P.th x a b from rfl]
       split <;> simp
      ·simp [e]
   ·rintro D ys W hD hys ⟨i0, L, i1, i2⟩ hK
    have kp := i1.p.cell
    have kpl := i1.p.lt
    go_wp2
    refine ⟨by simp, .inl ⟨_, _, rfl, run_takeDeferred hK, ?_⟩⟩
    have kp := Kc.put (.deferred none) hD hK rfl
    have i3 := i1.kc kp (by omega)
    refine ⟨_, results_tmp rfl _ _ _, _, rfl, i3.e, w.heap.size + 2, _, c1, A2, c2, A3, c3, w.heap.size + 1, L, rfl, i3.d, R1.out.ext i3.e, R2.out.ext i3.e, R3.out.ext i3.e, i3.m, fun a b hab hb' => ?_⟩
    rw [i2 a b, if_pos]
    rw [show fsts ys = stretches x.cn from hys]
    exact mem_stretches.2 ⟨hab, hb'⟩
end Go.Proofs.YtkhjmedfhobebaaGreat
