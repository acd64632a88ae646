/- Walks of the program: lists of numbers in lexicographic order, until one is wanted. -/
import Derived.Test.YtkhjmedfhobebaaGreatDoF
namespace HandSpec
namespace P
/-- The first list that goes on with r numbers from a on, below a limit, and is wanted. -/
def pick (holds : List Nat → Bool) (limit : Nat) : Nat → List Nat → Nat → Option (List Nat)
 | 0, l, _ => if holds l then some l else none
 | r+1, l, a => (List.range (limit - a)).findSome? fun d => pick holds limit r (l ++ [a + d]) (a + d + 1)
end P
end HandSpec
namespace Go
open Go.RowKit
/-- append of rows to an own slice, at a step of a drawn region. -/
theorem step_append_rows {P : Program} {w : World} {ops : Array Oper} {o : Oper} {a : Act} {K : Act → World → Prop} {Q : Exit → Act → World → Prop} {E : Prop} (hgd : o.guard = none) (s x : Operand) (T : TypeId)
  (ho : o.op = .call { callee := .builtin .append, args := #[s, x], argTypes := #[T, T] }) {e : TypeId} {c bytes : Nat} (hE : ElemOk P T e c bytes)
  {B : Nat} {v : Value} {l : List (List Int)} (hs : a.eval s = v) (hown : OwnR w B e c v l) (g m cap : Nat) (r : List (List Int)) (hx : a.eval x = .slice (some ⟨g, 0, none⟩) m cap)
  (hm : r.length = m) (hrc : ∀ q ∈ r, q.length = c) (hb : ∀ i, w.cell? ⟨g, i, none⟩ = (cellsOf r)[i]?) (hlen : l.length + m ≤ 1000000) (hB : B ≤ w.heap.size)
  (h : ∀ v' w', OwnR w' B e c v' (l ++ r) → w.grownBy w' v.ownBlock → K (a.put o.dst v') w') :
  if Region.wanted o (yielded ops a.tmps) = true then Oper.wp P o a w K Q else E := by
 have hw : Region.wanted o (yielded ops a.tmps) = true := by simp [Region.wanted, hgd]
 rw [if_pos hw]
 obtain ⟨i, z, hi, hz, h1, h2, h3⟩ := hE.i
 have hb0 := hE.b
 refine wp_append_own w s x T ho B e i z c bytes hE.u hi hz h1 h2 h3 hE.c0 v l.length (cellsOf l) hs hown.2 ⟨g, 0, none⟩ m cap (cellsOf r) hx (by rw [cellsOf_length hrc, hm]) ?_ cellsOf_one ?_ ?_ hB ?_
 ·intro j u hu
  rw [show (⟨g, 0, none⟩ : Addr).add j = ⟨g, j, none⟩ from by unfold Addr.add; by_cases h0 : j = 0 <;> simp [h0], hb, hu]
 ·unfold maxLen; omega
 ·have := Nat.mul_le_mul hlen hb0; omega
 ·intro v' w' hown' hg _
  exact h v' w' ⟨fun q hq => (List.mem_append.1 hq).elim (hown.1 q) (hrc q), by rw [List.length_append, hm, cellsOf_append]; exact hown'⟩ hg
end Go
namespace Go.Proofs.YtkhjmedfhobebaaGreat
open Go.RowKit HandSpec
set_option maxHeartbeats 800000
set_option maxRecDepth 100000
/-- A function value that says of a list of numbers below a limit whether it is wanted. -/
def AsksL (w : World) (fv : Value) (limit : Nat) (holds : List Nat → Bool) : Prop :=
 ∃ f caps, fv = .func (.func f) #[] caps ∧ (∀ args w, (callFunc f args).run Tryz.prog w = .ok (.enter f args) w) ∧
  ∀ l, (∀ i ∈ l, i < limit) → l.length ≤ 64 → ∀ w' u, Ext w w' → SlR w' 1 u (rows1 l) → Calls Tryz.prog f (#[u] ++ caps) w' (fun e w'' => e = .returned (.bool (holds l)) ∧ Ext w' w'')
theorem AsksL.ext {w w' : World} {fv : Value} {limit : Nat} {holds : List Nat → Bool} (h : AsksL w fv limit holds) (e : Ext w w') : AsksL w' fv limit holds := by
 obtain ⟨f, caps, h1, h2, h3⟩ := h
 exact ⟨f, caps, h1, h2, fun l hl hn w'' u e' => h3 l hl hn w'' u (e.trans e')⟩
def PickPost (w' : World) (o : Option (List Nat)) (e : Ending) (w'' : World) : Prop :=
 Ext w' w'' ∧ ∃ u, e = .returned (.tuple #[u, .bool o.isSome]) ∧ ∀ out, o = some out → SlR w'' 1 u (rows1 out)
theorem PickPost.ret {w' w'' : World} {o : Option (List Nat)} {u : Value} {b : Bool} (he : Ext w' w'') (hb : o.isSome = b) (hs : ∀ out, o = some out → SlR w'' 1 u (rows1 out)) : PickPost w' o (.returned (.tuple #[u, .bool b])) w'' := by
 subst hb; exact ⟨he, u, rfl, hs⟩
theorem rowsG1 (l : List Nat) : rowsG 1 l.length (rowsAt (rows1 l)) = rows1 l := by
 apply List.ext_getElem?
 intro i
 unfold rowsG rows1
 simp only [List.getElem?_map]
 rcases Nat.lt_or_ge i l.length with h | h
 ·simp [h, rowsAt]
 ·simp [h]
theorem pick_none {holds : List Nat → Bool} {limit r : Nat} {l : List Nat} {a : Nat} (h : ∀ d, d < limit - a → P.pick holds limit r (l ++ [a + d]) (a + d + 1) = none) : P.pick holds limit (r+1) l a = none := by
 unfold P.pick
 rw [List.findSome?_eq_none_iff]
 intro d hd
 exact h d (by simpa using hd)
theorem pick_first {holds : List Nat → Bool} {limit r : Nat} {l : List Nat} {a d : Nat} {out : List Nat} (hd : d < limit - a) (h : ∀ e, e < d → P.pick holds limit r (l ++ [a + e]) (a + e + 1) = none) (ho : P.pick holds limit r (l ++ [a + d]) (a + d + 1) = some out) :
  P.pick holds limit (r+1) l a = some out := by
 unfold P.pick
 obtain ⟨k, hk⟩ := Nat.le.dest (show d + 1 ≤ limit - a by omega)
 rw [← hk, List.range_add, List.findSome?_append, List.range_succ, List.findSome?_append]
 have h1 : (List.range d).findSome? (fun d => P.pick holds limit r (l ++ [a + d]) (a + d + 1)) = none := by
  rw [List.findSome?_eq_none_iff]
  intro e he
  exact h e (by simpa using he)
 rw [h1]
 simp [ho]
theorem more_any {w : World} {bM bW bL bF many limit : Nat} {fv : Value} {holds : List Nat → Bool} (hM : Blk w bM 3 #[.int .i64 (many : Int)]) (hL : Blk w bL 3 #[.int .i64 (limit : Int)])
  (hF : Blk w bF 241 #[.func (.func 201) #[] #[.pointer (some ⟨bM, 0, none⟩), .pointer (some ⟨bW, 0, none⟩), .pointer (some ⟨bL, 0, none⟩), .pointer (some ⟨bF, 0, none⟩)]]) (hW : Blk w bW 182 #[fv]) (hA : AsksL w fv limit holds) (hm : many ≤ 64) (hlim : limit ≤ 64) :
  ∀ (r : Nat) (l : List Nat) (a : Nat) (w' : World) (v : Value), Ext w w' → SlR w' 1 v (rows1 l) → l.length + r = many → (∀ i ∈ l, i < limit) → a ≤ limit →
   Calls Tryz.prog 201 #[v, .int .i64 (a : Int), .pointer (some ⟨bM, 0, none⟩), .pointer (some ⟨bW, 0, none⟩), .pointer (some ⟨bL, 0, none⟩), .pointer (some ⟨bF, 0, none⟩)] w' (PickPost w' (P.pick holds limit r l a)) := by
 obtain ⟨fn, caps, rfl, hfn, hf⟩ := hA
 have HF := hid hf
 clear hf
 have hcf := enters_ Tryz.func201 (by kernel_rfl) rfl
 intro r
 induction r with
 | zero =>
  intro l a w' v hw hv hlen hl ha
  have HV := hid hv
  obtain ⟨A, cap, rfl, hr⟩ := hv
  rw [rows1_length] at *
  have kM := (hM.ext hw).cell
  have kMl := (hM.ext hw).lt
  have kW := (hW.ext hw).cell
  have kWl := (hW.ext hw).lt
  have e1 : ((l.length : Int) == (many : Int)) = true := by simp; omega
  have HC := hid (HF.out l hl (by omega) w' _ hw HV.out)
  have HP : Hid (∀ b, holds l = b → P.pick holds limit 0 l a = if b then some l else none) := hid fun b hb => by unfold P.pick; rw [hb]
  cases hh : holds l
  all_goals
   have HH := hid hh
   clear hh
   go_enter Tryz.func201, Tryz.ntmps201
   go_wp2_with (refine HC.out.mono ?_; rintro e w2 ⟨rfl, he2⟩; rw [HH.out])
   go_ret2
   refine PickPost.ret he2 (by rw [HP.out _ HH.out]; rfl) (fun out ho => ?_)
   rw [HP.out _ HH.out] at ho
   first
    | cases ho; exact HV.out.ext he2
    | cases ho
 | succ r ih =>
  intro l a w' v hw hv hlen hl ha
  obtain ⟨A, cap, rfl, hr⟩ := hv
  rw [rows1_length] at *
  have e1 : ((l.length : Int) == (many : Int)) = false := by simp; omega
  have IH := hid ih
  have kM := (hM.ext hw).cell
  have kMl := (hM.ext hw).lt
  have HL0 := hid hl
  clear ih hl
  go_enter Tryz.func201, Tryz.ntmps201
  go_wp2
  clear kM
  go_loopw [10] (fun i wr => ∃ d : Nat, d ≤ limit - a ∧ i = .int .i64 ((a + d : Nat) : Int) ∧ Hid (∀ e, e < d → P.pick holds limit r (l ++ [a + e]) (a + e + 1) = none) ∧ Ext w' wr) (fun i _ => limit - (intOf i).toNat)
  case atStart => exact ⟨0, Nat.zero_le _, by go_num, fun _ h => absurd h (by omega), Ext.refl _⟩
  case round =>
   obtain ⟨d, hd, rfl, hp, he⟩ := hrel
   have E := hid (hw.trans he)
   have kL := (hL.ext E.out).cell
   have kLl := (hL.ext E.out).lt
   have kF := (hF.ext E.out).cell
   have kFl := (hF.ext E.out).lt
   by_cases hlt : a + d < limit
   ·obtain ⟨q, hq⟩ : ∃ q, q = a + d := ⟨_, rfl⟩
    rw [← hq] at hlt
    have hqi : ((a + d : Nat) : Int) = (q : Int) := by rw [hq]
    rw [hqi]
    have HQ := hid hq
    have HIq : Hid (∀ w2 vz, Ext w w2 → SlR w2 1 vz (rows1 (l ++ [q])) → Calls Tryz.prog 201 #[vz, .int .i64 ((q : Int) + 1), .pointer (some ⟨bM, 0, none⟩), .pointer (some ⟨bW, 0, none⟩), .pointer (some ⟨bL, 0, none⟩), .pointer (some ⟨bF, 0, none⟩)] w2 (PickPost w2 (P.pick holds limit r (l ++ [q]) (q + 1)))) := hid fun w2 vz h1 h2 => by
     have := IH.out (l ++ [q]) (q + 1) w2 vz h1 h2 (by simp; omega) (fun i hi => by
      rcases List.mem_append.1 hi with h | h
      ·exact HL0.out i h
      ·simp at h; omega) (by omega)
     rwa [Int.natCast_add] at this
    clear hq hqi
    have hw1 : IntKind.i64.wrap ((q : Int) + 1) = (q : Int) + 1 := IntWalk.i64_in _ (by omega)
    go_upto_region 6 with fail
    cases hpk : P.pick holds limit r (l ++ [q]) (q + 1) with
    | none =>
     have HP := hid hpk
     clear hpk
     go_region_held3 (fun wz => Ext wr wz ∧ ∀ b o, (wr.cell? ⟨b, o, none⟩).isSome = true → wz.cell? ⟨b, o, none⟩ = wr.cell? ⟨b, o, none⟩) (exact Ext.sees (by repeat (first | exact Ext.refl _ | assumption | refine Ext.drew ?_ | refine Ext.alloc ?_ _)))
      (first
       | (go_at_call 202; refine (clone202 (hr.ext (he.trans (by repeat (first | exact Ext.refl _ | refine Ext.drew ?_ | refine Ext.alloc ?_ _)))) (by omega)).mono ?_; rintro e w2 ⟨va, rfl, he2, hu2⟩; have hx2 : Ext wr w2 := Ext.trans (by repeat (first | exact Ext.refl _ | refine Ext.drew ?_ | refine Ext.alloc ?_ _)) he2; rw [rowsG1] at hu2; have hu2 := OwnR.base (B' := wr.heap.size) hu2 (by simp))
       | (refine step_append_rows (by rfl) _ _ 56 (by rfl) elem56 (by rfl) (hu2.ext (Ext.alloc (Ext.refl _) _)) _ 1 1 [[(q : Int)]] (by rfl) (by simp) (by simp) (by intro j; simp [cellsOf]) (by rw [rows1_length]; omega) (by have := hx2.size; simp; omega) ?_; intro vb w3 hown3 hg3; have hx3 : Ext wr w3 := Ext.grown (hx2.alloc _) hg3 (fun k hk => hu2.block hk))
       | (refine step_append_rows (by rfl) _ _ 56 (by rfl) elem56 (by rfl) hu2 wr.heap.size 1 1 [[(q : Int)]] (by rfl) (by simp) (by simp) (by have hz := (Ext.newB (Ext.trans (Ext.drew (Ext.refl _)) he2)).2.cell; intro j; simpa [cellsOf] using hz j) (by rw [rows1_length]; omega) (by have := hx2.size; omega) ?_; intro vb w3 hown3 hg3; have hx3 : Ext wr w3 := Ext.grown hx2 hg3 (fun k hk => hu2.block hk))
       | (go_at_call 201; refine (HIq.out _ _ (E.out.trans hx3) (by rw [rows1_append]; exact hown3.slR)).mono ?_; rintro e w4 ⟨he4, vd, rfl, hu4⟩; rw [HP.out]; have hx4 : Ext wr w4 := hx3.trans he4))
     all_goals
      go_wp2
      go_roundw
      case rel => exact ⟨d + 1, by have := HQ.out; omega, by rw [show ((a + (d + 1) : Nat) : Int) = (q : Int) + 1 by have := HQ.out; omega], hid fun e he => by
       rcases Nat.lt_or_eq_of_le (Nat.le_of_lt_succ he) with h | h
       ·exact hp.out e h
       ·rw [h, ← HQ.out]; exact HP.out, by repeat (first | exact he.trans hx4 | refine Ext.drew ?_)⟩
      case measure => simp [intOf]; omega
    | some out =>
     have HP := hid hpk
     clear hpk
     go_region_held3 (fun wz => Ext wr wz ∧ ∀ b o, (wr.cell? ⟨b, o, none⟩).isSome = true → wz.cell? ⟨b, o, none⟩ = wr.cell? ⟨b, o, none⟩) (exact Ext.sees (by repeat (first | exact Ext.refl _ | assumption | refine Ext.drew ?_ | refine Ext.alloc ?_ _)))
      (first
       | (go_at_call 202; refine (clone202 (hr.ext (he.trans (by repeat (first | exact Ext.refl _ | refine Ext.drew ?_ | refine Ext.alloc ?_ _)))) (by omega)).mono ?_; rintro e w2 ⟨va, rfl, he2, hu2⟩; have hx2 : Ext wr w2 := Ext.trans (by repeat (first | exact Ext.refl _ | refine Ext.drew ?_ | refine Ext.alloc ?_ _)) he2; rw [rowsG1] at hu2; have hu2 := OwnR.base (B' := wr.heap.size) hu2 (by simp))
       | (refine step_append_rows (by rfl) _ _ 56 (by rfl) elem56 (by rfl) (hu2.ext (Ext.alloc (Ext.refl _) _)) _ 1 1 [[(q : Int)]] (by rfl) (by simp) (by simp) (by intro j; simp [cellsOf]) (by rw [rows1_length]; omega) (by have := hx2.size; simp; omega) ?_; intro vb w3 hown3 hg3; have hx3 : Ext wr w3 := Ext.grown (hx2.alloc _) hg3 (fun k hk => hu2.block hk))
       | (refine step_append_rows (by rfl) _ _ 56 (by rfl) elem56 (by rfl) hu2 wr.heap.size 1 1 [[(q : Int)]] (by rfl) (by simp) (by simp) (by have hz := (Ext.newB (Ext.trans (Ext.drew (Ext.refl _)) he2)).2.cell; intro j; simpa [cellsOf] using hz j) (by rw [rows1_length]; omega) (by have := hx2.size; omega) ?_; intro vb w3 hown3 hg3; have hx3 : Ext wr w3 := Ext.grown hx2 hg3 (fun k hk => hu2.block hk))
       | (go_at_call 201; refine (HIq.out _ _ (E.out.trans hx3) (by rw [rows1_append]; exact hown3.slR)).mono ?_; rintro e w4 ⟨he4, vd, rfl, hu4⟩; rw [HP.out]; have hx4 : Ext wr w4 := hx3.trans he4))
     all_goals
      go_wp2
      go_ret2
      have HPF : P.pick holds limit (r+1) l a = some out := pick_first (d := d) (by have := HQ.out; omega) hp.out (by rw [← HQ.out]; exact HP.out)
      refine PickPost.ret (by repeat (first | exact he.trans hx4 | refine Ext.drew ?_)) (by rw [HPF]; rfl) (fun o2 ho => ?_)
      rw [HPF] at ho
      cases ho
      exact (hu4 _ HP.out).ext (by repeat (first | exact Ext.refl _ | refine Ext.drew ?_))
   ·go_wp2
    go_ret2
    have HPF : P.pick holds limit (r+1) l a = none := pick_none fun e h => hp.out e (by omega)
    exact PickPost.ret he (by rw [HPF]; rfl) (fun o2 ho => by rw [HPF] at ho; cases ho)
end Go.Proofs.YtkhjmedfhobebaaGreat
