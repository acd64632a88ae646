/- A range over a function with any relation between worlds; a drawn region of a round whose operations make memory. No condition. -/
import Derived.Test.YtbceepjjdfpfmaaGreatBaseC
namespace Go
open Go.RowKit
/-- As wp_range; what a round keeps is any relation that goes on. -/
theorem wp_rangeK {α : Type} {P : Program} {g : Operand} {p : Tmp} {assign body : Code} {Q : Exit → Act → World → Prop} {a : Act} {w : World}
  {gf : Nat} {lb : Array Value} (hg : a.eval g = .func (.func gf) #[] lb) (eg : ∀ args w, (callFunc gf args).run P w = .ok (.enter gf args) w)
  (enc : α → Value) {Kp : World → World → Prop} (hKt : ∀ {A B C : World}, Kp A B → Kp B C → Kp A C)
  (hKb : ∀ (W : World) (l : Nat) (o o' : Obj), w.heap.size ≤ l → W.heap[l]? = some o → o.isCells = false → o.isWalk = false → Kp W (W.putObj l o'))
  {S Sp : List α → Prop} {N : Nat} {w0 : World} (hseq : SeqStopsK Fence.wide 2 P gf lb (fun x => #[enc x]) Kp S Sp N w0)
  (hb0 : Ext w0 w) (I : List α → World → Prop) (hI : OwnFrom w.heap.size I) (h0 : I [] w) (Ax : α → Array Value → Act → World → Prop) (hAx : ∀ x a', OwnFrom w.heap.size (fun (_ : Unit) W => Ax x a.tmps a' W))
  (hassign : ∀ (l : Nat) (pre : List α) (x : α) (W : World) (K : Act → World → Prop), I pre W → (∀ a' W', KeepsFrom w.heap.size W W' → Kp W W' → I pre W' → Ax x a.tmps a' W' → K a' W') →
   assign.wpIn (Fence.wide.inRound l) 1 P (Exit.then K (fun _ _ _ => False)) { tmps := a.tmps.setIfInBounds p (enc x), defers := [] } W)
  (hbody : ∀ (l : Nat) (pre : List α) (x : α) (a' : Act) (W : World), w.heap.size ≤ l → (∃ r, W.heap[l]? = some (.loop r)) → I pre W → Ax x a.tmps a' W → pre.length < N →
   body.wpIn (Fence.wide.inRound l) 1 P (ownPostG w.heap.size Kp I (fun _ _ _ => False) (pre ++ [x]) W) a' W)
  (hdone : ∀ (D : Nat) (xs : List α) (W : World), w.heap.size ≤ D → S xs → I xs W → W.heap[D]? = some (.deferred (some [])) → Q .normal { a with defers := { target := .collected D, args := #[] } :: a.defers } W) :
  (Code.rangeFunc g #[p] assign body).wp P Q a w :=
 wpIn_wide.1 (wpIn_rangeFunc_ownH (F := Fence.wide) (n := 3) rfl (by omega) hg trivial eg hseq hKt hKb hb0 (fun _ => rfl) I (fun _ _ _ => False) hI (fun _ _ _ _ _ h _ _ => h) h0 (fun x a' W => Ax x a.tmps a' W) hAx
  (fun l pre x W K hi hk => by simpa using hassign l pre x W K hi hk) hbody hdone (fun _ _ _ _ _ _ h _ => h.elim))
/-- A round's drawn region: the head once, in the order of the text, each operation with what it leaves; the tail behind it. -/
theorem wpIn_round_mono {P : Program} {m : Nat} {a : Act} {id : Nat} {lid : Nat} {Qr : Exit → Act → World → Prop} {w : World} {lo : List Oper} (n : Nat) (S : List (Nat × MSpec)) (hm : P.follows .mixedOrders = true) (hB : Region.monoB .any lo.toArray n = true) (hp : plainsB lo.toArray S n = true)
  (hd : noDefer lo.toArray = true) (hq : ¬ LetsOut Qr)
  (hS : ∀ p, p ∈ S → ∀ v lo hi w w', Ext w w' → p.2 v lo hi w → p.2 v lo hi w')
  (H : wpM P .any lo.toArray w S (fun a' F => ∀ w', Ext w w' → (∀ p, p ∈ F → p.2 w') → wpList P lo.toArray Qr (lo.drop n) a' w') (lo.take n) 0 a [] []) : (Code.region id lo.toArray true).wpIn (Fence.wide.inRound lid) m P Qr a w := by
 have ok := monoB_ok hB
 have hns : n ≤ lo.length := by simpa using ok.le
 refine wpIn_region_any hm (wpAnyIn_of_wpAny hd hq _ _ _ _ ?_)
 have inv : RInv P .any lo.toArray w S n a (Array.replicate lo.toArray.size false) (fun _ => Pt.off undef) { w with drawn := w.drawn + 1 } := by
  refine ⟨⟨by simp, fun j oj _ hl => ?_, fun t _ ht => getD_in (by simpa using ht) (getD_replicate_false _ _)⟩, (Ext.refl w).drew, fun i _ hl => ?_, fun i j _ _ hl => ?_⟩
  ·rw [getD_replicate_false] at hl; cases hl
  ·rw [getD_replicate_false] at hl; cases hl
  ·rw [getD_replicate_false] at hl; cases hl
 have hc : ((List.range n).countP fun i => !(Array.replicate lo.toArray.size false).getD i false) = n := by
  rw [List.countP_eq_length.2 (fun i _ => by rw [getD_replicate_false]; rfl)]; simp
 have := mono_any (P := P) (md := .any) (ops := lo.toArray) (W := w) (S := S) (n := n) (a := a) (l := lo.take n) (Qr := Qr) ok (fun i hi => by simp [List.getElem?_take_of_lt hi]) (by rw [List.length_take]; omega)
  (fun i o hi ho hs => by
   have h1 := List.all_eq_true.1 hp i (List.mem_range.2 hi)
   simp only [ho, specAt_none hs, Bool.false_or] at h1
   exact h1) (lasts_of hS) (by simpa using H) n _ _ _ inv hc
 have hact : acts lo.toArray a (fun _ => Pt.off undef) (fun i => (Array.replicate lo.toArray.size false).getD i false) n = a := by
  have : ∀ m, acts lo.toArray a (fun _ => Pt.off undef) (fun i => (Array.replicate lo.toArray.size false).getD i false) m = a := by
   intro m
   induction m with
   | zero => rfl
   | succ m ih => unfold acts; rw [if_neg (by rw [getD_replicate_false]; exact Bool.false_ne_true)]; exact ih
  exact this n
 rw [hact] at this
 rw [show n + (lo.toArray.size - n) = lo.toArray.size by simp; omega] at this
 exact this
section
variable {P : Program} {ops : Array Oper} {md : Region.Mode} {C : World → Prop} {T : World → World → Prop}
/-- f operations are still to come; what has been established is E. -/
def AllE (P : Program) (md : Region.Mode) (ops : Array Oper) (C : World → Prop) (T : World → World → Prop) (R : Act → (World → Prop) → Prop) : Nat → Array Bool → Act → (World → Prop) → Prop
 | 0, listed, a, E => Region.ready md ops listed = [] ∧ R a E
 | f + 1, listed, a, E => Region.ready md ops listed ≠ [] ∧ ∀ i, i ∈ Region.ready md ops listed → qE P ops C T i (fun a' E' => AllE P md ops C T R f (listed.setIfInBounds i true) a' E') a E
theorem AllE.toAny {R : Act → (World → Prop) → Prop} {Q : Exit → Act → World → Prop} (hT : ∀ w, T w w) (hR : ∀ a E, R a E → ∀ w, C w → E w → Q .normal a w) (f : Nat) :
  ∀ (listed : Array Bool) (a : Act) (E : World → Prop) (w : World), (∀ w w', T w w' → E w → E w') → C w → E w → AllE P md ops C T R f listed a E → wpAny P md ops Q f listed a w := by
 induction f with
 | zero => intro listed a E w _ hw hE h; exact ⟨h.1, hR _ _ h.2 w hw hE⟩
 | succ f ih =>
  intro listed a E w hs hw hE h
  refine ⟨fun h0 => (h.1 h0).elim, fun i hi => ?_⟩
  obtain ⟨o, v, E', ho, hy, hK⟩ := h.2 i hi
  refine hy.wpOp ho hw hE hs (hT w) fun w' hw' hE' => ih _ _ _ w' ?_ hw' hE' hK
  intro w1 w2 ht h12
  refine ⟨hs _ _ ht h12.1, ?_⟩
  rcases hy with ⟨_, hst, _⟩ | ⟨_, _, hE⟩
  ·exact hst _ _ ht h12.2
  ·exact hE w2
theorem AllE.first {i : Nat} {oi : Oper} {v : Value} {Ei : World → Prop} {R : Act → (World → Prop) → Prop} (hi : ops[i]? = some oi) (hns : Region.noSelect ops = true) (f : Nat) :
  ∀ (listed : Array Bool) (a : Act) (E : World → Prop),
   (∀ j oj, ops[j]? = some oj → j ≠ i → listed.getD j true = false → (∀ e ∈ oj.after, Region.binds md e = true → e.on ≠ i) → oi.apart ops oj = true) →
   i ∈ Region.ready md ops listed → YieldsE P ops C T oi v Ei a →
   AllE P md ops C T R f (listed.setIfInBounds i true) (a.put oi.dst v) (fun w => E w ∧ Ei w) → AllE P md ops C T R (f + 1) listed a E := by
 have sel := Region.noSelect_spec hns
 induction f with
 | zero =>
  intro listed a E _ hr hy H
  refine ⟨fun h0 => by rw [h0] at hr; exact absurd hr (by simp), fun j hj => ?_⟩
  by_cases hji : j = i
  ·subst hji
   exact ⟨oi, v, Ei, hi, hy, H⟩
  ·have := ready_mono hj hji
   rw [H.1] at this
   exact absurd this (by simp)
 | succ f ih =>
  intro listed a E hfree hr hy H
  have hun := (mem_ready.1 hr).1
  refine ⟨fun h0 => by rw [h0] at hr; exact absurd hr (by simp), fun j hj => ?_⟩
  by_cases hji : j = i
  ·subst hji
   exact ⟨oi, v, Ei, hi, hy, H⟩
  ·obtain ⟨hjun, oj, hoj, hall⟩ := mem_ready.1 hj
   have hnot : ∀ e ∈ oj.after, Region.binds md e = true → e.on ≠ i := by
    intro e he hb heq
    have h1 := hall e he hb
    rw [heq, getD_both hun] at h1
    cases h1
   obtain ⟨oj', vj, Ej, hoj', hyj, hK⟩ := H.2 j (ready_mono hj hji)
   obtain rfl : oj' = oj := Option.some.inj (hoj'.symm.trans hoj)
   obtain ⟨h1, h2, h3⟩ := Oper.apart_spec (hfree j oj' hoj hji hjun hnot)
   have hyj' : YieldsE P ops C T oj' vj Ej a := by
    refine hyj.same ?_ ?_
    ·exact (execOp_put oj' (fun cs b => sel j oj' cs b hoj) a oi.dst v h1).symm
    ·exact (wanted_put oj' a oi.dst v h1).symm
   have hyi' : YieldsE P ops C T oi v Ei (a.put oj'.dst vj) := hy.same (execOp_put oi (fun cs b => sel i oi cs b hi) a oj'.dst vj h3) (wanted_put oi a oj'.dst vj h3)
   refine ⟨oj', vj, Ej, hoj, hyj', ih _ _ _ ?_ (ready_mono hr (Ne.symm hji)) hyi' ?_⟩
   ·intro k ok hk hki hunk hno
    refine hfree k ok hk hki ?_ hno
    by_cases hjk : j = k
    ·exact hjk ▸ hjun
    ·rwa [getD_set_ne true hjk] at hunk
   ·rw [Array.setIfInBounds_comm _ _ hji]
    have e1 : (fun w => (E w ∧ Ej w) ∧ Ei w) = fun w => (E w ∧ Ei w) ∧ Ej w := by
     funext w; exact propext ⟨fun ⟨⟨a, b⟩, c⟩ => ⟨⟨a, c⟩, b⟩, fun ⟨⟨a, c⟩, b⟩ => ⟨⟨a, b⟩, c⟩⟩
    rw [e1, ← Act.put_comm a v vj h2]
    exact hK
theorem AllE.lex {R : Act → (World → Prop) → Prop} (hns : Region.noSelect ops = true) : ∀ (l : List Oper) (k : Nat) (listed : Array Bool) (a : Act) (E : World → Prop), (∀ j, l[j]? = ops[k + j]?) →
  Region.lexFrom md ops l.length k listed = true → wpE P ops C T R l a E → AllE P md ops C T R l.length listed a E
 | [], _, _, _, _, _, hB, h => ⟨by simpa [Region.lexFrom] using hB, h⟩
 | o :: l, k, listed, a, E, hl, hB, h => by
  have h0 : ops[k]? = some o := by simpa using (hl 0).symm
  simp only [List.length_cons, Region.lexFrom, Bool.and_eq_true] at hB
  obtain ⟨⟨hr, hf⟩, hB'⟩ := hB
  obtain ⟨v, E', hy, hK⟩ := h
  exact AllE.first h0 hns l.length listed a E (Region.free_spec h0 hf) (by simpa using hr) hy
   (AllE.lex hns l (k + 1) _ _ _ (fun j => by have := hl (j + 1); simpa [Nat.add_assoc, Nat.add_comm 1 j] using this) hB' hK)
/-- **A drawn region whose stores, too, may come up in many orders**: one walk in the order of the text, in every world of a class; what an operation establishes lasts. -/
theorem wp_region_allE {id : Nat} {Q : Exit → Act → World → Prop} {a : Act} {w : World} {l : List Oper} (C : World → Prop) (T : World → World → Prop) (hm : P.follows .mixedOrders = true) (hB : Region.lexB .any l.toArray = true) (hT : ∀ w, T w w) (hC : C { w with drawn := w.drawn + 1 })
  (h : wpE P l.toArray C T (fun a' E => ∀ w', C w' → E w' → Q .normal a' w') l a (fun _ => True)) : (Code.region id l.toArray true).wp P Q a w := by
 simp only [Region.lexB, Bool.and_eq_true] at hB
 refine wp_region_any hm ?_
 have := AllE.lex (md := .any) hB.1 l 0 (Array.replicate l.toArray.size false) a _ (by simp) (by simpa using hB.2) h
 exact AllE.toAny (R := fun a' E => ∀ w', C w' → E w' → Q .normal a' w') (Q := Q) hT (fun a E hR w hw hE => hR w hw hE) _ _ _ _ { w with drawn := w.drawn + 1 } (fun _ _ _ _ => trivial) hC trivial (by simpa using this)
/-- An operation that yields a value and leaves the world alone. -/
theorem wpE_val {R : Act → (World → Prop) → Prop} {o : Oper} {rest : List Oper} {a : Act} {E : World → Prop} (v : Value)
  (hw : Region.wanted o (yielded ops a.tmps) = true) (hT : ∀ w, T w w) (h : ∀ w, C w → (execOp a.eval o).run P w = .ok (.value v) w) (hk : wpE P ops C T R rest (a.put o.dst v) E) : wpE P ops C T R (o :: rest) a E := by
 refine ⟨v, fun _ => True, .inl ⟨hw, fun _ _ _ h => h, fun w hw => ?_⟩, ?_⟩
 ·rw [h w hw]; exact ⟨rfl, hw, hT w, trivial⟩
 ·have : (fun w => E w ∧ True) = E := by funext w; simp
  rw [this]; exact hk
/-- A call. -/
theorem wpE_call {R : Act → (World → Prop) → Prop} {o : Oper} {rest : List Oper} {a : Act} {E : World → Prop} (v : Value) (f : FuncId) (args : Array Value)
  (hw : Region.wanted o (yielded ops a.tmps) = true) (h : ∀ w, C w → (execOp a.eval o).run P w = .ok (.enter f args) w) (hc : ∀ w, C w → Calls P f args w fun e w' => e = .returned v ∧ C w' ∧ T w w') (hk : wpE P ops C T R rest (a.put o.dst v) E) : wpE P ops C T R (o :: rest) a E := by
 refine ⟨v, fun _ => True, .inl ⟨hw, fun _ _ _ h => h, fun w hw => ?_⟩, ?_⟩
 ·rw [h w hw]; exact (hc w hw).mono fun e w' ⟨h1, h2, h3⟩ => ⟨h1, h2, h3, trivial⟩
 ·have : (fun w => E w ∧ True) = E := by funext w; simp
  rw [this]; exact hk
/-- A store. -/
theorem wpE_store {R : Act → (World → Prop) → Prop} {o : Oper} {rest : List Oper} {a : Act} {E : World → Prop} (E' : World → Prop)
  (hw : Region.wanted o (yielded ops a.tmps) = true) (hs : ∀ w w', T w w' → E' w → E' w') (h : ∀ w, C w → ∃ w', (execOp a.eval o).run P w = .ok .skip w' ∧ C w' ∧ T w w' ∧ E' w') (hk : wpE P ops C T R rest (a.put o.dst undef) (fun w => E w ∧ E' w)) : wpE P ops C T R (o :: rest) a E := by
 refine ⟨undef, E', .inl ⟨hw, hs, fun w hw => ?_⟩, hk⟩
 obtain ⟨w', h1, h2, h3, h4⟩ := h w hw
 rw [h1]
 exact ⟨rfl, h2, h3, h4⟩
end
end Go
