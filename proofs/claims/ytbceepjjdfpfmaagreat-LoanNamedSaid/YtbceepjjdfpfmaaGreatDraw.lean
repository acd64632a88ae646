/- A sack of numbers: what its draws leave, and drawn regions walked once over such draws. No condition. Walks of the sack's draws. -/
import Derived.Test.YtbceepjjdfpfmaaGreatCore
import Derived.Test.YtbceepjjdfpfmaaGreatBaseC
import Derived.Test.YtbceepjjdfpfmaaGreatProg
import Derived.RegionTactic
import Derived.Test.YtbceepjjdfpfmaaGreatWords
namespace Go
open Go.RowKit
/-- Where a sack lies, and its bytes. -/
structure SackD where
  blk : Nat
  A : Option Addr
  n : Nat
  cap : Nat
/-- The sack, from which t numbers have been taken. -/
def SackD.at (d : SackD) (W : World) (t : Nat) : Prop := ∃ m : Int, Blk W d.blk 158 #[.slice d.A d.n d.cap, .int .i64 (t : Int), .int .u32 m]
/-- A later world: all that was there is as it was, but for the sack, of which up to k numbers were taken. -/
def Sx (d : SackD) (k : Nat) (W W' : World) : Prop :=
  (W'.os = W.os ∧ W'.tape = W.tape ∧ W'.output = W.output) ∧ W.heap.size ≤ W'.heap.size ∧ (∀ b, b < W.heap.size → b ≠ d.blk → W'.heap[b]? = W.heap[b]?) ∧ ∀ t, d.at W t → ∃ t', t ≤ t' ∧ t' ≤ t + k ∧ d.at W' t'
namespace Sx
variable {d : SackD} {k l : Nat} {w w' w'' : World}
theorem refl (d : SackD) (w : World) : Sx d 0 w w := ⟨⟨rfl, rfl, rfl⟩, Nat.le_refl _, fun _ _ _ => rfl, fun t h => ⟨t, Nat.le_refl _, Nat.le_refl _, h⟩⟩
theorem size (h : Sx d k w w') : w.heap.size ≤ w'.heap.size := h.2.1
theorem mono (h : Sx d k w w') (hk : k ≤ l) : Sx d l w w' := ⟨h.1, h.2.1, h.2.2.1, fun t ht => by
  obtain ⟨t', h1, h2, h3⟩ := h.2.2.2 t ht
  exact ⟨t', h1, by omega, h3⟩⟩
theorem trans (h : Sx d k w w') (j : Sx d l w' w'') : Sx d (k + l) w w'' := by
  refine ⟨⟨j.1.1.trans h.1.1, j.1.2.1.trans h.1.2.1, j.1.2.2.trans h.1.2.2⟩, Nat.le_trans h.size j.size, fun b hb hs => (j.2.2.1 b (Nat.lt_of_lt_of_le hb h.size) hs).trans (h.2.2.1 b hb hs), fun t ht => ?_⟩
  obtain ⟨t1, h1, h2, h3⟩ := h.2.2.2 t ht
  obtain ⟨t2, h4, h5, h6⟩ := j.2.2.2 t1 h3
  exact ⟨t2, by omega, by omega, h6⟩
theorem ofExt (h : Ext w w') : Sx d 0 w w' := ⟨⟨Below.os h, Below.tape h, Below.output h⟩, h.size, fun _ hb _ => h.block hb, fun t ⟨m, h3⟩ => ⟨t, Nat.le_refl _, Nat.le_refl _, m, h3.ext h⟩⟩
theorem drew (h : Sx d k w w') : Sx d k w w'.drew := (h.trans (ofExt (Ext.refl _).drew)).mono (by omega)
theorem block (h : Sx d k w w') {b : Nat} (hb : b < w.heap.size) (hs : b ≠ d.blk) : w'.heap[b]? = w.heap[b]? := h.2.2.1 b hb hs
theorem cell (h : Sx d k w w') {b o : Nat} (hb : b < w.heap.size) (hs : b ≠ d.blk) : w'.cell? ⟨b, o, none⟩ = w.cell? ⟨b, o, none⟩ := by
  unfold World.cell?
  simp only [h.block hb hs]
theorem cell_some (h : Sx d k w w') {b o : Nat} (hv : (w.cell? ⟨b, o, none⟩).isSome = true) (hs : b ≠ d.blk) : w'.cell? ⟨b, o, none⟩ = w.cell? ⟨b, o, none⟩ := by
  cases hc : w.cell? ⟨b, o, none⟩ with
  | none => rw [hc] at hv; cases hv
  | some v => exact (h.cell (World.block_lt_of_cell? w ⟨b, o, none⟩ hc) hs).trans hc
theorem kpm (h : Sx d k w w') : KpM w.heap.size (fun b => b = d.blk) w w' := ⟨h.size, fun _ hb hs => h.block hb hs⟩
/-- Of a base below the sack, the later world is a later one. -/
theorem ext {w0 : World} (h : Sx d k w w') (e : Ext w0 w) (hs : w0.heap.size ≤ d.blk) : Ext w0 w' :=
  ⟨h.1.1.trans (Below.os e), h.1.2.1.trans (Below.tape e), h.1.2.2.trans (Below.output e), Nat.le_trans e.size h.size, fun b hb => (h.block (Nat.lt_of_lt_of_le hb e.size) (by omega)).trans (e.block hb)⟩
end Sx
theorem Blk.sx {d : SackD} {k : Nat} {w w' : World} {g : Nat} {t : TypeId} {C : Array Value} (h : Blk w g t C) (e : Sx d k w w') (hg : g ≠ d.blk) : Blk w' g t C := (e.block h.lt hg).trans h
theorem Rd.sx {d : SackD} {k : Nat} {w w' : World} {A : Option Addr} {n c : Nat} {g : Nat → Nat → Int} (h : Rd w A n c g) (e : Sx d k w w') (hA : ∀ b o, A = some ⟨b, o, none⟩ → b ≠ d.blk) : Rd w' A n c g := fun hn => by
  obtain ⟨b, o, ha, hc⟩ := h hn
  exact ⟨b, o, ha, fun i hi j hj => by
    have := hc i hi j hj
    rw [e.cell (World.block_lt_of_cell? w ⟨b, _, none⟩ this) (hA b o ha)]
    exact this⟩
theorem OwnR.sx {d : SackD} {k : Nat} {w w' : World} {B : Nat} {e : TypeId} {c : Nat} {v : Value} {l : List (List Int)} (h : OwnR w B e c v l) (x : Sx d k w w') (hv : v.ownBlock ≠ some d.blk) : OwnR w' B e c v l := by
  refine ⟨h.1, ?_⟩
  obtain ⟨h1, h2⟩ := h.2
  refine ⟨h1, ?_⟩
  rcases h2 with ⟨h3, h4⟩ | ⟨g, cap, cur, hv', hb, hh, h5⟩
  · exact .inl ⟨h3, h4⟩
  · refine .inr ⟨g, cap, cur, hv', hb, ?_, h5⟩
    have hg : g < w.heap.size := by
      rcases Nat.lt_or_ge g w.heap.size with h' | h'
      · exact h'
      · rw [Array.getElem?_eq_none h'] at hh; cases hh
    exact (x.block hg (fun e => hv (by rw [hv', e]; rfl))).trans hh
/-- A later world of a region. -/
structure LaterS (d : SackD) (w : World) where
  at_ : World
  ok : Sx d 1000 w at_
instance {d : SackD} {w : World} : Nonempty (LaterS d w) := ⟨⟨w, (Sx.refl d w).mono (by omega)⟩⟩
theorem LaterS.cell {d : SackD} {w : World} (n : LaterS d w) {b o : Nat} (h : (w.cell? ⟨b, o, none⟩).isSome = true) (hs : b ≠ d.blk) : n.at_.cell? ⟨b, o, none⟩ = w.cell? ⟨b, o, none⟩ := n.ok.cell_some h hs
attribute [go_sem] LaterS.cell
end Go
namespace Go
section
variable {P : Program} {ops : Array Oper} {md : Region.Mode} {W : World} {d : SackD}
/-- What is asked behind one operation that makes memory. -/
def MQG (d : SackD) (a : Act) (dt : Option Tmp) (s : MSpec) (w : World) : Exit → Act → World → Prop
  | .normal, a', w' => ∃ v lo hi, a' = a.put dt v ∧ Sx d 1 w w' ∧ w.heap.size ≤ lo ∧ lo ≤ hi ∧ hi ≤ w'.heap.size ∧ s v lo hi w'
  | _, _, _ => False
theorem MQG.no_out {a : Act} {dt : Option Tmp} {s : MSpec} {w : World} : ¬ LetsOut (MQG d a dt s w) := fun ⟨_, _, h⟩ => h


def wpMG (d : SackD) (P : Program) (md : Region.Mode) (ops : Array Oper) (W : World) (S : List (Nat × MSpec)) (Q : Act → List (Nat × (World → Prop)) → Prop) : List Oper → Nat → Act → List (Nat × (World → Prop)) → List (Nat × Nat) → Prop
  | [], _, a, F, _ => Q a F
  | o :: rest, k, a, F, D =>
    if Region.wanted o (yielded ops a.tmps) = true then
      (specAt S k = none ∧ o.quiet P a (fun w' => ∃ n : LaterS d W, w' = n.at_) (fun a' => wpMG d P md ops W S Q rest (k + 1) a' F D)) ∨
      ∃ s, specAt S k = some s ∧ (∀ w, Sx d 1000 W w → (∀ p, p ∈ F → reachB md ops ops.size k p.1 = true → p.2 w) → wpList P ops (MQG d a o.dst s w) [o] a w) ∧
        ∀ v lo hi, W.heap.size ≤ lo → lo ≤ hi → (∀ p, p ∈ D → p.2 ≤ lo ∨ hi ≤ p.1) → (∃ w, s v lo hi w) →
          wpMG d P md ops W S Q rest (k + 1) (a.put o.dst v) ((k, fun w => hi ≤ w.heap.size ∧ s v lo hi w) :: F) ((lo, hi) :: D)
    else wpMG d P md ops W S Q rest (k + 1) (a.put o.dst undef) F D

section
variable {S : List (Nat × MSpec)} {Q : Act → List (Nat × (World → Prop)) → Prop} {a : Act} {o : Oper} {rest : List Oper} {k : Nat} {F : List (Nat × (World → Prop))} {D : List (Nat × Nat)}
theorem wpM_nilG (h : Q a F) : wpMG d P md ops W S Q [] k a F D := h
theorem wpM_plainG (hs : specAt S k = none) (h : wpQuiet P ops (fun w' => ∃ n : LaterS d W, w' = n.at_) (fun a' => wpMG d P md ops W S Q rest (k + 1) a' F D) [o] a) : wpMG d P md ops W S Q (o :: rest) k a F D := by
  unfold wpMG
  simp only [wpQuiet] at h
  split
  · next hw => rw [if_pos hw] at h; exact .inl ⟨hs, h⟩
  · next hw => rw [if_neg hw] at h; exact h
theorem wpM_skipG (hw : Region.wanted o (yielded ops a.tmps) = false) (h : wpMG d P md ops W S Q rest (k + 1) (a.put o.dst undef) F D) : wpMG d P md ops W S Q (o :: rest) k a F D := by
  unfold wpMG
  rw [if_neg (by rw [hw]; exact Bool.false_ne_true)]
  exact h
theorem wpM_specG (s : MSpec) (hs : specAt S k = some s) (hw : Region.wanted o (yielded ops a.tmps) = true)
    (h1 : ∀ w, Sx d 1000 W w → (∀ p, p ∈ F → reachB md ops ops.size k p.1 = true → p.2 w) → wpList P ops (MQG d a o.dst s w) [o] a w)
    (h2 : ∀ v lo hi, W.heap.size ≤ lo → lo ≤ hi → (∀ p, p ∈ D → p.2 ≤ lo ∨ hi ≤ p.1) → (∃ w, s v lo hi w) → wpMG d P md ops W S Q rest (k + 1) (a.put o.dst v) ((k, fun w => hi ≤ w.heap.size ∧ s v lo hi w) :: F) ((lo, hi) :: D)) :
    wpMG d P md ops W S Q (o :: rest) k a F D := by
  unfold wpMG
  rw [if_pos hw]
  exact .inr ⟨s, hs, h1, h2⟩
end
def RanG (d : SackD) (P : Program) (ops : Array Oper) (W : World) (S : List (Nat × MSpec)) (A : Act) (x : Pt) (w : World) (i : Nat) : Prop :=
  ∃ o, ops[i]? = some o ∧
    ((Region.wanted o (yielded ops A.tmps) = false ∧ x = Pt.off undef) ∨
     (Region.wanted o (yielded ops A.tmps) = true ∧ specAt S i = none ∧ x = Pt.off x.v ∧ ∃ wi, Sx d 1000 W wi ∧ Yv x.v ((execOp A.eval o).run P wi)) ∨
     (Region.wanted o (yielded ops A.tmps) = true ∧ ∃ s, specAt S i = some s ∧ x.on = true ∧ W.heap.size ≤ x.lo ∧ x.lo ≤ x.hi ∧ x.hi ≤ w.heap.size ∧ s x.v x.lo x.hi w))
structure RInvG (d : SackD) (P : Program) (md : Region.Mode) (ops : Array Oper) (W : World) (S : List (Nat × MSpec)) (n : Nat) (a : Act) (listed : Array Bool) (r : Nat → Pt) (w : World) : Prop where
  head : HeadInv md ops n listed
  ext : Sx d (n - (List.range n).countP fun i => !listed.getD i false) W w
  ran : ∀ i, i < n → listed.getD i false = true → RanG d P ops W S (acts ops a r (fun i => listed.getD i false) n) (r i) w i
  disj : ∀ i j, i < n → j < n → listed.getD i false = true → listed.getD j false = true → (r i).on = true → (r j).on = true → i ≠ j → (r i).hi ≤ (r j).lo ∨ (r j).hi ≤ (r i).lo
theorem MQG.take {o : Oper} {a : Act} {s : MSpec} {w : World} (hw : Region.wanted o (yielded ops a.tmps) = true) (h : wpList P ops (MQG d a o.dst s w) [o] a w) : o.wp P a w (fun a' w' => MQG d a o.dst s w .normal a' w') (MQG d a o.dst s w) := by
  unfold wpList at h
  rw [if_pos hw] at h
  rcases h with h | ⟨_, h⟩
  · exact h
  · exact (MQG.no_out h).elim
theorem MQG.some_ {o : Oper} {a : Act} {s : MSpec} {w : World} (h : o.wp P a w (fun a' w' => MQG d a o.dst s w .normal a' w') (MQG d a o.dst s w)) : ∃ v lo hi w', Sx d 1 w w' ∧ w.heap.size ≤ lo ∧ lo ≤ hi ∧ hi ≤ w'.heap.size ∧ s v lo hi w' := by
  have key : ∀ a' w', MQG d a o.dst s w .normal a' w' → ∃ v lo hi w', Sx d 1 w w' ∧ w.heap.size ≤ lo ∧ lo ≤ hi ∧ hi ≤ w'.heap.size ∧ s v lo hi w' := fun a' w' ⟨v, lo, hi, _, h⟩ => ⟨v, lo, hi, w', h⟩
  unfold Oper.wp at h
  generalize (execOp a.eval o).run P w = r at h
  cases r with
  | halt x w' => cases x <;> exact h.elim
  | ok n w' =>
    cases n <;> simp only [Oper.upon] at h <;> first
      | exact h.elim
      | exact key _ _ h
      | (obtain ⟨e, w2, fr, hR, _⟩ := h []
         cases e with
         | returned v => exact key _ _ hR
         | panicked c => exact hR.elim
         | outgrown => exact (MQG.no_out hR).elim)
      | (obtain ⟨v, w2, hR, _⟩ := h (Frame.enter P 0 #[] .normal) []
         exact key _ _ hR)
theorem MQG.move {o : Oper} {a b : Act} {s : MSpec} {w : World} {K : Act → World → Prop} {Q : Exit → Act → World → Prop} (hs : a.tmps.size = b.tmps.size) (he : execOp a.eval o = execOp b.eval o)
    (h : o.wp P a w (fun a' w' => MQG d a o.dst s w .normal a' w') (MQG d a o.dst s w)) (hK : ∀ v lo hi w', Sx d 1 w w' → w.heap.size ≤ lo → lo ≤ hi → hi ≤ w'.heap.size → s v lo hi w' → K (b.put o.dst v) w') : o.wp P b w K Q := by
  have key : ∀ u w', MQG d a o.dst s w .normal (a.put o.dst u) w' → K (b.put o.dst u) w' := fun u w' ⟨v, lo, hi, hv, h1, h2, h3, h4, h5⟩ => by
    rw [put_same hs hv]; exact hK v lo hi w' h1 h2 h3 h4 h5
  unfold Oper.wp at *
  rw [← he]
  generalize (execOp a.eval o).run P w = r at *
  cases r with
  | halt x w' => cases x <;> exact h.elim
  | ok n w' =>
    cases n <;> simp only [Oper.upon] at h ⊢ <;> first
      | exact h.elim
      | exact key _ _ h
      | (refine Calls.mono h fun e w2 hR => ?_
         cases e with
         | returned v => exact key _ _ hR
         | panicked c => exact hR.elim
         | outgrown => exact (MQG.no_out hR).elim)
      | (refine Rows.mono h fun v w2 hR => key _ _ hR)
      | (obtain ⟨v, lo, hi, hv, _⟩ := h
         have := congrArg (fun x : Act => x.defers.length) hv
         cases hd : o.dst <;> simp [hd, Act.put] at this)

section
variable {S : List (Nat × MSpec)} {n : Nat} {a : Act} {l : List Oper}
/-- What every operation establishes lasts. -/
def LastsG (d : SackD) (S : List (Nat × MSpec)) : Prop := ∀ i s, specAt S i = some s → ∀ v lo hi w w' k, Sx d k w w' → s v lo hi w → s v lo hi w'
theorem completeG {Q : Act → List (Nat × (World → Prop)) → Prop} {listed : Array Bool} {r : Nat → Pt} {w : World} (ok : MonoOk md ops n) (hl : ∀ i, i < n → l[i]? = ops[i]?) (hln : l.length = n)
    (hp : ∀ i o, i < n → ops[i]? = some o → specAt S i = none → plainB o = true) (h1000 : 2 * n ≤ 1000) (hS : LastsG d S) (inv : RInvG d P md ops W S n a listed r w) (H : wpMG d P md ops W S Q l 0 a [] []) :
    ∀ k, k ≤ n → ∃ r' w', Sx d k w w' ∧ (∀ i, i < n → listed.getD i false = true → r' i = r i) ∧
      wpMG d P md ops W S Q (l.drop k) k (acts ops a r' (fun _ => true) k) (Fs S r' k) (Ds r' k) ∧
      (∀ i, i < k → (r' i).on = true → (listed.getD i false = true ∨ w.heap.size ≤ (r' i).lo) ∧ (r' i).hi ≤ w'.heap.size ∧ ∀ s, specAt S i = some s → s (r' i).v (r' i).lo (r' i).hi w')
  | 0, _ => ⟨r, w, Sx.refl _ _, fun _ _ _ => rfl, H, fun i hi => absurd hi (by omega)⟩
  | k + 1, hk => by
    obtain ⟨r', w', he, hr, hH, hG⟩ := completeG ok hl hln hp h1000 hS inv H k (by omega)
    have hkn : k < n := by omega
    obtain ⟨o, ho⟩ : ∃ o, ops[k]? = some o := ⟨_, Array.getElem?_eq_getElem (by have := ok.le; omega)⟩
    have hlo : l[k]? = some o := (hl k hkn).trans ho
    have hdrop : l.drop k = o :: l.drop (k + 1) := by
      rw [List.drop_eq_getElem_cons (by omega)]
      congr 1
      rw [List.getElem?_eq_getElem (by omega)] at hlo
      exact Option.some.inj hlo
    have hdst : dstOf ops k = o.dst := by simp [dstOf, ho]
    rw [hdrop] at hH
    have hag : listed.getD k false = true → Agree (o.looksAt ops) (acts ops a r' (fun _ => true) k) (acts ops a r (fun i => listed.getD i false) n) := fun hlk =>
      agree_walk ok hkn ho (fun i hw => closed_waits inv.head hlk hw) hr
    have key : ∃ x w'', (listed.getD k false = true → x = r k) ∧ Sx d 1 w' w'' ∧
        wpMG d P md ops W S Q (l.drop (k + 1)) (k + 1) ((acts ops a r' (fun _ => true) k).put o.dst x.v) (factOf S (updPt r' k x) k ++ Fs S r' k) ((if x.on = true then [(x.lo, x.hi)] else []) ++ Ds r' k) ∧
        (x.on = true → (listed.getD k false = true ∨ w.heap.size ≤ x.lo) ∧ x.hi ≤ w''.heap.size ∧ ∀ s, specAt S k = some s → s x.v x.lo x.hi w'') := by
      unfold wpMG at hH
      split at hH
      · next hw =>
        rcases hH with ⟨hs, v, hv, hK⟩ | ⟨s, hs, h1, h2⟩
        · by_cases hlk : listed.getD k false = true
          · obtain ⟨o', ho', hR⟩ := inv.ran k hkn hlk
            obtain rfl : o' = o := Option.some.inj (ho'.symm.trans ho)
            have hA := hag hlk
            have hwA := hA.wanted
            rw [hw] at hwA
            rcases hR with ⟨h1, _⟩ | ⟨_, _, hx, wi, hwi, hy⟩ | ⟨_, s, hs', _⟩
            · rw [h1] at hwA; cases hwA
            · have h3 := (quiet_yv (hp k _ hkn ho hs) (hv wi ⟨⟨wi, hwi⟩, rfl⟩)).1
              rw [hA.exec (fun cs b => ok.sel k _ cs b ho)] at h3
              have hvv := hy.eq h3
              refine ⟨r k, w', fun _ => rfl, (Sx.refl _ _).mono (by omega), ?_, fun hon => ?_⟩
              · have hoff : (r k).on = false := by rw [hx]; rfl
                rw [factOf_off hoff, hoff, hvv]
                exact hK
              · rw [hx] at hon; cases hon
            · rw [hs] at hs'; cases hs'
          · refine ⟨Pt.off v, w', fun h => absurd h hlk, (Sx.refl _ _).mono (by omega), ?_, fun hon => by cases hon⟩
            rw [factOf_off rfl]
            exact hK
        · by_cases hlk : listed.getD k false = true
          · obtain ⟨o', ho', hR⟩ := inv.ran k hkn hlk
            obtain rfl : o' = o := Option.some.inj (ho'.symm.trans ho)
            have hwA := (hag hlk).wanted
            rw [hw] at hwA
            rcases hR with ⟨h3, _⟩ | ⟨_, hs', _⟩ | ⟨_, s', hs', hon, g1, g2, g3, g4⟩
            · rw [h3] at hwA; cases hwA
            · rw [hs] at hs'; cases hs'
            · obtain rfl : s = s' := Option.some.inj (hs.symm.trans hs')
              refine ⟨r k, w', fun _ => rfl, (Sx.refl _ _).mono (by omega), ?_, fun _ => ⟨.inl hlk, Nat.le_trans g3 he.size, fun s' hs' => ?_⟩⟩
              · rw [factOf_on hon hs, if_pos hon]
                refine h2 _ _ _ g1 g2 (fun p hp' => ?_) ⟨w, g4⟩
                obtain ⟨i, hik, hio, rfl⟩ := mem_Ds k hp'
                rcases (hG i hik hio).1 with h5 | h5
                · have h6 := hr i (by omega) h5
                  rw [h6] at hio ⊢
                  exact inv.disj i k (by omega) hkn h5 hlk hio hon (by omega)
                · exact .inr (Nat.le_trans g3 h5)
              · obtain rfl : s = s' := Option.some.inj (hs.symm.trans hs')
                exact hS k s hs _ _ _ _ _ _ he g4
          · obtain ⟨v, lo, hi, w'', e1, e2, e3, e4, e5⟩ := MQG.some_ (MQG.take hw (h1 w' ((inv.ext.trans he).mono (by omega)) fun p hp' _ => by
              obtain ⟨i, s', hik, hio, hs', rfl⟩ := mem_Fs k hp'
              have := hG i hik hio
              exact ⟨this.2.1, this.2.2 s' hs'⟩))
            refine ⟨⟨v, lo, hi, true⟩, w'', fun h => absurd h hlk, e1, ?_, fun _ => ⟨.inr (Nat.le_trans he.size e2), e4, fun s' hs' => ?_⟩⟩
            · rw [factOf_on rfl hs, if_pos rfl]
              refine h2 v lo hi (Nat.le_trans (inv.ext.trans he).size e2) e3 (fun p hp' => ?_) ⟨w'', e5⟩
              obtain ⟨i, hik, hio, rfl⟩ := mem_Ds k hp'
              exact .inl (Nat.le_trans (hG i hik hio).2.1 e2)
            · obtain rfl : s = s' := Option.some.inj (hs.symm.trans hs')
              exact e5
      · next hw =>
        refine ⟨Pt.off undef, w', fun hlk => ?_, (Sx.refl _ _).mono (by omega), ?_, fun hon => by cases hon⟩
        · obtain ⟨o', ho', hR⟩ := inv.ran k hkn hlk
          obtain rfl : o' = o := Option.some.inj (ho'.symm.trans ho)
          have hwA := (hag hlk).wanted
          rcases hR with ⟨_, h3⟩ | ⟨h3, _⟩ | ⟨h3, _⟩
          · exact h3.symm
          · rw [h3] at hwA; exact absurd hwA hw
          · rw [h3] at hwA; exact absurd hwA hw
        · rw [factOf_off rfl]
          exact hH
    obtain ⟨x, w'', hx, he', hH', hG'⟩ := key
    refine ⟨updPt r' k x, w'', he.trans he', ?_, ?_, ?_⟩
    · intro i hi hli
      by_cases e : i = k
      · subst e; rw [updPt_same, hx hli]
      · rw [updPt_ne _ _ e]; exact hr i hi hli
    · have e1 : acts ops a (updPt r' k x) (fun _ => true) (k + 1) = (acts ops a r' (fun _ => true) k).put o.dst x.v := by
        rw [acts, if_pos rfl, updPt_same, hdst]
        rw [acts_congr (r' := r') (L' := fun _ => true) k fun i hi => ⟨rfl, fun _ => by rw [updPt_ne _ _ (by omega)]⟩]
      have e2 : Fs S (updPt r' k x) (k + 1) = factOf S (updPt r' k x) k ++ Fs S r' k := by
        rw [Fs, Fs_congr (r' := r') k fun i hi => updPt_ne _ _ (by omega)]
      have e3 : Ds (updPt r' k x) (k + 1) = (if x.on = true then [(x.lo, x.hi)] else []) ++ Ds r' k := by
        rw [Ds, Ds_congr (r' := r') k fun i hi => updPt_ne _ _ (by omega), updPt_same]
      rw [e1, e2, e3]
      exact hH'
    · intro i hi hon
      by_cases e : i = k
      · subst e
        rw [updPt_same] at hon ⊢
        exact hG' hon
      · rw [updPt_ne _ _ e] at hon ⊢
        obtain ⟨g1, g2, g3⟩ := hG i (by omega) hon
        exact ⟨g1, Nat.le_trans g2 he'.size, fun s hs => hS i s hs _ _ _ _ _ _ he' (g3 s hs)⟩
/-- The state behind one operation more. -/
theorem RInvG.add {listed : Array Bool} {r : Nat → Pt} {w w'' : World} {j : Nat} {oj : Oper} {x : Pt} (ok : MonoOk md ops n) (_h1000 : 2 * n ≤ 1000) (hS : LastsG d S) (inv : RInvG d P md ops W S n a listed r w) (hj : j < n) (ho : ops[j]? = some oj)
    (hr : j ∈ Region.ready md ops listed) (he : Sx d 1 w w'')
    (hx : RanG d P ops W S (acts ops a r (fun i => listed.getD i false) n) x w'' j) (hlo : x.on = true → w.heap.size ≤ x.lo) :
    RInvG d P md ops W S n a (listed.setIfInBounds j true) (updPt r j x) w'' ∧ acts ops a (updPt r j x) (fun i => (listed.setIfInBounds j true).getD i false) n = (acts ops a r (fun i => listed.getD i false) n).put oj.dst x.v := by
  have hun := (mem_ready.1 hr).1
  have hjs : j < listed.size := by rw [inv.head.size]; have := ok.le; omega
  have hjf : listed.getD j false = false := getD_both hun
  have hdst : dstOf ops j = oj.dst := by simp [dstOf, ho]
  have hact : acts ops a (updPt r j x) (fun i => (listed.setIfInBounds j true).getD i false) n = (acts ops a r (fun i => listed.getD i false) n).put oj.dst x.v := by
    have := acts_add (ops := ops) (a := a) (r := r) (x := x) (L := fun i => listed.getD i false) (L' := fun i => (listed.setIfInBounds j true).getD i false) (n := n) (j := j)
      (fun i d hi hij hd => fun hd' => ok.dist j i d hj hi (Ne.symm hij) hd hd') hj hjf (by simp [hjs]) (fun i hij => getD_set_ne false (Ne.symm hij)) n (Nat.le_refl _)
    rw [this, if_pos hj, hdst]
  have keep : ∀ i oi, i < n → ops[i]? = some oi → (i = j ∨ listed.getD i false = true) → Agree (oi.looksAt ops) ((acts ops a r (fun i => listed.getD i false) n).put oj.dst x.v) (acts ops a r (fun i => listed.getD i false) n) := by
    intro i oi hi hoi hij
    refine Agree.left ⟨rfl, fun _ _ => rfl⟩ (fun t ht hm => ?_) _
    have hw := ok.looks i oi j t hi hj hoi (by rw [hdst]; exact ht) hm
    rcases hij with rfl | hij
    · exact absurd (ok.waits hi hw) (Nat.lt_irrefl _)
    · have := closed_waits inv.head hij hw
      rw [hjf] at this; cases this
  refine ⟨⟨inv.head.set hr hj, (inv.ext.trans he).mono ?_, ?_, ?_⟩, hact⟩
  · have hcount := count_set hjs hjf n
    rw [if_pos hj] at hcount
    have hle : ((List.range n).countP fun i => !listed.getD i false) ≤ n := by simpa using List.countP_le_length (p := fun i => !listed.getD i false) (l := List.range n)
    omega
  · intro i hi hli
    rw [hact]
    by_cases hij : i = j
    · subst hij
      rw [updPt_same]
      obtain ⟨o, ho', h⟩ := hx
      obtain rfl : o = oj := Option.some.inj (ho'.symm.trans ho)
      have hA := keep i o hi ho (.inl rfl)
      refine ⟨o, ho, ?_⟩
      rw [hA.wanted, hA.exec (fun cs b => ok.sel i _ cs b ho)]
      exact h
    · rw [getD_set_ne false (Ne.symm hij)] at hli
      rw [updPt_ne _ _ hij]
      obtain ⟨o, ho', h⟩ := inv.ran i hi hli
      have hA := keep i o hi ho' (.inr hli)
      refine ⟨o, ho', ?_⟩
      rw [hA.wanted, hA.exec (fun cs b => ok.sel i _ cs b ho')]
      rcases h with h | h | ⟨h1, s, h2, h3, h4, h5, h6, h7⟩
      · exact .inl h
      · exact .inr (.inl h)
      · exact .inr (.inr ⟨h1, s, h2, h3, h4, h5, Nat.le_trans h6 he.size, hS i s h2 _ _ _ _ _ _ he h7⟩)
  · have hhi : ∀ i, i < n → listed.getD i false = true → (r i).on = true → (r i).hi ≤ w.heap.size := by
      intro i hi hli hon
      obtain ⟨o, _, h⟩ := inv.ran i hi hli
      rcases h with ⟨_, h⟩ | ⟨_, _, h, _⟩ | ⟨_, s, _, _, _, _, h, _⟩
      · rw [h] at hon; cases hon
      · rw [h] at hon; cases hon
      · exact h
    intro i k hi hk hli hlk hoi hok hik
    by_cases hij : i = j
    · subst hij
      rw [updPt_same] at hoi ⊢
      rw [updPt_ne _ _ (Ne.symm hik)] at hok ⊢
      rw [getD_set_ne false hik] at hlk
      exact .inr (Nat.le_trans (hhi k hk hlk hok) (hlo hoi))
    · rw [updPt_ne _ _ hij] at hoi ⊢
      rw [getD_set_ne false (Ne.symm hij)] at hli
      by_cases hkj : k = j
      · subst hkj
        rw [updPt_same] at hok ⊢
        exact .inl (Nat.le_trans (hhi i hi hli hoi) (hlo hok))
      · rw [updPt_ne _ _ hkj] at hok ⊢
        rw [getD_set_ne false (Ne.symm hkj)] at hlk
        exact inv.disj i k hi hk hli hlk hoi hok hik
theorem mono_anyG {Qr : Exit → Act → World → Prop} (ok : MonoOk md ops n) (hl : ∀ i, i < n → l[i]? = ops[i]?) (hln : l.length = n)
    (hp : ∀ i o, i < n → ops[i]? = some o → specAt S i = none → plainB o = true) (h1000 : 2 * n ≤ 1000) (hS : LastsG d S)
    (H : wpMG d P md ops W S (fun a' F => ∀ w', Sx d 1000 W w' → (∀ p, p ∈ F → p.2 w') → wpList P ops Qr (ops.toList.drop n) a' w') l 0 a [] []) (f : Nat) :
    ∀ (listed : Array Bool) (r : Nat → Pt) (w : World), RInvG d P md ops W S n a listed r w → ((List.range n).countP fun i => !listed.getD i false) = f → wpAny P md ops Qr (f + (ops.size - n)) listed (acts ops a r (fun i => listed.getD i false) n) w := by
  induction f with
  | zero =>
    intro listed r w inv hf
    have hall : ∀ i, i < n → listed.getD i false = true := by
      intro i hi
      have := List.countP_eq_zero.1 hf i (List.mem_range.2 hi)
      simpa using this
    obtain ⟨r', w', he, hr, hH, hG⟩ := completeG ok hl hln hp h1000 hS inv H n (Nat.le_refl _)
    rw [show l.drop n = [] from List.drop_eq_nil_of_le (by omega)] at hH
    have hact : acts ops a r' (fun _ => true) n = acts ops a r (fun i => listed.getD i false) n := acts_congr n fun i hi => ⟨(hall i hi).symm, fun _ => by rw [hr i hi (hall i hi)]⟩
    rw [hact] at hH
    have hH' := hH w (inv.ext.mono (by omega)) fun p hp' => by
      obtain ⟨i, s, hi, hon, hs, rfl⟩ := mem_Fs n hp'
      rw [hr i hi (hall i hi)] at hon ⊢
      obtain ⟨o, _, h⟩ := inv.ran i hi (hall i hi)
      rcases h with ⟨_, h⟩ | ⟨_, _, h, _⟩ | ⟨_, s', h2, _, _, _, h6, h7⟩
      · rw [h] at hon; cases hon
      · rw [h] at hon; cases hon
      · obtain rfl : s = s' := Option.some.inj (hs.symm.trans h2)
        exact ⟨h6, h7⟩
    have hdl : (ops.toList.drop n).length = ops.size - n := by simp
    have := wpAny_of_seq (md := md) (Q' := Qr) (ops.toList.drop n) n listed _ w (fun j => by simp [List.getElem?_drop]) (by rw [hdl, listed_done inv.head hall]; exact ok.seq) hH'
    rw [hdl] at this
    rwa [Nat.zero_add]
  | succ f ih =>
    intro listed r w inv hf
    rw [show f + 1 + (ops.size - n) = (f + (ops.size - n)) + 1 by omega]
    -- one that has not come up
    obtain ⟨i0, hi0, hu0⟩ : ∃ i, i < n ∧ listed.getD i false = false := by
      have : 0 < (List.range n).countP fun i => !listed.getD i false := by omega
      obtain ⟨i, hi, hu⟩ := List.countP_pos_iff.1 this
      exact ⟨i, List.mem_range.1 hi, by simpa using hu⟩
    have hlow : ∀ j, j ∈ Region.ready md ops listed → j < n := by
      intro j hj
      rcases Nat.lt_or_ge j n with h | h
      · exact h
      · obtain ⟨_, oj, hoj, _⟩ := mem_ready.1 hj
        have hjs : j < ops.size := (Array.getElem?_eq_some_iff.1 hoj).1
        have ht := ok.tail (by omega)
        exact absurd hj (tail_waits ht.1 ht.2 (by omega) inv.head _ i0 rfl hi0 (getD_in (by rw [inv.head.size]; omega) hu0) j h)
    have hne : Region.ready md ops listed ≠ [] := by
      have hex : ∀ d i, i < n → i < d → listed.getD i false = false → ∃ j, j ∈ Region.ready md ops listed := by
        intro d
        induction d with
        | zero => intro i _ hi; omega
        | succ d ihd =>
          intro i hin hid hu
          obtain ⟨oi, hoi⟩ : ∃ o, ops[i]? = some o := ⟨_, Array.getElem?_eq_getElem (by have := ok.le; omega)⟩
          by_cases hall : ∀ e, e ∈ oi.after → Region.binds md e = true → listed.getD e.on false = true
          · exact ⟨i, mem_ready.2 ⟨getD_in (by rw [inv.head.size]; have := ok.le; omega) hu, oi, hoi, hall⟩⟩
          · simp only [Classical.not_forall] at hall
            obtain ⟨e, he, hb, hu'⟩ := hall
            have hlt := ok.back i oi hin hoi e he hb
            exact ihd e.on (by omega) (by omega) (by simpa using hu')
      obtain ⟨j, hj⟩ := hex (i0 + 1) i0 hi0 (by omega) hu0
      exact List.ne_nil_of_mem hj
    refine ⟨fun h0 => absurd h0 hne, fun j hj => ?_⟩
    have hjn := hlow j hj
    have hjs : j < listed.size := by rw [inv.head.size]; have := ok.le; omega
    have hjf : listed.getD j false = false := getD_both (mem_ready.1 hj).1
    obtain ⟨oj, hoj⟩ : ∃ o, ops[j]? = some o := ⟨_, Array.getElem?_eq_getElem (by have := ok.le; omega)⟩
    obtain ⟨r', w', he, hr, hH, hG⟩ := completeG ok hl hln hp h1000 hS inv H j (by omega)
    have hlo' : l[j]? = some oj := (hl j hjn).trans hoj
    have hdrop : l.drop j = oj :: l.drop (j + 1) := by
      rw [List.drop_eq_getElem_cons (by omega)]
      congr 1
      rw [List.getElem?_eq_getElem (by omega)] at hlo'
      exact Option.some.inj hlo'
    rw [hdrop] at hH
    have hA : Agree (oj.looksAt ops) (acts ops a r' (fun _ => true) j) (acts ops a r (fun i => listed.getD i false) n) := agree_walk ok hjn hoj (fun i hw => ready_waits hj hw) hr
    have hex := hA.exec (fun cs b => ok.sel j _ cs b hoj)
    have hwa := hA.wanted
    have hcount := count_set hjs hjf n
    rw [if_pos hjn, hf] at hcount
    have next : ∀ (x : Pt) (w'' : World), Sx d 1 w w'' → RanG d P ops W S (acts ops a r (fun i => listed.getD i false) n) x w'' j → (x.on = true → w.heap.size ≤ x.lo) →
        wpAny P md ops Qr (f + (ops.size - n)) (listed.setIfInBounds j true) ((acts ops a r (fun i => listed.getD i false) n).put oj.dst x.v) w'' := by
      intro x w'' hxe hx hxl
      obtain ⟨inv', hact⟩ := inv.add ok h1000 hS hjn hoj hj hxe hx hxl
      rw [← hact]
      exact ih _ _ _ inv' (by omega)
    unfold wpOp
    simp only [hoj]
    unfold wpMG at hH
    split at hH
    · next hw =>
      have hw' : Region.wanted oj (yielded ops (acts ops a r (fun i => listed.getD i false) n).tmps) = true := by rw [← hwa]; exact hw
      rw [if_pos hw']
      refine .inl ?_
      rcases hH with ⟨hs, v, hv, hK⟩ | ⟨s, hs, h1, h2⟩
      · obtain ⟨hy, hrun⟩ := quiet_yv (hp j _ hjn hoj hs) (hv w ⟨⟨w, inv.ext.mono (by omega)⟩, rfl⟩)
        rw [hex] at hy hrun
        have hn := next (Pt.off v) w (((Sx.refl _ _).mono (by omega))) ⟨oj, hoj, .inr (.inl ⟨hw', hs, rfl, w, inv.ext.mono (by omega), hy⟩)⟩ (fun h => by cases h)
        unfold Oper.wp
        rcases hrun with hrun | ⟨hrun, hv0⟩
        · rw [hrun]; exact hn
        · rw [hrun]
          have hn' : wpAny P md ops Qr (f + (ops.size - n)) (listed.setIfInBounds j true) ((acts ops a r (fun i => listed.getD i false) n).put oj.dst v) w := hn
          rw [hv0] at hn'
          exact hn'
      · have hwp := MQG.take hw (h1 w (inv.ext.mono (by omega)) fun p hp' hre => by
          obtain ⟨i, s', hij, hio, hs', rfl⟩ := mem_Fs j hp'
          have hli := ready_reach inv.head ops.size (fun k hk => ready_waits hj hk) hre
          have h6 := hr i (by omega) hli
          rw [h6] at hio ⊢
          obtain ⟨o, _, h⟩ := inv.ran i (by omega) hli
          rcases h with ⟨_, h⟩ | ⟨_, _, h, _⟩ | ⟨_, s2, hs2, _, _, _, h6, h7⟩
          · rw [h] at hio; cases hio
          · rw [h] at hio; cases hio
          · obtain rfl : s' = s2 := Option.some.inj (hs'.symm.trans hs2)
            exact ⟨h6, h7⟩)
        refine MQG.move hA.1 hex hwp fun v lo hi w'' e1 e2 e3 e4 e5 => ?_
        exact next ⟨v, lo, hi, true⟩ w'' e1 ⟨oj, hoj, .inr (.inr ⟨hw', s, hs, rfl, Nat.le_trans inv.ext.size e2, e3, e4, e5⟩)⟩ (fun _ => e2)
    · next hw =>
      have hw' : Region.wanted oj (yielded ops (acts ops a r (fun i => listed.getD i false) n).tmps) = false := by rw [← hwa]; simpa using hw
      rw [if_neg (by rw [hw']; exact Bool.false_ne_true)]
      exact next (Pt.off undef) w ((Sx.refl _ _).mono (by omega)) ⟨oj, hoj, .inl ⟨hw', rfl⟩⟩ (fun h => by cases h)
theorem lasts_ofG (h : ∀ p, p ∈ S → ∀ v lo hi w w' k, Sx d k w w' → p.2 v lo hi w → p.2 v lo hi w') : LastsG d S := by
  intro i s hs
  unfold specAt at hs
  rw [Option.map_eq_some_iff] at hs
  obtain ⟨p, hp, rfl⟩ := hs
  exact h p (List.mem_of_find?_eq_some hp)
/-- **The head once, in the order of the text; the tail once, behind it.** -/
theorem wp_region_monoG {id : Nat} {Qr : Exit → Act → World → Prop} {w : World} {lo : List Oper} (n : Nat) (S : List (Nat × MSpec)) (hm : P.follows .mixedOrders = true) (hB : Region.monoB .any lo.toArray n = true) (hp : plainsB lo.toArray S n = true) (h1000 : decide (2 * n ≤ 1000) = true)
    (hS : ∀ p, p ∈ S → ∀ v lo hi w w' k, Sx d k w w' → p.2 v lo hi w → p.2 v lo hi w')
    (H : wpMG d P .any lo.toArray w S (fun a' F => ∀ w', Sx d 1000 w w' → (∀ p, p ∈ F → p.2 w') → wpList P lo.toArray Qr (lo.drop n) a' w') (lo.take n) 0 a [] []) : (Code.region id lo.toArray true).wp P Qr a w := by
  have ok := monoB_ok hB
  have hns : n ≤ lo.length := by simpa using ok.le
  refine wp_region_any hm ?_
  have inv : RInvG d P .any lo.toArray w S n a (Array.replicate lo.toArray.size false) (fun _ => Pt.off undef) { w with drawn := w.drawn + 1 } := by
    refine ⟨⟨by simp, fun j oj _ hl => ?_, fun t _ ht => getD_in (by simpa using ht) (getD_replicate_false _ _)⟩, (Sx.refl d w).drew.mono (by omega), fun i _ hl => ?_, fun i j _ _ hl => ?_⟩
    · rw [getD_replicate_false] at hl; cases hl
    · rw [getD_replicate_false] at hl; cases hl
    · rw [getD_replicate_false] at hl; cases hl
  have hc : ((List.range n).countP fun i => !(Array.replicate lo.toArray.size false).getD i false) = n := by
    rw [List.countP_eq_length.2 (fun i _ => by rw [getD_replicate_false]; rfl)]; simp
  have := mono_anyG (P := P) (md := .any) (ops := lo.toArray) (W := w) (S := S) (n := n) (a := a) (l := lo.take n) (Qr := Qr) ok (fun i hi => by simp [List.getElem?_take_of_lt hi]) (by rw [List.length_take]; omega)
    (fun i o hi ho hs => by
      have h1 := List.all_eq_true.1 hp i (List.mem_range.2 hi)
      simp only [ho, specAt_none hs, Bool.false_or] at h1
      exact h1) (of_decide_eq_true h1000) (lasts_ofG hS) (by simpa using H) n _ _ _ inv hc
  have hact : acts lo.toArray a (fun _ => Pt.off undef) (fun i => (Array.replicate lo.toArray.size false).getD i false) n = a := by
    have : ∀ m, acts lo.toArray a (fun _ => Pt.off undef) (fun i => (Array.replicate lo.toArray.size false).getD i false) m = a := by
      intro m
      induction m with
      | zero => rfl
      | succ m ih => unfold acts; rw [if_neg (by rw [getD_replicate_false]; exact Bool.false_ne_true)]; exact ih
    exact this n
  rw [hact] at this
  rw [show n + (lo.toArray.size - n) = lo.toArray.size by simp; omega] at this
  exact this
end
end
end Go
namespace Go.Proofs.YtbceepjjdfpfmaaGreat
open Go.RowKit
set_option maxHeartbeats 1600000
set_option maxRecDepth 100000
/-- The sack's bytes can be read. -/
def Bytes (w : World) (d : SackD) : Prop := 0 < d.n → ∃ b o, d.A = some ⟨b, o, none⟩ ∧ b ≠ d.blk ∧ ∀ k, k < d.n → ∃ c : Int, w.cell? ⟨b, o + k, none⟩ = some (.int .u8 c)
theorem Bytes.sx {d : SackD} {k : Nat} {w w' : World} (h : Bytes w d) (e : Sx d k w w') : Bytes w' d := fun h0 => by
  obtain ⟨b, o, h1, h2, h3⟩ := h h0
  refine ⟨b, o, h1, h2, fun k hk => ?_⟩
  obtain ⟨c, hc⟩ := h3 k hk
  exact ⟨c, by rw [e.cell_some (by rw [hc]; rfl) h2]; exact hc⟩
theorem low16 (x : Int) : ∃ v : Nat, bits .and .u32 x 65535 = (v : Int) ∧ v < 65536 := by
  refine ⟨(BitVec.ofInt 32 x &&& BitVec.ofInt 32 65535).toNat, ?_, ?_⟩
  · have h : (BitVec.ofInt 32 x &&& BitVec.ofInt 32 65535).toNat < 65536 := by
      rw [BitVec.toNat_and]
      exact Nat.lt_of_le_of_lt Nat.and_le_right (by decide)
    show IntKind.u32.wrap _ = _
    rw [IntKind.wrap_u32]
    show ((BitVec.ofInt 32 x &&& BitVec.ofInt 32 65535).toNat : Int) % 4294967296 = _
    omega
  · rw [BitVec.toNat_and]
    exact Nat.lt_of_le_of_lt Nat.and_le_right (by decide)
/-- Of the sack alone something was written. -/
def Only (s : Nat) (w w' : World) : Prop := (w'.os = w.os ∧ w'.tape = w.tape ∧ w'.output = w.output) ∧ w.heap.size ≤ w'.heap.size ∧ ∀ b, b < w.heap.size → b ≠ s → w'.heap[b]? = w.heap[b]?
theorem Only.refl (s : Nat) (w : World) : Only s w w := ⟨⟨rfl, rfl, rfl⟩, Nat.le_refl _, fun _ _ _ => rfl⟩
theorem Only.ext {s : Nat} {w w' w'' : World} (h : Only s w w') (e : Ext w' w'') : Only s w w'' :=
  ⟨⟨(Below.os e).trans h.1.1, (Below.tape e).trans h.1.2.1, (Below.output e).trans h.1.2.2⟩, Nat.le_trans h.2.1 e.size, fun b hb hs => (e.block (Nat.lt_of_lt_of_le hb h.2.1)).trans (h.2.2 b hb hs)⟩
theorem Only.set_ {s : Nat} {w w' : World} (h : Only s w w') (i : Nat) (u : Value) : Only s w (w'.setCell ⟨s, i, none⟩ u) :=
  ⟨⟨h.1.1, h.1.2.1, h.1.2.2⟩, by simpa using h.2.1, fun b hb hs => (Below.heap_setCell w' ⟨s, i, none⟩ u b hs).trans (h.2.2 b hb hs)⟩
theorem sx_of {s n cap t : Nat} {A : Option Addr} {w w' : World} {m m' : Int} (ho : Only s w w') (hk : Blk w s 158 #[.slice A n cap, .int .i64 (t : Int), .int .u32 m]) (hk' : Blk w' s 158 #[.slice A n cap, .int .i64 ((t + 1 : Nat) : Int), .int .u32 m']) : Sx ⟨s, A, n, cap⟩ 1 w w' := by
  refine ⟨ho.1, ho.2.1, ho.2.2, fun t0 ⟨m0, h0⟩ => ⟨t + 1, ?_, ?_, m', hk'⟩⟩
  all_goals
    unfold Blk at hk h0
    dsimp only at h0
    rw [hk] at h0
    simp at h0
    omega
theorem low16w (x : Int) : ∃ v : Nat, wrap64 (bits .and .u32 x 65535) = (v : Int) ∧ v < 65536 := by
  obtain ⟨v, hv, hlt⟩ := low16 x
  exact ⟨v, by rw [hv]; unfold wrap64; omega, hlt⟩
theorem handful150 {d : SackD} {w : World} {t : Nat} (hs : d.at w t) (hb : Bytes w d) (ht : t ≤ 1000000) :
    Calls Tryz.prog 150 #[.pointer (some ⟨d.blk, 0, none⟩)] w fun e w' => ∃ v : Nat, e = .returned (.int .i64 (v : Int)) ∧ v < 65536 ∧ Sx d 1 w w' := by
  obtain ⟨m, hk⟩ := hs
  obtain ⟨blk, A, n, cap⟩ := d
  dsimp only at hk ⊢
  have HK := hid hk
  have k0 := hk.cell
  have kl := hk.lt
  have kf := hk.frozen
  have h0 : n = 0 ∨ 0 < n := by omega
  rcases h0 with h0 | h0
  · subst h0
    go_enter Tryz.func150, Tryz.ntmps150
    go_upto_region 4 with fail
    refine wp_later fun w3 hw3 => ?_
    obtain ⟨m3, hm3⟩ : ∃ m3, m3 = m := ⟨_, rfl⟩
    have ho3 := (Only.refl blk w).ext hw3
    have hk3 := hk.ext hw3
    rw [← hm3] at hk3
    clear hw3 k0 kl kf hk
    have k0 := hk3.cell
    have kl := hk3.lt
    have kf := hk3.frozen
    go_upto_region 5 with fail
    refine wp_later fun w4 hw4 => ?_
    have ho4 := (ho3.set_ 1 _).ext hw4
    obtain ⟨t', ht', hk4⟩ : ∃ t' : Nat, t' = t + 1 ∧ Blk w4 blk 158 #[.slice A 0 cap, .int .i64 (t' : Int), .int .u32 m3] := ⟨t + 1, rfl, (hk3.set_ 1 _).ext hw4⟩
    clear hw4 k0 kl kf hk3
    have k0 := hk4.cell
    have kl := hk4.lt
    have kf := hk4.frozen
    refine wp_region_later (by kernel_rfl) (by kernel_rfl) ?_
    repeat (go_big_quiet_step (fail))
    refine wpQuiet_nil ?_
    rintro _ ⟨⟨w5, he5⟩, rfl⟩
    have ho5 := ho4.ext he5
    have hk5 := hk4.ext he5
    clear he5 k0 kl kf hk4
    have k0 := hk5.cell
    have kl := hk5.lt
    have kf := hk5.frozen
    by_cases hgt : 0 < t'
    · have hgi : (0 : Int) < (t' : Int) := by omega
      go_upto_region 7 with fail
      refine wp_later fun w6 hw6 => ?_
      have ho6 := (ho5.set_ 2 _).ext hw6
      obtain ⟨m6, hk6⟩ : ∃ m6 : Int, Blk w6 blk 158 #[.slice A 0 cap, .int .i64 (t' : Int), .int .u32 m6] := ⟨_, (hk5.set_ 2 _).ext hw6⟩
      clear hw6 k0 kl kf hk5
      have k0 := hk6.cell
      have kl := hk6.lt
      refine wp_region_later (by kernel_rfl) (by kernel_rfl) ?_
      repeat (go_big_quiet_step (fail))
      refine wpQuiet_nil ?_
      rintro _ ⟨⟨w7, he7⟩, rfl⟩
      go_wp2
      go_ret
      obtain ⟨v, hv, hvl⟩ := low16w (bits .xor .u32 m6 (m6 / 32768) / 256)
      subst ht'
      exact ⟨v, ret_int hv, hvl, sx_of (ho6.ext he7) HK.out (hk6.ext he7)⟩
    · omega
  · obtain ⟨b, o, hA, hne, hc⟩ := hb h0
    dsimp only at hA hne hc
    subst hA
    have hlt : t % n < n := Nat.mod_lt _ h0
    obtain ⟨c, hc0⟩ := hc (t % n) hlt
    have hne0 : (n : Int) ≠ 0 := by omega
    have hpos : (0 : Int) < n := by omega
    have hmod : Int.tmod (t : Int) (n : Int) = ((t % n : Nat) : Int) := rfl
    go_enter Tryz.func150, Tryz.ntmps150
    go_upto_region 3 with fail
    refine wp_region_tail 20 (by kernel_rfl) (by kernel_rfl) ?_
    simp only [List.take_succ_cons, List.take_zero, List.drop_succ_cons, List.drop_zero]
    repeat (go_big_quiet_step (fail))
    refine wpQuiet_nil ?_
    rintro _ ⟨⟨w2, he2⟩, rfl⟩
    have ho2 := (Only.refl blk w).ext he2
    have hk2 := hk.ext he2
    clear k0 kl kf hk hc0 hmod he2
    have k0 := hk2.cell
    have kl := hk2.lt
    have kf := hk2.frozen
    go_upto_region 4 with fail
    refine wp_later fun w3 hw3 => ?_
    have ho3 := (ho2.set_ 2 _).ext hw3
    obtain ⟨m3, hk3⟩ : ∃ m3 : Int, Blk w3 blk 158 #[.slice (some ⟨b, o, none⟩) n cap, .int .i64 (t : Int), .int .u32 m3] := ⟨_, (hk2.set_ 2 _).ext hw3⟩
    clear hw3 k0 kl kf hk2
    have k0 := hk3.cell
    have kl := hk3.lt
    have kf := hk3.frozen
    go_upto_region 5 with fail
    refine wp_later fun w4 hw4 => ?_
    have ho4 := (ho3.set_ 1 _).ext hw4
    obtain ⟨t', ht', hk4⟩ : ∃ t' : Nat, t' = t + 1 ∧ Blk w4 blk 158 #[.slice (some ⟨b, o, none⟩) n cap, .int .i64 (t' : Int), .int .u32 m3] := ⟨t + 1, rfl, (hk3.set_ 1 _).ext hw4⟩
    clear hw4 k0 kl kf hk3
    have k0 := hk4.cell
    have kl := hk4.lt
    have kf := hk4.frozen
    refine wp_region_later (by kernel_rfl) (by kernel_rfl) ?_
    repeat (go_big_quiet_step (fail))
    refine wpQuiet_nil ?_
    rintro _ ⟨⟨w5, he5⟩, rfl⟩
    have ho5 := ho4.ext he5
    have hk5 := hk4.ext he5
    clear he5 k0 kl kf hk4
    have k0 := hk5.cell
    have kl := hk5.lt
    have kf := hk5.frozen
    by_cases hgt : n < t'
    · have hgi : (n : Int) < (t' : Int) := by omega
      go_upto_region 7 with fail
      refine wp_later fun w6 hw6 => ?_
      have ho6 := (ho5.set_ 2 _).ext hw6
      obtain ⟨m6, hk6⟩ : ∃ m6 : Int, Blk w6 blk 158 #[.slice (some ⟨b, o, none⟩) n cap, .int .i64 (t' : Int), .int .u32 m6] := ⟨_, (hk5.set_ 2 _).ext hw6⟩
      clear hw6 k0 kl kf hk5
      have k0 := hk6.cell
      have kl := hk6.lt
      refine wp_region_later (by kernel_rfl) (by kernel_rfl) ?_
      repeat (go_big_quiet_step (fail))
      refine wpQuiet_nil ?_
      rintro _ ⟨⟨w7, he7⟩, rfl⟩
      go_wp2
      go_ret
      obtain ⟨v, hv, hvl⟩ := low16w (bits .xor .u32 m6 (m6 / 32768) / 256)
      subst ht'
      exact ⟨v, ret_int hv, hvl, sx_of (ho6.ext he7) HK.out (hk6.ext he7)⟩
    · have hgi : ¬ (n : Int) < (t' : Int) := by omega
      go_upto_region 7 with fail
      refine wp_region_later (by kernel_rfl) (by kernel_rfl) ?_
      repeat (go_big_quiet_step (fail))
      refine wpQuiet_nil ?_
      rintro _ ⟨⟨w7, he7⟩, rfl⟩
      go_wp2
      go_ret
      obtain ⟨v, hv, hvl⟩ := low16w (bits .xor .u32 m3 (m3 / 32768) / 256)
      subst ht'
      exact ⟨v, ret_int hv, hvl, sx_of (ho5.ext he7) HK.out (hk5.ext he7)⟩
theorem below67 {d : SackD} {w : World} {t : Nat} (hs : d.at w t) (hb : Bytes w d) (ht : t ≤ 1000000) (n : Int) (hn : n ≤ 65536) :
    Calls Tryz.prog 67 #[.pointer (some ⟨d.blk, 0, none⟩), .int .i64 n] w fun e w' => ∃ v : Nat, e = .returned (.int .i64 (v : Int)) ∧ (v = 0 ∨ (v : Int) < n) ∧ Sx d 1 w w' := by
  have HS := hid hs
  clear hs
  by_cases h1 : 1 < n
  · obtain ⟨q, rfl⟩ := Int.eq_ofNat_of_zero_le (show 0 ≤ n by omega)
    have hq1 : 0 < q := by omega
    go_enter Tryz.func67, Tryz.ntmps67
    go_wp2_with (go_at_call 150; refine (handful150 HS.out hb ht).mono ?_; rintro e w1 ⟨v, rfl, hv, hx⟩; have hvq := Nat.mod_lt v hq1; have hne : (q : Int) ≠ 0 := by omega)
    go_ret
    exact ⟨v % q, rfl, .inr (by omega), hx⟩
  · go_enter Tryz.func67, Tryz.ntmps67
    go_wp2_with (go_at_call 150; refine (handful150 HS.out hb ht).mono ?_; rintro e w1 ⟨v, rfl, hv, hx⟩)
    go_ret
    exact ⟨0, rfl, .inl rfl, hx⟩
theorem rare107 {d : SackD} {w : World} {t : Nat} (hs : d.at w t) (hb : Bytes w d) (ht : t ≤ 1000000) (n : Int) (hn : n ≤ 65536) :
    Calls Tryz.prog 107 #[.pointer (some ⟨d.blk, 0, none⟩), .int .i64 n] w fun e w' => ∃ b : Bool, e = .returned (.bool b) ∧ Sx d 1 w w' := by
  have HS := hid hs
  clear hs
  go_enter Tryz.func107, Tryz.ntmps107
  go_wp2_with (go_at_call 67; refine (below67 HS.out hb ht n hn).mono ?_; rintro e w1 ⟨v, rfl, hv, hx⟩)
  go_ret
  exact ⟨_, rfl, hx⟩
theorem among71 {d : SackD} {w : World} {t : Nat} (hs : d.at w t) (hb : Bytes w d) (ht : t ≤ 1000000) (lo hi : Int) (h1 : -60000 ≤ lo ∧ lo ≤ 60000) (h2 : -60000 ≤ hi ∧ hi ≤ 60000) (h3 : hi - lo < 65536) :
    Calls Tryz.prog 71 #[.pointer (some ⟨d.blk, 0, none⟩), .int .i64 lo, .int .i64 hi] w fun e w' => ∃ v : Int, e = .returned (.int .i64 v) ∧ lo ≤ v ∧ (v = lo ∨ v ≤ hi) ∧ Sx d 1 w w' := by
  have HS := hid hs
  clear hs
  go_enter Tryz.func71, Tryz.ntmps71
  go_wp2_with (go_at_call 67; refine (below67 HS.out hb ht (hi - lo + 1) (by omega)).mono ?_; rintro e w1 ⟨v, rfl, hv, hx⟩; have hvb : (v : Int) ≤ 200000 := by omega)
  go_ret
  exact ⟨lo + v, rfl, by omega, by omega, hx⟩
theorem fill31 {A : Option Addr} {n cap : Nat} (w : World) : Calls Tryz.prog 31 #[.slice A n cap] w fun e w' => e = .returned (.pointer (some ⟨w.heap.size, 0, none⟩)) ∧ Ext w w' ∧ SackD.at ⟨w.heap.size, A, n, cap⟩ w' 0 := by
  go_enter Tryz.func31, Tryz.ntmps31
  go_wp2
  go_ret
  exact ⟨rfl, (Ext.refl _).alloc _, _, Blk.new _ _ _⟩
/-- A sack that has just been filled. -/
def Start (d : SackD) (w : World) : Prop := d.at w 0 ∧ Bytes w d
theorem Start.lt {d : SackD} {w : World} (h : Start d w) : d.blk < w.heap.size := by
  obtain ⟨⟨m, hk⟩, -⟩ := h
  exact hk.lt
theorem Start.at_ {d : SackD} {w W : World} {k : Nat} (h : Start d w) (x : Sx d k w W) (hk : k ≤ 1000000) : ∃ t, t ≤ 1000000 ∧ d.at W t := by
  obtain ⟨t, h1, h2, h3⟩ := x.2.2.2 0 h.1
  exact ⟨t, by omega, h3⟩
theorem below_b {d : SackD} {w W : World} {k : Nat} (h : Start d w) (x : Sx d k w W) (hk : k ≤ 1000000) (n : Int) (hn : n ≤ 65536) :
    Calls Tryz.prog 67 #[.pointer (some ⟨d.blk, 0, none⟩), .int .i64 n] W fun e w' => ∃ v : Nat, e = .returned (.int .i64 (v : Int)) ∧ (v = 0 ∨ (v : Int) < n) ∧ Sx d 1 W w' := by
  obtain ⟨t, h1, h2⟩ := h.at_ x hk
  exact below67 h2 (h.2.sx x) h1 n hn
theorem rare_b {d : SackD} {w W : World} {k : Nat} (h : Start d w) (x : Sx d k w W) (hk : k ≤ 1000000) (n : Int) (hn : n ≤ 65536) :
    Calls Tryz.prog 107 #[.pointer (some ⟨d.blk, 0, none⟩), .int .i64 n] W fun e w' => ∃ b : Bool, e = .returned (.bool b) ∧ Sx d 1 W w' := by
  obtain ⟨t, h1, h2⟩ := h.at_ x hk
  exact rare107 h2 (h.2.sx x) h1 n hn
theorem among_b {d : SackD} {w W : World} {k : Nat} (h : Start d w) (x : Sx d k w W) (hk : k ≤ 1000000) (lo hi : Int) (h1 : -60000 ≤ lo ∧ lo ≤ 60000) (h2 : -60000 ≤ hi ∧ hi ≤ 60000) (h3 : hi - lo < 65536) :
    Calls Tryz.prog 71 #[.pointer (some ⟨d.blk, 0, none⟩), .int .i64 lo, .int .i64 hi] W fun e w' => ∃ v : Int, e = .returned (.int .i64 v) ∧ lo ≤ v ∧ (v = lo ∨ v ≤ hi) ∧ Sx d 1 W w' := by
  obtain ⟨t, h4, h5⟩ := h.at_ x hk
  exact among71 h5 (h.2.sx x) h4 lo hi h1 h2 h3
end Go.Proofs.YtbceepjjdfpfmaaGreat
