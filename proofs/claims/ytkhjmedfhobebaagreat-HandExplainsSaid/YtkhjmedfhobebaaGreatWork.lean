/- Bits, and a watch at work. The watch is right, as Ok says. -/
import Derived.Test.YtkhjmedfhobebaaGreatMapQ
import Derived.BigFrameIn
namespace Go.Proofs.YtkhjmedfhobebaaGreat
open Go.RowKit
theorem wrapN {n : Nat} (h : n < 9223372036854775808) : IntKind.i64.wrap (n : Int) = n := by
  rw [IntKind.wrap_i64]
  omega
theorem ofIntN (a : Nat) : BitVec.ofInt 64 (a : Int) = BitVec.ofNat 64 a := by
  simp
theorem or64 {a b : Nat} (ha : a < 64) (hb : b < 64) : bits .or .i64 (a : Int) (b : Int) = ((a ||| b : Nat) : Int) := by
  have h : a ||| b < 2 ^ 6 := Nat.or_lt_two_pow ha hb
  have e : (BitVec.ofInt IntKind.i64.bits (a : Int) ||| BitVec.ofInt IntKind.i64.bits (b : Int)).toNat = a ||| b := by
    show (BitVec.ofInt 64 (a : Int) ||| BitVec.ofInt 64 (b : Int)).toNat = a ||| b
    rw [ofIntN, ofIntN, BitVec.toNat_or, BitVec.toNat_ofNat, BitVec.toNat_ofNat, Nat.mod_eq_of_lt (by omega), Nat.mod_eq_of_lt (by omega)]
  show IntKind.i64.wrap ((BitVec.ofInt IntKind.i64.bits (a : Int) ||| BitVec.ofInt IntKind.i64.bits (b : Int)).toNat : Int) = _
  rw [e, wrapN (by omega)]
theorem and64 {a b : Nat} (ha : a < 64) (hb : b < 64) : bits .and .i64 (a : Int) (b : Int) = ((a &&& b : Nat) : Int) := by
  have h : a &&& b ≤ a := Nat.and_le_left
  have e : (BitVec.ofInt IntKind.i64.bits (a : Int) &&& BitVec.ofInt IntKind.i64.bits (b : Int)).toNat = a &&& b := by
    show (BitVec.ofInt 64 (a : Int) &&& BitVec.ofInt 64 (b : Int)).toNat = a &&& b
    rw [ofIntN, ofIntN, BitVec.toNat_and, BitVec.toNat_ofNat, BitVec.toNat_ofNat, Nat.mod_eq_of_lt (by omega), Nat.mod_eq_of_lt (by omega)]
  show IntKind.i64.wrap ((BitVec.ofInt IntKind.i64.bits (a : Int) &&& BitVec.ofInt IntKind.i64.bits (b : Int)).toNat : Int) = _
  rw [e, wrapN (by omega)]
end Go.Proofs.YtkhjmedfhobebaaGreat
namespace Go.Proofs.YtkhjmedfhobebaaGreat
open Go.RowKit HandSpec
set_option maxHeartbeats 2000000
set_option maxRecDepth 100000
attribute [local go_sem] Oper.semAt_some
def wboxC (x : WD) (A1 : Option Addr) (c1 : Nat) (A2 : Option Addr) (c2 : Nat) (A3 : Option Addr) (c3 : Nat) : Array Value :=
  #[.int .i64 x.hours, .int .i64 x.allow, .int .i64 x.hands, .slice A1 x.cn c1, .slice A2 x.bn c2, .slice A3 x.sn c3]
def deskC (x : WD) (A1 : Option Addr) (c1 : Nat) (A2 : Option Addr) (c2 : Nat) (A3 : Option Addr) (c3 : Nat) (s : Nat → Int) (mb : Nat) : Array Value :=
  #[.int .i64 x.hours, .int .i64 x.allow, .int .i64 x.hands, .slice A1 x.cn c1, .slice A2 x.bn c2, .slice A3 x.sn c3, .int .i64 (s 0), .int .i64 (s 1), .int .i64 (s 2), .int .i64 (s 3), .int .i64 (s 4), .int .i64 (s 5), .int .i64 (s 6), .int .i64 (s 7), .map (some mb)]
/-- The call's own blocks, while it works. -/
structure WK (x : WD) (A1 : Option Addr) (c1 : Nat) (A2 : Option Addr) (c2 : Nat) (A3 : Option Addr) (c3 : Nat) (w W : World) (s : Nat → Int) (L : List ((Nat × Nat) × Nat)) : Prop where
  e : Ext w W
  b0 : Blk W w.heap.size 26 (wboxC x A1 c1 A2 c2 A3 c3)
  m : Mp W (w.heap.size + 1) L
  d : Blk W (w.heap.size + 2) 189 (deskC x A1 c1 A2 c2 A3 c3 s (w.heap.size + 1))
  p : Blk W (w.heap.size + 3) 170 #[.pointer (some ⟨w.heap.size + 2, 0, none⟩)]
namespace WK
variable {x : WD} {A1 : Option Addr} {c1 : Nat} {A2 : Option Addr} {c2 : Nat} {A3 : Option Addr} {c3 : Nat} {w W W' : World} {s : Nat → Int} {L : List ((Nat × Nat) × Nat)}
theorem ext (h : WK x A1 c1 A2 c2 A3 c3 w W s L) (e : Ext W W') : WK x A1 c1 A2 c2 A3 c3 w W' s L := ⟨h.e.trans e, h.b0.ext e, h.m.ext e, h.d.ext e, h.p.ext e⟩
theorem first (h : Ext ((((w.alloc (.cells (wboxC x A1 c1 A2 c2 A3 c3) 26)).alloc (.map #[] 0)).alloc (.cells (deskC x A1 c1 A2 c2 A3 c3 (fun _ => 0) (w.heap.size + 1)) 189)).alloc (.cells #[.pointer (some ⟨w.heap.size + 1 + 1, 0, none⟩)] 170)) W) : WK x A1 c1 A2 c2 A3 c3 w W (fun _ => 0) [] := by
  have e0 : Ext w (w.alloc (.cells (wboxC x A1 c1 A2 c2 A3 c3) 26)) := (Ext.refl _).alloc _
  have b0 := Blk.new w 26 (wboxC x A1 c1 A2 c2 A3 c3)
  generalize hw1 : w.alloc (.cells (wboxC x A1 c1 A2 c2 A3 c3) 26) = w1 at *
  have s1 : w1.heap.size = w.heap.size + 1 := by rw [← hw1]; simp
  have e1 : Ext w1 (w1.alloc (.map #[] 0)) := (Ext.refl _).alloc _
  have b1 : Mp (w1.alloc (.map #[] 0)) w1.heap.size [] := by unfold Mp World.alloc; simp [ents]
  generalize hw2 : w1.alloc (.map #[] 0) = w2 at *
  have s2 : w2.heap.size = w.heap.size + 2 := by rw [← hw2]; simp [s1]
  have e2 : Ext w2 (w2.alloc (.cells (deskC x A1 c1 A2 c2 A3 c3 (fun _ => 0) (w.heap.size + 1)) 189)) := (Ext.refl _).alloc _
  have b2 := Blk.new w2 189 (deskC x A1 c1 A2 c2 A3 c3 (fun _ => 0) (w.heap.size + 1))
  generalize hw3 : w2.alloc (.cells (deskC x A1 c1 A2 c2 A3 c3 (fun _ => 0) (w.heap.size + 1)) 189) = w3 at *
  have s3 : w3.heap.size = w.heap.size + 3 := by rw [← hw3]; simp [s2]
  have e3 : Ext w3 (w3.alloc (.cells #[.pointer (some ⟨w.heap.size + 1 + 1, 0, none⟩)] 170)) := (Ext.refl _).alloc _
  have b3 := Blk.new w3 170 #[.pointer (some ⟨w.heap.size + 1 + 1, 0, none⟩)]
  rw [s1] at b1
  rw [s2] at b2
  rw [s3] at b3
  exact ⟨e0.trans (e1.trans (e2.trans (e3.trans h))), b0.ext (e1.trans (e2.trans (e3.trans h))), b1.ext (e2.trans (e3.trans h)), b2.ext (e3.trans h), b3.ext h⟩
theorem set_ (h : WK x A1 c1 A2 c2 A3 c3 w W s L) {i : Nat} (hi : i < 8) (z : Int) : WK x A1 c1 A2 c2 A3 c3 w (W.setCell ⟨w.heap.size + 2, 6 + i, none⟩ (.int .i64 z)) (upd s i z) L := by
  refine ⟨h.e.setCell _ (by simp), h.b0.far (by simp) _, ?_, ?_, h.p.far (by simp) _⟩
  · exact (Below.heap_setCell W ⟨w.heap.size + 2, 6 + i, none⟩ _ _ (by simp)).trans h.m
  · have := h.d.set_ (6 + i) (.int .i64 z)
    have e : (deskC x A1 c1 A2 c2 A3 c3 s (w.heap.size + 1)).setIfInBounds (6 + i) (.int .i64 z) = deskC x A1 c1 A2 c2 A3 c3 (upd s i z) (w.heap.size + 1) := by
      match i, hi with
      | 0, _ | 1, _ | 2, _ | 3, _ | 4, _ | 5, _ | 6, _ | 7, _ => simp [deskC, upd]
    rwa [e] at this
theorem putM (h : WK x A1 c1 A2 c2 A3 c3 w W s L) (L' : List ((Nat × Nat) × Nat)) : WK x A1 c1 A2 c2 A3 c3 w (putM W (w.heap.size + 1) L') s L' :=
  ⟨Ext.putM h.e (by omega) _, Blk.putM h.b0 (by omega) _, h.m.put, Blk.putM h.d (by omega) _, Blk.putM h.p (by omega) _⟩
theorem sum (h : WK x A1 c1 A2 c2 A3 c3 w W s L) {i : Nat} (hi : i < 8) : W.cell? ⟨w.heap.size + 2, 6 + i, none⟩ = some (.int .i64 (s i)) := by
  have := h.d
  unfold deskC at this
  exact sums_at this hi
end WK
/-- What is booked in interval i by the first k bookings. -/
def smk (x : WD) (k i : Nat) : Int := if i + 1 < x.cn then sumTo (R.bookf x i (i+1)) k else 0
theorem smk_bound {x : WD} (h : Ok x) {k : Nat} (hk : k ≤ x.bn) (i : Nat) : -2000 ≤ smk x k i ∧ smk x k i ≤ 2000 := by
  unfold smk
  split
  · exact R.booked_bound' h _ _ k hk
  · omega
theorem Ok.mono {x : WD} (h : Ok x) : ∀ {i j : Nat}, i < j → j < x.cn → x.c i 0 < x.c j 0
  | i, j + 1, h1, h2 => by
    rcases Nat.lt_or_eq_of_le (Nat.le_of_lt_succ h1) with h3 | h3
    · exact Int.lt_trans (Ok.mono h h3 (by omega)) (h.inc j h2)
    · subst h3; exact h.inc i h2
theorem smk_at {x : WD} {k p : Nat} (_h : Ok x) (hp : 0 < p) (hpn : p < x.cn) (hlo : ∀ j, j < p → x.c j 0 < x.b k 0) (hhi : ∀ j, p ≤ j → j < x.cn → x.b k 0 ≤ x.c j 0) : smk x (k + 1) = upd (smk x k) (p - 1) (smk x k (p - 1) + x.b k 1) := by
  funext i
  by_cases e : i = p - 1
  · subst e
    rw [upd_same]
    simp only [smk, show p - 1 + 1 = p by omega, hpn, if_true, sumTo, R.bookf]
    rw [if_pos ⟨hlo _ (by omega), hhi _ (Nat.le_refl _) hpn⟩]
  · rw [upd_other _ _ e]
    simp only [smk]
    split
    · next hi =>
      simp only [sumTo, R.bookf]
      rw [if_neg, Int.add_zero]
      rintro ⟨h1, h2⟩
      rcases Nat.lt_or_ge i (p - 1) with h3 | h3
      · have := hlo (i + 1) (by omega); omega
      · have := hhi i (by omega) (by omega); omega
    · rfl
theorem smk_none {x : WD} {k p : Nat} (hpn : p = 0 ∨ x.cn ≤ p) (hlo : ∀ j, j < p → x.c j 0 < x.b k 0) (hhi : ∀ j, p ≤ j → j < x.cn → x.b k 0 ≤ x.c j 0) : smk x (k + 1) = smk x k := by
  funext i
  simp only [smk]
  split
  · next hi =>
    simp only [sumTo, R.bookf]
    rw [if_neg, Int.add_zero]
    rintro ⟨h1, h2⟩
    rcases hpn with h3 | h3
    · have := hhi i (by omega) (by omega); omega
    · have := hlo (i + 1) (by omega); omega
  · rfl
theorem Mp.kc {B : Nat} {W W' : World} {m : Nat} {L : List ((Nat × Nat) × Nat)} (h : Mp W m L) (k : Kc B W W') (hB : m < B) : Mp W' m L := k.2.2.2.2 m _ h (.inr hB)
theorem WK.kc {x : WD} {A1 : Option Addr} {c1 : Nat} {A2 : Option Addr} {c2 : Nat} {A3 : Option Addr} {c3 : Nat} {w W W' : World} {s : Nat → Int} {L : List ((Nat × Nat) × Nat)} {B : Nat} (h : WK x A1 c1 A2 c2 A3 c3 w W s L) (k : Kc B W W') (hB : w.heap.size + 1 < B) : WK x A1 c1 A2 c2 A3 c3 w W' s L :=
  ⟨h.e.kc k (by omega), h.b0.kc k, h.m.kc k hB, h.d.kc k, h.p.kc k⟩
/-- The map after the stretches of a list. -/
def LM (x : WD) (pre : List (Nat × Nat)) (L : List ((Nat × Nat) × Nat)) : Prop := ∀ a b, lookV (a, b) L = if (a, b) ∈ pre then P.th x a b else 0
theorem wpE_val {P : Program} {ops : Array Oper} {C : World → Prop} {T : World → World → Prop} {R : Act → (World → Prop) → Prop} {o : Oper} {rest : List Oper} {a : Act} {E : World → Prop} (v : Value)
    (hw : Region.wanted o (yielded ops a.tmps) = true) (hT : ∀ w, T w w) (h : ∀ w, C w → (execOp a.eval o).run P w = .ok (.value v) w) (hk : wpE P ops C T R rest (a.put o.dst v) E) : wpE P ops C T R (o :: rest) a E := by
  refine ⟨v, fun _ => True, .inl ⟨hw, fun _ _ _ h => h, fun w hw => ?_⟩, ?_⟩
  · rw [h w hw]; exact ⟨rfl, hw, hT w, trivial⟩
  · have : (fun w => E w ∧ True) = E := by funext w; simp
    rw [this]; exact hk
theorem touch_touch (p : Nat × Nat) (l : List ((Nat × Nat) × Nat)) : touch p (touch p l) = touch p l := by
  have := posOf_touch p l
  show (if (lookAt p 0 (touch p l)).isSome then touch p l else touch p l ++ [(p, 0)]) = touch p l
  rw [this]; simp
theorem posOf_touch' (p : Nat × Nat) (l : List ((Nat × Nat) × Nat)) : posOf p (touch p l) = posOf p l := by
  have := posOf_touch p l
  show ((lookAt p 0 (touch p l)).map (·.1)).getD (touch p l).length = posOf p l
  rw [this]; simp
theorem putM_putM (w : World) (m : Nat) (l l' : List ((Nat × Nat) × Nat)) : putM (putM w m l) m l' = putM w m l' := by
  unfold putM
  simp
/-- The class of worlds in a region that writes an entry. -/
def Cls (w : World) (m : Nat) (p : Nat × Nat) (l : List ((Nat × Nat) × Nat)) (w' : World) : Prop := w' = w ∨ w' = putM w m (touch p l)
def Tr (w : World) (m : Nat) (p : Nat × Nat) (l : List ((Nat × Nat) × Nat)) (a b : World) : Prop := b = a ∨ b = putM w m (touch p l)
theorem wpE_entry {ops : Array Oper} {R : Act → (World → Prop) → Prop} {o : Oper} {rest : List Oper} {a : Act} {E : World → Prop} {w0 : World} {m : Nat} {l : List ((Nat × Nat) × Nat)} (p : Nat × Nat) (hm : Mp w0 m l)
    (hw : Region.wanted o (yielded ops a.tmps) = true) (h : ∀ w, (execOp a.eval o).run Tryz.prog w = ((Instr.mapEntry 187 (.map (some m)) (keyV p)).run Tryz.prog w).andThen fun v w' => .ok (.value v) w')
    (hk : wpE Tryz.prog ops (Cls w0 m p l) (Tr w0 m p l) R rest (a.put o.dst (.tuple #[.int .i64 (lookV p l : Int), .int .i64 (posOf p l : Int)])) (fun w => E w ∧ w = putM w0 m (touch p l))) : wpE Tryz.prog ops (Cls w0 m p l) (Tr w0 m p l) R (o :: rest) a E := by
  refine ⟨_, _, .inl ⟨hw, ?_, ?_⟩, hk⟩
  · rintro w w' (rfl | rfl) h
    · exact h
    · rfl
  · rintro w (rfl | rfl)
    · rw [h, mapEntry_run hm]
      exact ⟨rfl, .inr rfl, .inr rfl, rfl⟩
    · rw [h, mapEntry_run hm.put, lookV_touch, posOf_touch', touch_touch, putM_putM]
      exact ⟨rfl, .inr rfl, .inl rfl, rfl⟩
theorem Mp.ne {w : World} {m g : Nat} {l : List ((Nat × Nat) × Nat)} {t : TypeId} {C : Array Value} (h : Mp w m l) (b : Blk w g t C) : m ≠ g := by
  rintro rfl
  unfold Mp at h
  unfold Blk at b
  rw [h] at b
  cases b
theorem KeepsFrom.putM {B m : Nat} (W : World) (l : List ((Nat × Nat) × Nat)) (hm : m < B) : KeepsFrom B W (putM W m l) :=
  ⟨by unfold Go.Proofs.YtkhjmedfhobebaaGreat.putM; simp, fun i o hB hi _ => by
    unfold Go.Proofs.YtkhjmedfhobebaaGreat.putM
    exact (Array.getElem?_setIfInBounds_ne (by omega)).trans hi⟩
theorem KpM.putM {n m : Nat} {M : Nat → Prop} (W : World) (l : List ((Nat × Nat) × Nat)) (hm : M m) : KpM n M W (putM W m l) :=
  ⟨by unfold Go.Proofs.YtkhjmedfhobebaaGreat.putM; simp, fun i _ hi => by
    unfold Go.Proofs.YtkhjmedfhobebaaGreat.putM
    exact Array.getElem?_setIfInBounds_ne fun e => hi (by rw [← e]; exact hm)⟩
theorem wpIn_later {F : Fence} {n : Nat} {P : Program} {c : Code} {Q : Exit → Act → World → Prop} {a : Act} {W : World} (h : ∀ w1, Ext W w1 → c.wpIn F n P Q a w1) : c.wpIn F n P Q a W := h W (Ext.refl _)
theorem worked_any {x : WD} (hx : Ok x) {w : World} {v : Value} (hv : IsW w v x) :
    Calls Tryz.prog 203 #[v] w fun e w' => ∃ u, e = .returned u ∧ Ext w w' ∧ IsD w' u x := by
  have HV := hid hv
  obtain ⟨A1, c1, A2, c2, A3, c3, rfl, r1, r2, r3⟩ := hv
  have R1 := hid r1
  have R2 := hid r2
  have R3 := hid r3
  clear r1 r2 r3
  have hcn := hx.cn
  have hbn := hx.bn
  have hsn := hx.sn
  have hmm : ∀ w : World, (Instr.makeMap 187 none).run Tryz.prog w = .ok (.map (some w.heap.size)) (w.alloc (.map #[] 0)) := fun w => by kernel_rfl
  refine (callsIn_wide (n := 3)).1 (callsIn_of_wp_marks Tryz.func203 rfl trivial (wpIn_wide.2 ?_) rfl)
  simp only [Tryz.ntmps203, List.size_toArray, List.length_cons, List.length_nil, Nat.reduceAdd, Nat.reduceSub, Array.replicate_succ, Array.replicate_zero, List.push_toArray, List.append_toArray, List.nil_append, List.cons_append]
  go_upto_region 2 with fail
  refine wp_later fun w1 hw1 => ?_
  have K1 : WK x A1 c1 A2 c2 A3 c3 w w1 (fun _ => 0) [] := WK.first hw1
  have k0 := K1.b0.cell
  have kl := K1.b0.lt
  clear hw1
  unfold wboxC at k0
  have K1 := hid K1
  go_wp2
  go_loopw [18] (fun i wr => ∃ k : Nat, k ≤ x.bn ∧ i = .int .i64 k ∧ Hid (WK x A1 c1 A2 c2 A3 c3 w wr (smk x k) [])) (fun i _ => x.bn - (intOf i).toNat)
  case atStart => exact ⟨0, Nat.zero_le _, rfl, hid (by rw [show smk x 0 = fun _ => 0 from by funext i; simp [smk, sumTo]]; exact K1.out)⟩
  case round =>
    clear k0 kl
    obtain ⟨k, hk, rfl, K⟩ := hrel
    have k0 := K.out.b0.cell
    have kl := K.out.b0.lt
    unfold wboxC at k0
    by_cases hlt : k < x.bn
    · obtain ⟨b, o, rfl, hb, a0, a1⟩ := (R2.out.ext K.out.e).at2 hlt
      have hbh := hx.bhour k hlt
      have hbs := hx.bsack k hlt
      have hh := hx.hours
      have HS : ∀ i j, i < j → j < x.cn → x.c i 0 < x.c j 0 := fun i j h h' => Ok.mono hx h h'
      have HS := hid HS
      have HC : Cmps 238 x.cn x.c (x.b k 0) := cmp238 (fun j hj => by have := hx.hour j hj; omega) (by omega)
      have HC := hid HC
      go_upto_region 6 with (go_at_call 165; refine (bsearch165 ((R1.out.ext K.out.e).ext ((Ext.refl _).alloc _)) (by omega) HS.out HC.out).mono ?_; rintro e w2 ⟨p, rfl, hp, hlo, hhi, he2⟩)
      refine wp_later fun w3 hw3 => ?_
      obtain ⟨e3, b3⟩ := (he2.trans hw3).newB
      have K3 := hid (K.out.ext e3)
      have k0 := K3.out.b0.cell
      have kl := K3.out.b0.lt
      have kd := K3.out.d.cell
      have kdl := K3.out.d.lt
      have kp := K3.out.p.cell
      have kpl := K3.out.p.lt
      have kb := b3.cell
      have kbl := b3.lt
      unfold wboxC at k0
      unfold deskC at kd
      clear hw3 he2 a0 a1
      rcases Nat.eq_zero_or_pos p with hz | hz
      · have HN := hid (smk_none (x := x) (k := k) (p := p) (.inl hz) hlo hhi)
        subst hz
        clear hlo hhi
        go_wp2
        go_roundw
        case rel => exact ⟨k + 1, by omega, by go_num, hid (by rw [HN.out]; exact K3.out)⟩
        case measure => simp [intOf]; omega
      · by_cases hpn : p < x.cn
        · have HN := hid (smk_at hx hz hpn hlo hhi)
          clear hlo hhi
          obtain ⟨q, rfl⟩ : ∃ q, p = q + 1 := ⟨p - 1, by omega⟩
          simp only [Nat.add_sub_cancel] at HN
          have hq1 : decide (q + 1 < x.cn) = true := by simpa using hpn
          have sb := smk_bound hx (Nat.le_of_lt hlt) q
          have sc := K3.out.sum (i := q) (by omega)
          have sf := K3.out.d.frozen (6 + q)
          have hpi : ((q + 1 : Nat) : Int) < x.cn := by omega
          cases hc : (x.c (q + 1) 0 == x.b k 0)
          all_goals
            have hcc := hid hc
            go_upto_region 7 with fail
            clear kd
            refine wp_region_tail 12 (by kernel_rfl) (by kernel_rfl) ?_
            simp only [List.take_succ_cons, List.take_zero, List.drop_succ_cons, List.drop_zero]
            repeat (go_big_quiet_step (fail))
            refine wpQuiet_nil ?_
            rintro _ ⟨⟨w4, he4⟩, rfl⟩
            have K4 := hid (K3.out.ext he4)
            have sc := K4.out.sum (i := q) (by omega)
            have sf := K4.out.d.frozen (6 + q)
            go_wp2
            go_roundw
            case rel => exact ⟨k + 1, by omega, by go_num, hid (by rw [HN.out]; exact K4.out.set_ (by omega) _)⟩
            case measure => simp [intOf]; omega
        · have HN := hid (smk_none (x := x) (k := k) (p := p) (.inr (by omega)) hlo hhi)
          obtain rfl : p = x.cn := by omega
          have hq1 : decide (x.cn < x.cn) = false := by simp
          clear hlo hhi
          go_wp2
          go_roundw
          case rel => exact ⟨k + 1, by omega, by go_num, hid (by rw [HN.out]; exact K3.out)⟩
          case measure => simp [intOf]; omega
    · obtain rfl : k = x.bn := by omega
      have kd := K.out.d.cell
      have kdl := K.out.d.lt
      have kp := K.out.p.cell
      have kpl := K.out.p.lt
      unfold deskC at kd
      go_wp2_with (go_at_call 193; refine (stretches_any _).mono ?_; rintro e w1 ⟨rfl, he1, hb1⟩)
      have K1 := K.out.ext he1
      have hbl := hb1.lt
      have hpl := K1.p.lt
      refine wp_range (gf := 236) rfl (enters_ Tryz.func236 (by kernel_rfl) rfl) (fun y : Str x.cn => .agg #[.int .i64 (y.1.1 : Int), .int .i64 (y.1.2 : Int)]) (fun k => k = w.heap.size + 1) (stretches1_stops (by omega) hb1 hbl (by have := K.out.p.lt; omega)) (Ext.refl _)
        (fun (pre : List (Str x.cn)) W => w1.heap.size ≤ W.heap.size ∧ ∃ L, WK x A1 c1 A2 c2 A3 c3 w W (P.sm x) L ∧ LM x (fsts pre) L)
        (ownFrom_of fun pre W W' k ⟨i0, L, i1, i2⟩ => ⟨Nat.le_trans i0 k.1, L, i1.kc k (by omega), i2⟩) ⟨Nat.le_refl _, [], K1, fun a b => by simp [fsts, lookV, lookAt]⟩
        (fun (y : Str x.cn) tm a' W => ∃ g, a' = { tmps := (tm.setIfInBounds 61 (.agg #[.int .i64 (y.1.1 : Int), .int .i64 (y.1.2 : Int)])).setIfInBounds 8 (.pointer (some ⟨g, 0, none⟩)), defers := [] } ∧ Blk W g 51 #[.int .i64 (y.1.1 : Int), .int .i64 (y.1.2 : Int)])
        (fun y a' => ownFrom_of fun _ W W' k ⟨g, h1, h2⟩ => ⟨g, h1, h2.kc k⟩) ?_ ?_ ?_
      · intro l pre y W K hI hK
        simp only [List.setIfInBounds_toArray, List.set_cons_succ, List.set_cons_zero]
        gi_wp2
        obtain ⟨i0, L, i1, i2⟩ := hI
        have e : Ext W (W.alloc (.cells #[.int .i64 (y.1.1 : Int), .int .i64 (y.1.2 : Int)] 51)) := (Ext.refl _).alloc _
        exact hK _ _ (KeepsFrom.ext e) (KpM.ext e i0) ⟨Nat.le_trans i0 e.size, L, i1.ext e, i2⟩ ⟨_, rfl, Blk.new _ _ _⟩
      · rintro l pre y a' W hl - ⟨i0, L, i1, i2⟩ ⟨g, rfl, hg⟩ hN
        simp only [List.setIfInBounds_toArray, List.set_cons_succ, List.set_cons_zero]
        obtain ⟨p1, p2⟩ := y.2
        clear k0 kl kd kdl kp kpl
        have k0 := i1.b0.cell
        have kl := i1.b0.lt
        unfold wboxC at k0
        have kg := hg.cell
        have I1 := hid i1
        have I2 := hid i2
        clear i2 hN
        gi_wp2
        gi_loopw [65] (fun i wr => ∃ k : Nat, k ≤ x.sn ∧ i = .int .i64 k ∧ ∃ L', Hid (KeepsFrom w1.heap.size W wr ∧ KpM w1.heap.size (fun k => k = w.heap.size + 1) W wr ∧ WK x A1 c1 A2 c2 A3 c3 w wr (P.sm x) L' ∧ Blk wr g 51 #[.int .i64 (y.1.1 : Int), .int .i64 (y.1.2 : Int)] ∧ (∀ a b, lookV (a, b) L' = if (a, b) = y.1 then lookV (a, b) L ||| orTo (P.thf x a b) k else lookV (a, b) L))) (fun i _ => x.sn - (intOf i).toNat)
        case atStart => exact ⟨0, Nat.zero_le _, rfl, L, hid ⟨.ext (Ext.refl _), .refl _, I1.out, hg, fun a b => by simp [orTo]⟩⟩
        case round =>
          clear k0 kl kg
          obtain ⟨k, hk, rfl, L', hI⟩ := hrel
          have k0 := hI.out.2.2.1.b0.cell
          have kl := hI.out.2.2.1.b0.lt
          have kg := hI.out.2.2.2.1.cell
          have kgl := hI.out.2.2.2.1.lt
          unfold wboxC at k0
          by_cases hlt : k < x.sn
          · obtain ⟨b, o, rfl, hb, a0, a1, a2⟩ := (R3.out.ext hI.out.2.2.1.e).at3 hlt
            have hI0 := hI
            gi_wp2
            refine wpIn_later fun w5 hw5 => ?_
            obtain ⟨e5, b5⟩ := hw5.newB
            obtain ⟨cb, co, rfl, hcb, c0, _, _⟩ := (R1.out.ext (hI.out.2.2.1.e.trans e5)).at3 (k := y.1.1) (by omega)
            obtain ⟨_, _, hq, _, d0, _, _⟩ := (R1.out.ext (hI.out.2.2.1.e.trans e5)).at3 (k := y.1.2) p2
            obtain ⟨rfl, rfl⟩ := same_addr hq rfl
            have hI5 := hid (And.intro ((hI.out.1.trans (.ext e5))) (And.intro (hI.out.2.1.trans (.ext e5 (Nat.le_trans i0 hI.out.2.1.1))) (And.intro (hI.out.2.2.1.ext e5) (And.intro (hI.out.2.2.2.1.ext e5) hI.out.2.2.2.2))))
            have k0 := hI5.out.2.2.1.b0.cell
            have kl := hI5.out.2.2.1.b0.lt
            have kg := hI5.out.2.2.2.1.cell
            have kgl := hI5.out.2.2.2.1.lt
            have kb := b5.cell
            have kbl := b5.lt
            unfold wboxC at k0
            clear hI hI0 hw5 a0 a1 a2 hq
            by_cases o1 : x.s k 1 < x.c y.1.2 0
            · have q1 : decide (x.s k 1 < x.c y.1.2 0) = true := by simpa using o1
              by_cases o2 : x.s k 2 > x.c y.1.1 0
              · have q2 : decide (x.s k 2 > x.c y.1.1 0) = true := by simpa using o2
                have HT : Hid (P.thf x y.1.1 y.1.2 k = 2 ^ (x.s k 0).toNat) := hid (if_pos ⟨o1, o2⟩)
                clear o1 o2
                refine wpIn_round_later (by kernel_rfl) (by kernel_rfl) (by kernel_rfl) (by rintro ⟨a, w, h⟩; exact h) ?_
                repeat (go_big_quiet_step (fail))
                refine wpQuiet_nil ?_
                rintro w6 ⟨⟨_, he6⟩, rfl⟩
                have hI6 := hid (And.intro ((hI5.out.1.trans (.ext he6))) (And.intro (hI5.out.2.1.trans (.ext he6 (Nat.le_trans i0 hI5.out.2.1.1))) (And.intro (hI5.out.2.2.1.ext he6) (And.intro (hI5.out.2.2.2.1.ext he6) hI5.out.2.2.2.2))))
                gi_wp2
                refine wpIn_region_any (by kernel_rfl) (wpAnyIn_of_wpAny (by kernel_rfl) (by rintro ⟨a, w, h⟩; exact h) _ _ _ _ (wpAny_tailE (C := Cls { w6 with drawn := w6.drawn + 1 } (w.heap.size + 1) y.1 L') (T := Tr { w6 with drawn := w6.drawn + 1 } (w.heap.size + 1) y.1 L') 12 (by kernel_rfl) (fun w => .inl rfl) (.inl rfl) ?_))
                simp only [List.take_succ_cons, List.take_zero, List.drop_succ_cons, List.drop_zero]
                have K7 := hI6.out.2.2.1.ext (Ext.refl w6).drew
                have g7 := hI6.out.2.2.2.1.ext (Ext.refl w6).drew
                have b7 := (b5.ext he6).ext (Ext.refl w6).drew
                have hb1 : lookV y.1 L' < 64 := by
                  have h1 := hI6.out.2.2.2.2 y.1.1 y.1.2
                  rw [if_pos rfl, I2.out] at h1
                  rw [h1]
                  refine Nat.or_lt_two_pow (n := 6) ?_ (Nat.lt_of_lt_of_le (P.orTo_lt k fun i hi => P.thf_lt hx _ _ (by omega)) (Nat.pow_le_pow_right (by omega) (by have := hx.hands; omega)))
                  split
                  · exact P.th_lt hx _ _
                  · omega
                have hb2 : 2 ^ (x.s k 0).toNat < 64 := Nat.pow_lt_pow_right (a := 2) (m := (x.s k 0).toNat) (n := 6) (by omega) (by have := hx.shand k hlt; have := hx.hands; omega)
                have hF : ∀ w', Cls { w6 with drawn := w6.drawn + 1 } (w.heap.size + 1) y.1 L' w' → w'.cell? ⟨w.heap.size + 3, 0, none⟩ = some (.pointer (some ⟨w.heap.size + 2, 0, none⟩)) ∧ w'.cell? ⟨w.heap.size + 2, 14, none⟩ = some (.map (some (w.heap.size + 1))) ∧ w'.cell? ⟨g, 0, none⟩ = some (.int .i64 (y.1.1 : Int)) ∧ w'.cell? ⟨g, 1, none⟩ = some (.int .i64 (y.1.2 : Int)) ∧ w'.cell? ⟨wr.heap.size, 0, none⟩ = some (.int .i64 (x.s k 0)) ∧ ∃ L'', Mp w' (w.heap.size + 1) L'' ∧ ∀ q, lookV q L'' = lookV q L' := by
                  rintro w' (rfl | rfl)
                  · exact ⟨by have := K7.p.cell 0; simpa using this, by have := K7.d.cell 14; simpa [deskC] using this, by have := g7.cell 0; simpa using this, by have := g7.cell 1; simpa using this, by have := b7.cell 0; simpa using this, L', K7.m, fun _ => rfl⟩
                  · have K8 := K7.putM (touch y.1 L')
                    have g8 := Blk.putM g7 (K7.m.ne g7) (touch y.1 L')
                    have b8 := Blk.putM b7 (K7.m.ne b7) (touch y.1 L')
                    exact ⟨by have := K8.p.cell 0; simpa using this, by have := K8.d.cell 14; simpa [deskC] using this, by have := g8.cell 0; simpa using this, by have := g8.cell 1; simpa using this, by have := b8.cell 0; simpa using this, _, K8.m, fun q => lookV_touch q y.1 L'⟩
                have hs := hx.shand k hlt
                have hh := hx.hands
                refine wpE_val (.pointer (some ⟨w.heap.size + 2, 0, none⟩)) rfl (fun w => .inl rfl) (fun w' hw' => ?_) ?_
                · obtain ⟨f1, f2, f3, f4, f5, L'', f6, f7⟩ := hF w' hw'
                  simp [execOp, go_sem, f1]
                refine wpE_val (.pointer (some ⟨w.heap.size + 2, 0, none⟩)) rfl (fun w => .inl rfl) (fun w' hw' => ?_) ?_
                · obtain ⟨f1, f2, f3, f4, f5, L'', f6, f7⟩ := hF w' hw'
                  simp [execOp, go_sem]
                refine wpE_val (.pointer (some ⟨w.heap.size + 2, 14, none⟩)) rfl (fun w => .inl rfl) (fun w' hw' => ?_) ?_
                · obtain ⟨f1, f2, f3, f4, f5, L'', f6, f7⟩ := hF w' hw'
                  simp [execOp, go_sem]
                refine wpE_val (.map (some (w.heap.size + 1))) rfl (fun w => .inl rfl) (fun w' hw' => ?_) ?_
                · obtain ⟨f1, f2, f3, f4, f5, L'', f6, f7⟩ := hF w' hw'
                  simp [execOp, go_sem, f2]
                refine wpE_val (.agg #[.int .i64 (y.1.1 : Int), .int .i64 (y.1.2 : Int)]) rfl (fun w => .inl rfl) (fun w' hw' => ?_) ?_
                · obtain ⟨f1, f2, f3, f4, f5, L'', f6, f7⟩ := hF w' hw'
                  simp [execOp, go_sem, f3, f4]
                refine wpE_val (.int .i64 (lookV y.1 L' : Int)) rfl (fun w => .inl rfl) (fun w' hw' => ?_) ?_
                · obtain ⟨f1, f2, f3, f4, f5, L'', f6, f7⟩ := hF w' hw'
                  simp [execOp, go_sem, lookup_run f6, f7]
                refine wpE_val (.pointer (some ⟨wr.heap.size, 0, none⟩)) rfl (fun w => .inl rfl) (fun w' hw' => ?_) ?_
                · obtain ⟨f1, f2, f3, f4, f5, L'', f6, f7⟩ := hF w' hw'
                  simp [execOp, go_sem]
                refine wpE_val (.int .i64 (x.s k 0)) rfl (fun w => .inl rfl) (fun w' hw' => ?_) ?_
                · obtain ⟨f1, f2, f3, f4, f5, L'', f6, f7⟩ := hF w' hw'
                  simp [execOp, go_sem, f5]
                refine wpE_val (.int .i64 ((2 ^ (x.s k 0).toNat : Nat) : Int)) rfl (fun w => .inl rfl) (fun w' hw' => ?_) ?_
                · have : x.s k 0 = 0 ∨ x.s k 0 = 1 ∨ x.s k 0 = 2 ∨ x.s k 0 = 3 ∨ x.s k 0 = 4 ∨ x.s k 0 = 5 := by omega
                  rcases this with h | h | h | h | h | h <;> simp [execOp, go_sem, h] <;> rfl
                refine wpE_val (.int .i64 ((lookV y.1 L' ||| 2 ^ (x.s k 0).toNat : Nat) : Int)) rfl (fun w => .inl rfl) (fun w' hw' => ?_) ?_
                · have h3 := or64 hb1 hb2
                  simpa [execOp, go_sem] using h3
                refine wpE_entry y.1 K7.m rfl (fun w' => by simp [execOp, go_sem]; rfl) ?_
                refine wpE_val (.int .i64 (posOf y.1 L' : Int)) rfl (fun w => .inl rfl) (fun w' hw' => ?_) ?_
                · obtain ⟨f1, f2, f3, f4, f5, L'', f6, f7⟩ := hF w' hw'
                  simp [execOp, go_sem]
                rintro w' - ⟨-, rfl⟩
                have he := entryStore_run (w := putM w6.drew (w.heap.size + 1) (touch y.1 L')) K7.m.put (posOf_lt y.1 L') (lookV y.1 L' ||| 2 ^ (x.s k 0).toNat)
                refine wpList_plain rfl fun K hK => ?_
                unfold Oper.wp
                simp [execOp, go_sem]
                rw [he]
                refine hK _ _ ?_
                have K8 := K7.putM (putV y.1 (lookV y.1 L' ||| 2 ^ (x.s k 0).toNat) L')
                have g8 := Blk.putM g7 (K7.m.ne g7) (putV y.1 (lookV y.1 L' ||| 2 ^ (x.s k 0).toNat) L')
                have e8 : putM (putM w6.drew (w.heap.size + 1) (touch y.1 L')) (w.heap.size + 1) ((touch y.1 L').modify (posOf y.1 L') fun x_1 => (x_1.1, lookV y.1 L' ||| 2 ^ (x.s k 0).toNat)) = putM w6.drew (w.heap.size + 1) (putV y.1 (lookV y.1 L' ||| 2 ^ (x.s k 0).toNat) L') := putM_putM _ _ _ _
                rw [e8]
                have hI8 := hid (And.intro ((hI6.out.1.trans (.ext (Ext.refl w6).drew)).trans (KeepsFrom.putM (m := w.heap.size + 1) _ (putV y.1 (lookV y.1 L' ||| 2 ^ (x.s k 0).toNat) L') (by have := K1.p.lt; omega))) (And.intro ((hI6.out.2.1.trans (.ext (Ext.refl w6).drew (Nat.le_trans i0 hI6.out.2.1.1))).trans (KpM.putM (m := w.heap.size + 1) _ (putV y.1 (lookV y.1 L' ||| 2 ^ (x.s k 0).toNat) L') rfl)) (And.intro K8 (And.intro g8 hI6.out.2.2.2.2))))
                clear e8 he hF K7 g7 b7 K8 g8
                unfold wpList
                gi_wp2
                refine ⟨?_, by simp [intOf]; omega⟩
                refine ⟨k + 1, by omega, by go_num, putV y.1 (lookV y.1 L' ||| 2 ^ (x.s k 0).toNat) L', hid ⟨hI8.out.1, hI8.out.2.1, hI8.out.2.2.1, hI8.out.2.2.2.1, fun a b => ?_⟩⟩
                rw [lookV_putV]
                have h1 := hI8.out.2.2.2.2 a b
                by_cases e : (a, b) = y.1
                · rw [if_pos e, if_pos e, ← e]
                  rw [if_pos e] at h1
                  have ea : y.1.1 = a := by rw [← e]
                  have eb : y.1.2 = b := by rw [← e]
                  have HT := HT.out
                  rw [ea, eb] at HT
                  rw [h1]
                  simp [orTo, HT, Nat.or_assoc]
                · rw [if_neg e, if_neg e]
                  rw [if_neg e] at h1
                  exact h1
              · have q2 : decide (x.s k 2 > x.c y.1.1 0) = false := by simpa using o2
                have HT : Hid (P.thf x y.1.1 y.1.2 k = 0) := hid (if_neg fun h => o2 h.2)
                clear o1 o2
                refine wpIn_round_later (by kernel_rfl) (by kernel_rfl) (by kernel_rfl) (by rintro ⟨a, w, h⟩; exact h) ?_
                repeat (go_big_quiet_step (fail))
                refine wpQuiet_nil ?_
                rintro w6 ⟨⟨_, he6⟩, rfl⟩
                have hI6 := hid (And.intro ((hI5.out.1.trans (.ext he6))) (And.intro (hI5.out.2.1.trans (.ext he6 (Nat.le_trans i0 hI5.out.2.1.1))) (And.intro (hI5.out.2.2.1.ext he6) (And.intro (hI5.out.2.2.2.1.ext he6) hI5.out.2.2.2.2))))
                gi_wp2
                refine ⟨?_, by simp [intOf]; omega⟩
                refine ⟨k + 1, by omega, by go_num, L', hid ⟨hI6.out.1, hI6.out.2.1, hI6.out.2.2.1, hI6.out.2.2.2.1, fun a b => ?_⟩⟩
                rw [hI6.out.2.2.2.2 a b]
                by_cases e : (a, b) = y.1
                · rw [if_pos e, if_pos e]
                  have ea : y.1.1 = a := by rw [← e]
                  have eb : y.1.2 = b := by rw [← e]
                  have HT := HT.out
                  rw [ea, eb] at HT
                  simp [orTo, HT]
                · rw [if_neg e, if_neg e]
            · have q1 : decide (x.s k 1 < x.c y.1.2 0) = false := by simpa using o1
              have HT : Hid (P.thf x y.1.1 y.1.2 k = 0) := hid (if_neg fun h => o1 h.1)
              clear o1
              refine wpIn_round_later (by kernel_rfl) (by kernel_rfl) (by kernel_rfl) (by rintro ⟨a, w, h⟩; exact h) ?_
              repeat (go_big_quiet_step (fail))
              refine wpQuiet_nil ?_
              rintro w6 ⟨⟨_, he6⟩, rfl⟩
              have hI6 := hid (And.intro ((hI5.out.1.trans (.ext he6))) (And.intro (hI5.out.2.1.trans (.ext he6 (Nat.le_trans i0 hI5.out.2.1.1))) (And.intro (hI5.out.2.2.1.ext he6) (And.intro (hI5.out.2.2.2.1.ext he6) hI5.out.2.2.2.2))))
              gi_wp2
              refine ⟨?_, by simp [intOf]; omega⟩
              refine ⟨k + 1, by omega, by go_num, L', hid ⟨hI6.out.1, hI6.out.2.1, hI6.out.2.2.1, hI6.out.2.2.2.1, fun a b => ?_⟩⟩
              rw [hI6.out.2.2.2.2 a b]
              by_cases e : (a, b) = y.1
              · rw [if_pos e, if_pos e]
                have ea : y.1.1 = a := by rw [← e]
                have eb : y.1.2 = b := by rw [← e]
                have HT := HT.out
                rw [ea, eb] at HT
                simp [orTo, HT]
              · rw [if_neg e, if_neg e]
          · gi_wp2
            obtain rfl : k = x.sn := by omega
            obtain ⟨j1, j2, j3, j4, j5⟩ := hI.out
            refine ⟨j1, j2, Nat.le_trans i0 j2.1, L', j3, fun a b => ?_⟩
            rw [j5]
            have hy : fsts (pre ++ [y]) = fsts pre ++ [y.1] := by simp [fsts]
            rw [hy, I2.out a b]
            by_cases e : (a, b) = y.1
            · simp only [e, if_true, List.mem_append, List.mem_singleton, or_true]
              rw [show orTo (P.thf x a b) x.sn = P.th x a b from rfl]
              split <;> simp
            · simp [e]
      · rintro D ys W hD hys ⟨i0, L, i1, i2⟩ hK
        have kp := i1.p.cell
        have kpl := i1.p.lt
        go_wp2
        refine ⟨by simp, .inl ⟨_, _, rfl, run_takeDeferred hK, ?_⟩⟩
        have kp := Kc.put (.deferred none) hD hK rfl
        have i3 := i1.kc kp (by omega)
        refine ⟨_, results_tmp rfl _ _ _, _, rfl, i3.e, w.heap.size + 2, _, c1, A2, c2, A3, c3, w.heap.size + 1, L, rfl, i3.d, R1.out.ext i3.e, R2.out.ext i3.e, R3.out.ext i3.e, i3.m, fun a b hab hb' => ?_⟩
        rw [i2 a b, if_pos]
        rw [show fsts ys = stretches x.cn from hys]
        exact mem_stretches.2 ⟨hab, hb'⟩
end Go.Proofs.YtkhjmedfhobebaaGreat
