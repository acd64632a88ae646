/- The program's ledger at work: its block; the loans in their order. -/
import Derived.Test.YtbceepjjdfpfmaaGreatChkB
import Derived.Test.YtbceepjjdfpfmaaGreatMathB
import Derived.Test.YtbceepjjdfpfmaaGreatRng
import Derived.Test.YtbceepjjdfpfmaaGreatChg
import Derived.BigFrameIn
namespace Go.Proofs.YtbceepjjdfpfmaaGreat
open Go.RowKit HandSpec LoanSpec
attribute [local go_sem] Oper.semAt_some
set_option maxHeartbeats 2000000
set_option maxRecDepth 100000
/-- Where a ledger's lists lie. -/
structure LA where
  A1 : Option Addr
  c1 : Nat
  A2 : Option Addr
  c2 : Nat
  A3 : Option Addr
  c3 : Nat
  A4 : Option Addr
  c4 : Nat
  A5 : Option Addr
  c5 : Nat
def ledV (x : LD) (p : LA) : Value := .agg #[.int .i64 x.folk, .int .i64 x.years, .slice p.A1 x.bn p.c1, .slice p.A2 x.fn p.c2, .slice p.A3 x.ln p.c3, .slice p.A4 x.pn p.c4, .slice p.A5 x.mn p.c5]
/-- The lists that lie there are the ledger's. -/
structure IsLA (w : World) (x : LD) (p : LA) : Prop where
  r1 : Rd w p.A1 x.bn 1 (fun k _ => x.bad k)
  r2 : Rd w p.A2 x.fn 1 (fun k _ => x.fo k)
  r3 : Rd w p.A3 x.ln 3 x.lo
  r4 : Rd w p.A4 x.pn 3 x.pa
  r5 : Rd w p.A5 x.mn 3 x.pr
theorem IsLA.ext {w w' : World} {x : LD} {p : LA} (h : IsLA w x p) (e : Ext w w') : IsLA w' x p := ⟨h.r1.ext e, h.r2.ext e, h.r3.ext e, h.r4.ext e, h.r5.ext e⟩
theorem IsLA.isL {w : World} {x : LD} {p : LA} (h : IsLA w x p) : IsL w (ledV x p) x := ⟨_, _, _, _, _, _, _, _, _, _, rfl, h.r1, h.r2, h.r3, h.r4, h.r5⟩
theorem IsL.la {w : World} {v : Value} {x : LD} (h : IsL w v x) : ∃ p, v = ledV x p ∧ IsLA w x p := by
  obtain ⟨A1, c1, A2, c2, A3, c3, A4, c4, A5, c5, rfl, r1, r2, r3, r4, r5⟩ := h
  exact ⟨⟨A1, c1, A2, c2, A3, c3, A4, c4, A5, c5⟩, rfl, r1, r2, r3, r4, r5⟩
/-- The desk's cells: a ledger's, and what is booked. -/
def deskC (x : LD) (p : LA) (b : Nat → Int) : Array Value := #[.int .i64 x.folk, .int .i64 x.years, .slice p.A1 x.bn p.c1, .slice p.A2 x.fn p.c2, .slice p.A3 x.ln p.c3, .slice p.A4 x.pn p.c4, .slice p.A5 x.mn p.c5,
  .int .i64 (b 0), .int .i64 (b 1), .int .i64 (b 2), .int .i64 (b 3), .int .i64 (b 4), .int .i64 (b 5), .int .i64 (b 6), .int .i64 (b 7), .int .i64 (b 8), .int .i64 (b 9)]
theorem deskC_at {x : LD} {p : LA} {b : Nat → Int} {i : Nat} (hi : i < 10) : (deskC x p b)[7 + i]? = some (.int .i64 (b i)) := by
  rcases (by omega : i = 0 ∨ i = 1 ∨ i = 2 ∨ i = 3 ∨ i = 4 ∨ i = 5 ∨ i = 6 ∨ i = 7 ∨ i = 8 ∨ i = 9) with rfl | rfl | rfl | rfl | rfl | rfl | rfl | rfl | rfl | rfl <;> rfl
theorem deskC_set {x : LD} {p : LA} {b : Nat → Int} {i : Nat} (hi : i < 10) (z : Int) : (deskC x p b).setIfInBounds (7 + i) (.int .i64 z) = deskC x p (upd b i z) := by
  rcases (by omega : i = 0 ∨ i = 1 ∨ i = 2 ∨ i = 3 ∨ i = 4 ∨ i = 5 ∨ i = 6 ∨ i = 7 ∨ i = 8 ∨ i = 9) with rfl | rfl | rfl | rfl | rfl | rfl | rfl | rfl | rfl | rfl <;> rfl
theorem deskC_congr {x : LD} {p : LA} {b b' : Nat → Int} (h : ∀ i, i < 10 → b i = b' i) : deskC x p b = deskC x p b' := by
  unfold deskC
  rw [h 0 (by omega), h 1 (by omega), h 2 (by omega), h 3 (by omega), h 4 (by omega), h 5 (by omega), h 6 (by omega), h 7 (by omega), h 8 (by omega), h 9 (by omega)]
/-- A world behind the making of a desk at g, whose blocks of w1 but those of M are as they were. -/
structure AtD (w0 w1 : World) (M : Nat → Prop) (g : Nat) (x : LD) (p : LA) (W : World) : Prop where
  e : Ext w0 W
  sz : w1.heap.size ≤ W.heap.size
  same : ∀ k, k < w1.heap.size → ¬ M k → W.heap[k]? = w1.heap[k]?
  d : ∃ b, Blk W g 177 (deskC x p b)
namespace AtD
variable {w0 w1 W W' : World} {M : Nat → Prop} {g : Nat} {x : LD} {p : LA}
theorem ext (h : AtD w0 w1 M g x p W) (e : Ext W W') : AtD w0 w1 M g x p W' :=
  ⟨h.e.trans e, Nat.le_trans h.sz e.size, fun k hk hm => (e.block (Nat.lt_of_lt_of_le hk h.sz)).trans (h.same k hk hm), by obtain ⟨b, hb⟩ := h.d; exact ⟨b, hb.ext e⟩⟩
theorem blk (h : AtD w0 w1 M g x p W) {k : Nat} {t : TypeId} {C : Array Value} (b : Blk w1 k t C) (hm : ¬ M k) : Blk W k t C := (h.same k b.lt hm).trans b
theorem put (h : AtD w0 w1 M g x p W) {l : Nat} {o o' : Obj} (h0 : w0.heap.size ≤ w1.heap.size) (hl : w1.heap.size ≤ l) (ho : W.heap[l]? = some o) (hc : o.isCells = false) : AtD w0 w1 M g x p (W.putObj l o') := by
  refine ⟨h.e.kc (Kc.put o' hl ho hc) h0, by simpa using h.sz, fun k hk hm => ?_, ?_⟩
  · rw [World.putObj_heap_other (by omega)]
    exact h.same k hk hm
  · obtain ⟨b, hb⟩ := h.d
    refine ⟨b, ?_⟩
    unfold Blk at hb ⊢
    rw [World.putObj_heap_other]
    · exact hb
    · rintro rfl
      rw [hb] at ho
      cases ho
      cases hc
end AtD
/-- A function value that says which loans count, while the desk is at work. -/
def Cnts (w0 w1 : World) (M : Nat → Prop) (g : Nat) (x : LD) (p : LA) (fv : Value) (q : Nat → Bool) : Prop :=
  ∃ f caps, fv = .func (.func f) #[] caps ∧ (∀ args w, (callFunc f args).run Tryz.prog w = .ok (.enter f args) w) ∧
    ∀ i, i < x.ln → ∀ W, AtD w0 w1 M g x p W → Calls Tryz.prog f (#[.int .i64 (i : Int)] ++ caps) W (fun e w' => e = .returned (.bool (q i)) ∧ Ext W w')
theorem abides_ext {β : Type} {B : Nat} {J : β → World → Prop} (h : AbidesFrom B J) {s : β} {W W' : World} (hj : J s W) (e : Ext W W') : J s W' :=
  h s W W' none hj ⟨Below.os e, Below.tape e, Below.output e, e.size, fun _ hk _ => e.block hk⟩ fun _ e => by cases e
theorem ofYear_to {x : LD} {y k : Nat} : ((List.range (k+1)).filter fun i => decide (x.lo i 1 = (y : Int))) = ((List.range k).filter fun i => decide (x.lo i 1 = (y : Int))) ++ if x.lo k 1 = (y : Int) then [k] else [] := by
  rw [List.range_succ, List.filter_append]
  by_cases h : x.lo k 1 = (y : Int) <;> simp [h]
theorem orderTo_length {x : LD} : ∀ n, (P.orderTo x n).length ≤ n * x.ln
  | 0 => by simp [P.orderTo]
  | n+1 => by
    rw [P.orderTo_succ, List.length_append, Nat.succ_mul]
    have := orderTo_length (x := x) n
    have h : (P.ofYear x n).length ≤ x.ln := Nat.le_trans (List.length_filter_le _ _) (by simp)
    omega
/-- A loan that there is. -/
abbrev Lo (x : LD) := { i : Nat // i < x.ln }
def los {x : LD} (l : List (Lo x)) : List Nat := l.map Subtype.val
theorem los_snoc {x : LD} (l : List (Lo x)) (i : Lo x) : los (l ++ [i]) = los l ++ [i.1] := by simp [los]
theorem los_length {x : LD} (l : List (Lo x)) : (los l).length = l.length := by simp [los]
theorem loans190_stops {w0 w1 : World} {M : Nat → Prop} {g : Nat} {x : LD} {p : LA} (hx : Ok x) (hl : IsLA w0 x p) {k1 k2 t1 t2 : Nat} {fv : Value} (h1 : Blk w1 k1 t1 #[.pointer (some ⟨g, 0, none⟩)]) (m1 : ¬ M k1) (h2 : Blk w1 k2 t2 #[fv]) (m2 : ¬ M k2)
    (ha : AtD w0 w1 M g x p w1) {q : Nat → Bool} (hc : Cnts w0 w1 M g x p fv q) :
    SeqStopsK Fence.wide 2 Tryz.prog 190 #[.pointer (some ⟨k1, 0, none⟩), .pointer (some ⟨k2, 0, none⟩)] (fun i : Lo x => #[.int .i64 (i.1 : Int)]) (fun A B => AtD w0 w1 M g x p A → AtD w0 w1 M g x p B) (fun xs => los xs = (P.order x).filter q) (fun _ => True) 100 w1 := by
  intro l J Jx W hW hAb hAbx hY h0
  have HB := hid hAb
  have HBx := hid hAbx
  have HA := ha.ext hW
  have HY := hid hY
  have hyr := hx.years
  have hln := hx.ln
  obtain ⟨fn, caps, rfl, hfn, hf⟩ := hc
  have HF := hid hf
  have HL := hid hl
  have H1 := hid h1
  have H2 := hid h2
  have M1 := hid m1
  have M2 := hid m2
  clear hY ha hW hf hl h1 h2 m1 m2 hAb hAbx
  obtain ⟨A1, c1, A2, c2, A3, c3, A4, c4, A5, c5⟩ := p
  refine callsIn_of_wp Tryz.func190 rfl trivial ?_ rfl
  simp only [Tryz.ntmps190, List.size_toArray, List.length_cons, List.length_nil, Nat.reduceAdd, Nat.reduceSub, Array.replicate_succ, Array.replicate_zero, List.push_toArray, List.append_toArray, List.nil_append, List.cons_append]
  obtain ⟨b0, hb0⟩ := HA.d
  have k1c := (HA.blk H1.out M1.out).cell
  have k1l := (HA.blk H1.out M1.out).lt
  have kd := hb0.cell
  unfold deskC at kd
  have kdl := hb0.lt
  gi_wp2
  clear k1c k1l kd kdl hb0 b0
  gi_loopw [12] (fun i wr => ∃ (y : Nat) (pre : List (Lo x)), (y : Int) ≤ x.years ∧ i = .int .i64 (y : Int) ∧ Hid (los pre = (P.orderTo x y).filter q) ∧ J pre wr ∧ AtD w0 w1 M g x ⟨A1, c1, A2, c2, A3, c3, A4, c4, A5, c5⟩ wr) (fun i _ => 20 - (intOf i).toNat)
  case atStart => exact ⟨0, [], by omega, rfl, hid rfl, h0, HA⟩
  case round =>
    obtain ⟨y, pre, hy, rfl, hp, hJ, hA⟩ := hrel
    obtain ⟨b0, hb0⟩ := hA.d
    have k1c := (hA.blk H1.out M1.out).cell
    have k1l := (hA.blk H1.out M1.out).lt
    have kd := hb0.cell
    unfold deskC at kd
    have kdl := hb0.lt
    by_cases hlt : (y : Int) < x.years
    · obtain ⟨wo, rfl⟩ : ∃ wo : World, wo = wr := ⟨_, rfl⟩
      gi_wp2
      clear k1c k1l kd kdl hb0 b0
      gi_loopw [21] (fun kk wr => ∃ (k : Nat) (pre : List (Lo x)), k ≤ x.ln ∧ kk = .int .i64 (k : Int) ∧ Hid (los pre = (P.orderTo x y ++ (List.range k).filter fun i => decide (x.lo i 1 = (y : Int))).filter q) ∧ J pre wr ∧ AtD w0 w1 M g x ⟨A1, c1, A2, c2, A3, c3, A4, c4, A5, c5⟩ wr) (fun kk _ => x.ln - (intOf kk).toNat)
      case atStart => exact ⟨0, pre, by omega, rfl, hid (by rw [hp.out]; simp), hJ, hA⟩
      case round =>
        obtain ⟨k, pre, hk, rfl, hp, hJ, hA⟩ := hrel
        by_cases hks : k < x.ln
        · obtain ⟨ga, oa, hA3, hga, q0, q1, q2⟩ := (HL.out.r3.ext hA.e).at3 hks
          dsimp only at hA3
          subst hA3
          have hki : (k : Int) < (x.ln : Int) := by omega
          have hlen : pre.length < 100 := by
            rw [← los_length, hp.out]
            refine Nat.lt_of_le_of_lt (List.length_filter_le _ _) ?_
            rw [List.length_append]
            have a1 := orderTo_length (x := x) y
            have a2 : y * x.ln ≤ 9 * 10 := Nat.mul_le_mul (by omega) hln
            have a3 := List.length_filter_le (fun i => decide (x.lo i 1 = (y : Int))) (List.range k)
            rw [List.length_range] at a3
            omega
          obtain ⟨z, hz⟩ : ∃ z, Hid (z = x.lo k 1) := ⟨_, hid rfl⟩
          rw [← hz.out] at q1
          have k2c := (hA.blk H2.out M2.out).cell
          have k2l := (hA.blk H2.out M2.out).lt
          by_cases hzy : z = (y : Int)
          · have hzb : (z == (y : Int)) = true := by simpa using hzy
            have hst : ∀ r, (q k = r) → Hid ((P.orderTo x y ++ (List.range (k+1)).filter fun i => decide (x.lo i 1 = (y : Int))).filter q = (P.orderTo x y ++ (List.range k).filter fun i => decide (x.lo i 1 = (y : Int))).filter q ++ if r then [k] else []) := fun r hr => hid (by
              rw [ofYear_to, if_pos (by rw [← hz.out]; exact hzy), ← List.append_assoc, List.filter_append (p := q) (l₂ := [k])]
              congr 1
              rw [List.filter_cons, hr]; cases r <;> rfl)
            have HZ := hid hzy
            clear hzy
            cases hq : q k
            · have HS := hst _ hq
              have HQ := hid hq
              clear hq hst
              gi_wp2_with (refine (callsIn_wide.2 (HF.out k hks _ (hA.ext ((Ext.refl _).alloc _)))).mono ?_; rintro e w2 ⟨rfl, he2⟩; rw [HQ.out])
              go_roundw
              case rel => exact ⟨k + 1, pre, by omega, by go_num, hid (by rw [hp.out, HS.out]; simp), abides_ext HB.out hJ (((Ext.refl _).alloc _).trans he2), hA.ext (((Ext.refl _).alloc _).trans he2)⟩
              case measure => simp [intOf]; omega
            · have HS := hst _ hq
              have HQ := hid hq
              clear hq hst
              gi_wp2_with (first
                | (refine (callsIn_wide.2 (HF.out k hks _ (hA.ext ((Ext.refl _).alloc _)))).mono ?_; rintro e w2 ⟨rfl, he2⟩; rw [HQ.out]; have hA2 := hA.ext (((Ext.refl _).alloc _).trans he2); have hJ2 := abides_ext HB.out hJ (((Ext.refl _).alloc _).trans he2); obtain ⟨fy, tmps, assign, body, hy, hR⟩ := HY.out pre ⟨k, hks⟩ w2 hJ2 hlen)
                | (refine hR.mono ?_; rintro e W3 (⟨rfl, hJ3, hk3⟩ | ⟨rfl, hJx3⟩)))
              · go_roundw
                case rel => exact ⟨k + 1, pre ++ [⟨k, hks⟩], by omega, by go_num, hid (by rw [los_snoc, hp.out, HS.out]; simp), hJ3, hk3 hA2⟩
                case measure => simp [intOf]; omega
              · refine bodyPost_ret (results_none rfl _ _ _) rfl ?_
                exact ⟨⟨_, rfl⟩, .inr ⟨_, trivial, hJx3⟩⟩
          · have hzb : (z == (y : Int)) = false := by simpa using hzy
            have hst : Hid ((P.orderTo x y ++ (List.range (k+1)).filter fun i => decide (x.lo i 1 = (y : Int))).filter q = (P.orderTo x y ++ (List.range k).filter fun i => decide (x.lo i 1 = (y : Int))).filter q) := hid (by
              rw [ofYear_to, if_neg (by rw [← hz.out]; exact hzy), List.append_nil])
            clear hzy
            gi_wp2_with fail
            go_roundw
            case rel => exact ⟨k + 1, pre, by omega, by go_num, hid (by rw [hp.out, hst.out]), abides_ext HB.out hJ ((Ext.refl _).alloc _), hA.ext ((Ext.refl _).alloc _)⟩
            case measure => simp [intOf]; omega
        · gi_wp2
          go_roundw
          case rel =>
            obtain rfl : k = x.ln := by omega
            exact ⟨y + 1, pre, by omega, by go_num, hid (by rw [hp.out, P.orderTo_succ]; rfl), hJ, hA⟩
          case measure => simp [intOf]; omega
    · gi_wp2
      go_end0
      have hyy : y = x.years.toNat := by omega
      exact ⟨⟨_, rfl⟩, .inl ⟨pre, by rw [hp.out, hyy]; rfl, hJ⟩⟩
theorem loans162 (w : World) (g : Nat) (fv : Value) : Calls Tryz.prog 162 #[.pointer (some ⟨g, 0, none⟩), .agg #[fv]] w fun e w' => e = .returned (.func (.func 190) #[] #[.pointer (some ⟨w.heap.size, 0, none⟩), .pointer (some ⟨w.heap.size + 1, 0, none⟩)]) ∧ Ext w w' ∧ Blk w' w.heap.size 148 #[.pointer (some ⟨g, 0, none⟩)] ∧ Blk w' (w.heap.size + 1) 153 #[fv] := by
  have hmf : ∀ (fn : Fn) (first cap : Array Value) (w : World), (Instr.makeFunc fn first cap).run Tryz.prog w = .ok (.func fn first cap) w := fun _ _ _ _ => rfl
  go_enter Tryz.func162, Tryz.ntmps162
  go_wp2
  go_ret
  refine ⟨rfl, ((Ext.refl _).alloc _).alloc _, (Blk.new _ _ _).ext ((Ext.refl _).alloc _), ?_⟩
  have := Blk.new (w.alloc (.cells #[.pointer (some ⟨g, 0, none⟩)] 148)) 153 #[fv]
  simpa using this
theorem least141 {w : World} {A : Option Addr} {cap : Nat} (n z : Int) (hr : Rd w A 1 1 (fun _ _ => z)) :
    Calls Tryz.prog 141 #[.int .i64 n, .slice A 1 cap] w fun e w' => e = .returned (.int .i64 (min n z)) ∧ w = w' := by
  obtain ⟨b, o, rfl, hb, h0⟩ := hr.at1 (show 0 < 1 by omega)
  simp only [Nat.add_zero] at h0
  go_enter Tryz.func141, Tryz.ntmps141
  go_wp2
  go_loop [0, 9] (fun a i => ∃ k : Nat, k ≤ 1 ∧ i = .int .i64 (k : Int) ∧ a = .int .i64 (if k = 0 then n else min n z)) (fun _ i => 1 - (intOf i).toNat)
  case atStart => exact ⟨0, by omega, rfl, rfl⟩
  case round =>
    obtain ⟨k, hk, rfl, rfl⟩ := hrel
    by_cases hlt : k < 1
    · obtain rfl : k = 0 := by omega
      rw [if_pos rfl]
      go_wp2
      go_round
      all_goals first
        | exact ⟨1, by omega, rfl, by simp only [Nat.one_ne_zero, if_false]; first | rfl | (congr 1; omega)⟩
        | simp [intOf]
    · obtain rfl : k = 1 := by omega
      rw [if_neg (by omega)]
      go_wp2
      go_ret
      exact ⟨rfl, rfl⟩
theorem opened_ok {x : LD} {p : LA} {w : World} (hl : IsLA w x p) (hs : x.chk = 0) (h1 : x.bn ≤ 1000) (h2 : x.fn ≤ 1000) (h3 : x.ln ≤ 1000) (h4 : x.pn ≤ 1000) (h5 : x.mn ≤ 1000) :
    Calls Tryz.prog 136 #[ledV x p] w fun e w' => ∃ g, e = .returned (.tuple #[.pointer (some ⟨g, 0, none⟩), .int .i64 0]) ∧ Ext w w' ∧ w.heap.size ≤ g ∧ Blk w' g 177 (deskC x p fun _ => 0) := by
  have HL := hid hl
  have HS := hid hs
  clear hl hs
  have B0 := hid (Blk.new w 27 #[.int .i64 x.folk, .int .i64 x.years, .slice p.A1 x.bn p.c1, .slice p.A2 x.fn p.c2, .slice p.A3 x.ln p.c3, .slice p.A4 x.pn p.c4, .slice p.A5 x.mn p.c5])
  have E0 : Ext w (w.alloc (.cells #[.int .i64 x.folk, .int .i64 x.years, .slice p.A1 x.bn p.c1, .slice p.A2 x.fn p.c2, .slice p.A3 x.ln p.c3, .slice p.A4 x.pn p.c4, .slice p.A5 x.mn p.c5] 27)) := (Ext.refl _).alloc _
  have HI := (HL.out.ext E0).isL
  unfold ledV at HI ⊢
  have HI := hid HI
  go_enter Tryz.func136, Tryz.ntmps136
  go_wp2_with (go_at_call 37; refine (check37 HI.out h1 h2 h3 h4 h5).mono ?_; rintro e w2 ⟨rfl, he2⟩; rw [HS.out]; have k0 := (B0.out.ext he2).cell; have k0l := (B0.out.ext he2).lt)
  go_ret2
  refine ⟨_, rfl, (E0.trans he2).alloc _, Nat.le_trans E0.size he2.size, ?_⟩
  exact Blk.new _ _ _
theorem opened_bad {x : LD} {p : LA} {w : World} (hl : IsLA w x p) {s : Int} (hs : x.chk = s) (h0 : (s == 0) = false) (h1 : x.bn ≤ 1000) (h2 : x.fn ≤ 1000) (h3 : x.ln ≤ 1000) (h4 : x.pn ≤ 1000) (h5 : x.mn ≤ 1000) :
    Calls Tryz.prog 136 #[ledV x p] w fun e w' => e = .returned (.tuple #[.pointer none, .int .i64 s]) ∧ Ext w w' := by
  have HL := hid hl
  have HS := hid hs
  clear hl hs
  have B0 := hid (Blk.new w 27 #[.int .i64 x.folk, .int .i64 x.years, .slice p.A1 x.bn p.c1, .slice p.A2 x.fn p.c2, .slice p.A3 x.ln p.c3, .slice p.A4 x.pn p.c4, .slice p.A5 x.mn p.c5])
  have E0 : Ext w (w.alloc (.cells #[.int .i64 x.folk, .int .i64 x.years, .slice p.A1 x.bn p.c1, .slice p.A2 x.fn p.c2, .slice p.A3 x.ln p.c3, .slice p.A4 x.pn p.c4, .slice p.A5 x.mn p.c5] 27)) := (Ext.refl _).alloc _
  have HI := (HL.out.ext E0).isL
  unfold ledV at HI ⊢
  have HI := hid HI
  have h0n : (s != 0) = true := by simp [bne, h0]
  go_enter Tryz.func136, Tryz.ntmps136
  go_wp2_with (go_at_call 37; refine (check37 HI.out h1 h2 h3 h4 h5).mono ?_; rintro e w2 ⟨rfl, he2⟩; rw [HS.out]; have k0 := (B0.out.ext he2).cell; have k0l := (B0.out.ext he2).lt)
  go_ret2
  exact ⟨rfl, E0.trans he2⟩
end Go.Proofs.YtbceepjjdfpfmaaGreat
