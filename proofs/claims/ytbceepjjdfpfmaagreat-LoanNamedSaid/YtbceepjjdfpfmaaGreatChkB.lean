/- The walk of the program's Check of a ledger. The lists are not longer than a thousand. -/
import Derived.Test.YtbceepjjdfpfmaaGreatChkA
namespace Go.Proofs.YtbceepjjdfpfmaaGreat
open Go.RowKit HandSpec LoanSpec
set_option maxHeartbeats 3200000
set_option maxRecDepth 100000
theorem any_or {p q : Nat → Bool} : ∀ {n : Nat}, anyTo (fun k => p k || q k) n = (anyTo p n || anyTo q n)
  | 0 => rfl
  | n+1 => by
    show (anyTo (fun k => p k || q k) n || (p n || q n)) = ((anyTo p n || p n) || (anyTo q n || q n))
    rw [any_or (n := n)]
    cases anyTo p n <;> cases anyTo q n <;> cases p n <;> cases q n <;> rfl
theorem chk_parts (x : LD) : x.chk = if x.many then 2 else if (anyTo (fun k => !(inB (x.lo k 2) 1 500)) x.ln || (anyTo (fun k => !(inB (x.pa k 2) 1 500)) x.pn || anyTo (fun k => !(inB (x.pr k 2) 1 500)) x.mn)) then 3 else if (anyTo (fun k => !(inB (x.lo k 0) 1 (x.folk - 1) && inB (x.lo k 1) 0 (x.years - 1))) x.ln || (anyTo (fun k => !(inB (x.pa k 0) 1 (x.folk - 1) && inB (x.pa k 1) 0 (x.years - 1))) x.pn || (anyTo (fun k => !(inB (x.pr k 0) 0 (x.folk - 1) && inB (x.pr k 1) 0 (x.folk - 1))) x.mn || (anyTo (fun k => !(inB (x.bad k) 0 (x.years - 1))) x.bn || anyTo (fun k => !(inB (x.fo k) 0 ((x.ln : Int) - 1))) x.fn)))) then 1 else if anyTo (fun k => !(!(x.pr k 0 == x.pr k 1))) x.mn then 5 else if (fallB x.bad x.bn || (fallB x.fo x.fn || anyTo (fun i => decide (x.pa (i+1) 1 < x.pa i 1)) (x.pn - 1))) then 4 else 0 := by
  unfold LD.chk LD.wideB LD.notB LD.sameB LD.orderB
  simp only [offB_eq, Bool.not_and, Bool.not_not]
theorem chk_bad0 (x : LD) {b1 : Bool} {b2 : Bool} {b3 : Bool} (hm : x.many = false) (hb1 : anyTo (fun k => !(inB (x.lo k 2) 1 500)) x.ln = b1) (hb2 : anyTo (fun k => !(inB (x.pa k 2) 1 500)) x.pn = b2) (hb3 : anyTo (fun k => !(inB (x.pr k 2) 1 500)) x.mn = b3)  (o0 : (b1 || b2 || b3) = true) : (3 : Int) = x.chk := by
  rw [chk_parts, hm, hb1, hb2, hb3]
  clear hb1 hb2 hb3 hm
  cases b1 <;> cases b2 <;> cases b3 <;> first | exact absurd o0 (by decide) | simp
theorem chk_bad1 (x : LD) {b1 : Bool} {b2 : Bool} {b3 : Bool} {b4 : Bool} {b5 : Bool} (hm : x.many = false) (hb1 : anyTo (fun k => !(inB (x.lo k 2) 1 500)) x.ln = b1) (hb2 : anyTo (fun k => !(inB (x.pa k 2) 1 500)) x.pn = b2) (hb3 : anyTo (fun k => !(inB (x.pr k 2) 1 500)) x.mn = b3) (hb4 : anyTo (fun k => !(inB (x.bad k) 0 (x.years - 1))) x.bn = b4) (hb5 : anyTo (fun k => !(inB (x.fo k) 0 ((x.ln : Int) - 1))) x.fn = b5) (o0 : (b1 || b2 || b3) = false) (o1 : (b4 || b5) = true) : (1 : Int) = x.chk := by
  rw [chk_parts, hm, hb1, hb2, hb3, hb4, hb5]
  simp only [Bool.or_eq_false_iff] at o0
  obtain ⟨⟨rfl, rfl⟩, rfl⟩ := o0
  clear hb1 hb2 hb3 hb4 hb5 hm
  cases b4 <;> cases b5 <;> first | exact absurd o1 (by decide) | simp
theorem chk_bad2 (x : LD) {b1 : Bool} {b2 : Bool} {b3 : Bool} {b4 : Bool} {b5 : Bool} {b6 : Bool} {b7 : Bool} (hm : x.many = false) (hb1 : anyTo (fun k => !(inB (x.lo k 2) 1 500)) x.ln = b1) (hb2 : anyTo (fun k => !(inB (x.pa k 2) 1 500)) x.pn = b2) (hb3 : anyTo (fun k => !(inB (x.pr k 2) 1 500)) x.mn = b3) (hb4 : anyTo (fun k => !(inB (x.bad k) 0 (x.years - 1))) x.bn = b4) (hb5 : anyTo (fun k => !(inB (x.fo k) 0 ((x.ln : Int) - 1))) x.fn = b5) (hb6 : anyTo (fun k => !(inB (x.lo k 0) 1 (x.folk - 1) && inB (x.lo k 1) 0 (x.years - 1))) x.ln = b6) (hb7 : anyTo (fun k => !(inB (x.pa k 0) 1 (x.folk - 1) && inB (x.pa k 1) 0 (x.years - 1))) x.pn = b7) (o0 : (b1 || b2 || b3) = false) (o1 : (b4 || b5) = false) (o2 : (b6 || b7) = true) : (1 : Int) = x.chk := by
  rw [chk_parts, hm, hb1, hb2, hb3, hb4, hb5, hb6, hb7]
  simp only [Bool.or_eq_false_iff] at o0
  obtain ⟨⟨rfl, rfl⟩, rfl⟩ := o0
  simp only [Bool.or_eq_false_iff] at o1
  obtain ⟨rfl, rfl⟩ := o1
  clear hb1 hb2 hb3 hb4 hb5 hb6 hb7 hm
  cases b6 <;> cases b7 <;> first | exact absurd o2 (by decide) | simp
theorem chk_bad3 (x : LD) {b1 : Bool} {b2 : Bool} {b3 : Bool} {b4 : Bool} {b5 : Bool} {b6 : Bool} {b7 : Bool} {b8 : Bool} (hm : x.many = false) (hb1 : anyTo (fun k => !(inB (x.lo k 2) 1 500)) x.ln = b1) (hb2 : anyTo (fun k => !(inB (x.pa k 2) 1 500)) x.pn = b2) (hb3 : anyTo (fun k => !(inB (x.pr k 2) 1 500)) x.mn = b3) (hb4 : anyTo (fun k => !(inB (x.bad k) 0 (x.years - 1))) x.bn = b4) (hb5 : anyTo (fun k => !(inB (x.fo k) 0 ((x.ln : Int) - 1))) x.fn = b5) (hb6 : anyTo (fun k => !(inB (x.lo k 0) 1 (x.folk - 1) && inB (x.lo k 1) 0 (x.years - 1))) x.ln = b6) (hb7 : anyTo (fun k => !(inB (x.pa k 0) 1 (x.folk - 1) && inB (x.pa k 1) 0 (x.years - 1))) x.pn = b7) (hb8 : anyTo (fun k => !(inB (x.pr k 0) 0 (x.folk - 1) && inB (x.pr k 1) 0 (x.folk - 1))) x.mn = b8) (o0 : (b1 || b2 || b3) = false) (o1 : (b4 || b5) = false) (o2 : (b6 || b7) = false) (o3 : (b8) = true) : (1 : Int) = x.chk := by
  rw [chk_parts, hm, hb1, hb2, hb3, hb4, hb5, hb6, hb7, hb8]
  simp only [Bool.or_eq_false_iff] at o0
  obtain ⟨⟨rfl, rfl⟩, rfl⟩ := o0
  simp only [Bool.or_eq_false_iff] at o1
  obtain ⟨rfl, rfl⟩ := o1
  simp only [Bool.or_eq_false_iff] at o2
  obtain ⟨rfl, rfl⟩ := o2
  clear hb1 hb2 hb3 hb4 hb5 hb6 hb7 hb8 hm
  cases b8 <;> first | exact absurd o3 (by decide) | simp
theorem chk_bad4 (x : LD) {b1 : Bool} {b2 : Bool} {b3 : Bool} {b4 : Bool} {b5 : Bool} {b6 : Bool} {b7 : Bool} {b8 : Bool} {b9 : Bool} (hm : x.many = false) (hb1 : anyTo (fun k => !(inB (x.lo k 2) 1 500)) x.ln = b1) (hb2 : anyTo (fun k => !(inB (x.pa k 2) 1 500)) x.pn = b2) (hb3 : anyTo (fun k => !(inB (x.pr k 2) 1 500)) x.mn = b3) (hb4 : anyTo (fun k => !(inB (x.bad k) 0 (x.years - 1))) x.bn = b4) (hb5 : anyTo (fun k => !(inB (x.fo k) 0 ((x.ln : Int) - 1))) x.fn = b5) (hb6 : anyTo (fun k => !(inB (x.lo k 0) 1 (x.folk - 1) && inB (x.lo k 1) 0 (x.years - 1))) x.ln = b6) (hb7 : anyTo (fun k => !(inB (x.pa k 0) 1 (x.folk - 1) && inB (x.pa k 1) 0 (x.years - 1))) x.pn = b7) (hb8 : anyTo (fun k => !(inB (x.pr k 0) 0 (x.folk - 1) && inB (x.pr k 1) 0 (x.folk - 1))) x.mn = b8) (hb9 : anyTo (fun k => !(!(x.pr k 0 == x.pr k 1))) x.mn = b9) (o0 : (b1 || b2 || b3) = false) (o1 : (b4 || b5) = false) (o2 : (b6 || b7) = false) (o3 : (b8) = false) (o4 : (b9) = true) : (5 : Int) = x.chk := by
  rw [chk_parts, hm, hb1, hb2, hb3, hb4, hb5, hb6, hb7, hb8, hb9]
  simp only [Bool.or_eq_false_iff] at o0
  obtain ⟨⟨rfl, rfl⟩, rfl⟩ := o0
  simp only [Bool.or_eq_false_iff] at o1
  obtain ⟨rfl, rfl⟩ := o1
  simp only [Bool.or_eq_false_iff] at o2
  obtain ⟨rfl, rfl⟩ := o2
  obtain rfl := o3
  clear hb1 hb2 hb3 hb4 hb5 hb6 hb7 hb8 hb9 hm
  cases b9 <;> first | exact absurd o4 (by decide) | simp
theorem chk_end (x : LD) {b1 : Bool} {b2 : Bool} {b3 : Bool} {b4 : Bool} {b5 : Bool} {b6 : Bool} {b7 : Bool} {b8 : Bool} {b9 : Bool} {b10 b11 b12 : Bool} (hm : x.many = false) (hb1 : anyTo (fun k => !(inB (x.lo k 2) 1 500)) x.ln = b1) (hb2 : anyTo (fun k => !(inB (x.pa k 2) 1 500)) x.pn = b2) (hb3 : anyTo (fun k => !(inB (x.pr k 2) 1 500)) x.mn = b3) (hb4 : anyTo (fun k => !(inB (x.bad k) 0 (x.years - 1))) x.bn = b4) (hb5 : anyTo (fun k => !(inB (x.fo k) 0 ((x.ln : Int) - 1))) x.fn = b5) (hb6 : anyTo (fun k => !(inB (x.lo k 0) 1 (x.folk - 1) && inB (x.lo k 1) 0 (x.years - 1))) x.ln = b6) (hb7 : anyTo (fun k => !(inB (x.pa k 0) 1 (x.folk - 1) && inB (x.pa k 1) 0 (x.years - 1))) x.pn = b7) (hb8 : anyTo (fun k => !(inB (x.pr k 0) 0 (x.folk - 1) && inB (x.pr k 1) 0 (x.folk - 1))) x.mn = b8) (hb9 : anyTo (fun k => !(!(x.pr k 0 == x.pr k 1))) x.mn = b9) (o0 : (b1 || b2 || b3) = false) (o1 : (b4 || b5) = false) (o2 : (b6 || b7) = false) (o3 : (b8) = false) (o4 : (b9) = false) (h10 : fallB x.bad x.bn = b10) (h11 : fallB x.fo x.fn = b11) (h12 : anyTo (fun i => decide (x.pa (i+1) 1 < x.pa i 1)) (x.pn - 1) = b12) : x.chk = if (b10 || b11 || b12) then 4 else 0 := by
  rw [chk_parts, hm, hb1, hb2, hb3, hb4, hb5, hb6, hb7, hb8, hb9, h10, h11, h12]
  simp only [Bool.or_eq_false_iff] at o0
  obtain ⟨⟨rfl, rfl⟩, rfl⟩ := o0
  simp only [Bool.or_eq_false_iff] at o1
  obtain ⟨rfl, rfl⟩ := o1
  simp only [Bool.or_eq_false_iff] at o2
  obtain ⟨rfl, rfl⟩ := o2
  obtain rfl := o3
  obtain rfl := o4
  clear hb1 hb2 hb3 hb4 hb5 hb6 hb7 hb8 hb9 hm h10 h11 h12
  cases b10 <;> cases b11 <;> cases b12 <;> simp
theorem check37 {x : LD} {w : World} {v : Value} (hv : IsL w v x) (h1 : x.bn ≤ 1000) (h2 : x.fn ≤ 1000) (h3 : x.ln ≤ 1000) (h4 : x.pn ≤ 1000) (h5 : x.mn ≤ 1000) :
    Calls Tryz.prog 37 #[v] w fun e w' => e = .returned (.int .i64 x.chk) ∧ Ext w w' := by
  have HV := hid hv
  obtain ⟨A1, c1, A2, c2, A3, c3, A4, c4, A5, c5, rfl, r1, r2, r3, r4, r5⟩ := hv
  have hmf : ∀ (fn : Fn) (first cap : Array Value) (w : World), (Instr.makeFunc fn first cap).run Tryz.prog w = .ok (.func fn first cap) w := fun _ _ _ _ => rfl
  have hst : (store ⟨w.heap.size + 1, 0, none⟩ (.func (.func 118) #[.agg #[.int .i64 x.folk, .int .i64 x.years, .slice A1 x.bn c1, .slice A2 x.fn c2, .slice A3 x.ln c3, .slice A4 x.pn c4, .slice A5 x.mn c5]] #[])).run Tryz.prog ((w.alloc (.cells #[.int .i64 x.folk, .int .i64 x.years, .slice A1 x.bn c1, .slice A2 x.fn c2, .slice A3 x.ln c3, .slice A4 x.pn c4, .slice A5 x.mn c5] 27)).alloc (.cells #[.nilFunc] 70))
    = .ok () (((w.alloc (.cells #[.int .i64 x.folk, .int .i64 x.years, .slice A1 x.bn c1, .slice A2 x.fn c2, .slice A3 x.ln c3, .slice A4 x.pn c4, .slice A5 x.mn c5] 27)).alloc (.cells #[.nilFunc] 70)).setCell ⟨w.heap.size + 1, 0, none⟩ (.func (.func 118) #[.agg #[.int .i64 x.folk, .int .i64 x.years, .slice A1 x.bn c1, .slice A2 x.fn c2, .slice A3 x.ln c3, .slice A4 x.pn c4, .slice A5 x.mn c5]] #[])) := by
    have b2 := Blk.new (w.alloc (.cells #[.int .i64 x.folk, .int .i64 x.years, .slice A1 x.bn c1, .slice A2 x.fn c2, .slice A3 x.ln c3, .slice A4 x.pn c4, .slice A5 x.mn c5] 27)) 70 #[.nilFunc]
    have k := b2.cell 0
    have f := b2.frozen 0
    simp only [World.size_alloc] at k f
    rw [run_store _ _ _ _ _ (by rfl), k, f]; rfl
  have R1 := hid r1
  have R2 := hid r2
  have R3 := hid r3
  have R4 := hid r4
  have R5 := hid r5
  clear r1 r2 r3 r4 r5
  go_enter Tryz.func37, Tryz.ntmps37
  go_upto_region 2 with fail
  refine wp_later fun w1 hw1 => ?_
  obtain ⟨E0, B1, B3⟩ := hw1.newB2
  have HB1 := hid B1
  have HB3 := hid B3
  clear hw1 hst B1 B3
  go_cut [6] (fun s W => s = .bool x.many ∧ Hid (Ext w1 W))
  case first =>
    have k1 := HB1.out.cell
    have k1l := HB1.out.lt
    cases q1 : inB x.folk 1 7
    · have Q1 := hid q1
      clear q1
      go_wp2_with (go_at_call 101; refine (in_any _ _ _ _).mono ?_; rintro e w2 ⟨rfl, rfl⟩; rw [Q1.out])
      go_meet
      exact ⟨by simp [LD.many, offB_eq, Q1.out], hid (Ext.refl _)⟩
    · have Q1 := hid q1
      clear q1
      cases q2 : inB x.years 1 9
      · have Q2 := hid q2
        clear q2
        go_wp2_with (go_at_call 101; refine (in_any _ _ _ _).mono ?_; rintro e w2 ⟨rfl, rfl⟩; first | rw [Q1.out] | rw [Q2.out])
        go_meet
        exact ⟨by simp [LD.many, offB_eq, Q1.out, Q2.out], hid (Ext.refl _)⟩
      · have Q2 := hid q2
        clear q2
        have hex3 : (10 < x.ln) ∨ (¬ 10 < x.ln ∧ 12 < x.pn) ∨ (¬ 10 < x.ln ∧ ¬ 12 < x.pn ∧ 12 < x.mn) ∨ (¬ 10 < x.ln ∧ ¬ 12 < x.pn ∧ ¬ 12 < x.mn) := by omega
        rcases hex3 with h | ⟨h, h'⟩ | ⟨h, h', h''⟩ | ⟨h, h', h''⟩
        · have d1 : decide ((10 : Int) < (x.ln : Int)) = true := decide_eq_true (by omega)
          have d1' : decide (10 < x.ln) = true := decide_eq_true h
          have H := hid h
          clear h
          go_wp2_with (go_at_call 101; refine (in_any _ _ _ _).mono ?_; rintro e w2 ⟨rfl, rfl⟩; first | rw [Q1.out] | rw [Q2.out])
          go_meet
          exact ⟨by simp [LD.many, offB_eq, Q1.out, Q2.out, H.out], hid (Ext.refl _)⟩
        · have d1 : decide ((10 : Int) < (x.ln : Int)) = false := decide_eq_false (by omega)
          have d1' : decide (10 < x.ln) = false := decide_eq_false h
          have d2 : decide ((12 : Int) < (x.pn : Int)) = true := decide_eq_true (by omega)
          have d2' : decide (12 < x.pn) = true := decide_eq_true h'
          have H := hid h'
          clear h h'
          go_wp2_with (go_at_call 101; refine (in_any _ _ _ _).mono ?_; rintro e w2 ⟨rfl, rfl⟩; first | rw [Q1.out] | rw [Q2.out])
          go_meet
          exact ⟨by simp [LD.many, offB_eq, Q1.out, Q2.out, H.out], hid (Ext.refl _)⟩
        · have d1 : decide ((10 : Int) < (x.ln : Int)) = false := decide_eq_false (by omega)
          have d1' : decide (10 < x.ln) = false := decide_eq_false h
          have d2 : decide ((12 : Int) < (x.pn : Int)) = false := decide_eq_false (by omega)
          have d2' : decide (12 < x.pn) = false := decide_eq_false h'
          have d3 : decide ((12 : Int) < (x.mn : Int)) = true := decide_eq_true (by omega)
          have d3' : decide (12 < x.mn) = true := decide_eq_true h''
          have H := hid h''
          clear h h' h''
          go_wp2_with (go_at_call 101; refine (in_any _ _ _ _).mono ?_; rintro e w2 ⟨rfl, rfl⟩; first | rw [Q1.out] | rw [Q2.out])
          go_meet
          exact ⟨by simp [LD.many, offB_eq, Q1.out, Q2.out, H.out], hid (Ext.refl _)⟩
        · have d1 : decide ((10 : Int) < (x.ln : Int)) = false := decide_eq_false (by omega)
          have d1' : decide (10 < x.ln) = false := decide_eq_false h
          have d2 : decide ((12 : Int) < (x.pn : Int)) = false := decide_eq_false (by omega)
          have d2' : decide (12 < x.pn) = false := decide_eq_false h'
          have d3 : decide ((12 : Int) < (x.mn : Int)) = false := decide_eq_false (by omega)
          have d3' : decide (12 < x.mn) = false := decide_eq_false h''
          have H := hid (And.intro h (And.intro h' h''))
          clear h h' h''
          go_wp2_with (go_at_call 101; refine (in_any _ _ _ _).mono ?_; rintro e w2 ⟨rfl, rfl⟩; first | rw [Q1.out] | rw [Q2.out])
          go_meet
          exact ⟨by simp [LD.many, offB_eq, Q1.out, Q2.out, H.out.1, H.out.2.1, H.out.2.2], hid (Ext.refl _)⟩
  case rest =>
    obtain ⟨rfl, E⟩ := hcut
    obtain ⟨wa, rfl⟩ : ∃ W, W = wc := ⟨_, rfl⟩
    cases hm : x.many
    case true =>
      have HM := hid hm
      clear hm
      go_wp2_with fail
      go_ret
      exact ⟨ret_int (by unfold LD.chk; rw [HM.out]; rfl), E0.trans E.out⟩
    have HM := hid hm
    clear hm
    have hms := HM.out
    simp only [LD.many, Bool.or_eq_false_iff] at hms
    have hff0 := offB_no hms.1
    have hyy := offB_no hms.2.1
    have hff : 1 ≤ x.folk ∧ x.folk ≤ 9 := ⟨hff0.1, by omega⟩
    clear hms
    obtain ⟨b1, hb1⟩ : ∃ b, Hid (anyTo (fun k => !(inB (x.lo k 2) 1 500)) x.ln = b) := ⟨_, hid rfl⟩
    obtain ⟨b2, hb2⟩ : ∃ b, Hid (anyTo (fun k => !(inB (x.pa k 2) 1 500)) x.pn = b) := ⟨_, hid rfl⟩
    obtain ⟨b3, hb3⟩ : ∃ b, Hid (anyTo (fun k => !(inB (x.pr k 2) 1 500)) x.mn = b) := ⟨_, hid rfl⟩
    go_upto_region 4 with fail
    go_cut [35] (fun s W => s = .bool (b1 || b2 || b3) ∧ Hid (Ext w1 W))
    case first =>
      have k1 := (HB1.out.ext E.out).cell
      have k1l := (HB1.out.ext E.out).lt
      have k3 := (HB3.out.ext E.out).cell
      have k3l := (HB3.out.ext E.out).lt
      cases b1
      case true =>
        go_wp2_with (first | (go_at_call 119; refine (every119 (R3.out.ext (E0.trans E.out)) h3 (asks120 _ _ _)).mono ?_; rintro e wx ⟨rfl, hex⟩; rw [hb1.out]; have E := hid (E.out.trans hex); have Dhb1 := hid hex; clear hex; have k1 := (HB1.out.ext E.out).cell; have k1l := (HB1.out.ext E.out).lt; have k3 := (HB3.out.ext E.out).cell; have k3l := (HB3.out.ext E.out).lt))
        go_meet
        exact ⟨rfl, E⟩
      cases b2
      case true =>
        go_wp2_with (first | (go_at_call 119; refine (every119 (R3.out.ext (E0.trans E.out)) h3 (asks120 _ _ _)).mono ?_; rintro e wx ⟨rfl, hex⟩; rw [hb1.out]; have E := hid (E.out.trans hex); have Dhb1 := hid hex; clear hex; have k1 := (HB1.out.ext E.out).cell; have k1l := (HB1.out.ext E.out).lt; have k3 := (HB3.out.ext E.out).cell; have k3l := (HB3.out.ext E.out).lt) | (go_at_call 122; refine (every122 (R4.out.ext (E0.trans E.out)) h4 (asks123 _ _ _)).mono ?_; rintro e wx ⟨rfl, hex⟩; rw [hb2.out]; have E := hid (E.out.trans hex); have Dhb2 := hid hex; clear hex; have k1 := (HB1.out.ext E.out).cell; have k1l := (HB1.out.ext E.out).lt; have k3 := (HB3.out.ext E.out).cell; have k3l := (HB3.out.ext E.out).lt))
        go_meet
        exact ⟨rfl, E⟩
      cases b3
      all_goals
        go_wp2_with (first | (go_at_call 119; refine (every119 (R3.out.ext (E0.trans E.out)) h3 (asks120 _ _ _)).mono ?_; rintro e wx ⟨rfl, hex⟩; rw [hb1.out]; have E := hid (E.out.trans hex); have Dhb1 := hid hex; clear hex; have k1 := (HB1.out.ext E.out).cell; have k1l := (HB1.out.ext E.out).lt; have k3 := (HB3.out.ext E.out).cell; have k3l := (HB3.out.ext E.out).lt) | (go_at_call 122; refine (every122 (R4.out.ext (E0.trans E.out)) h4 (asks123 _ _ _)).mono ?_; rintro e wx ⟨rfl, hex⟩; rw [hb2.out]; have E := hid (E.out.trans hex); have Dhb2 := hid hex; clear hex; have k1 := (HB1.out.ext E.out).cell; have k1l := (HB1.out.ext E.out).lt; have k3 := (HB3.out.ext E.out).cell; have k3l := (HB3.out.ext E.out).lt) | (go_at_call 124; refine (every124 (R5.out.ext (E0.trans E.out)) h5 (asks125 _ _ _)).mono ?_; rintro e wx ⟨rfl, hex⟩; rw [hb3.out]; have E := hid (E.out.trans hex); have Dhb3 := hid hex; clear hex; have k1 := (HB1.out.ext E.out).cell; have k1l := (HB1.out.ext E.out).lt; have k3 := (HB3.out.ext E.out).cell; have k3l := (HB3.out.ext E.out).lt))
        go_meet
        exact ⟨rfl, E⟩
    case rest =>
      obtain ⟨rfl, E⟩ := hcut
      obtain ⟨wa, rfl⟩ : ∃ W, W = wc := ⟨_, rfl⟩
      cases ho : (b1 || b2 || b3)
      case true =>
        have HO := hid ho
        clear ho
        go_wp2_with fail
        go_ret
        exact ⟨ret_int (chk_bad0 x HM.out hb1.out hb2.out hb3.out HO.out), E0.trans E.out⟩
      have HO0 := hid ho
      clear ho
      obtain ⟨b4, hb4⟩ : ∃ b, Hid (anyTo (fun k => !(inB (x.bad k) 0 (x.years - 1))) x.bn = b) := ⟨_, hid rfl⟩
      obtain ⟨b5, hb5⟩ : ∃ b, Hid (anyTo (fun k => !(inB (x.fo k) 0 ((x.ln : Int) - 1))) x.fn = b) := ⟨_, hid rfl⟩
      go_upto_region 6 with fail
      go_cut [52] (fun s W => s = .bool (b4 || b5) ∧ Hid (Ext w1 W))
      case first =>
        have k1 := (HB1.out.ext E.out).cell
        have k1l := (HB1.out.ext E.out).lt
        have k3 := (HB3.out.ext E.out).cell
        have k3l := (HB3.out.ext E.out).lt
        cases b4
        case true =>
          go_wp2_with (first | (go_at_call 112; (fail_if_success (have := Dhb4)); refine (every112_115 (HV.out.ext (E0.trans E.out)) hyy (R1.out.ext (E0.trans E.out)) h1).mono ?_; rintro e wx ⟨rfl, hex⟩; rw [hb4.out]; have E := hid (E.out.trans hex); have Dhb4 := hid hex; clear hex; have k1 := (HB1.out.ext E.out).cell; have k1l := (HB1.out.ext E.out).lt; have k3 := (HB3.out.ext E.out).cell; have k3l := (HB3.out.ext E.out).lt))
          go_meet
          exact ⟨rfl, E⟩
        cases b5
        all_goals
          go_wp2_with (first | (go_at_call 112; (fail_if_success (have := Dhb4)); refine (every112_115 (HV.out.ext (E0.trans E.out)) hyy (R1.out.ext (E0.trans E.out)) h1).mono ?_; rintro e wx ⟨rfl, hex⟩; rw [hb4.out]; have E := hid (E.out.trans hex); have Dhb4 := hid hex; clear hex; have k1 := (HB1.out.ext E.out).cell; have k1l := (HB1.out.ext E.out).lt; have k3 := (HB3.out.ext E.out).cell; have k3l := (HB3.out.ext E.out).lt) | (go_at_call 112; refine (every112_126 (HV.out.ext (E0.trans E.out)) h3 (R2.out.ext (E0.trans E.out)) h2).mono ?_; rintro e wx ⟨rfl, hex⟩; rw [hb5.out]; have E := hid (E.out.trans hex); have Dhb5 := hid hex; clear hex; have k1 := (HB1.out.ext E.out).cell; have k1l := (HB1.out.ext E.out).lt; have k3 := (HB3.out.ext E.out).cell; have k3l := (HB3.out.ext E.out).lt))
          go_meet
          exact ⟨rfl, E⟩
      case rest =>
        obtain ⟨rfl, E⟩ := hcut
        obtain ⟨wa, rfl⟩ : ∃ W, W = wc := ⟨_, rfl⟩
        cases ho : (b4 || b5)
        case true =>
          have HO := hid ho
          clear ho
          go_wp2_with fail
          go_ret
          exact ⟨ret_int (chk_bad1 x HM.out hb1.out hb2.out hb3.out hb4.out hb5.out HO0.out HO.out), E0.trans E.out⟩
        have HO1 := hid ho
        clear ho
        obtain ⟨b6, hb6⟩ : ∃ b, Hid (anyTo (fun k => !(inB (x.lo k 0) 1 (x.folk - 1) && inB (x.lo k 1) 0 (x.years - 1))) x.ln = b) := ⟨_, hid rfl⟩
        obtain ⟨b7, hb7⟩ : ∃ b, Hid (anyTo (fun k => !(inB (x.pa k 0) 1 (x.folk - 1) && inB (x.pa k 1) 0 (x.years - 1))) x.pn = b) := ⟨_, hid rfl⟩
        go_upto_region 8 with fail
        go_cut [67] (fun s W => s = .bool (b6 || b7) ∧ Hid (Ext w1 W))
        case first =>
          have k1 := (HB1.out.ext E.out).cell
          have k1l := (HB1.out.ext E.out).lt
          have k3 := (HB3.out.ext E.out).cell
          have k3l := (HB3.out.ext E.out).lt
          cases b6
          case true =>
            go_wp2_with (first | (go_at_call 119; refine (every119 (R3.out.ext (E0.trans E.out)) h3 (asks127 (HB1.out.ext E.out) (HV.out.ext (E0.trans E.out)) hff hyy _ _)).mono ?_; rintro e wx ⟨rfl, hex⟩; rw [hb6.out]; have E := hid (E.out.trans hex); have Dhb6 := hid hex; clear hex; have k1 := (HB1.out.ext E.out).cell; have k1l := (HB1.out.ext E.out).lt; have k3 := (HB3.out.ext E.out).cell; have k3l := (HB3.out.ext E.out).lt))
            go_meet
            exact ⟨rfl, E⟩
          cases b7
          all_goals
            go_wp2_with (first | (go_at_call 119; refine (every119 (R3.out.ext (E0.trans E.out)) h3 (asks127 (HB1.out.ext E.out) (HV.out.ext (E0.trans E.out)) hff hyy _ _)).mono ?_; rintro e wx ⟨rfl, hex⟩; rw [hb6.out]; have E := hid (E.out.trans hex); have Dhb6 := hid hex; clear hex; have k1 := (HB1.out.ext E.out).cell; have k1l := (HB1.out.ext E.out).lt; have k3 := (HB3.out.ext E.out).cell; have k3l := (HB3.out.ext E.out).lt) | (go_at_call 122; refine (every122 (R4.out.ext (E0.trans E.out)) h4 (asks128 (HB1.out.ext E.out) (HV.out.ext (E0.trans E.out)) hff hyy _ _)).mono ?_; rintro e wx ⟨rfl, hex⟩; rw [hb7.out]; have E := hid (E.out.trans hex); have Dhb7 := hid hex; clear hex; have k1 := (HB1.out.ext E.out).cell; have k1l := (HB1.out.ext E.out).lt; have k3 := (HB3.out.ext E.out).cell; have k3l := (HB3.out.ext E.out).lt))
            go_meet
            exact ⟨rfl, E⟩
        case rest =>
          obtain ⟨rfl, E⟩ := hcut
          obtain ⟨wa, rfl⟩ : ∃ W, W = wc := ⟨_, rfl⟩
          cases ho : (b6 || b7)
          case true =>
            have HO := hid ho
            clear ho
            go_wp2_with fail
            go_ret
            exact ⟨ret_int (chk_bad2 x HM.out hb1.out hb2.out hb3.out hb4.out hb5.out hb6.out hb7.out HO0.out HO1.out HO.out), E0.trans E.out⟩
          have HO2 := hid ho
          clear ho
          obtain ⟨b8, hb8⟩ : ∃ b, Hid (anyTo (fun k => !(inB (x.pr k 0) 0 (x.folk - 1) && inB (x.pr k 1) 0 (x.folk - 1))) x.mn = b) := ⟨_, hid rfl⟩
          go_upto_region 10 with fail
          go_cut [80] (fun s W => s = .bool (b8) ∧ Hid (Ext w1 W))
          case first =>
            have k1 := (HB1.out.ext E.out).cell
            have k1l := (HB1.out.ext E.out).lt
            have k3 := (HB3.out.ext E.out).cell
            have k3l := (HB3.out.ext E.out).lt
            cases b8
            all_goals
              go_wp2_with (first | (go_at_call 124; refine (every124 (R5.out.ext (E0.trans E.out)) h5 (asks129 (HB3.out.ext E.out) (HV.out.ext (E0.trans E.out)) hff _ _)).mono ?_; rintro e wx ⟨rfl, hex⟩; rw [hb8.out]; have E := hid (E.out.trans hex); have Dhb8 := hid hex; clear hex; have k1 := (HB1.out.ext E.out).cell; have k1l := (HB1.out.ext E.out).lt; have k3 := (HB3.out.ext E.out).cell; have k3l := (HB3.out.ext E.out).lt))
              go_meet
              exact ⟨rfl, E⟩
          case rest =>
            obtain ⟨rfl, E⟩ := hcut
            obtain ⟨wa, rfl⟩ : ∃ W, W = wc := ⟨_, rfl⟩
            cases ho : (b8)
            case true =>
              have HO := hid ho
              clear ho
              go_wp2_with fail
              go_ret
              exact ⟨ret_int (chk_bad3 x HM.out hb1.out hb2.out hb3.out hb4.out hb5.out hb6.out hb7.out hb8.out HO0.out HO1.out HO2.out HO.out), E0.trans E.out⟩
            have HO3 := hid ho
            clear ho
            obtain ⟨b9, hb9⟩ : ∃ b, Hid (anyTo (fun k => !(!(x.pr k 0 == x.pr k 1))) x.mn = b) := ⟨_, hid rfl⟩
            go_upto_region 12 with fail
            go_cut [86] (fun s W => s = .bool (b9) ∧ Hid (Ext w1 W))
            case first =>
              have k1 := (HB1.out.ext E.out).cell
              have k1l := (HB1.out.ext E.out).lt
              have k3 := (HB3.out.ext E.out).cell
              have k3l := (HB3.out.ext E.out).lt
              cases b9
              all_goals
                go_wp2_with (first | (go_at_call 124; refine (every124 (R5.out.ext (E0.trans E.out)) h5 (asks130 _ _ _)).mono ?_; rintro e wx ⟨rfl, hex⟩; rw [hb9.out]; have E := hid (E.out.trans hex); have Dhb9 := hid hex; clear hex; have k1 := (HB1.out.ext E.out).cell; have k1l := (HB1.out.ext E.out).lt; have k3 := (HB3.out.ext E.out).cell; have k3l := (HB3.out.ext E.out).lt))
                go_meet
                exact ⟨rfl, E⟩
            case rest =>
              obtain ⟨rfl, E⟩ := hcut
              obtain ⟨wa, rfl⟩ : ∃ W, W = wc := ⟨_, rfl⟩
              cases ho : (b9)
              case true =>
                have HO := hid ho
                clear ho
                go_wp2_with fail
                go_ret
                exact ⟨ret_int (chk_bad4 x HM.out hb1.out hb2.out hb3.out hb4.out hb5.out hb6.out hb7.out hb8.out hb9.out HO0.out HO1.out HO2.out HO3.out HO.out), E0.trans E.out⟩
              have HO4 := hid ho
              clear ho
              obtain ⟨b10, hb10⟩ : ∃ b, Hid (fallB x.bad x.bn = b) := ⟨_, hid rfl⟩
              obtain ⟨b11, hb11⟩ : ∃ b, Hid (fallB x.fo x.fn = b) := ⟨_, hid rfl⟩
              obtain ⟨b12, hb12⟩ : ∃ b, Hid (anyTo (fun i => decide (x.pa (i+1) 1 < x.pa i 1)) (x.pn - 1) = b) := ⟨_, hid rfl⟩
              go_upto_region 14 with fail
              go_cut [91] (fun s W => s = .bool (b10 || b11 || b12) ∧ Hid (Ext w1 W))
              case first =>
                have k1 := (HB1.out.ext E.out).cell
                have k1l := (HB1.out.ext E.out).lt
                cases b10
                case true =>
                  go_wp2_with (first | (go_at_call 131; (fail_if_success (have := Dhb10)); refine (show Calls Tryz.prog 131 #[.slice A1 x.bn c1] _ (fun e w' => e = .returned (.bool (!fallB x.bad x.bn)) ∧ Ext _ w') from rising131 (R1.out.ext (E0.trans E.out)) h1).mono ?_; rintro e wx ⟨rfl, hex⟩; rw [hb10.out]; have E := hid (E.out.trans hex); have Dhb10 := hid hex; clear hex; have k1 := (HB1.out.ext E.out).cell; have k1l := (HB1.out.ext E.out).lt))
                  go_meet
                  exact ⟨rfl, E⟩
                cases b11
                case true =>
                  go_wp2_with (first | (go_at_call 131; (fail_if_success (have := Dhb10)); refine (show Calls Tryz.prog 131 #[.slice A1 x.bn c1] _ (fun e w' => e = .returned (.bool (!fallB x.bad x.bn)) ∧ Ext _ w') from rising131 (R1.out.ext (E0.trans E.out)) h1).mono ?_; rintro e wx ⟨rfl, hex⟩; rw [hb10.out]; have E := hid (E.out.trans hex); have Dhb10 := hid hex; clear hex; have k1 := (HB1.out.ext E.out).cell; have k1l := (HB1.out.ext E.out).lt) | (go_at_call 131; refine (show Calls Tryz.prog 131 #[.slice A2 x.fn c2] _ (fun e w' => e = .returned (.bool (!fallB x.fo x.fn)) ∧ Ext _ w') from rising131 (R2.out.ext (E0.trans E.out)) h2).mono ?_; rintro e wx ⟨rfl, hex⟩; rw [hb11.out]; have E := hid (E.out.trans hex); have Dhb11 := hid hex; clear hex; have k1 := (HB1.out.ext E.out).cell; have k1l := (HB1.out.ext E.out).lt))
                  go_meet
                  exact ⟨rfl, E⟩
                cases b12
                all_goals
                  go_wp2_with (first | (go_at_call 131; (fail_if_success (have := Dhb10)); refine (show Calls Tryz.prog 131 #[.slice A1 x.bn c1] _ (fun e w' => e = .returned (.bool (!fallB x.bad x.bn)) ∧ Ext _ w') from rising131 (R1.out.ext (E0.trans E.out)) h1).mono ?_; rintro e wx ⟨rfl, hex⟩; rw [hb10.out]; have E := hid (E.out.trans hex); have Dhb10 := hid hex; clear hex; have k1 := (HB1.out.ext E.out).cell; have k1l := (HB1.out.ext E.out).lt) | (go_at_call 131; refine (show Calls Tryz.prog 131 #[.slice A2 x.fn c2] _ (fun e w' => e = .returned (.bool (!fallB x.fo x.fn)) ∧ Ext _ w') from rising131 (R2.out.ext (E0.trans E.out)) h2).mono ?_; rintro e wx ⟨rfl, hex⟩; rw [hb11.out]; have E := hid (E.out.trans hex); have Dhb11 := hid hex; clear hex; have k1 := (HB1.out.ext E.out).cell; have k1l := (HB1.out.ext E.out).lt) | (go_at_call 132; refine (sorted132 (R4.out.ext (E0.trans E.out)) h4).mono ?_; rintro e wx ⟨rfl, hex⟩; rw [hb12.out]; have E := hid (E.out.trans hex); have Dhb12 := hid hex; clear hex; have k1 := (HB1.out.ext E.out).cell; have k1l := (HB1.out.ext E.out).lt))
                  go_meet
                  exact ⟨rfl, E⟩
              case rest =>
                obtain ⟨rfl, E⟩ := hcut
                obtain ⟨wa, rfl⟩ : ∃ W, W = wc := ⟨_, rfl⟩
                have CE := hid (chk_end x HM.out hb1.out hb2.out hb3.out hb4.out hb5.out hb6.out hb7.out hb8.out hb9.out HO0.out HO1.out HO2.out HO3.out HO4.out hb10.out hb11.out hb12.out)
                cases ho : (b10 || b11 || b12)
                all_goals
                  have HO := hid ho
                  clear ho
                  go_wp2_with fail
                  go_ret
                  exact ⟨ret_int (by rw [CE.out, HO.out]; rfl), E0.trans E.out⟩
