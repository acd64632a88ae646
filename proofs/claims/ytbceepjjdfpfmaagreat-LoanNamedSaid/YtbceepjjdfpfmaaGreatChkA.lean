/- The closures of the program's Check of a ledger, and what asks by them. The ledger has the years and people that there may be, where it says so. -/
import Derived.Test.YtbceepjjdfpfmaaGreatDoA
namespace LoanSpec
theorem offB_eq (n lo hi : Int) : offB n lo hi = !HandSpec.inB n lo hi := by
  simp only [offB, HandSpec.inB, ← decide_not, decide_eq_decide]; omega
end LoanSpec
namespace Go.Proofs.YtbceepjjdfpfmaaGreat
open Go.RowKit HandSpec LoanSpec
set_option maxHeartbeats 1600000
set_option maxRecDepth 100000
theorem run120 (a b c : Int) (w : World) : Calls Tryz.prog 120 #[.agg #[.int .i64 a, .int .i64 b, .int .i64 c]] w fun e w' => e = .returned (.bool (inB c 1 500)) ∧ Ext w w' := by
  go_enter Tryz.func120, Tryz.ntmps120
  go_upto_region 1 with fail
  refine wp_later fun w1 hw1 => ?_
  obtain ⟨E1, b2⟩ := hw1.newB
  have k2 := b2.cell
  have k2l := b2.lt
  clear hw1 b2
  go_wp2_with (go_at_call 121; refine (bushels121 _ _).mono ?_; rintro e w2 ⟨rfl, rfl⟩)
  go_ret
  exact ⟨rfl, E1⟩
theorem asks120 (w : World) (f : Nat → Nat → Int) (n : Nat) : Asks w (.func (.func 120) #[] #[]) n (enc3 f) (fun k => inB (f k 2) 1 500) :=
  ⟨_, _, rfl, enters_ Tryz.func120 (by kernel_rfl) rfl, fun _ _ w' _ => run120 _ _ _ w'⟩
theorem run123 (a b c : Int) (w : World) : Calls Tryz.prog 123 #[.agg #[.int .i64 a, .int .i64 b, .int .i64 c]] w fun e w' => e = .returned (.bool (inB c 1 500)) ∧ Ext w w' := by
  go_enter Tryz.func123, Tryz.ntmps123
  go_upto_region 1 with fail
  refine wp_later fun w1 hw1 => ?_
  obtain ⟨E1, b2⟩ := hw1.newB
  have k2 := b2.cell
  have k2l := b2.lt
  clear hw1 b2
  go_wp2_with (go_at_call 121; refine (bushels121 _ _).mono ?_; rintro e w2 ⟨rfl, rfl⟩)
  go_ret
  exact ⟨rfl, E1⟩
theorem asks123 (w : World) (f : Nat → Nat → Int) (n : Nat) : Asks w (.func (.func 123) #[] #[]) n (enc3 f) (fun k => inB (f k 2) 1 500) :=
  ⟨_, _, rfl, enters_ Tryz.func123 (by kernel_rfl) rfl, fun _ _ w' _ => run123 _ _ _ w'⟩
theorem run125 (a b c : Int) (w : World) : Calls Tryz.prog 125 #[.agg #[.int .i64 a, .int .i64 b, .int .i64 c]] w fun e w' => e = .returned (.bool (inB c 1 500)) ∧ Ext w w' := by
  go_enter Tryz.func125, Tryz.ntmps125
  go_upto_region 1 with fail
  refine wp_later fun w1 hw1 => ?_
  obtain ⟨E1, b2⟩ := hw1.newB
  have k2 := b2.cell
  have k2l := b2.lt
  clear hw1 b2
  go_wp2_with (go_at_call 121; refine (bushels121 _ _).mono ?_; rintro e w2 ⟨rfl, rfl⟩)
  go_ret
  exact ⟨rfl, E1⟩
theorem asks125 (w : World) (f : Nat → Nat → Int) (n : Nat) : Asks w (.func (.func 125) #[] #[]) n (enc3 f) (fun k => inB (f k 2) 1 500) :=
  ⟨_, _, rfl, enters_ Tryz.func125 (by kernel_rfl) rfl, fun _ _ w' _ => run125 _ _ _ w'⟩
theorem run127 {x : LD} {w : World} {g : Nat} {A1 A2 A3 A4 A5 : Option Addr} {c1 c2 c3 c4 c5 : Nat} (hb : Blk w g 27 #[.int .i64 x.folk, .int .i64 x.years, .slice A1 x.bn c1, .slice A2 x.fn c2, .slice A3 x.ln c3, .slice A4 x.pn c4, .slice A5 x.mn c5])
    (hv : IsL w (.agg #[.int .i64 x.folk, .int .i64 x.years, .slice A1 x.bn c1, .slice A2 x.fn c2, .slice A3 x.ln c3, .slice A4 x.pn c4, .slice A5 x.mn c5]) x) (hf : 1 ≤ x.folk ∧ x.folk ≤ 9) (hy : 1 ≤ x.years ∧ x.years ≤ 9) (a b c : Int) :
    Calls Tryz.prog 127 #[.agg #[.int .i64 a, .int .i64 b, .int .i64 c], .pointer (some ⟨g, 0, none⟩)] w fun e w' => e = .returned (.bool (inB a 1 (x.folk - 1) && inB b 0 (x.years - 1))) ∧ Ext w w' := by
  have HV := hid hv
  have HB := hid hb
  clear hv hb
  go_enter Tryz.func127, Tryz.ntmps127
  go_upto_region 1 with fail
  refine wp_later fun w1 hw1 => ?_
  obtain ⟨E1, b2⟩ := hw1.newB
  have k2 := b2.cell
  have k2l := b2.lt
  have k1 := (HB.out.ext E1).cell
  have k1l := (HB.out.ext E1).lt
  have B2 := hid b2
  clear hw1 b2
  obtain ⟨q, hq⟩ : ∃ q, Hid (q = inB a 1 (x.folk - 1)) := ⟨_, hid rfl⟩
  cases q
  · go_wp2_with (go_at_call 103; refine (farmer103 (HV.out.ext E1) hf _).mono ?_; rintro e w2 ⟨rfl, he2⟩; rw [← hq.out])
    go_ret
    exact ⟨ret_bool (by rw [← hq.out]; rfl), E1.trans he2⟩
  · go_wp2_with (first
      | (go_at_call 103; refine (farmer103 (HV.out.ext E1) hf _).mono ?_; rintro e w2 ⟨rfl, he2⟩; rw [← hq.out]; have k2 := (B2.out.ext he2).cell; have k2l := (B2.out.ext he2).lt; have k1 := (HB.out.ext (E1.trans he2)).cell; have k1l := (HB.out.ext (E1.trans he2)).lt)
      | (go_at_call 115; refine (year115 (HV.out.ext (E1.trans he2)) hy _).mono ?_; rintro e w3 ⟨rfl, he3⟩))
    go_ret
    exact ⟨ret_bool (by rw [← hq.out]; rfl), E1.trans (he2.trans he3)⟩
theorem asks127 {x : LD} {w : World} {g : Nat} {A1 A2 A3 A4 A5 : Option Addr} {c1 c2 c3 c4 c5 : Nat} (hb : Blk w g 27 #[.int .i64 x.folk, .int .i64 x.years, .slice A1 x.bn c1, .slice A2 x.fn c2, .slice A3 x.ln c3, .slice A4 x.pn c4, .slice A5 x.mn c5])
    (hv : IsL w (.agg #[.int .i64 x.folk, .int .i64 x.years, .slice A1 x.bn c1, .slice A2 x.fn c2, .slice A3 x.ln c3, .slice A4 x.pn c4, .slice A5 x.mn c5]) x) (hf : 1 ≤ x.folk ∧ x.folk ≤ 9) (hy : 1 ≤ x.years ∧ x.years ≤ 9) (f : Nat → Nat → Int) (n : Nat) :
    Asks w (.func (.func 127) #[] #[.pointer (some ⟨g, 0, none⟩)]) n (enc3 f) (fun k => inB (f k 0) 1 (x.folk - 1) && inB (f k 1) 0 (x.years - 1)) :=
  ⟨_, _, rfl, enters_ Tryz.func127 (by kernel_rfl) rfl, fun _ _ _ e => run127 (hb.ext e) (hv.ext e) hf hy _ _ _⟩
theorem run128 {x : LD} {w : World} {g : Nat} {A1 A2 A3 A4 A5 : Option Addr} {c1 c2 c3 c4 c5 : Nat} (hb : Blk w g 27 #[.int .i64 x.folk, .int .i64 x.years, .slice A1 x.bn c1, .slice A2 x.fn c2, .slice A3 x.ln c3, .slice A4 x.pn c4, .slice A5 x.mn c5])
    (hv : IsL w (.agg #[.int .i64 x.folk, .int .i64 x.years, .slice A1 x.bn c1, .slice A2 x.fn c2, .slice A3 x.ln c3, .slice A4 x.pn c4, .slice A5 x.mn c5]) x) (hf : 1 ≤ x.folk ∧ x.folk ≤ 9) (hy : 1 ≤ x.years ∧ x.years ≤ 9) (a b c : Int) :
    Calls Tryz.prog 128 #[.agg #[.int .i64 a, .int .i64 b, .int .i64 c], .pointer (some ⟨g, 0, none⟩)] w fun e w' => e = .returned (.bool (inB a 1 (x.folk - 1) && inB b 0 (x.years - 1))) ∧ Ext w w' := by
  have HV := hid hv
  have HB := hid hb
  clear hv hb
  go_enter Tryz.func128, Tryz.ntmps128
  go_upto_region 1 with fail
  refine wp_later fun w1 hw1 => ?_
  obtain ⟨E1, b2⟩ := hw1.newB
  have k2 := b2.cell
  have k2l := b2.lt
  have k1 := (HB.out.ext E1).cell
  have k1l := (HB.out.ext E1).lt
  have B2 := hid b2
  clear hw1 b2
  obtain ⟨q, hq⟩ : ∃ q, Hid (q = inB a 1 (x.folk - 1)) := ⟨_, hid rfl⟩
  cases q
  · go_wp2_with (go_at_call 103; refine (farmer103 (HV.out.ext E1) hf _).mono ?_; rintro e w2 ⟨rfl, he2⟩; rw [← hq.out])
    go_ret
    exact ⟨ret_bool (by rw [← hq.out]; rfl), E1.trans he2⟩
  · go_wp2_with (first
      | (go_at_call 103; refine (farmer103 (HV.out.ext E1) hf _).mono ?_; rintro e w2 ⟨rfl, he2⟩; rw [← hq.out]; have k2 := (B2.out.ext he2).cell; have k2l := (B2.out.ext he2).lt; have k1 := (HB.out.ext (E1.trans he2)).cell; have k1l := (HB.out.ext (E1.trans he2)).lt)
      | (go_at_call 115; refine (year115 (HV.out.ext (E1.trans he2)) hy _).mono ?_; rintro e w3 ⟨rfl, he3⟩))
    go_ret
    exact ⟨ret_bool (by rw [← hq.out]; rfl), E1.trans (he2.trans he3)⟩
theorem asks128 {x : LD} {w : World} {g : Nat} {A1 A2 A3 A4 A5 : Option Addr} {c1 c2 c3 c4 c5 : Nat} (hb : Blk w g 27 #[.int .i64 x.folk, .int .i64 x.years, .slice A1 x.bn c1, .slice A2 x.fn c2, .slice A3 x.ln c3, .slice A4 x.pn c4, .slice A5 x.mn c5])
    (hv : IsL w (.agg #[.int .i64 x.folk, .int .i64 x.years, .slice A1 x.bn c1, .slice A2 x.fn c2, .slice A3 x.ln c3, .slice A4 x.pn c4, .slice A5 x.mn c5]) x) (hf : 1 ≤ x.folk ∧ x.folk ≤ 9) (hy : 1 ≤ x.years ∧ x.years ≤ 9) (f : Nat → Nat → Int) (n : Nat) :
    Asks w (.func (.func 128) #[] #[.pointer (some ⟨g, 0, none⟩)]) n (enc3 f) (fun k => inB (f k 0) 1 (x.folk - 1) && inB (f k 1) 0 (x.years - 1)) :=
  ⟨_, _, rfl, enters_ Tryz.func128 (by kernel_rfl) rfl, fun _ _ _ e => run128 (hb.ext e) (hv.ext e) hf hy _ _ _⟩
theorem run129 {x : LD} {w : World} {g : Nat} {v : Value} (hb : Blk w g 70 #[.func (.func 118) #[v] #[]]) (hv : IsL w v x) (hf : 1 ≤ x.folk ∧ x.folk ≤ 9) (a b c : Int) :
    Calls Tryz.prog 129 #[.agg #[.int .i64 a, .int .i64 b, .int .i64 c], .pointer (some ⟨g, 0, none⟩)] w fun e w' => e = .returned (.bool (inB a 0 (x.folk - 1) && inB b 0 (x.folk - 1))) ∧ Ext w w' := by
  have hcf := enters_ Tryz.func118 (by kernel_rfl) rfl
  have HV := hid hv
  have HB := hid hb
  clear hv hb
  go_enter Tryz.func129, Tryz.ntmps129
  go_upto_region 1 with fail
  refine wp_later fun w1 hw1 => ?_
  obtain ⟨E1, b2⟩ := hw1.newB
  have k2 := b2.cell
  have k2l := b2.lt
  have k1 := (HB.out.ext E1).cell
  have k1l := (HB.out.ext E1).lt
  have B2 := hid b2
  clear hw1 b2
  obtain ⟨q, hq⟩ : ∃ q, Hid (q = inB a 0 (x.folk - 1)) := ⟨_, hid rfl⟩
  cases q
  · go_wp2_with (go_at_call 118; refine (person118 (HV.out.ext E1) hf a).mono ?_; rintro e w2 ⟨rfl, he2⟩; rw [← hq.out])
    go_ret
    exact ⟨ret_bool (by rw [← hq.out]; rfl), E1.trans he2⟩
  · go_wp2_with (first
      | (go_at_call 118; (fail_if_success (have := M1)); refine (person118 (HV.out.ext E1) hf a).mono ?_; rintro e w2 ⟨rfl, he2⟩; rw [← hq.out]; have M1 := hid he2; have k2 := (B2.out.ext he2).cell; have k2l := (B2.out.ext he2).lt; have k1 := (HB.out.ext (E1.trans he2)).cell; have k1l := (HB.out.ext (E1.trans he2)).lt)
      | (go_at_call 118; refine (person118 (HV.out.ext (E1.trans M1.out)) hf b).mono ?_; rintro e w3 ⟨rfl, he3⟩))
    go_ret
    exact ⟨ret_bool (by rw [← hq.out]; rfl), E1.trans (M1.out.trans he3)⟩
theorem asks129 {x : LD} {w : World} {g : Nat} {v : Value} (hb : Blk w g 70 #[.func (.func 118) #[v] #[]]) (hv : IsL w v x) (hf : 1 ≤ x.folk ∧ x.folk ≤ 9) (f : Nat → Nat → Int) (n : Nat) :
    Asks w (.func (.func 129) #[] #[.pointer (some ⟨g, 0, none⟩)]) n (enc3 f) (fun k => inB (f k 0) 0 (x.folk - 1) && inB (f k 1) 0 (x.folk - 1)) :=
  ⟨_, _, rfl, enters_ Tryz.func129 (by kernel_rfl) rfl, fun _ _ _ e => run129 (hb.ext e) (hv.ext e) hf _ _ _⟩
theorem run130 (a b c : Int) (w : World) : Calls Tryz.prog 130 #[.agg #[.int .i64 a, .int .i64 b, .int .i64 c]] w fun e w' => e = .returned (.bool (!(a == b))) ∧ Ext w w' := by
  go_enter Tryz.func130, Tryz.ntmps130
  go_upto_region 1 with fail
  refine wp_later fun w1 hw1 => ?_
  obtain ⟨E1, b2⟩ := hw1.newB
  have k2 := b2.cell
  have k2l := b2.lt
  clear hw1 b2
  go_wp2
  go_ret
  exact ⟨rfl, E1⟩
theorem asks130 (w : World) (f : Nat → Nat → Int) (n : Nat) : Asks w (.func (.func 130) #[] #[]) n (enc3 f) (fun k => !(f k 0 == f k 1)) :=
  ⟨_, _, rfl, enters_ Tryz.func130 (by kernel_rfl) rfl, fun _ _ w' _ => run130 _ _ _ w'⟩
theorem nan174 (a : Int) (w : World) : Calls Tryz.prog 174 #[.int .i64 a] w fun e w' => e = .returned (.bool false) ∧ w = w' := by
  go_enter Tryz.func174, Tryz.ntmps174
  go_wp2
  go_ret
  exact ⟨ret_bool (by simp), rfl⟩
theorem cmp134 (a b : Int) (w : World) : Calls Tryz.prog 134 #[.int .i64 a, .int .i64 b] w fun e w' => e = .returned (.int .i64 (if a < b then -1 else if b < a then 1 else 0)) ∧ Ext w w' := by
  go_enter Tryz.func134, Tryz.ntmps134
  by_cases h1 : a < b
  · rw [if_pos h1]
    go_wp2_with (go_at_call 174; refine (nan174 _ _).mono ?_; rintro e w1 ⟨rfl, rfl⟩)
    go_ret
    exact ⟨rfl, Ext.refl _⟩
  · rw [if_neg h1]
    by_cases h2 : b < a
    · rw [if_pos h2]
      go_wp2_with (go_at_call 174; refine (nan174 _ _).mono ?_; rintro e w1 ⟨rfl, rfl⟩)
      go_ret
      exact ⟨rfl, Ext.refl _⟩
    · rw [if_neg h2]
      go_wp2_with (go_at_call 174; refine (nan174 _ _).mono ?_; rintro e w1 ⟨rfl, rfl⟩)
      go_ret
      exact ⟨rfl, Ext.refl _⟩
theorem run133 {b b' z : Int} (hz : z = if b < b' then -1 else if b' < b then 1 else 0) (a c a' c' : Int) (w : World) :
    Calls Tryz.prog 133 #[.agg #[.int .i64 a, .int .i64 b, .int .i64 c], .agg #[.int .i64 a', .int .i64 b', .int .i64 c']] w fun e w' => e = .returned (.int .i64 z) ∧ Ext w w' := by
  have HZ := hid hz
  clear hz
  go_enter Tryz.func133, Tryz.ntmps133
  go_upto_region 1 with fail
  refine wp_later fun w1 hw1 => ?_
  obtain ⟨E1, b2, b3⟩ := hw1.newB2
  have k2 := b2.cell
  have k2l := b2.lt
  have k3 := b3.cell
  have k3l := b3.lt
  clear hw1
  go_wp2_with (go_at_call 134; refine (cmp134 _ _ _).mono ?_; rintro e w2 ⟨rfl, he2⟩; rw [← HZ.out])
  go_ret
  exact ⟨rfl, E1.trans he2⟩
/-- Some payment is of an earlier year than the one ahead of it. -/
theorem sorted132 {w : World} {A : Option Addr} {n cap : Nat} {g : Nat → Nat → Int} (hr : Rd w A n 3 g) (hn : n ≤ 1000) :
    Calls Tryz.prog 132 #[.slice A n cap, .func (.func 133) #[] #[]] w (fun e w' => e = .returned (.bool (!anyTo (fun i => decide (g (i+1) 1 < g i 1)) (n - 1))) ∧ Ext w w') := by
  have HR := hid hr
  clear hr
  have hcf := enters_ Tryz.func133 (by kernel_rfl) rfl
  rcases Nat.eq_zero_or_pos n with h0 | h0
  · subst h0
    go_enter Tryz.func132, Tryz.ntmps132
    go_wp2
    go_loopw [4, 5] (fun r i wr => i = .int .i64 (-1) ∧ r = .bool false ∧ Ext w wr) (fun _ _ _ => 0)
    case atStart => exact ⟨rfl, rfl, Ext.refl _⟩
    case round =>
      obtain ⟨rfl, rfl, he⟩ := hrel
      go_wp2
      go_ret
      exact ⟨rfl, he⟩
  · obtain ⟨m, rfl⟩ : ∃ m, n = m + 1 := ⟨n - 1, by omega⟩
    go_enter Tryz.func132, Tryz.ntmps132
    go_wp2
    go_loopw [4, 5] (fun r i wr => ∃ k : Nat, k ≤ m ∧ i = .int .i64 k ∧ r = .bool false ∧ Hid (∀ j, k ≤ j → j < m → decide (g (j+1) 1 < g j 1) = false) ∧ Ext w wr) (fun _ i _ => (intOf i).toNat)
    case atStart => exact ⟨m, Nat.le_refl _, by go_num, rfl, hid fun _ h h' => absurd h' (by omega), Ext.refl _⟩
    case round =>
      obtain ⟨k, hk, rfl, rfl, hp, he⟩ := hrel
      rcases Nat.eq_zero_or_pos k with hz | hz
      · subst hz
        go_wp2
        go_ret
        refine ⟨ret_bool ?_, he⟩
        rw [show m + 1 - 1 = m from rfl, anyTo_false.2 fun j hj => hp.out j (Nat.zero_le _) hj]; rfl
      · obtain ⟨q, rfl⟩ : ∃ q, k = q + 1 := ⟨k - 1, by omega⟩
        obtain ⟨b, o, rfl, hb, a0, a1, a2⟩ := (HR.out.ext he).at3 (k := q + 1) (by omega)
        obtain ⟨_, _, hq, hb', b0, b1, b2⟩ := (HR.out.ext he).at3 (k := q) (by omega)
        obtain ⟨rfl, rfl⟩ := same_addr hq rfl
        obtain ⟨ya, hya⟩ : ∃ z, Hid (z = g (q+1) 1) := ⟨_, hid rfl⟩
        obtain ⟨yb, hyb⟩ : ∃ z, Hid (z = g q 1) := ⟨_, hid rfl⟩
        rw [← hya.out] at a1
        rw [← hyb.out] at b1
        go_upto_region 4 with fail
        by_cases hlt : ya < yb
        · have hz : (-1 : Int) = if ya < yb then -1 else if yb < ya then 1 else 0 := by rw [if_pos hlt]
          have HZ := hid hz
          clear hz
          refine wp_region_later (by kernel_rfl) (by kernel_rfl) ?_
          repeat (go_big_quiet_step ((go_at_call 133; exact Calls.later (run133 HZ.out _ _ _ _ _))))
          refine wpQuiet_nil ?_
          rintro w2 ⟨⟨_, he2⟩, rfl⟩
          go_wp2
          go_ret
          refine ⟨ret_bool ?_, he.trans he2⟩
          have h1 : anyTo (fun i => decide (g (i+1) 1 < g i 1)) m = true := anyTo_true.2 ⟨q, by omega, by rw [← hya.out, ← hyb.out]; exact decide_eq_true hlt⟩
          rw [h1]; rfl
        · obtain ⟨cz, hcz⟩ : ∃ z, Hid (z = if ya < yb then -1 else if yb < ya then (1 : Int) else 0) := ⟨_, hid rfl⟩
          have hz2 : ¬ cz < 0 := by rw [hcz.out, if_neg hlt]; split <;> omega
          have HLT := hid hlt
          clear hlt
          refine wp_region_later (by kernel_rfl) (by kernel_rfl) ?_
          repeat (go_big_quiet_step ((go_at_call 133; exact Calls.later (run133 hcz.out _ _ _ _ _))))
          refine wpQuiet_nil ?_
          rintro w2 ⟨⟨_, he2⟩, rfl⟩
          go_wp2
          go_roundw
          case rel =>
            refine ⟨q, by omega, by go_num, rfl, hid fun j h h' => ?_, he.trans he2⟩
            rcases Nat.lt_or_ge q j with hj | hj
            · exact hp.out j hj h'
            · obtain rfl : j = q := by omega
              rw [← hya.out, ← hyb.out]; exact decide_eq_false HLT.out
          case measure => simp [intOf]
theorem each115 {x : LD} {w : World} {b : Nat} {t : TypeId} {v : Value} (hv : IsL w v x) (hy : 1 ≤ x.years ∧ x.years ≤ 9) (hb : Blk w b t #[.func (.func 115) #[v] #[]]) (g : Nat → Nat → Int) (k : Nat) :
    Calls Tryz.prog 167 #[.int .i64 (g k 0), .pointer (some ⟨b, 0, none⟩)] w fun e w' => e = .returned (.bool (!inB (g k 0) 0 (x.years - 1))) ∧ Ext w w' := by
  have hlt := hb.lt
  have q0 := hb.cell
  have hcf := enters_ Tryz.func115 (by kernel_rfl) rfl
  clear hb
  have HV := hid hv; clear hv
  go_enter Tryz.func167, Tryz.ntmps167
  go_wp2_with (refine (year115 HV.out hy _).mono ?_; rintro e w1 ⟨rfl, he⟩)
  go_ret
  exact ⟨rfl, he⟩
theorem every112_115 {x : LD} {w : World} {v : Value} (hv : IsL w v x) (hy : 1 ≤ x.years ∧ x.years ≤ 9) {A : Option Addr} {n cap : Nat} {g : Nat → Nat → Int} (hr : Rd w A n 1 g) (hn : n ≤ 1000) :
    Calls Tryz.prog 112 #[.slice A n cap, .func (.func 115) #[v] #[]] w (fun e w' => e = .returned (.bool (!anyTo (fun k => !inB (g k 0) 0 (x.years - 1)) n)) ∧ Ext w w') := by
  have hmf : ∀ (fn : Fn) (first cap : Array Value) (w : World), (Instr.makeFunc fn first cap).run Tryz.prog w = .ok (.func fn first cap) w := fun _ _ _ _ => rfl
  have e0 : Ext w (w.alloc (.cells #[.func (.func 115) #[v] #[]] 70)) := (Ext.refl _).alloc _
  have HV := hid hv; clear hv
  have h1 : Asks (w.alloc (.cells #[.func (.func 115) #[v] #[]] 70)) (.func (.func 167) #[] #[.pointer (some ⟨w.heap.size, 0, none⟩)]) n (enc1 g) (fun k => !inB (g k 0) 0 (x.years - 1)) :=
    ⟨_, _, rfl, enters_ Tryz.func167 (by kernel_rfl) rfl, fun k _ w' e => each115 (HV.out.ext (e0.trans e)) hy ((Blk.new _ _ _).ext e) _ _⟩
  have H1 := hid h1; clear h1
  go_enter Tryz.func112, Tryz.ntmps112
  go_wp2_with (go_at_call 85; refine (containsFunc85 (hr.ext e0) hn H1.out).mono ?_; rintro e w1 ⟨rfl, he1⟩)
  go_ret
  exact ⟨rfl, e0.trans he1⟩
theorem each126 {x : LD} {w : World} {b : Nat} {t : TypeId} {v : Value} (hv : IsL w v x) (hy : x.ln ≤ 1000) (hb : Blk w b t #[.func (.func 126) #[v] #[]]) (g : Nat → Nat → Int) (k : Nat) :
    Calls Tryz.prog 167 #[.int .i64 (g k 0), .pointer (some ⟨b, 0, none⟩)] w fun e w' => e = .returned (.bool (!inB (g k 0) 0 ((x.ln : Int) - 1))) ∧ Ext w w' := by
  have hlt := hb.lt
  have q0 := hb.cell
  have hcf := enters_ Tryz.func126 (by kernel_rfl) rfl
  clear hb
  have HV := hid hv; clear hv
  go_enter Tryz.func167, Tryz.ntmps167
  go_wp2_with (refine (loan126 HV.out hy _).mono ?_; rintro e w1 ⟨rfl, he⟩)
  go_ret
  exact ⟨rfl, he⟩
theorem every112_126 {x : LD} {w : World} {v : Value} (hv : IsL w v x) (hy : x.ln ≤ 1000) {A : Option Addr} {n cap : Nat} {g : Nat → Nat → Int} (hr : Rd w A n 1 g) (hn : n ≤ 1000) :
    Calls Tryz.prog 112 #[.slice A n cap, .func (.func 126) #[v] #[]] w (fun e w' => e = .returned (.bool (!anyTo (fun k => !inB (g k 0) 0 ((x.ln : Int) - 1)) n)) ∧ Ext w w') := by
  have hmf : ∀ (fn : Fn) (first cap : Array Value) (w : World), (Instr.makeFunc fn first cap).run Tryz.prog w = .ok (.func fn first cap) w := fun _ _ _ _ => rfl
  have e0 : Ext w (w.alloc (.cells #[.func (.func 126) #[v] #[]] 70)) := (Ext.refl _).alloc _
  have HV := hid hv; clear hv
  have h1 : Asks (w.alloc (.cells #[.func (.func 126) #[v] #[]] 70)) (.func (.func 167) #[] #[.pointer (some ⟨w.heap.size, 0, none⟩)]) n (enc1 g) (fun k => !inB (g k 0) 0 ((x.ln : Int) - 1)) :=
    ⟨_, _, rfl, enters_ Tryz.func167 (by kernel_rfl) rfl, fun k _ w' e => each126 (HV.out.ext (e0.trans e)) hy ((Blk.new _ _ _).ext e) _ _⟩
  have H1 := hid h1; clear h1
  go_enter Tryz.func112, Tryz.ntmps112
  go_wp2_with (go_at_call 85; refine (containsFunc85 (hr.ext e0) hn H1.out).mono ?_; rintro e w1 ⟨rfl, he1⟩)
  go_ret
  exact ⟨rfl, e0.trans he1⟩
end Go.Proofs.YtbceepjjdfpfmaaGreat
