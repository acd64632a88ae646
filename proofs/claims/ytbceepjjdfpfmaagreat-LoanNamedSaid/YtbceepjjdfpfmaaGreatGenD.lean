/- Walks of library functions over lists of lists, and of CheckDebts. The rows are short. -/
import Derived.Test.YtbceepjjdfpfmaaGreatDoA
import Derived.Test.YtbceepjjdfpfmaaGreatMat
namespace Go.Proofs.YtbceepjjdfpfmaaGreat
open Go.RowKit HandSpec
set_option maxHeartbeats 800000
set_option maxRecDepth 100000
theorem indexFunc151 {w : World} {A : Option Addr} {n cap : Nat} {f : Nat → Value} (hr : RdV w A n f) {fv : Value} {p : Nat → Bool} (hn : n ≤ 1000) (ha : Asks w fv n f p) :
    Calls Tryz.prog 151 #[.slice A n cap, fv] w (fun e w' => e = .returned (.int .i64 (firstI p n)) ∧ Ext w w') := by
  obtain ⟨fn, caps, rfl, hfn, hf⟩ := ha
  have HF := hid hf; clear hf
  go_enter Tryz.func151, Tryz.ntmps151
  go_wp2
  go_loopw [4, 5, 8] (fun r _ i wr => ∃ k : Nat, k ≤ n ∧ i = .int .i64 k ∧ r = .int .i64 0 ∧ Hid (∀ j, j < k → p j = false) ∧ Ext w wr) (fun _ _ i _ => n - (intOf i).toNat)
  case atStart => exact ⟨0, Nat.zero_le _, rfl, rfl, fun _ h => absurd h (by omega), Ext.refl _⟩
  case round =>
    obtain ⟨k, hk, rfl, rfl, hp, he⟩ := hrel
    by_cases hlt : k < n
    · obtain ⟨b, o, rfl, hb, h0⟩ := (hr.ext he).at_ hlt
      cases hb : p k
      all_goals
        have HB := hid hb; clear hb
        go_wp2_with (refine (HF.out k hlt _ he).mono ?_; rintro e w1 ⟨rfl, he1⟩; rw [HB.out])
      · go_roundw
        case rel => exact ⟨k+1, by omega, by go_num, rfl, anyTo_step hp.out HB.out, he.trans he1⟩
        case measure => simp [intOf]; omega
      · go_ret
        exact ⟨ret_int (firstI_yes hlt hp.out HB.out).symm, he.trans he1⟩
    · go_wp2_with fail
      go_ret
      have : k = n := by omega
      subst this
      exact ⟨ret_int (firstI_no hp.out).symm, he⟩
theorem containsFunc165 {w : World} {A : Option Addr} {n cap : Nat} {f : Nat → Value} (hr : RdV w A n f) {fv : Value} {p : Nat → Bool} (hn : n ≤ 1000) (ha : Asks w fv n f p) :
    Calls Tryz.prog 165 #[.slice A n cap, fv] w (fun e w' => e = .returned (.bool (anyTo p n)) ∧ Ext w w') := by
  have hf := firstI_any p n
  have HF := hid hf; clear hf
  have HA := hid ha
  go_enter Tryz.func165, Tryz.ntmps165
  go_wp2_with (go_at_call 151; refine (indexFunc151 hr hn HA.out).mono ?_; rintro e w1 ⟨rfl, he1⟩)
  go_ret
  exact ⟨ret_bool HF.out, he1⟩
theorem every1_166 {w : World} {n : Nat} {f : Nat → Value} {fv : Value} {p : Nat → Bool} (ha : Asks w fv n f p) {b : Nat} {t : TypeId} (hb : Blk w b t #[fv]) :
    Asks w (.func (.func 166) #[] #[.pointer (some ⟨b, 0, none⟩)]) n f (fun k => !p k) := by
  refine ⟨_, _, rfl, enters_ Tryz.func166 (by kernel_rfl) rfl, fun k hk w' he => ?_⟩
  obtain ⟨fn, caps, rfl, hfn, hf⟩ := ha
  have HF := hf k hk
  have HF := hid HF; clear hf
  have k0 := (hb.ext he).cell
  have hlt := (hb.ext he).lt
  go_enter Tryz.func166, Tryz.ntmps166
  go_wp2_with (refine (HF.out _ he).mono ?_; rintro e w1 ⟨rfl, he1⟩)
  go_ret
  exact ⟨rfl, he1⟩
theorem every109 {w : World} {A : Option Addr} {n cap : Nat} {f : Nat → Value} (hr : RdV w A n f) {fv : Value} {p : Nat → Bool} (hn : n ≤ 1000) (ha : Asks w fv n f p) :
    Calls Tryz.prog 109 #[.slice A n cap, fv] w (fun e w' => e = .returned (.bool (!anyTo (fun k => !p k) n)) ∧ Ext w w') := by
  have hmf : ∀ (fn : Fn) (first cap : Array Value) (w : World), (Instr.makeFunc fn first cap).run Tryz.prog w = .ok (.func fn first cap) w := fun _ _ _ _ => rfl
  have HA := hid ha
  obtain ⟨fn, caps, rfl, -, -⟩ := ha
  have e0 : Ext w (w.alloc (.cells #[.func (.func fn) #[] caps] 110)) := (Ext.refl _).alloc _
  have h1 := every1_166 (HA.out.ext e0) (Blk.new w 110 #[.func (.func fn) #[] caps])
  have H1 := hid h1; clear h1
  go_enter Tryz.func109, Tryz.ntmps109
  go_wp2_with (go_at_call 165; refine (containsFunc165 (hr.ext e0) hn H1.out).mono ?_; rintro e w1 ⟨rfl, he1⟩)
  go_ret
  exact ⟨rfl, e0.trans he1⟩
/-- Are all the rows as long as the table is high? -/
def sqB (n : Nat) (m : Nat → Nat) : Bool := !anyTo (fun k => !(m k == n)) n
/-- Are all entries debts? -/
def entB (n : Nat) (m : Nat → Nat) (g : Nat → Nat → Int) : Bool := !anyTo (fun k => anyTo (fun j => !inB (g k j) 0 1000000) (m k)) n
theorem asks110 {w : World} {A : Option Addr} {n cap : Nat} {m : Nat → Nat} {B : Nat → Option Addr} {C : Nat → Nat} {b : Nat} {t : TypeId} (hb : Blk w b t #[.slice A n cap]) :
    Asks w (.func (.func 110) #[] #[.pointer (some ⟨b, 0, none⟩)]) n (fun k => .slice (B k) (m k) (C k)) (fun k => m k == n) := by
  refine ⟨_, _, rfl, enters_ Tryz.func110 (by kernel_rfl) rfl, fun k hk w' he => ?_⟩
  have k0 := (hb.ext he).cell
  have hlt := (hb.ext he).lt
  cases h : (m k == n)
  all_goals
    have hq : (((m k : Nat) : Int) == (n : Int)) = (m k == n) := by
      rw [Bool.eq_iff_iff, beq_iff_eq, beq_iff_eq]; omega
    rw [h] at hq
    go_enter Tryz.func110, Tryz.ntmps110
    go_wp2_with fail
    go_ret
    exact ⟨ret_bool h.symm, Ext.refl _⟩
theorem asks113 {w : World} {n : Nat} {g : Nat → Nat → Int} : Asks w (.func (.func 113) #[] #[]) n (enc1 g) (fun k => inB (g k 0) 0 1000000) := by
  refine ⟨_, _, rfl, enters_ Tryz.func113 (by kernel_rfl) rfl, fun k hk w' he => ?_⟩
  unfold enc1
  go_enter Tryz.func113, Tryz.ntmps113
  go_wp2_with (go_at_call 101; refine (in_any _ _ _ _).mono ?_; rintro e w2 ⟨rfl, rfl⟩)
  go_ret
  exact ⟨rfl, Ext.refl _⟩
theorem asks111 {w : World} {n : Nat} {m : Nat → Nat} {g : Nat → Nat → Int} {B : Nat → Option Addr} {C : Nat → Nat} (hm : ∀ k, k < n → m k ≤ 1000) (hr : ∀ k, k < n → Rd w (B k) (m k) 1 (fun j _ => g k j)) :
    Asks w (.func (.func 111) #[] #[]) n (fun k => .slice (B k) (m k) (C k)) (fun k => !anyTo (fun j => !inB (g k j) 0 1000000) (m k)) := by
  refine ⟨_, _, rfl, enters_ Tryz.func111 (by kernel_rfl) rfl, fun k hk w' he => ?_⟩
  have hR := hid ((hr k hk).ext he)
  have hmk := hid (hm k hk)
  clear hm hr
  go_enter Tryz.func111, Tryz.ntmps111
  go_wp2_with (go_at_call 112; refine (every112 hR.out hmk.out asks113).mono ?_; rintro e w2 ⟨rfl, he2⟩)
  go_ret
  exact ⟨rfl, he2⟩
/-- The first wrong thing of a table of debts. -/
def chkD (n : Nat) (m : Nat → Nat) (g : Nat → Nat → Int) : Int :=
  if inB (n : Int) 1 7 = false ∨ sqB n m = false then 2 else if entB n m g = false then 3 else if anyTo (fun k => !(g k k == 0)) n then 5 else 0
theorem checkDebts33 {w : World} {A : Option Addr} {n cap : Nat} {m : Nat → Nat} {g : Nat → Nat → Int} (hr : RdN w A n m g) (hn : n ≤ 1000) (hm : ∀ k, k < n → m k ≤ 1000) :
    Calls Tryz.prog 33 #[.slice A n cap] w (fun e w' => e = .returned (.int .i64 (chkD n m g)) ∧ Ext w w') := by
  have HR := hid hr
  have HM := hid hm
  obtain ⟨B, C, h1, h2⟩ := hr
  have H1 := hid h1
  have H2 := hid h2
  clear h1 h2 hm
  have hmf : ∀ (fn : Fn) (first cap : Array Value) (w : World), (Instr.makeFunc fn first cap).run Tryz.prog w = .ok (.func fn first cap) w := fun _ _ _ _ => rfl
  go_enter Tryz.func33, Tryz.ntmps33
  go_upto_region 1 with fail
  refine wp_later fun w1 hw1 => ?_
  obtain ⟨E1, b1⟩ := hw1.newB
  have B1 := hid b1
  have E1 := hid E1
  have k1 := b1.cell
  have k1l := b1.lt
  clear hw1 b1
  obtain ⟨q2, hq2⟩ : ∃ q, Hid (sqB n m = q) := ⟨_, hid rfl⟩
  obtain ⟨q3, hq3⟩ : ∃ q, Hid (entB n m g = q) := ⟨_, hid rfl⟩
  have S2 := hid (show (!anyTo (fun k => !(m k == n)) n) = q2 from hq2.out)
  have S3 := hid (show (!anyTo (fun k => !(!anyTo (fun j => !inB (g k j) 0 1000000) (m k))) n) = q3 by simp only [Bool.not_not]; exact hq3.out)
  cases q1 : inB (n : Int) 1 7
  · have Q1 := hid q1
    clear q1
    go_wp2_with (go_at_call 101; refine (in_any _ _ _ _).mono ?_; rintro e w2 ⟨rfl, rfl⟩; rw [Q1.out])
    go_ret
    exact ⟨ret_int (by unfold chkD; rw [if_pos (.inl Q1.out)]), E1.out⟩
  have Q1 := hid q1
  clear q1
  cases q2
  · go_wp2_with (first | (go_at_call 101; refine (in_any _ _ _ _).mono ?_; rintro e w2 ⟨rfl, rfl⟩; rw [Q1.out]) | (go_at_call 109; refine (every109 (H1.out.ext E1.out) hn (asks110 B1.out)).mono ?_; rintro e w2 ⟨rfl, he2⟩; rw [S2.out]))
    go_ret
    exact ⟨ret_int (by unfold chkD; rw [if_pos (.inr hq2.out)]), E1.out.trans he2⟩
  have c0 := hid (show ¬ (inB (n : Int) 1 7 = false ∨ sqB n m = false) by rw [Q1.out, hq2.out]; simp)
  cases q3
  · go_wp2_with (first | (go_at_call 101; refine (in_any _ _ _ _).mono ?_; rintro e w2 ⟨rfl, rfl⟩; rw [Q1.out]) | (go_at_call 109; (fail_if_success (have := ZZ)); refine (every109 (H1.out.ext E1.out) hn (asks110 B1.out)).mono ?_; rintro e w2 ⟨rfl, he2⟩; rw [S2.out]; have ZZ := hid he2; clear he2; have k2 := (B1.out.ext ZZ.out).cell; have k2l := (B1.out.ext ZZ.out).lt) | (go_at_call 109; refine (every109 (H1.out.ext (E1.out.trans ZZ.out)) hn (asks111 HM.out fun k hk => (H2.out k hk).ext (E1.out.trans ZZ.out))).mono ?_; rintro e w3 ⟨rfl, he3⟩; rw [S3.out]))
    go_ret
    exact ⟨ret_int (by unfold chkD; rw [if_neg c0.out, if_pos hq3.out]), E1.out.trans (ZZ.out.trans he3)⟩
  go_upto_region 5 with (first | (go_at_call 101; refine (in_any _ _ _ _).mono ?_; rintro e w2 ⟨rfl, rfl⟩; rw [Q1.out]) | (go_at_call 109; (fail_if_success (have := ZZ)); refine (every109 (H1.out.ext E1.out) hn (asks110 B1.out)).mono ?_; rintro e w2 ⟨rfl, he2⟩; rw [S2.out]; have ZZ := hid he2; clear he2; have k2 := (B1.out.ext ZZ.out).cell; have k2l := (B1.out.ext ZZ.out).lt) | (go_at_call 109; refine (every109 (H1.out.ext (E1.out.trans ZZ.out)) hn (asks111 HM.out fun k hk => (H2.out k hk).ext (E1.out.trans ZZ.out))).mono ?_; rintro e w3 ⟨rfl, he3⟩; rw [S3.out]))
  have k3 := (B1.out.ext (ZZ.out.trans he3)).cell
  have k3l := (B1.out.ext (ZZ.out.trans he3)).lt
  have c1 := hid (show ¬ entB n m g = false by rw [hq3.out]; simp)
  have hsq := hid (show ∀ k, k < n → m k = n from fun k hk => by
    have := anyTo_false.1 (show anyTo (fun k => !(m k == n)) n = false by have := S2.out; simpa using this) k hk
    simpa using this)
  have E3 := hid (E1.out.trans (ZZ.out.trans he3))
  have E13 := hid (ZZ.out.trans he3)
  clear k1 k1l k2 k2l he3 ZZ
  go_upto_region 6 with fail
  have B3 := hid (B1.out.ext E13.out)
  go_loopw [21] (fun i wr => ∃ k : Nat, k ≤ n ∧ i = .int .i64 k ∧ Hid (∀ j, j < k → (!(g j j == 0)) = false) ∧ Ext w3 wr) (fun i _ => n - (intOf i).toNat)
  case atStart => exact ⟨0, Nat.zero_le _, rfl, hid fun _ h => absurd h (by omega), Ext.refl _⟩
  case round =>
    obtain ⟨k, hk, rfl, hp, he⟩ := hrel
    by_cases hlt : k < n
    · clear k3 k3l
      have k3 := (B3.out.ext he).cell
      have k3l := (B3.out.ext he).lt
      obtain ⟨b, o, B', C', rfl, hb, hc, hR⟩ := (HR.out.ext (E3.out.trans he)).at_ hlt
      rw [hsq.out k hlt] at hc hR
      obtain ⟨b', o', rfl, hb', hc'⟩ := hR.at1 hlt
      clear hR
      cases hb : (g k k != 0)
      all_goals
        have HB := hid hb
        go_wp2_with fail
      · go_roundw
        case rel => exact ⟨k+1, by omega, by go_num, anyTo_step hp.out HB.out, he⟩
        case measure => simp [intOf]; omega
      · go_ret
        exact ⟨ret_int (by unfold chkD; rw [if_neg c0.out, if_neg c1.out, if_pos (anyTo_true.2 ⟨k, hlt, HB.out⟩)]), E3.out.trans he⟩
    · go_wp2_with fail
      go_ret
      have : k = n := by omega
      subst this
      exact ⟨ret_int (by unfold chkD; rw [if_neg c0.out, if_neg c1.out, if_neg (by rw [anyTo_false.2 hp.out]; simp)]), E3.out.trans he⟩
end Go.Proofs.YtbceepjjdfpfmaaGreat
