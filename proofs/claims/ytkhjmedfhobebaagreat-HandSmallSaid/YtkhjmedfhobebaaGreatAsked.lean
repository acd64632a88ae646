/- Walk of the six statements that compare, asked one after the other. -/
import Derived.Test.YtkhjmedfhobebaaGreatLawG
import Derived.Test.YtkhjmedfhobebaaGreatLawF
import Derived.Test.YtkhjmedfhobebaaGreatLawL
import Derived.Test.YtkhjmedfhobebaaGreatLawS
import Derived.Test.YtkhjmedfhobebaaGreatLawH
import Derived.Test.YtkhjmedfhobebaaGreatLawE
namespace Go.Proofs.YtkhjmedfhobebaaGreat
open Go.RowKit HandSpec
set_option maxHeartbeats 1600000
set_option maxRecDepth 100000
theorem asked112 {x : WD} {w : World} {v : Value} (hv : IsW w v x) (h lo hi a b count which : Int) {A : Option Addr} {n cap : Nat} {g : Nat → Nat → Int} (hr : Rd w A n 1 g) {A' : Option Addr} {n' cap' : Nat} {g' : Nat → Nat → Int} (hl : Rd w A' n' 2 g') :
  Calls Tryz.prog 112 #[v, .agg #[.int .i64 h, .int .i64 lo, .int .i64 hi], .agg #[.int .i64 a, .int .i64 b], .int .i64 count, .int .i64 which, .slice A n cap, .slice A' n' cap'] w fun e w' => e = .returned (.bool true) ∧ Ext w w' := by
 have HV := hid hv
 have HR := hid hr
 have HL := hid hl
 obtain ⟨A1, c1, A2, c2, A3, c3, rfl, r1, r2, r3⟩ := hv
 clear r1 r2 r3 hr hl
 go_enter Tryz.func112, Tryz.ntmps112
 go_upto_region 1 with fail
 refine wp_later fun w0 hw0 => ?_
 obtain ⟨E0, b1, b2, b3⟩ := newB3' hw0
 have B1 := hid b1
 have B2 := hid b2
 have B3 := hid b3
 have k1 := b1.cell
 have k2 := b2.cell
 have k3 := b3.cell
 have k1l := b1.lt
 have k2l := b2.lt
 have k3l := b3.lt
 have E := hid (Ext.refl w0)
 clear hw0 b1 b2 b3
 go_wp2_with (first
  | (go_at_call 7; refine (law7 (HV.out.ext (E0.trans E.out)) _ _ _ _ _).mono ?_; rintro e w7 ⟨rfl, he7⟩; have E := hid (E.out.trans he7); have k1 := (B1.out.ext E.out).cell; have k1l := (B1.out.ext E.out).lt; have k2 := (B2.out.ext E.out).cell; have k3 := (B3.out.ext E.out).cell)
  | (go_at_call 6; refine (law6 (HV.out.ext (E0.trans E.out)) _).mono ?_; rintro e w6 ⟨rfl, he6⟩; have E := hid (E.out.trans he6); have k1 := (B1.out.ext E.out).cell; have k1l := (B1.out.ext E.out).lt)
  | (go_at_call 10; refine (law10 (HV.out.ext (E0.trans E.out)) (HR.out.ext (E0.trans E.out))).mono ?_; rintro e w10 ⟨rfl, he10⟩; have E := hid (E.out.trans he10); have k1 := (B1.out.ext E.out).cell; have k1l := (B1.out.ext E.out).lt)
  | (go_at_call 4; refine (law4 (HV.out.ext (E0.trans E.out))).mono ?_; rintro e w4 ⟨rfl, he4⟩; have E := hid (E.out.trans he4); have k1 := (B1.out.ext E.out).cell; have k1l := (B1.out.ext E.out).lt)
  | (go_at_call 3; refine (law3 (HV.out.ext (E0.trans E.out)) _).mono ?_; rintro e w3 ⟨rfl, he3⟩; have E := hid (E.out.trans he3); have k1 := (B1.out.ext E.out).cell; have k1l := (B1.out.ext E.out).lt)
  | (go_at_call 5; refine (law5 (HV.out.ext (E0.trans E.out)) _ (HL.out.ext (E0.trans E.out))).mono ?_; rintro e w5 ⟨rfl, he5⟩; have E := hid (E.out.trans he5); have k1 := (B1.out.ext E.out).cell; have k1l := (B1.out.ext E.out).lt))
 go_ret
 exact ⟨rfl, E0.trans E.out⟩
end Go.Proofs.YtkhjmedfhobebaaGreat
