/- Closed facts of the translated program, one theorem each. No condition. -/
import Derived.Test.YtbceepjjdfpfmaaGreatRows
import Derived.ProofKit
import Derived.OpenShut
namespace Go.Proofs.YtbceepjjdfpfmaaGreat
open Go.RowKit Go.ChangeShapes Go.WideShapes Go.ChangeAt
set_option maxRecDepth 100000
theorem andT {a b : Bool} (h : a = true) (k : b = true) : (a && b) = true := by rw [h, k]; rfl
theorem eqT {a b c : Bool} (h : b = c) (k : (a == c) = true) : (a == b) = true := by rw [h]; exact k
theorem fact1 : (laidOutB Tryz.prog) = true := by kernel_rfl
theorem fact2 : (mapsRowed Tryz.prog) = true := by kernel_rfl
theorem fact6 : (Tryz.prog.stops == []) = true := by kernel_rfl
theorem fact8 : (Tryz.prog.stopKnobs == []) = true := by kernel_rfl
theorem fact24 : (Tryz.prog.stopsHeard) = true := by kernel_rfl
theorem fact25 : (Tryz.prog.mayEnter) = true := by kernel_rfl
theorem factLifts : Tryz.prog.liftsFinal = Rows.loanOwesRow.lifted := by kernel_rfl
theorem factMake : (Tryz.prog.make == some Rows.loanOwesRow.make) = true := by kernel_rfl
theorem factPlain : Tryz.prog.plainKeys = false := by kernel_rfl
end Go.Proofs.YtbceepjjdfpfmaaGreat
