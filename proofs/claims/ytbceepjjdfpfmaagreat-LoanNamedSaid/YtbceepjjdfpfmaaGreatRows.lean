/-
  No cell of these rows narrows 'for every input' (looked for: loops, veiled, ifaces, maps, wideKeys, modest, calm, conditions, laid).
  DERIVED. THE GIVEN ROWS OF THIS SEAT. 14 by the template 'for every input the law returns true; each argument reads behind the call as it read before'; 0 by the template 'total and deterministic' (their statements: YtbceepjjdfpfmaaGreatTotals.lean).
  GIVEN WITH THE SEED: the statements are not yours to turn. If you find one false, say at which input.
  Laid BY PROGRAM, IN A SANDBOX (cutbox-rows.mjs): the forced cells as the released guide's own fill.sh prints them over the translation ce9845c3346dea20… (all of the seat's roots in one cut). By AI agents, Wed Nov 11 2026. No macro, syntax, notation, axiom, sorry.
-/
import Derived.Test.YtbceepjjdfpfmaaGreatChecked
import GoSem.Claim
import GoSem.ClaimJoined
import GoSem.ClaimMapViews
import Derived.JoinedTies
import Derived.KernelRfl
namespace Go.Proofs.YtbceepjjdfpfmaaGreat
/- THE CELL 'sum', in the pinned program and in every row, IS THE sha256 OF THE DUMP (.gsa) THAT YtbceepjjdfpfmaaGreatProg.lean LOADS. Nothing in Lean hashes anything: it is a label: what it is worth is what the hold of that sum in a sandbox is worth. -/
noncomputable def Tryz.pinned : Pinned := { name := "ytbceepjjdfpfmaagreat", sum := "ce9845c3346dea20c6f7b679d43b89800a9fa6ce9eb70fa4fe5722724617a374", checked := Tryz.checked }
namespace Rows
def none {H : Type} : Left H := { results := [], args := [] }

/-- 'staddlelaw10.LoanOwes': WHATEVER THE INPUT: true; the input reads as it did. -/
def loanOwesSpec : ChangeSpec := { name := "loanOwes", fn := fun _ => fun
  | [d1, d2, d3] => { results := [.lit (.bool true)], args := [d1, d2, d3] }
  | _ => none }
def loanOwesRow : OpenClaim := { program := "ytbceepjjdfpfmaagreat", sum := "ce9845c3346dea20c6f7b679d43b89800a9fa6ce9eb70fa4fe5722724617a374", func := "staddle/staddlelaw10.LoanOwes", spec := "loanOwes", unfollowed := true, recurses := true, plainKeys := false, apart := false }
def LoanOwesSaid : Prop := loanOwesRow.holds Tryz.pinned (OpenSpec.ofChange loanOwesSpec)

/-- ITS FALSE NEIGHBOUR: 'it returns false'. Refute it at one input. -/
def loanOwesWrong : ChangeSpec := { name := "loanOwes", fn := fun _ => fun
  | [d1, d2, d3] => { results := [.lit (.bool false)], args := [d1, d2, d3] }
  | _ => none }
def LoanOwesWrongFalsely : Prop := loanOwesRow.holds Tryz.pinned (OpenSpec.ofChange loanOwesWrong)

/-- 'staddlelaw10.LoanOwed': WHATEVER THE INPUT: true; the input reads as it did. -/
def loanOwedSpec : ChangeSpec := { name := "loanOwed", fn := fun _ => fun
  | [d] => { results := [.lit (.bool true)], args := [d] }
  | _ => none }
def loanOwedRow : OpenClaim := { program := "ytbceepjjdfpfmaagreat", sum := "ce9845c3346dea20c6f7b679d43b89800a9fa6ce9eb70fa4fe5722724617a374", func := "staddle/staddlelaw10.LoanOwed", spec := "loanOwed", unfollowed := true, recurses := true, plainKeys := false, apart := false }
def LoanOwedSaid : Prop := loanOwedRow.holds Tryz.pinned (OpenSpec.ofChange loanOwedSpec)

/-- ITS FALSE NEIGHBOUR: 'it returns false'. Refute it at one input. -/
def loanOwedWrong : ChangeSpec := { name := "loanOwed", fn := fun _ => fun
  | [d] => { results := [.lit (.bool false)], args := [d] }
  | _ => none }
def LoanOwedWrongFalsely : Prop := loanOwedRow.holds Tryz.pinned (OpenSpec.ofChange loanOwedWrong)

/-- 'staddlelaw10.LoanOnce': WHATEVER THE INPUT: true; the input reads as it did. -/
def loanOnceSpec : ChangeSpec := { name := "loanOnce", fn := fun _ => fun
  | [d] => { results := [.lit (.bool true)], args := [d] }
  | _ => none }
def loanOnceRow : OpenClaim := { program := "ytbceepjjdfpfmaagreat", sum := "ce9845c3346dea20c6f7b679d43b89800a9fa6ce9eb70fa4fe5722724617a374", func := "staddle/staddlelaw10.LoanOnce", spec := "loanOnce", unfollowed := true, recurses := true, plainKeys := false, apart := false }
def LoanOnceSaid : Prop := loanOnceRow.holds Tryz.pinned (OpenSpec.ofChange loanOnceSpec)

/-- ITS FALSE NEIGHBOUR: 'it returns false'. Refute it at one input. -/
def loanOnceWrong : ChangeSpec := { name := "loanOnce", fn := fun _ => fun
  | [d] => { results := [.lit (.bool false)], args := [d] }
  | _ => none }
def LoanOnceWrongFalsely : Prop := loanOnceRow.holds Tryz.pinned (OpenSpec.ofChange loanOnceWrong)

/-- 'staddlelaw10.LoanBooks': WHATEVER THE INPUT: true; the input reads as it did. -/
def loanBooksSpec : ChangeSpec := { name := "loanBooks", fn := fun _ => fun
  | [d1, d2, d3, d4] => { results := [.lit (.bool true)], args := [d1, d2, d3, d4] }
  | _ => none }
def loanBooksRow : OpenClaim := { program := "ytbceepjjdfpfmaagreat", sum := "ce9845c3346dea20c6f7b679d43b89800a9fa6ce9eb70fa4fe5722724617a374", func := "staddle/staddlelaw10.LoanBooks", spec := "loanBooks", unfollowed := true, recurses := true, plainKeys := false, apart := false }
def LoanBooksSaid : Prop := loanBooksRow.holds Tryz.pinned (OpenSpec.ofChange loanBooksSpec)

/-- ITS FALSE NEIGHBOUR: 'it returns false'. Refute it at one input. -/
def loanBooksWrong : ChangeSpec := { name := "loanBooks", fn := fun _ => fun
  | [d1, d2, d3, d4] => { results := [.lit (.bool false)], args := [d1, d2, d3, d4] }
  | _ => none }
def LoanBooksWrongFalsely : Prop := loanBooksRow.holds Tryz.pinned (OpenSpec.ofChange loanBooksWrong)

/-- 'staddlelaw10.LoanDue': WHATEVER THE INPUT: true; the input reads as it did. -/
def loanDueSpec : ChangeSpec := { name := "loanDue", fn := fun _ => fun
  | [d1, d2, d3] => { results := [.lit (.bool true)], args := [d1, d2, d3] }
  | _ => none }
def loanDueRow : OpenClaim := { program := "ytbceepjjdfpfmaagreat", sum := "ce9845c3346dea20c6f7b679d43b89800a9fa6ce9eb70fa4fe5722724617a374", func := "staddle/staddlelaw10.LoanDue", spec := "loanDue", unfollowed := true, recurses := true, plainKeys := false, apart := false }
def LoanDueSaid : Prop := loanDueRow.holds Tryz.pinned (OpenSpec.ofChange loanDueSpec)

/-- ITS FALSE NEIGHBOUR: 'it returns false'. Refute it at one input. -/
def loanDueWrong : ChangeSpec := { name := "loanDue", fn := fun _ => fun
  | [d1, d2, d3] => { results := [.lit (.bool false)], args := [d1, d2, d3] }
  | _ => none }
def LoanDueWrongFalsely : Prop := loanDueRow.holds Tryz.pinned (OpenSpec.ofChange loanDueWrong)

/-- 'staddlelaw10.LoanSettles': WHATEVER THE INPUT: true; the input reads as it did. -/
def loanSettlesSpec : ChangeSpec := { name := "loanSettles", fn := fun _ => fun
  | [d1, d2, d3] => { results := [.lit (.bool true)], args := [d1, d2, d3] }
  | _ => none }
def loanSettlesRow : OpenClaim := { program := "ytbceepjjdfpfmaagreat", sum := "ce9845c3346dea20c6f7b679d43b89800a9fa6ce9eb70fa4fe5722724617a374", func := "staddle/staddlelaw10.LoanSettles", spec := "loanSettles", unfollowed := true, recurses := true, plainKeys := false, apart := false }
def LoanSettlesSaid : Prop := loanSettlesRow.holds Tryz.pinned (OpenSpec.ofChange loanSettlesSpec)

/-- ITS FALSE NEIGHBOUR: 'it returns false'. Refute it at one input. -/
def loanSettlesWrong : ChangeSpec := { name := "loanSettles", fn := fun _ => fun
  | [d1, d2, d3] => { results := [.lit (.bool false)], args := [d1, d2, d3] }
  | _ => none }
def LoanSettlesWrongFalsely : Prop := loanSettlesRow.holds Tryz.pinned (OpenSpec.ofChange loanSettlesWrong)

/-- 'staddlelaw10.LoanFewest': WHATEVER THE INPUT: true; the input reads as it did. -/
def loanFewestSpec : ChangeSpec := { name := "loanFewest", fn := fun _ => fun
  | [d1, d2] => { results := [.lit (.bool true)], args := [d1, d2] }
  | _ => none }
def loanFewestRow : OpenClaim := { program := "ytbceepjjdfpfmaagreat", sum := "ce9845c3346dea20c6f7b679d43b89800a9fa6ce9eb70fa4fe5722724617a374", func := "staddle/staddlelaw10.LoanFewest", spec := "loanFewest", unfollowed := true, recurses := true, plainKeys := false, apart := false }
def LoanFewestSaid : Prop := loanFewestRow.holds Tryz.pinned (OpenSpec.ofChange loanFewestSpec)

/-- ITS FALSE NEIGHBOUR: 'it returns false'. Refute it at one input. -/
def loanFewestWrong : ChangeSpec := { name := "loanFewest", fn := fun _ => fun
  | [d1, d2] => { results := [.lit (.bool false)], args := [d1, d2] }
  | _ => none }
def LoanFewestWrongFalsely : Prop := loanFewestRow.holds Tryz.pinned (OpenSpec.ofChange loanFewestWrong)

/-- 'staddlelaw10.LoanCircles': WHATEVER THE INPUT: true; the input reads as it did. -/
def loanCirclesSpec : ChangeSpec := { name := "loanCircles", fn := fun _ => fun
  | [d1, d2] => { results := [.lit (.bool true)], args := [d1, d2] }
  | _ => none }
def loanCirclesRow : OpenClaim := { program := "ytbceepjjdfpfmaagreat", sum := "ce9845c3346dea20c6f7b679d43b89800a9fa6ce9eb70fa4fe5722724617a374", func := "staddle/staddlelaw10.LoanCircles", spec := "loanCircles", unfollowed := true, recurses := true, plainKeys := false, apart := false }
def LoanCirclesSaid : Prop := loanCirclesRow.holds Tryz.pinned (OpenSpec.ofChange loanCirclesSpec)

/-- ITS FALSE NEIGHBOUR: 'it returns false'. Refute it at one input. -/
def loanCirclesWrong : ChangeSpec := { name := "loanCircles", fn := fun _ => fun
  | [d1, d2] => { results := [.lit (.bool false)], args := [d1, d2] }
  | _ => none }
def LoanCirclesWrongFalsely : Prop := loanCirclesRow.holds Tryz.pinned (OpenSpec.ofChange loanCirclesWrong)

/-- 'staddlelaw10.LoanStraight': WHATEVER THE INPUT: true; the input reads as it did. -/
def loanStraightSpec : ChangeSpec := { name := "loanStraight", fn := fun _ => fun
  | [d] => { results := [.lit (.bool true)], args := [d] }
  | _ => none }
def loanStraightRow : OpenClaim := { program := "ytbceepjjdfpfmaagreat", sum := "ce9845c3346dea20c6f7b679d43b89800a9fa6ce9eb70fa4fe5722724617a374", func := "staddle/staddlelaw10.LoanStraight", spec := "loanStraight", unfollowed := true, recurses := true, plainKeys := false, apart := false }
def LoanStraightSaid : Prop := loanStraightRow.holds Tryz.pinned (OpenSpec.ofChange loanStraightSpec)

/-- ITS FALSE NEIGHBOUR: 'it returns false'. Refute it at one input. -/
def loanStraightWrong : ChangeSpec := { name := "loanStraight", fn := fun _ => fun
  | [d] => { results := [.lit (.bool false)], args := [d] }
  | _ => none }
def LoanStraightWrongFalsely : Prop := loanStraightRow.holds Tryz.pinned (OpenSpec.ofChange loanStraightWrong)

/-- 'staddlelaw10.LoanNamed': WHATEVER THE INPUT: true; the input reads as it did. -/
def loanNamedSpec : ChangeSpec := { name := "loanNamed", fn := fun _ => fun
  | [d1, d2] => { results := [.lit (.bool true)], args := [d1, d2] }
  | _ => none }
def loanNamedRow : OpenClaim := { program := "ytbceepjjdfpfmaagreat", sum := "ce9845c3346dea20c6f7b679d43b89800a9fa6ce9eb70fa4fe5722724617a374", func := "staddle/staddlelaw10.LoanNamed", spec := "loanNamed", inPlace := ["slices.overlaps[int]"], unfollowed := true, recurses := true, plainKeys := false, apart := false }
def LoanNamedSaid : Prop := loanNamedRow.holds Tryz.pinned (OpenSpec.ofChange loanNamedSpec)

/-- ITS FALSE NEIGHBOUR: 'it returns false'. Refute it at one input. -/
def loanNamedWrong : ChangeSpec := { name := "loanNamed", fn := fun _ => fun
  | [d1, d2] => { results := [.lit (.bool false)], args := [d1, d2] }
  | _ => none }
def LoanNamedWrongFalsely : Prop := loanNamedRow.holds Tryz.pinned (OpenSpec.ofChange loanNamedWrong)

/-- 'staddlelaw10.LoanChecks': WHATEVER THE INPUT: true; the input reads as it did. -/
def loanChecksSpec : ChangeSpec := { name := "loanChecks", fn := fun _ => fun
  | [d1, d2, d3, d4] => { results := [.lit (.bool true)], args := [d1, d2, d3, d4] }
  | _ => none }
def loanChecksRow : OpenClaim := { program := "ytbceepjjdfpfmaagreat", sum := "ce9845c3346dea20c6f7b679d43b89800a9fa6ce9eb70fa4fe5722724617a374", func := "staddle/staddlelaw10.LoanChecks", spec := "loanChecks", unfollowed := true, recurses := true, plainKeys := false, apart := false }
def LoanChecksSaid : Prop := loanChecksRow.holds Tryz.pinned (OpenSpec.ofChange loanChecksSpec)

/-- ITS FALSE NEIGHBOUR: 'it returns false'. Refute it at one input. -/
def loanChecksWrong : ChangeSpec := { name := "loanChecks", fn := fun _ => fun
  | [d1, d2, d3, d4] => { results := [.lit (.bool false)], args := [d1, d2, d3, d4] }
  | _ => none }
def LoanChecksWrongFalsely : Prop := loanChecksRow.holds Tryz.pinned (OpenSpec.ofChange loanChecksWrong)

/-- 'staddlelaw10.LoanMore': WHATEVER THE INPUT: true; the input reads as it did. -/
def loanMoreSpec : ChangeSpec := { name := "loanMore", fn := fun _ => fun
  | [d1, d2, d3, d4] => { results := [.lit (.bool true)], args := [d1, d2, d3, d4] }
  | _ => none }
def loanMoreRow : OpenClaim := { program := "ytbceepjjdfpfmaagreat", sum := "ce9845c3346dea20c6f7b679d43b89800a9fa6ce9eb70fa4fe5722724617a374", func := "staddle/staddlelaw10.LoanMore", spec := "loanMore", unfollowed := true, recurses := true, plainKeys := false, apart := false }
def LoanMoreSaid : Prop := loanMoreRow.holds Tryz.pinned (OpenSpec.ofChange loanMoreSpec)

/-- ITS FALSE NEIGHBOUR: 'it returns false'. Refute it at one input. -/
def loanMoreWrong : ChangeSpec := { name := "loanMore", fn := fun _ => fun
  | [d1, d2, d3, d4] => { results := [.lit (.bool false)], args := [d1, d2, d3, d4] }
  | _ => none }
def LoanMoreWrongFalsely : Prop := loanMoreRow.holds Tryz.pinned (OpenSpec.ofChange loanMoreWrong)

/-- 'staddlelaw10.LoanBread': WHATEVER THE INPUT: true; the input reads as it did. -/
def loanBreadSpec : ChangeSpec := { name := "loanBread", fn := fun _ => fun
  | [d1, d2, d3] => { results := [.lit (.bool true)], args := [d1, d2, d3] }
  | _ => none }
def loanBreadRow : OpenClaim := { program := "ytbceepjjdfpfmaagreat", sum := "ce9845c3346dea20c6f7b679d43b89800a9fa6ce9eb70fa4fe5722724617a374", func := "staddle/staddlelaw10.LoanBread", spec := "loanBread", unfollowed := true, recurses := true, plainKeys := false, apart := false }
def LoanBreadSaid : Prop := loanBreadRow.holds Tryz.pinned (OpenSpec.ofChange loanBreadSpec)

/-- ITS FALSE NEIGHBOUR: 'it returns false'. Refute it at one input. -/
def loanBreadWrong : ChangeSpec := { name := "loanBread", fn := fun _ => fun
  | [d1, d2, d3] => { results := [.lit (.bool false)], args := [d1, d2, d3] }
  | _ => none }
def LoanBreadWrongFalsely : Prop := loanBreadRow.holds Tryz.pinned (OpenSpec.ofChange loanBreadWrong)

/-- 'staddlelaw10.LoanSmall': WHATEVER THE INPUT: true; the input reads as it did. -/
def loanSmallSpec : ChangeSpec := { name := "loanSmall", fn := fun _ => fun
  | [] => { results := [.lit (.bool true)], args := [] }
  | _ => none }
def loanSmallRow : OpenClaim := { program := "ytbceepjjdfpfmaagreat", sum := "ce9845c3346dea20c6f7b679d43b89800a9fa6ce9eb70fa4fe5722724617a374", func := "staddle/staddlelaw10.LoanSmall", spec := "loanSmall", unfollowed := true, recurses := true, plainKeys := false, apart := false }
def LoanSmallSaid : Prop := loanSmallRow.holds Tryz.pinned (OpenSpec.ofChange loanSmallSpec)

/-- ITS FALSE NEIGHBOUR: 'it returns false'. Refute it at one input. -/
def loanSmallWrong : ChangeSpec := { name := "loanSmall", fn := fun _ => fun
  | [] => { results := [.lit (.bool false)], args := [] }
  | _ => none }
def LoanSmallWrongFalsely : Prop := loanSmallRow.holds Tryz.pinned (OpenSpec.ofChange loanSmallWrong)

/- THE SECOND FORM. 'bulk': how many values and letters a reading holds, each counted each time it is reached (what is shared counts as often as it is met; a slice's spare places count too). A statement '..UptoSaid' is the law's where the arguments, and the package variables that the reading takes, are together of bulk at most 1048576: NARROWER than '..Said'. Prove '..Said' where nothing that the law and all that it calls make is longer than what came in: it says more and counts as full. Else prove '..UptoSaid'. A law counts once. -/
mutual
def uptoBulk {H : Type} : DataW H → Nat
  | .lit (.string bytes) => bytes.length + 1
  | .lit _ => 1
  | .nil => 1
  | .ptr d => uptoBulk d + 1
  | .slice elems spare => uptoBulkAll elems + uptoBulkAll spare + 1
  | .agg parts => uptoBulkAll parts + 1
  | .iface _ d => uptoBulk d + 1
  | .map entries => uptoBulkEntries entries + 1
  | .held _ => 1
def uptoBulkAll {H : Type} : List (DataW H) → Nat
  | [] => 0
  | d :: r => uptoBulk d + uptoBulkAll r
def uptoBulkEntries {H : Type} : List (Lit × DataW H) → Nat
  | [] => 0
  | x :: r => uptoBulkEntry x + uptoBulkEntries r
def uptoBulkEntry {H : Type} : Lit × DataW H → Nat
  | (.string bytes, d) => bytes.length + uptoBulk d + 1
  | (_, d) => uptoBulk d + 1
 end
def uptoSmall : (H : Type) → List (DataW H) → Bool := fun _ ds => decide (uptoBulkAll ds ≤ 1048576)
def OpenSpec.upto (s : _root_.Go.ChangeSpec) : _root_.Go.OpenSpec := { _root_.Go.OpenSpec.ofChange s with cond := some uptoSmall }

/-- 'staddlelaw10.LoanOwes', WHERE WHAT IT READS IS OF BULK AT MOST 1048576: true; the input reads as it did. -/
def loanOwesUptoRow : OpenClaim := { program := "ytbceepjjdfpfmaagreat", sum := "ce9845c3346dea20c6f7b679d43b89800a9fa6ce9eb70fa4fe5722724617a374", func := "staddle/staddlelaw10.LoanOwes", spec := "loanOwes", unfollowed := true, recurses := true, plainKeys := false, apart := false, narrowed := true }
def LoanOwesUptoSaid : Prop := loanOwesUptoRow.holds Tryz.pinned (OpenSpec.upto loanOwesSpec)

/-- 'staddlelaw10.LoanOwed', WHERE WHAT IT READS IS OF BULK AT MOST 1048576: true; the input reads as it did. -/
def loanOwedUptoRow : OpenClaim := { program := "ytbceepjjdfpfmaagreat", sum := "ce9845c3346dea20c6f7b679d43b89800a9fa6ce9eb70fa4fe5722724617a374", func := "staddle/staddlelaw10.LoanOwed", spec := "loanOwed", unfollowed := true, recurses := true, plainKeys := false, apart := false, narrowed := true }
def LoanOwedUptoSaid : Prop := loanOwedUptoRow.holds Tryz.pinned (OpenSpec.upto loanOwedSpec)

/-- 'staddlelaw10.LoanOnce', WHERE WHAT IT READS IS OF BULK AT MOST 1048576: true; the input reads as it did. -/
def loanOnceUptoRow : OpenClaim := { program := "ytbceepjjdfpfmaagreat", sum := "ce9845c3346dea20c6f7b679d43b89800a9fa6ce9eb70fa4fe5722724617a374", func := "staddle/staddlelaw10.LoanOnce", spec := "loanOnce", unfollowed := true, recurses := true, plainKeys := false, apart := false, narrowed := true }
def LoanOnceUptoSaid : Prop := loanOnceUptoRow.holds Tryz.pinned (OpenSpec.upto loanOnceSpec)

/-- 'staddlelaw10.LoanBooks', WHERE WHAT IT READS IS OF BULK AT MOST 1048576: true; the input reads as it did. -/
def loanBooksUptoRow : OpenClaim := { program := "ytbceepjjdfpfmaagreat", sum := "ce9845c3346dea20c6f7b679d43b89800a9fa6ce9eb70fa4fe5722724617a374", func := "staddle/staddlelaw10.LoanBooks", spec := "loanBooks", unfollowed := true, recurses := true, plainKeys := false, apart := false, narrowed := true }
def LoanBooksUptoSaid : Prop := loanBooksUptoRow.holds Tryz.pinned (OpenSpec.upto loanBooksSpec)

/-- 'staddlelaw10.LoanDue', WHERE WHAT IT READS IS OF BULK AT MOST 1048576: true; the input reads as it did. -/
def loanDueUptoRow : OpenClaim := { program := "ytbceepjjdfpfmaagreat", sum := "ce9845c3346dea20c6f7b679d43b89800a9fa6ce9eb70fa4fe5722724617a374", func := "staddle/staddlelaw10.LoanDue", spec := "loanDue", unfollowed := true, recurses := true, plainKeys := false, apart := false, narrowed := true }
def LoanDueUptoSaid : Prop := loanDueUptoRow.holds Tryz.pinned (OpenSpec.upto loanDueSpec)

/-- 'staddlelaw10.LoanSettles', WHERE WHAT IT READS IS OF BULK AT MOST 1048576: true; the input reads as it did. -/
def loanSettlesUptoRow : OpenClaim := { program := "ytbceepjjdfpfmaagreat", sum := "ce9845c3346dea20c6f7b679d43b89800a9fa6ce9eb70fa4fe5722724617a374", func := "staddle/staddlelaw10.LoanSettles", spec := "loanSettles", unfollowed := true, recurses := true, plainKeys := false, apart := false, narrowed := true }
def LoanSettlesUptoSaid : Prop := loanSettlesUptoRow.holds Tryz.pinned (OpenSpec.upto loanSettlesSpec)

/-- 'staddlelaw10.LoanFewest', WHERE WHAT IT READS IS OF BULK AT MOST 1048576: true; the input reads as it did. -/
def loanFewestUptoRow : OpenClaim := { program := "ytbceepjjdfpfmaagreat", sum := "ce9845c3346dea20c6f7b679d43b89800a9fa6ce9eb70fa4fe5722724617a374", func := "staddle/staddlelaw10.LoanFewest", spec := "loanFewest", unfollowed := true, recurses := true, plainKeys := false, apart := false, narrowed := true }
def LoanFewestUptoSaid : Prop := loanFewestUptoRow.holds Tryz.pinned (OpenSpec.upto loanFewestSpec)

/-- 'staddlelaw10.LoanCircles', WHERE WHAT IT READS IS OF BULK AT MOST 1048576: true; the input reads as it did. -/
def loanCirclesUptoRow : OpenClaim := { program := "ytbceepjjdfpfmaagreat", sum := "ce9845c3346dea20c6f7b679d43b89800a9fa6ce9eb70fa4fe5722724617a374", func := "staddle/staddlelaw10.LoanCircles", spec := "loanCircles", unfollowed := true, recurses := true, plainKeys := false, apart := false, narrowed := true }
def LoanCirclesUptoSaid : Prop := loanCirclesUptoRow.holds Tryz.pinned (OpenSpec.upto loanCirclesSpec)

/-- 'staddlelaw10.LoanStraight', WHERE WHAT IT READS IS OF BULK AT MOST 1048576: true; the input reads as it did. -/
def loanStraightUptoRow : OpenClaim := { program := "ytbceepjjdfpfmaagreat", sum := "ce9845c3346dea20c6f7b679d43b89800a9fa6ce9eb70fa4fe5722724617a374", func := "staddle/staddlelaw10.LoanStraight", spec := "loanStraight", unfollowed := true, recurses := true, plainKeys := false, apart := false, narrowed := true }
def LoanStraightUptoSaid : Prop := loanStraightUptoRow.holds Tryz.pinned (OpenSpec.upto loanStraightSpec)

/-- 'staddlelaw10.LoanNamed', WHERE WHAT IT READS IS OF BULK AT MOST 1048576: true; the input reads as it did. -/
def loanNamedUptoRow : OpenClaim := { program := "ytbceepjjdfpfmaagreat", sum := "ce9845c3346dea20c6f7b679d43b89800a9fa6ce9eb70fa4fe5722724617a374", func := "staddle/staddlelaw10.LoanNamed", spec := "loanNamed", inPlace := ["slices.overlaps[int]"], unfollowed := true, recurses := true, plainKeys := false, apart := false, narrowed := true }
def LoanNamedUptoSaid : Prop := loanNamedUptoRow.holds Tryz.pinned (OpenSpec.upto loanNamedSpec)

/-- 'staddlelaw10.LoanChecks', WHERE WHAT IT READS IS OF BULK AT MOST 1048576: true; the input reads as it did. -/
def loanChecksUptoRow : OpenClaim := { program := "ytbceepjjdfpfmaagreat", sum := "ce9845c3346dea20c6f7b679d43b89800a9fa6ce9eb70fa4fe5722724617a374", func := "staddle/staddlelaw10.LoanChecks", spec := "loanChecks", unfollowed := true, recurses := true, plainKeys := false, apart := false, narrowed := true }
def LoanChecksUptoSaid : Prop := loanChecksUptoRow.holds Tryz.pinned (OpenSpec.upto loanChecksSpec)

/-- 'staddlelaw10.LoanMore', WHERE WHAT IT READS IS OF BULK AT MOST 1048576: true; the input reads as it did. -/
def loanMoreUptoRow : OpenClaim := { program := "ytbceepjjdfpfmaagreat", sum := "ce9845c3346dea20c6f7b679d43b89800a9fa6ce9eb70fa4fe5722724617a374", func := "staddle/staddlelaw10.LoanMore", spec := "loanMore", unfollowed := true, recurses := true, plainKeys := false, apart := false, narrowed := true }
def LoanMoreUptoSaid : Prop := loanMoreUptoRow.holds Tryz.pinned (OpenSpec.upto loanMoreSpec)

/-- 'staddlelaw10.LoanBread', WHERE WHAT IT READS IS OF BULK AT MOST 1048576: true; the input reads as it did. -/
def loanBreadUptoRow : OpenClaim := { program := "ytbceepjjdfpfmaagreat", sum := "ce9845c3346dea20c6f7b679d43b89800a9fa6ce9eb70fa4fe5722724617a374", func := "staddle/staddlelaw10.LoanBread", spec := "loanBread", unfollowed := true, recurses := true, plainKeys := false, apart := false, narrowed := true }
def LoanBreadUptoSaid : Prop := loanBreadUptoRow.holds Tryz.pinned (OpenSpec.upto loanBreadSpec)

/-- 'staddlelaw10.LoanSmall', WHERE WHAT IT READS IS OF BULK AT MOST 1048576: true; the input reads as it did. -/
def loanSmallUptoRow : OpenClaim := { program := "ytbceepjjdfpfmaagreat", sum := "ce9845c3346dea20c6f7b679d43b89800a9fa6ce9eb70fa4fe5722724617a374", func := "staddle/staddlelaw10.LoanSmall", spec := "loanSmall", unfollowed := true, recurses := true, plainKeys := false, apart := false, narrowed := true }
def LoanSmallUptoSaid : Prop := loanSmallUptoRow.holds Tryz.pinned (OpenSpec.upto loanSmallSpec)

end Rows
end Go.Proofs.YtbceepjjdfpfmaaGreat
