/-
  No cell of these rows narrows 'for every input' (looked for: loops, veiled, ifaces, maps, wideKeys, modest, calm, conditions, laid).
  DERIVED. THE GIVEN ROWS OF THIS SEAT. 14 by the template 'for every input the law returns true; each argument reads behind the call as it read before'; 0 by the template 'total and deterministic' (their statements: YtkhjmedfhobebaaGreatTotals.lean).
  GIVEN WITH THE SEED: the statements are not yours to turn. If you find one false, say at which input.
  Laid BY PROGRAM, IN A SANDBOX (cutbox-rows.mjs): the forced cells as the released guide's own fill.sh prints them over the translation 917cb3457c28f4df… (all of the seat's roots in one cut). By AI agents, Wed Nov 11 2026. No macro, syntax, notation, axiom, sorry.
-/
import Derived.Test.YtkhjmedfhobebaaGreatChecked
import GoSem.Claim
import GoSem.ClaimJoined
import GoSem.ClaimMapViews
import Derived.JoinedTies
import Derived.KernelRfl
namespace Go.Proofs.YtkhjmedfhobebaaGreat
/- THE CELL 'sum', in the pinned program and in every row, IS THE sha256 OF THE DUMP (.gsa) THAT YtkhjmedfhobebaaGreatProg.lean LOADS. Nothing in Lean hashes anything: it is a label: what it is worth is what the hold of that sum in a sandbox is worth. -/
noncomputable def Tryz.pinned : Pinned := { name := "ytkhjmedfhobebaagreat", sum := "917cb3457c28f4df4bd5bb481df34028e4bf61e26a985f4b367832ad63f152f0", checked := Tryz.checked }
namespace Rows
def none {H : Type} : Left H := { results := [], args := [] }

/-- 'staddlelaw07.HandLeast': WHATEVER THE INPUT: true; the input reads as it did. -/
def handLeastSpec : ChangeSpec := { name := "handLeast", fn := fun _ => fun
  | [d1, d2] => { results := [.lit (.bool true)], args := [d1, d2] }
  | _ => none }
def handLeastRow : OpenClaim := { program := "ytkhjmedfhobebaagreat", sum := "917cb3457c28f4df4bd5bb481df34028e4bf61e26a985f4b367832ad63f152f0", func := "staddle/staddlelaw07.HandLeast", spec := "handLeast", unfollowed := true, recurses := true, plainKeys := false, apart := false }
def HandLeastSaid : Prop := handLeastRow.holds Tryz.pinned (OpenSpec.ofChange handLeastSpec)

/-- ITS FALSE NEIGHBOUR: 'it returns false'. Refute it at one input. -/
def handLeastWrong : ChangeSpec := { name := "handLeast", fn := fun _ => fun
  | [d1, d2] => { results := [.lit (.bool false)], args := [d1, d2] }
  | _ => none }
def HandLeastWrongFalsely : Prop := handLeastRow.holds Tryz.pinned (OpenSpec.ofChange handLeastWrong)

/-- 'staddlelaw07.HandFewest': WHATEVER THE INPUT: true; the input reads as it did. -/
def handFewestSpec : ChangeSpec := { name := "handFewest", fn := fun _ => fun
  | [d] => { results := [.lit (.bool true)], args := [d] }
  | _ => none }
def handFewestRow : OpenClaim := { program := "ytkhjmedfhobebaagreat", sum := "917cb3457c28f4df4bd5bb481df34028e4bf61e26a985f4b367832ad63f152f0", func := "staddle/staddlelaw07.HandFewest", spec := "handFewest", unfollowed := true, recurses := true, plainKeys := false, apart := false }
def HandFewestSaid : Prop := handFewestRow.holds Tryz.pinned (OpenSpec.ofChange handFewestSpec)

/-- ITS FALSE NEIGHBOUR: 'it returns false'. Refute it at one input. -/
def handFewestWrong : ChangeSpec := { name := "handFewest", fn := fun _ => fun
  | [d] => { results := [.lit (.bool false)], args := [d] }
  | _ => none }
def HandFewestWrongFalsely : Prop := handFewestRow.holds Tryz.pinned (OpenSpec.ofChange handFewestWrong)

/-- 'staddlelaw07.HandProves': WHATEVER THE INPUT: true; the input reads as it did. -/
def handProvesSpec : ChangeSpec := { name := "handProves", fn := fun _ => fun
  | [d1, d2, d3] => { results := [.lit (.bool true)], args := [d1, d2, d3] }
  | _ => none }
def handProvesRow : OpenClaim := { program := "ytkhjmedfhobebaagreat", sum := "917cb3457c28f4df4bd5bb481df34028e4bf61e26a985f4b367832ad63f152f0", func := "staddle/staddlelaw07.HandProves", spec := "handProves", unfollowed := true, recurses := true, plainKeys := false, apart := false }
def HandProvesSaid : Prop := handProvesRow.holds Tryz.pinned (OpenSpec.ofChange handProvesSpec)

/-- ITS FALSE NEIGHBOUR: 'it returns false'. Refute it at one input. -/
def handProvesWrong : ChangeSpec := { name := "handProves", fn := fun _ => fun
  | [d1, d2, d3] => { results := [.lit (.bool false)], args := [d1, d2, d3] }
  | _ => none }
def HandProvesWrongFalsely : Prop := handProvesRow.holds Tryz.pinned (OpenSpec.ofChange handProvesWrong)

/-- 'staddlelaw07.HandShort': WHATEVER THE INPUT: true; the input reads as it did. -/
def handShortSpec : ChangeSpec := { name := "handShort", fn := fun _ => fun
  | [d1, d2] => { results := [.lit (.bool true)], args := [d1, d2] }
  | _ => none }
def handShortRow : OpenClaim := { program := "ytkhjmedfhobebaagreat", sum := "917cb3457c28f4df4bd5bb481df34028e4bf61e26a985f4b367832ad63f152f0", func := "staddle/staddlelaw07.HandShort", spec := "handShort", unfollowed := true, recurses := true, plainKeys := false, apart := false }
def HandShortSaid : Prop := handShortRow.holds Tryz.pinned (OpenSpec.ofChange handShortSpec)

/-- ITS FALSE NEIGHBOUR: 'it returns false'. Refute it at one input. -/
def handShortWrong : ChangeSpec := { name := "handShort", fn := fun _ => fun
  | [d1, d2] => { results := [.lit (.bool false)], args := [d1, d2] }
  | _ => none }
def HandShortWrongFalsely : Prop := handShortRow.holds Tryz.pinned (OpenSpec.ofChange handShortWrong)

/-- 'staddlelaw07.HandChecks': WHATEVER THE INPUT: true; the input reads as it did. -/
def handChecksSpec : ChangeSpec := { name := "handChecks", fn := fun _ => fun
  | [d1, d2, d3] => { results := [.lit (.bool true)], args := [d1, d2, d3] }
  | _ => none }
def handChecksRow : OpenClaim := { program := "ytkhjmedfhobebaagreat", sum := "917cb3457c28f4df4bd5bb481df34028e4bf61e26a985f4b367832ad63f152f0", func := "staddle/staddlelaw07.HandChecks", spec := "handChecks", unfollowed := true, recurses := true, plainKeys := false, apart := false }
def HandChecksSaid : Prop := handChecksRow.holds Tryz.pinned (OpenSpec.ofChange handChecksSpec)

/-- ITS FALSE NEIGHBOUR: 'it returns false'. Refute it at one input. -/
def handChecksWrong : ChangeSpec := { name := "handChecks", fn := fun _ => fun
  | [d1, d2, d3] => { results := [.lit (.bool false)], args := [d1, d2, d3] }
  | _ => none }
def HandChecksWrongFalsely : Prop := handChecksRow.holds Tryz.pinned (OpenSpec.ofChange handChecksWrong)

/-- 'staddlelaw07.HandStocked': WHATEVER THE INPUT: true; the input reads as it did. -/
def handStockedSpec : ChangeSpec := { name := "handStocked", fn := fun _ => fun
  | [d1, d2, d3, d4] => { results := [.lit (.bool true)], args := [d1, d2, d3, d4] }
  | _ => none }
def handStockedRow : OpenClaim := { program := "ytkhjmedfhobebaagreat", sum := "917cb3457c28f4df4bd5bb481df34028e4bf61e26a985f4b367832ad63f152f0", func := "staddle/staddlelaw07.HandStocked", spec := "handStocked", unfollowed := true, recurses := true, plainKeys := false, apart := false }
def HandStockedSaid : Prop := handStockedRow.holds Tryz.pinned (OpenSpec.ofChange handStockedSpec)

/-- ITS FALSE NEIGHBOUR: 'it returns false'. Refute it at one input. -/
def handStockedWrong : ChangeSpec := { name := "handStocked", fn := fun _ => fun
  | [d1, d2, d3, d4] => { results := [.lit (.bool false)], args := [d1, d2, d3, d4] }
  | _ => none }
def HandStockedWrongFalsely : Prop := handStockedRow.holds Tryz.pinned (OpenSpec.ofChange handStockedWrong)

/-- 'staddlelaw07.HandAllowed': WHATEVER THE INPUT: true; the input reads as it did. -/
def handAllowedSpec : ChangeSpec := { name := "handAllowed", fn := fun _ => fun
  | [d1, d2, d3, d4] => { results := [.lit (.bool true)], args := [d1, d2, d3, d4] }
  | _ => none }
def handAllowedRow : OpenClaim := { program := "ytkhjmedfhobebaagreat", sum := "917cb3457c28f4df4bd5bb481df34028e4bf61e26a985f4b367832ad63f152f0", func := "staddle/staddlelaw07.HandAllowed", spec := "handAllowed", unfollowed := true, recurses := true, plainKeys := false, apart := false }
def HandAllowedSaid : Prop := handAllowedRow.holds Tryz.pinned (OpenSpec.ofChange handAllowedSpec)

/-- ITS FALSE NEIGHBOUR: 'it returns false'. Refute it at one input. -/
def handAllowedWrong : ChangeSpec := { name := "handAllowed", fn := fun _ => fun
  | [d1, d2, d3, d4] => { results := [.lit (.bool false)], args := [d1, d2, d3, d4] }
  | _ => none }
def HandAllowedWrongFalsely : Prop := handAllowedRow.holds Tryz.pinned (OpenSpec.ofChange handAllowedWrong)

/-- 'staddlelaw07.HandExplains': WHATEVER THE INPUT: true; the input reads as it did. -/
def handExplainsSpec : ChangeSpec := { name := "handExplains", fn := fun _ => fun
  | [d1, d2] => { results := [.lit (.bool true)], args := [d1, d2] }
  | _ => none }
def handExplainsRow : OpenClaim := { program := "ytkhjmedfhobebaagreat", sum := "917cb3457c28f4df4bd5bb481df34028e4bf61e26a985f4b367832ad63f152f0", func := "staddle/staddlelaw07.HandExplains", spec := "handExplains", unfollowed := true, recurses := true, plainKeys := false, apart := false }
def HandExplainsSaid : Prop := handExplainsRow.holds Tryz.pinned (OpenSpec.ofChange handExplainsSpec)

/-- ITS FALSE NEIGHBOUR: 'it returns false'. Refute it at one input. -/
def handExplainsWrong : ChangeSpec := { name := "handExplains", fn := fun _ => fun
  | [d1, d2] => { results := [.lit (.bool false)], args := [d1, d2] }
  | _ => none }
def HandExplainsWrongFalsely : Prop := handExplainsRow.holds Tryz.pinned (OpenSpec.ofChange handExplainsWrong)

/-- 'staddlelaw07.HandProved': WHATEVER THE INPUT: true; the input reads as it did. -/
def handProvedSpec : ChangeSpec := { name := "handProved", fn := fun _ => fun
  | [d1, d2, d3] => { results := [.lit (.bool true)], args := [d1, d2, d3] }
  | _ => none }
def handProvedRow : OpenClaim := { program := "ytkhjmedfhobebaagreat", sum := "917cb3457c28f4df4bd5bb481df34028e4bf61e26a985f4b367832ad63f152f0", func := "staddle/staddlelaw07.HandProved", spec := "handProved", unfollowed := true, recurses := true, plainKeys := false, apart := false }
def HandProvedSaid : Prop := handProvedRow.holds Tryz.pinned (OpenSpec.ofChange handProvedSpec)

/-- ITS FALSE NEIGHBOUR: 'it returns false'. Refute it at one input. -/
def handProvedWrong : ChangeSpec := { name := "handProved", fn := fun _ => fun
  | [d1, d2, d3] => { results := [.lit (.bool false)], args := [d1, d2, d3] }
  | _ => none }
def HandProvedWrongFalsely : Prop := handProvedRow.holds Tryz.pinned (OpenSpec.ofChange handProvedWrong)

/-- 'staddlelaw07.HandTrue': WHATEVER THE INPUT: true; the input reads as it did. -/
def handTrueSpec : ChangeSpec := { name := "handTrue", fn := fun _ => fun
  | [d1, d2] => { results := [.lit (.bool true)], args := [d1, d2] }
  | _ => none }
def handTrueRow : OpenClaim := { program := "ytkhjmedfhobebaagreat", sum := "917cb3457c28f4df4bd5bb481df34028e4bf61e26a985f4b367832ad63f152f0", func := "staddle/staddlelaw07.HandTrue", spec := "handTrue", unfollowed := true, recurses := true, plainKeys := false, apart := false }
def HandTrueSaid : Prop := handTrueRow.holds Tryz.pinned (OpenSpec.ofChange handTrueSpec)

/-- ITS FALSE NEIGHBOUR: 'it returns false'. Refute it at one input. -/
def handTrueWrong : ChangeSpec := { name := "handTrue", fn := fun _ => fun
  | [d1, d2] => { results := [.lit (.bool false)], args := [d1, d2] }
  | _ => none }
def HandTrueWrongFalsely : Prop := handTrueRow.holds Tryz.pinned (OpenSpec.ofChange handTrueWrong)

/-- 'staddlelaw07.HandClashed': WHATEVER THE INPUT: true; the input reads as it did. -/
def handClashedSpec : ChangeSpec := { name := "handClashed", fn := fun _ => fun
  | [d1, d2, d3] => { results := [.lit (.bool true)], args := [d1, d2, d3] }
  | _ => none }
def handClashedRow : OpenClaim := { program := "ytkhjmedfhobebaagreat", sum := "917cb3457c28f4df4bd5bb481df34028e4bf61e26a985f4b367832ad63f152f0", func := "staddle/staddlelaw07.HandClashed", spec := "handClashed", unfollowed := true, recurses := true, plainKeys := false, apart := false }
def HandClashedSaid : Prop := handClashedRow.holds Tryz.pinned (OpenSpec.ofChange handClashedSpec)

/-- ITS FALSE NEIGHBOUR: 'it returns false'. Refute it at one input. -/
def handClashedWrong : ChangeSpec := { name := "handClashed", fn := fun _ => fun
  | [d1, d2, d3] => { results := [.lit (.bool false)], args := [d1, d2, d3] }
  | _ => none }
def HandClashedWrongFalsely : Prop := handClashedRow.holds Tryz.pinned (OpenSpec.ofChange handClashedWrong)

/-- 'staddlelaw07.HandMore': WHATEVER THE INPUT: true; the input reads as it did. -/
def handMoreSpec : ChangeSpec := { name := "handMore", fn := fun _ => fun
  | [d1, d2, d3] => { results := [.lit (.bool true)], args := [d1, d2, d3] }
  | _ => none }
def handMoreRow : OpenClaim := { program := "ytkhjmedfhobebaagreat", sum := "917cb3457c28f4df4bd5bb481df34028e4bf61e26a985f4b367832ad63f152f0", func := "staddle/staddlelaw07.HandMore", spec := "handMore", unfollowed := true, recurses := true, plainKeys := false, apart := false }
def HandMoreSaid : Prop := handMoreRow.holds Tryz.pinned (OpenSpec.ofChange handMoreSpec)

/-- ITS FALSE NEIGHBOUR: 'it returns false'. Refute it at one input. -/
def handMoreWrong : ChangeSpec := { name := "handMore", fn := fun _ => fun
  | [d1, d2, d3] => { results := [.lit (.bool false)], args := [d1, d2, d3] }
  | _ => none }
def HandMoreWrongFalsely : Prop := handMoreRow.holds Tryz.pinned (OpenSpec.ofChange handMoreWrong)

/-- 'staddlelaw07.HandNamed': WHATEVER THE INPUT: true; the input reads as it did. -/
def handNamedSpec : ChangeSpec := { name := "handNamed", fn := fun _ => fun
  | [d1, d2] => { results := [.lit (.bool true)], args := [d1, d2] }
  | _ => none }
def handNamedRow : OpenClaim := { program := "ytkhjmedfhobebaagreat", sum := "917cb3457c28f4df4bd5bb481df34028e4bf61e26a985f4b367832ad63f152f0", func := "staddle/staddlelaw07.HandNamed", spec := "handNamed", unfollowed := true, recurses := true, plainKeys := false, apart := false }
def HandNamedSaid : Prop := handNamedRow.holds Tryz.pinned (OpenSpec.ofChange handNamedSpec)

/-- ITS FALSE NEIGHBOUR: 'it returns false'. Refute it at one input. -/
def handNamedWrong : ChangeSpec := { name := "handNamed", fn := fun _ => fun
  | [d1, d2] => { results := [.lit (.bool false)], args := [d1, d2] }
  | _ => none }
def HandNamedWrongFalsely : Prop := handNamedRow.holds Tryz.pinned (OpenSpec.ofChange handNamedWrong)

/-- 'staddlelaw07.HandSmall': WHATEVER THE INPUT: true; the input reads as it did. -/
def handSmallSpec : ChangeSpec := { name := "handSmall", fn := fun _ => fun
  | [] => { results := [.lit (.bool true)], args := [] }
  | _ => none }
def handSmallRow : OpenClaim := { program := "ytkhjmedfhobebaagreat", sum := "917cb3457c28f4df4bd5bb481df34028e4bf61e26a985f4b367832ad63f152f0", func := "staddle/staddlelaw07.HandSmall", spec := "handSmall", unfollowed := true, recurses := true, plainKeys := false, apart := false }
def HandSmallSaid : Prop := handSmallRow.holds Tryz.pinned (OpenSpec.ofChange handSmallSpec)

/-- ITS FALSE NEIGHBOUR: 'it returns false'. Refute it at one input. -/
def handSmallWrong : ChangeSpec := { name := "handSmall", fn := fun _ => fun
  | [] => { results := [.lit (.bool false)], args := [] }
  | _ => none }
def HandSmallWrongFalsely : Prop := handSmallRow.holds Tryz.pinned (OpenSpec.ofChange handSmallWrong)

/- THE SECOND FORM. 'bulk': how many values and letters a reading holds, each counted each time it is reached (what is shared counts as often as it is met; a slice's spare places count too). A statement '..UptoSaid' is the law's where the arguments, and the package variables that the reading takes, are together of bulk at most 1048576: NARROWER than '..Said'. Prove '..Said' where nothing that the law and all that it calls make is longer than what came in: it says more and counts as full. Else prove '..UptoSaid'. A law counts once. -/
mutual
def uptoBulk {H : Type} : DataW H → Nat
  | .lit (.string bytes) => bytes.length + 1
  | .lit _ => 1
  | .nil => 1
  | .ptr d => uptoBulk d + 1
  | .slice elems spare => uptoBulkAll elems + uptoBulkAll spare + 1
  | .agg parts => uptoBulkAll parts + 1
  | .iface _ d => uptoBulk d + 1
  | .map entries => uptoBulkEntries entries + 1
  | .held _ => 1
def uptoBulkAll {H : Type} : List (DataW H) → Nat
  | [] => 0
  | d :: r => uptoBulk d + uptoBulkAll r
def uptoBulkEntries {H : Type} : List (Lit × DataW H) → Nat
  | [] => 0
  | x :: r => uptoBulkEntry x + uptoBulkEntries r
def uptoBulkEntry {H : Type} : Lit × DataW H → Nat
  | (.string bytes, d) => bytes.length + uptoBulk d + 1
  | (_, d) => uptoBulk d + 1
 end
def uptoSmall : (H : Type) → List (DataW H) → Bool := fun _ ds => decide (uptoBulkAll ds ≤ 1048576)
def OpenSpec.upto (s : _root_.Go.ChangeSpec) : _root_.Go.OpenSpec := { _root_.Go.OpenSpec.ofChange s with cond := some uptoSmall }

/-- 'staddlelaw07.HandLeast', WHERE WHAT IT READS IS OF BULK AT MOST 1048576: true; the input reads as it did. -/
def handLeastUptoRow : OpenClaim := { program := "ytkhjmedfhobebaagreat", sum := "917cb3457c28f4df4bd5bb481df34028e4bf61e26a985f4b367832ad63f152f0", func := "staddle/staddlelaw07.HandLeast", spec := "handLeast", unfollowed := true, recurses := true, plainKeys := false, apart := false, narrowed := true }
def HandLeastUptoSaid : Prop := handLeastUptoRow.holds Tryz.pinned (OpenSpec.upto handLeastSpec)

/-- 'staddlelaw07.HandFewest', WHERE WHAT IT READS IS OF BULK AT MOST 1048576: true; the input reads as it did. -/
def handFewestUptoRow : OpenClaim := { program := "ytkhjmedfhobebaagreat", sum := "917cb3457c28f4df4bd5bb481df34028e4bf61e26a985f4b367832ad63f152f0", func := "staddle/staddlelaw07.HandFewest", spec := "handFewest", unfollowed := true, recurses := true, plainKeys := false, apart := false, narrowed := true }
def HandFewestUptoSaid : Prop := handFewestUptoRow.holds Tryz.pinned (OpenSpec.upto handFewestSpec)

/-- 'staddlelaw07.HandProves', WHERE WHAT IT READS IS OF BULK AT MOST 1048576: true; the input reads as it did. -/
def handProvesUptoRow : OpenClaim := { program := "ytkhjmedfhobebaagreat", sum := "917cb3457c28f4df4bd5bb481df34028e4bf61e26a985f4b367832ad63f152f0", func := "staddle/staddlelaw07.HandProves", spec := "handProves", unfollowed := true, recurses := true, plainKeys := false, apart := false, narrowed := true }
def HandProvesUptoSaid : Prop := handProvesUptoRow.holds Tryz.pinned (OpenSpec.upto handProvesSpec)

/-- 'staddlelaw07.HandShort', WHERE WHAT IT READS IS OF BULK AT MOST 1048576: true; the input reads as it did. -/
def handShortUptoRow : OpenClaim := { program := "ytkhjmedfhobebaagreat", sum := "917cb3457c28f4df4bd5bb481df34028e4bf61e26a985f4b367832ad63f152f0", func := "staddle/staddlelaw07.HandShort", spec := "handShort", unfollowed := true, recurses := true, plainKeys := false, apart := false, narrowed := true }
def HandShortUptoSaid : Prop := handShortUptoRow.holds Tryz.pinned (OpenSpec.upto handShortSpec)

/-- 'staddlelaw07.HandChecks', WHERE WHAT IT READS IS OF BULK AT MOST 1048576: true; the input reads as it did. -/
def handChecksUptoRow : OpenClaim := { program := "ytkhjmedfhobebaagreat", sum := "917cb3457c28f4df4bd5bb481df34028e4bf61e26a985f4b367832ad63f152f0", func := "staddle/staddlelaw07.HandChecks", spec := "handChecks", unfollowed := true, recurses := true, plainKeys := false, apart := false, narrowed := true }
def HandChecksUptoSaid : Prop := handChecksUptoRow.holds Tryz.pinned (OpenSpec.upto handChecksSpec)

/-- 'staddlelaw07.HandStocked', WHERE WHAT IT READS IS OF BULK AT MOST 1048576: true; the input reads as it did. -/
def handStockedUptoRow : OpenClaim := { program := "ytkhjmedfhobebaagreat", sum := "917cb3457c28f4df4bd5bb481df34028e4bf61e26a985f4b367832ad63f152f0", func := "staddle/staddlelaw07.HandStocked", spec := "handStocked", unfollowed := true, recurses := true, plainKeys := false, apart := false, narrowed := true }
def HandStockedUptoSaid : Prop := handStockedUptoRow.holds Tryz.pinned (OpenSpec.upto handStockedSpec)

/-- 'staddlelaw07.HandAllowed', WHERE WHAT IT READS IS OF BULK AT MOST 1048576: true; the input reads as it did. -/
def handAllowedUptoRow : OpenClaim := { program := "ytkhjmedfhobebaagreat", sum := "917cb3457c28f4df4bd5bb481df34028e4bf61e26a985f4b367832ad63f152f0", func := "staddle/staddlelaw07.HandAllowed", spec := "handAllowed", unfollowed := true, recurses := true, plainKeys := false, apart := false, narrowed := true }
def HandAllowedUptoSaid : Prop := handAllowedUptoRow.holds Tryz.pinned (OpenSpec.upto handAllowedSpec)

/-- 'staddlelaw07.HandExplains', WHERE WHAT IT READS IS OF BULK AT MOST 1048576: true; the input reads as it did. -/
def handExplainsUptoRow : OpenClaim := { program := "ytkhjmedfhobebaagreat", sum := "917cb3457c28f4df4bd5bb481df34028e4bf61e26a985f4b367832ad63f152f0", func := "staddle/staddlelaw07.HandExplains", spec := "handExplains", unfollowed := true, recurses := true, plainKeys := false, apart := false, narrowed := true }
def HandExplainsUptoSaid : Prop := handExplainsUptoRow.holds Tryz.pinned (OpenSpec.upto handExplainsSpec)

/-- 'staddlelaw07.HandProved', WHERE WHAT IT READS IS OF BULK AT MOST 1048576: true; the input reads as it did. -/
def handProvedUptoRow : OpenClaim := { program := "ytkhjmedfhobebaagreat", sum := "917cb3457c28f4df4bd5bb481df34028e4bf61e26a985f4b367832ad63f152f0", func := "staddle/staddlelaw07.HandProved", spec := "handProved", unfollowed := true, recurses := true, plainKeys := false, apart := false, narrowed := true }
def HandProvedUptoSaid : Prop := handProvedUptoRow.holds Tryz.pinned (OpenSpec.upto handProvedSpec)

/-- 'staddlelaw07.HandTrue', WHERE WHAT IT READS IS OF BULK AT MOST 1048576: true; the input reads as it did. -/
def handTrueUptoRow : OpenClaim := { program := "ytkhjmedfhobebaagreat", sum := "917cb3457c28f4df4bd5bb481df34028e4bf61e26a985f4b367832ad63f152f0", func := "staddle/staddlelaw07.HandTrue", spec := "handTrue", unfollowed := true, recurses := true, plainKeys := false, apart := false, narrowed := true }
def HandTrueUptoSaid : Prop := handTrueUptoRow.holds Tryz.pinned (OpenSpec.upto handTrueSpec)

/-- 'staddlelaw07.HandClashed', WHERE WHAT IT READS IS OF BULK AT MOST 1048576: true; the input reads as it did. -/
def handClashedUptoRow : OpenClaim := { program := "ytkhjmedfhobebaagreat", sum := "917cb3457c28f4df4bd5bb481df34028e4bf61e26a985f4b367832ad63f152f0", func := "staddle/staddlelaw07.HandClashed", spec := "handClashed", unfollowed := true, recurses := true, plainKeys := false, apart := false, narrowed := true }
def HandClashedUptoSaid : Prop := handClashedUptoRow.holds Tryz.pinned (OpenSpec.upto handClashedSpec)

/-- 'staddlelaw07.HandMore', WHERE WHAT IT READS IS OF BULK AT MOST 1048576: true; the input reads as it did. -/
def handMoreUptoRow : OpenClaim := { program := "ytkhjmedfhobebaagreat", sum := "917cb3457c28f4df4bd5bb481df34028e4bf61e26a985f4b367832ad63f152f0", func := "staddle/staddlelaw07.HandMore", spec := "handMore", unfollowed := true, recurses := true, plainKeys := false, apart := false, narrowed := true }
def HandMoreUptoSaid : Prop := handMoreUptoRow.holds Tryz.pinned (OpenSpec.upto handMoreSpec)

/-- 'staddlelaw07.HandNamed', WHERE WHAT IT READS IS OF BULK AT MOST 1048576: true; the input reads as it did. -/
def handNamedUptoRow : OpenClaim := { program := "ytkhjmedfhobebaagreat", sum := "917cb3457c28f4df4bd5bb481df34028e4bf61e26a985f4b367832ad63f152f0", func := "staddle/staddlelaw07.HandNamed", spec := "handNamed", unfollowed := true, recurses := true, plainKeys := false, apart := false, narrowed := true }
def HandNamedUptoSaid : Prop := handNamedUptoRow.holds Tryz.pinned (OpenSpec.upto handNamedSpec)

/-- 'staddlelaw07.HandSmall', WHERE WHAT IT READS IS OF BULK AT MOST 1048576: true; the input reads as it did. -/
def handSmallUptoRow : OpenClaim := { program := "ytkhjmedfhobebaagreat", sum := "917cb3457c28f4df4bd5bb481df34028e4bf61e26a985f4b367832ad63f152f0", func := "staddle/staddlelaw07.HandSmall", spec := "handSmall", unfollowed := true, recurses := true, plainKeys := false, apart := false, narrowed := true }
def HandSmallUptoSaid : Prop := handSmallUptoRow.holds Tryz.pinned (OpenSpec.upto handSmallSpec)

end Rows
end Go.Proofs.YtkhjmedfhobebaaGreat
