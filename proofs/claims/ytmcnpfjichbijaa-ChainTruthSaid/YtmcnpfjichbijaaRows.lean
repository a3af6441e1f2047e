/-
  No cell of these rows narrows 'for every input' (looked for: loops, veiled, ifaces, maps, wideKeys, modest, calm, conditions, laid).
  DERIVED. THE GIVEN ROWS OF THIS SEAT. 14 by the template 'for every input the law returns true; each argument reads behind the call as it read before'; 0 by the template 'total and deterministic' (their statements: YtmcnpfjichbijaaTotals.lean).
  GIVEN WITH THE SEED: the statements are not yours to turn. If you find one false, say at which input.
  Laid BY PROGRAM, IN A SANDBOX (cutbox-rows.mjs): the forced cells as the released guide's own fill.sh prints them over the translation 2f84abdee37c4b8c… (all of the seat's roots in one cut). By AI agents, Wed Nov 11 2026. No macro, syntax, notation, axiom, sorry.
-/
import Derived.Test.YtmcnpfjichbijaaChecked
import GoSem.Claim
import GoSem.ClaimJoined
import GoSem.ClaimMapViews
import Derived.JoinedTies
import Derived.KernelRfl
namespace Go.Proofs.Ytmcnpfjichbijaa
/- THE CELL 'sum', in the pinned program and in every row, IS THE sha256 OF THE DUMP (.gsa) THAT YtmcnpfjichbijaaProg.lean LOADS. Nothing in Lean hashes anything: it is a label: what it is worth is what the hold of that sum in a sandbox is worth. -/
noncomputable def Try.pinned : Pinned := { name := "ytmcnpfjichbijaa", sum := "2f84abdee37c4b8c1529a392840a5b778f039c361fc6617964780d8c5f946bfc", checked := Try.checked }
namespace Rows
def none {H : Type} : Left H := { results := [], args := [] }

/-- 'tensilelaw02.ChainHangs': WHATEVER THE INPUT: true; the input reads as it did. -/
def chainHangsSpec : ChangeSpec := { name := "chainHangs", fn := fun _ => fun
  | [d1, d2] => { results := [.lit (.bool true)], args := [d1, d2] }
  | _ => none }
def chainHangsRow : OpenClaim := { program := "ytmcnpfjichbijaa", sum := "2f84abdee37c4b8c1529a392840a5b778f039c361fc6617964780d8c5f946bfc", func := "tensile/tensilelaw02.ChainHangs", spec := "chainHangs", unfollowed := true, recurses := true, apart := false }
def ChainHangsSaid : Prop := chainHangsRow.holds Try.pinned (OpenSpec.ofChange chainHangsSpec)

/-- ITS FALSE NEIGHBOUR: 'it returns false'. Refute it at one input. -/
def chainHangsWrong : ChangeSpec := { name := "chainHangs", fn := fun _ => fun
  | [d1, d2] => { results := [.lit (.bool false)], args := [d1, d2] }
  | _ => none }
def ChainHangsWrongFalsely : Prop := chainHangsRow.holds Try.pinned (OpenSpec.ofChange chainHangsWrong)

/-- 'tensilelaw02.ChainSpans': WHATEVER THE INPUT: true; the input reads as it did. -/
def chainSpansSpec : ChangeSpec := { name := "chainSpans", fn := fun _ => fun
  | [d1, d2, d3] => { results := [.lit (.bool true)], args := [d1, d2, d3] }
  | _ => none }
def chainSpansRow : OpenClaim := { program := "ytmcnpfjichbijaa", sum := "2f84abdee37c4b8c1529a392840a5b778f039c361fc6617964780d8c5f946bfc", func := "tensile/tensilelaw02.ChainSpans", spec := "chainSpans", unfollowed := true, recurses := true, apart := false }
def ChainSpansSaid : Prop := chainSpansRow.holds Try.pinned (OpenSpec.ofChange chainSpansSpec)

/-- ITS FALSE NEIGHBOUR: 'it returns false'. Refute it at one input. -/
def chainSpansWrong : ChangeSpec := { name := "chainSpans", fn := fun _ => fun
  | [d1, d2, d3] => { results := [.lit (.bool false)], args := [d1, d2, d3] }
  | _ => none }
def ChainSpansWrongFalsely : Prop := chainSpansRow.holds Try.pinned (OpenSpec.ofChange chainSpansWrong)

/-- 'tensilelaw02.ChainHung': WHATEVER THE INPUT: true; the input reads as it did. -/
def chainHungSpec : ChangeSpec := { name := "chainHung", fn := fun _ => fun
  | [d1, d2, d3] => { results := [.lit (.bool true)], args := [d1, d2, d3] }
  | _ => none }
def chainHungRow : OpenClaim := { program := "ytmcnpfjichbijaa", sum := "2f84abdee37c4b8c1529a392840a5b778f039c361fc6617964780d8c5f946bfc", func := "tensile/tensilelaw02.ChainHung", spec := "chainHung", unfollowed := true, recurses := true, apart := false }
def ChainHungSaid : Prop := chainHungRow.holds Try.pinned (OpenSpec.ofChange chainHungSpec)

/-- ITS FALSE NEIGHBOUR: 'it returns false'. Refute it at one input. -/
def chainHungWrong : ChangeSpec := { name := "chainHung", fn := fun _ => fun
  | [d1, d2, d3] => { results := [.lit (.bool false)], args := [d1, d2, d3] }
  | _ => none }
def ChainHungWrongFalsely : Prop := chainHungRow.holds Try.pinned (OpenSpec.ofChange chainHungWrong)

/-- 'tensilelaw02.ChainMore': WHATEVER THE INPUT: true; the input reads as it did. -/
def chainMoreSpec : ChangeSpec := { name := "chainMore", fn := fun _ => fun
  | [d1, d2, d3, d4] => { results := [.lit (.bool true)], args := [d1, d2, d3, d4] }
  | _ => none }
def chainMoreRow : OpenClaim := { program := "ytmcnpfjichbijaa", sum := "2f84abdee37c4b8c1529a392840a5b778f039c361fc6617964780d8c5f946bfc", func := "tensile/tensilelaw02.ChainMore", spec := "chainMore", unfollowed := true, recurses := true, apart := false }
def ChainMoreSaid : Prop := chainMoreRow.holds Try.pinned (OpenSpec.ofChange chainMoreSpec)

/-- ITS FALSE NEIGHBOUR: 'it returns false'. Refute it at one input. -/
def chainMoreWrong : ChangeSpec := { name := "chainMore", fn := fun _ => fun
  | [d1, d2, d3, d4] => { results := [.lit (.bool false)], args := [d1, d2, d3, d4] }
  | _ => none }
def ChainMoreWrongFalsely : Prop := chainMoreRow.holds Try.pinned (OpenSpec.ofChange chainMoreWrong)

/-- 'tensilelaw02.ChainLater': WHATEVER THE INPUT: true; the input reads as it did. -/
def chainLaterSpec : ChangeSpec := { name := "chainLater", fn := fun _ => fun
  | [d1, d2, d3] => { results := [.lit (.bool true)], args := [d1, d2, d3] }
  | _ => none }
def chainLaterRow : OpenClaim := { program := "ytmcnpfjichbijaa", sum := "2f84abdee37c4b8c1529a392840a5b778f039c361fc6617964780d8c5f946bfc", func := "tensile/tensilelaw02.ChainLater", spec := "chainLater", unfollowed := true, recurses := true, apart := false }
def ChainLaterSaid : Prop := chainLaterRow.holds Try.pinned (OpenSpec.ofChange chainLaterSpec)

/-- ITS FALSE NEIGHBOUR: 'it returns false'. Refute it at one input. -/
def chainLaterWrong : ChangeSpec := { name := "chainLater", fn := fun _ => fun
  | [d1, d2, d3] => { results := [.lit (.bool false)], args := [d1, d2, d3] }
  | _ => none }
def ChainLaterWrongFalsely : Prop := chainLaterRow.holds Try.pinned (OpenSpec.ofChange chainLaterWrong)

/-- 'tensilelaw02.ChainEnds': WHATEVER THE INPUT: true; the input reads as it did. -/
def chainEndsSpec : ChangeSpec := { name := "chainEnds", fn := fun _ => fun
  | [d1, d2, d3] => { results := [.lit (.bool true)], args := [d1, d2, d3] }
  | _ => none }
def chainEndsRow : OpenClaim := { program := "ytmcnpfjichbijaa", sum := "2f84abdee37c4b8c1529a392840a5b778f039c361fc6617964780d8c5f946bfc", func := "tensile/tensilelaw02.ChainEnds", spec := "chainEnds", unfollowed := true, recurses := true, apart := false }
def ChainEndsSaid : Prop := chainEndsRow.holds Try.pinned (OpenSpec.ofChange chainEndsSpec)

/-- ITS FALSE NEIGHBOUR: 'it returns false'. Refute it at one input. -/
def chainEndsWrong : ChangeSpec := { name := "chainEnds", fn := fun _ => fun
  | [d1, d2, d3] => { results := [.lit (.bool false)], args := [d1, d2, d3] }
  | _ => none }
def ChainEndsWrongFalsely : Prop := chainEndsRow.holds Try.pinned (OpenSpec.ofChange chainEndsWrong)

/-- 'tensilelaw02.ChainHolds': WHATEVER THE INPUT: true; the input reads as it did. -/
def chainHoldsSpec : ChangeSpec := { name := "chainHolds", fn := fun _ => fun
  | [d1, d2] => { results := [.lit (.bool true)], args := [d1, d2] }
  | _ => none }
def chainHoldsRow : OpenClaim := { program := "ytmcnpfjichbijaa", sum := "2f84abdee37c4b8c1529a392840a5b778f039c361fc6617964780d8c5f946bfc", func := "tensile/tensilelaw02.ChainHolds", spec := "chainHolds", unfollowed := true, recurses := true, apart := false }
def ChainHoldsSaid : Prop := chainHoldsRow.holds Try.pinned (OpenSpec.ofChange chainHoldsSpec)

/-- ITS FALSE NEIGHBOUR: 'it returns false'. Refute it at one input. -/
def chainHoldsWrong : ChangeSpec := { name := "chainHolds", fn := fun _ => fun
  | [d1, d2] => { results := [.lit (.bool false)], args := [d1, d2] }
  | _ => none }
def ChainHoldsWrongFalsely : Prop := chainHoldsRow.holds Try.pinned (OpenSpec.ofChange chainHoldsWrong)

/-- 'tensilelaw02.ChainSuspects': WHATEVER THE INPUT: true; the input reads as it did. -/
def chainSuspectsSpec : ChangeSpec := { name := "chainSuspects", fn := fun _ => fun
  | [d] => { results := [.lit (.bool true)], args := [d] }
  | _ => none }
def chainSuspectsRow : OpenClaim := { program := "ytmcnpfjichbijaa", sum := "2f84abdee37c4b8c1529a392840a5b778f039c361fc6617964780d8c5f946bfc", func := "tensile/tensilelaw02.ChainSuspects", spec := "chainSuspects", unfollowed := true, recurses := true, apart := false }
def ChainSuspectsSaid : Prop := chainSuspectsRow.holds Try.pinned (OpenSpec.ofChange chainSuspectsSpec)

/-- ITS FALSE NEIGHBOUR: 'it returns false'. Refute it at one input. -/
def chainSuspectsWrong : ChangeSpec := { name := "chainSuspects", fn := fun _ => fun
  | [d] => { results := [.lit (.bool false)], args := [d] }
  | _ => none }
def ChainSuspectsWrongFalsely : Prop := chainSuspectsRow.holds Try.pinned (OpenSpec.ofChange chainSuspectsWrong)

/-- 'tensilelaw02.ChainTruth': WHATEVER THE INPUT: true; the input reads as it did. -/
def chainTruthSpec : ChangeSpec := { name := "chainTruth", fn := fun _ => fun
  | [d1, d2, d3] => { results := [.lit (.bool true)], args := [d1, d2, d3] }
  | _ => none }
def chainTruthRow : OpenClaim := { program := "ytmcnpfjichbijaa", sum := "2f84abdee37c4b8c1529a392840a5b778f039c361fc6617964780d8c5f946bfc", func := "tensile/tensilelaw02.ChainTruth", spec := "chainTruth", unfollowed := true, recurses := true, apart := false }
def ChainTruthSaid : Prop := chainTruthRow.holds Try.pinned (OpenSpec.ofChange chainTruthSpec)

/-- ITS FALSE NEIGHBOUR: 'it returns false'. Refute it at one input. -/
def chainTruthWrong : ChangeSpec := { name := "chainTruth", fn := fun _ => fun
  | [d1, d2, d3] => { results := [.lit (.bool false)], args := [d1, d2, d3] }
  | _ => none }
def ChainTruthWrongFalsely : Prop := chainTruthRow.holds Try.pinned (OpenSpec.ofChange chainTruthWrong)

/-- 'tensilelaw02.ChainOrder': WHATEVER THE INPUT: true; the input reads as it did. -/
def chainOrderSpec : ChangeSpec := { name := "chainOrder", fn := fun _ => fun
  | [d1, d2, d3, d4, d5] => { results := [.lit (.bool true)], args := [d1, d2, d3, d4, d5] }
  | _ => none }
def chainOrderRow : OpenClaim := { program := "ytmcnpfjichbijaa", sum := "2f84abdee37c4b8c1529a392840a5b778f039c361fc6617964780d8c5f946bfc", func := "tensile/tensilelaw02.ChainOrder", spec := "chainOrder", unfollowed := true, recurses := true, apart := false }
def ChainOrderSaid : Prop := chainOrderRow.holds Try.pinned (OpenSpec.ofChange chainOrderSpec)

/-- ITS FALSE NEIGHBOUR: 'it returns false'. Refute it at one input. -/
def chainOrderWrong : ChangeSpec := { name := "chainOrder", fn := fun _ => fun
  | [d1, d2, d3, d4, d5] => { results := [.lit (.bool false)], args := [d1, d2, d3, d4, d5] }
  | _ => none }
def ChainOrderWrongFalsely : Prop := chainOrderRow.holds Try.pinned (OpenSpec.ofChange chainOrderWrong)

/-- 'tensilelaw02.ChainWrong': WHATEVER THE INPUT: true; the input reads as it did. -/
def chainWrongSpec : ChangeSpec := { name := "chainWrong", fn := fun _ => fun
  | [d1, d2, d3, d4] => { results := [.lit (.bool true)], args := [d1, d2, d3, d4] }
  | _ => none }
def chainWrongRow : OpenClaim := { program := "ytmcnpfjichbijaa", sum := "2f84abdee37c4b8c1529a392840a5b778f039c361fc6617964780d8c5f946bfc", func := "tensile/tensilelaw02.ChainWrong", spec := "chainWrong", unfollowed := true, recurses := true, apart := false }
def ChainWrongSaid : Prop := chainWrongRow.holds Try.pinned (OpenSpec.ofChange chainWrongSpec)

/-- ITS FALSE NEIGHBOUR: 'it returns false'. Refute it at one input. -/
def chainWrongWrong : ChangeSpec := { name := "chainWrong", fn := fun _ => fun
  | [d1, d2, d3, d4] => { results := [.lit (.bool false)], args := [d1, d2, d3, d4] }
  | _ => none }
def ChainWrongWrongFalsely : Prop := chainWrongRow.holds Try.pinned (OpenSpec.ofChange chainWrongWrong)

/-- 'tensilelaw02.ChainMoved': WHATEVER THE INPUT: true; the input reads as it did. -/
def chainMovedSpec : ChangeSpec := { name := "chainMoved", fn := fun _ => fun
  | [d1, d2, d3, d4] => { results := [.lit (.bool true)], args := [d1, d2, d3, d4] }
  | _ => none }
def chainMovedRow : OpenClaim := { program := "ytmcnpfjichbijaa", sum := "2f84abdee37c4b8c1529a392840a5b778f039c361fc6617964780d8c5f946bfc", func := "tensile/tensilelaw02.ChainMoved", spec := "chainMoved", unfollowed := true, recurses := true, apart := false }
def ChainMovedSaid : Prop := chainMovedRow.holds Try.pinned (OpenSpec.ofChange chainMovedSpec)

/-- ITS FALSE NEIGHBOUR: 'it returns false'. Refute it at one input. -/
def chainMovedWrong : ChangeSpec := { name := "chainMoved", fn := fun _ => fun
  | [d1, d2, d3, d4] => { results := [.lit (.bool false)], args := [d1, d2, d3, d4] }
  | _ => none }
def ChainMovedWrongFalsely : Prop := chainMovedRow.holds Try.pinned (OpenSpec.ofChange chainMovedWrong)

/-- 'tensilelaw02.ChainBests': WHATEVER THE INPUT: true; the input reads as it did. -/
def chainBestsSpec : ChangeSpec := { name := "chainBests", fn := fun _ => fun
  | [d1, d2, d3, d4] => { results := [.lit (.bool true)], args := [d1, d2, d3, d4] }
  | _ => none }
def chainBestsRow : OpenClaim := { program := "ytmcnpfjichbijaa", sum := "2f84abdee37c4b8c1529a392840a5b778f039c361fc6617964780d8c5f946bfc", func := "tensile/tensilelaw02.ChainBests", spec := "chainBests", unfollowed := true, recurses := true, apart := false }
def ChainBestsSaid : Prop := chainBestsRow.holds Try.pinned (OpenSpec.ofChange chainBestsSpec)

/-- ITS FALSE NEIGHBOUR: 'it returns false'. Refute it at one input. -/
def chainBestsWrong : ChangeSpec := { name := "chainBests", fn := fun _ => fun
  | [d1, d2, d3, d4] => { results := [.lit (.bool false)], args := [d1, d2, d3, d4] }
  | _ => none }
def ChainBestsWrongFalsely : Prop := chainBestsRow.holds Try.pinned (OpenSpec.ofChange chainBestsWrong)

/-- 'tensilelaw02.ChainNames': WHATEVER THE INPUT: true; the input reads as it did. -/
def chainNamesSpec : ChangeSpec := { name := "chainNames", fn := fun _ => fun
  | [] => { results := [.lit (.bool true)], args := [] }
  | _ => none }
def chainNamesRow : OpenClaim := { program := "ytmcnpfjichbijaa", sum := "2f84abdee37c4b8c1529a392840a5b778f039c361fc6617964780d8c5f946bfc", func := "tensile/tensilelaw02.ChainNames", spec := "chainNames", unfollowed := true, recurses := true, apart := false }
def ChainNamesSaid : Prop := chainNamesRow.holds Try.pinned (OpenSpec.ofChange chainNamesSpec)

/-- ITS FALSE NEIGHBOUR: 'it returns false'. Refute it at one input. -/
def chainNamesWrong : ChangeSpec := { name := "chainNames", fn := fun _ => fun
  | [] => { results := [.lit (.bool false)], args := [] }
  | _ => none }
def ChainNamesWrongFalsely : Prop := chainNamesRow.holds Try.pinned (OpenSpec.ofChange chainNamesWrong)

/- THE SECOND FORM. 'bulk': how many values and letters a reading holds, each counted each time it is reached (what is shared counts as often as it is met; a slice's spare places count too). A statement '..UptoSaid' is the law's where the arguments, and the package variables that the reading takes, are together of bulk at most 1048576: NARROWER than '..Said'. Prove '..Said' where nothing that the law and all that it calls make is longer than what came in: it says more and counts as full. Else prove '..UptoSaid'. A law counts once. -/
mutual
def uptoBulk {H : Type} : DataW H → Nat
  | .lit (.string bytes) => bytes.length + 1
  | .lit _ => 1
  | .nil => 1
  | .ptr d => uptoBulk d + 1
  | .slice elems spare => uptoBulkAll elems + uptoBulkAll spare + 1
  | .agg parts => uptoBulkAll parts + 1
  | .iface _ d => uptoBulk d + 1
  | .map entries => uptoBulkEntries entries + 1
  | .held _ => 1
def uptoBulkAll {H : Type} : List (DataW H) → Nat
  | [] => 0
  | d :: r => uptoBulk d + uptoBulkAll r
def uptoBulkEntries {H : Type} : List (Lit × DataW H) → Nat
  | [] => 0
  | x :: r => uptoBulkEntry x + uptoBulkEntries r
def uptoBulkEntry {H : Type} : Lit × DataW H → Nat
  | (.string bytes, d) => bytes.length + uptoBulk d + 1
  | (_, d) => uptoBulk d + 1
 end
def uptoSmall : (H : Type) → List (DataW H) → Bool := fun _ ds => decide (uptoBulkAll ds ≤ 1048576)
def OpenSpec.upto (s : _root_.Go.ChangeSpec) : _root_.Go.OpenSpec := { _root_.Go.OpenSpec.ofChange s with cond := some uptoSmall }

/-- 'tensilelaw02.ChainHangs', WHERE WHAT IT READS IS OF BULK AT MOST 1048576: true; the input reads as it did. -/
def chainHangsUptoRow : OpenClaim := { program := "ytmcnpfjichbijaa", sum := "2f84abdee37c4b8c1529a392840a5b778f039c361fc6617964780d8c5f946bfc", func := "tensile/tensilelaw02.ChainHangs", spec := "chainHangs", unfollowed := true, recurses := true, apart := false, narrowed := true }
def ChainHangsUptoSaid : Prop := chainHangsUptoRow.holds Try.pinned (OpenSpec.upto chainHangsSpec)

/-- 'tensilelaw02.ChainSpans', WHERE WHAT IT READS IS OF BULK AT MOST 1048576: true; the input reads as it did. -/
def chainSpansUptoRow : OpenClaim := { program := "ytmcnpfjichbijaa", sum := "2f84abdee37c4b8c1529a392840a5b778f039c361fc6617964780d8c5f946bfc", func := "tensile/tensilelaw02.ChainSpans", spec := "chainSpans", unfollowed := true, recurses := true, apart := false, narrowed := true }
def ChainSpansUptoSaid : Prop := chainSpansUptoRow.holds Try.pinned (OpenSpec.upto chainSpansSpec)

/-- 'tensilelaw02.ChainHung', WHERE WHAT IT READS IS OF BULK AT MOST 1048576: true; the input reads as it did. -/
def chainHungUptoRow : OpenClaim := { program := "ytmcnpfjichbijaa", sum := "2f84abdee37c4b8c1529a392840a5b778f039c361fc6617964780d8c5f946bfc", func := "tensile/tensilelaw02.ChainHung", spec := "chainHung", unfollowed := true, recurses := true, apart := false, narrowed := true }
def ChainHungUptoSaid : Prop := chainHungUptoRow.holds Try.pinned (OpenSpec.upto chainHungSpec)

/-- 'tensilelaw02.ChainMore', WHERE WHAT IT READS IS OF BULK AT MOST 1048576: true; the input reads as it did. -/
def chainMoreUptoRow : OpenClaim := { program := "ytmcnpfjichbijaa", sum := "2f84abdee37c4b8c1529a392840a5b778f039c361fc6617964780d8c5f946bfc", func := "tensile/tensilelaw02.ChainMore", spec := "chainMore", unfollowed := true, recurses := true, apart := false, narrowed := true }
def ChainMoreUptoSaid : Prop := chainMoreUptoRow.holds Try.pinned (OpenSpec.upto chainMoreSpec)

/-- 'tensilelaw02.ChainLater', WHERE WHAT IT READS IS OF BULK AT MOST 1048576: true; the input reads as it did. -/
def chainLaterUptoRow : OpenClaim := { program := "ytmcnpfjichbijaa", sum := "2f84abdee37c4b8c1529a392840a5b778f039c361fc6617964780d8c5f946bfc", func := "tensile/tensilelaw02.ChainLater", spec := "chainLater", unfollowed := true, recurses := true, apart := false, narrowed := true }
def ChainLaterUptoSaid : Prop := chainLaterUptoRow.holds Try.pinned (OpenSpec.upto chainLaterSpec)

/-- 'tensilelaw02.ChainEnds', WHERE WHAT IT READS IS OF BULK AT MOST 1048576: true; the input reads as it did. -/
def chainEndsUptoRow : OpenClaim := { program := "ytmcnpfjichbijaa", sum := "2f84abdee37c4b8c1529a392840a5b778f039c361fc6617964780d8c5f946bfc", func := "tensile/tensilelaw02.ChainEnds", spec := "chainEnds", unfollowed := true, recurses := true, apart := false, narrowed := true }
def ChainEndsUptoSaid : Prop := chainEndsUptoRow.holds Try.pinned (OpenSpec.upto chainEndsSpec)

/-- 'tensilelaw02.ChainHolds', WHERE WHAT IT READS IS OF BULK AT MOST 1048576: true; the input reads as it did. -/
def chainHoldsUptoRow : OpenClaim := { program := "ytmcnpfjichbijaa", sum := "2f84abdee37c4b8c1529a392840a5b778f039c361fc6617964780d8c5f946bfc", func := "tensile/tensilelaw02.ChainHolds", spec := "chainHolds", unfollowed := true, recurses := true, apart := false, narrowed := true }
def ChainHoldsUptoSaid : Prop := chainHoldsUptoRow.holds Try.pinned (OpenSpec.upto chainHoldsSpec)

/-- 'tensilelaw02.ChainSuspects', WHERE WHAT IT READS IS OF BULK AT MOST 1048576: true; the input reads as it did. -/
def chainSuspectsUptoRow : OpenClaim := { program := "ytmcnpfjichbijaa", sum := "2f84abdee37c4b8c1529a392840a5b778f039c361fc6617964780d8c5f946bfc", func := "tensile/tensilelaw02.ChainSuspects", spec := "chainSuspects", unfollowed := true, recurses := true, apart := false, narrowed := true }
def ChainSuspectsUptoSaid : Prop := chainSuspectsUptoRow.holds Try.pinned (OpenSpec.upto chainSuspectsSpec)

/-- 'tensilelaw02.ChainTruth', WHERE WHAT IT READS IS OF BULK AT MOST 1048576: true; the input reads as it did. -/
def chainTruthUptoRow : OpenClaim := { program := "ytmcnpfjichbijaa", sum := "2f84abdee37c4b8c1529a392840a5b778f039c361fc6617964780d8c5f946bfc", func := "tensile/tensilelaw02.ChainTruth", spec := "chainTruth", unfollowed := true, recurses := true, apart := false, narrowed := true }
def ChainTruthUptoSaid : Prop := chainTruthUptoRow.holds Try.pinned (OpenSpec.upto chainTruthSpec)

/-- 'tensilelaw02.ChainOrder', WHERE WHAT IT READS IS OF BULK AT MOST 1048576: true; the input reads as it did. -/
def chainOrderUptoRow : OpenClaim := { program := "ytmcnpfjichbijaa", sum := "2f84abdee37c4b8c1529a392840a5b778f039c361fc6617964780d8c5f946bfc", func := "tensile/tensilelaw02.ChainOrder", spec := "chainOrder", unfollowed := true, recurses := true, apart := false, narrowed := true }
def ChainOrderUptoSaid : Prop := chainOrderUptoRow.holds Try.pinned (OpenSpec.upto chainOrderSpec)

/-- 'tensilelaw02.ChainWrong', WHERE WHAT IT READS IS OF BULK AT MOST 1048576: true; the input reads as it did. -/
def chainWrongUptoRow : OpenClaim := { program := "ytmcnpfjichbijaa", sum := "2f84abdee37c4b8c1529a392840a5b778f039c361fc6617964780d8c5f946bfc", func := "tensile/tensilelaw02.ChainWrong", spec := "chainWrong", unfollowed := true, recurses := true, apart := false, narrowed := true }
def ChainWrongUptoSaid : Prop := chainWrongUptoRow.holds Try.pinned (OpenSpec.upto chainWrongSpec)

/-- 'tensilelaw02.ChainMoved', WHERE WHAT IT READS IS OF BULK AT MOST 1048576: true; the input reads as it did. -/
def chainMovedUptoRow : OpenClaim := { program := "ytmcnpfjichbijaa", sum := "2f84abdee37c4b8c1529a392840a5b778f039c361fc6617964780d8c5f946bfc", func := "tensile/tensilelaw02.ChainMoved", spec := "chainMoved", unfollowed := true, recurses := true, apart := false, narrowed := true }
def ChainMovedUptoSaid : Prop := chainMovedUptoRow.holds Try.pinned (OpenSpec.upto chainMovedSpec)

/-- 'tensilelaw02.ChainBests', WHERE WHAT IT READS IS OF BULK AT MOST 1048576: true; the input reads as it did. -/
def chainBestsUptoRow : OpenClaim := { program := "ytmcnpfjichbijaa", sum := "2f84abdee37c4b8c1529a392840a5b778f039c361fc6617964780d8c5f946bfc", func := "tensile/tensilelaw02.ChainBests", spec := "chainBests", unfollowed := true, recurses := true, apart := false, narrowed := true }
def ChainBestsUptoSaid : Prop := chainBestsUptoRow.holds Try.pinned (OpenSpec.upto chainBestsSpec)

/-- 'tensilelaw02.ChainNames', WHERE WHAT IT READS IS OF BULK AT MOST 1048576: true; the input reads as it did. -/
def chainNamesUptoRow : OpenClaim := { program := "ytmcnpfjichbijaa", sum := "2f84abdee37c4b8c1529a392840a5b778f039c361fc6617964780d8c5f946bfc", func := "tensile/tensilelaw02.ChainNames", spec := "chainNames", unfollowed := true, recurses := true, apart := false, narrowed := true }
def ChainNamesUptoSaid : Prop := chainNamesUptoRow.holds Try.pinned (OpenSpec.upto chainNamesSpec)

end Rows
end Go.Proofs.Ytmcnpfjichbijaa
