/-
  No cell of these rows narrows 'for every input' (looked for: loops, veiled, ifaces, maps, wideKeys, modest, calm, conditions, laid).
  DERIVED. THE GIVEN ROWS OF THIS SEAT. 12 by the template 'for every input the law returns true; each argument reads behind the call as it read before'; 0 by the template 'total and deterministic' (their statements: YtocelalollkadaaTotals.lean).
  GIVEN WITH THE SEED: the statements are not yours to turn. If you find one false, say at which input.
  Laid BY PROGRAM, IN A SANDBOX (cutbox-rows.mjs): the forced cells as the released guide's own fill.sh prints them over the translation d91ef49fb19ffe72… (all of the seat's roots in one cut). By AI agents, Wed Nov 11 2026. No macro, syntax, notation, axiom, sorry.
-/
import Derived.Test.YtocelalollkadaaChecked
import GoSem.Claim
import GoSem.ClaimJoined
import GoSem.ClaimMapViews
import Derived.JoinedTies
import Derived.KernelRfl
namespace Go.Proofs.Ytocelalollkadaa
/- THE CELL 'sum', in the pinned program and in every row, IS THE sha256 OF THE DUMP (.gsa) THAT YtocelalollkadaaProg.lean LOADS. Nothing in Lean hashes anything: it is a label: what it is worth is what the hold of that sum in a sandbox is worth. -/
noncomputable def Try.pinned : Pinned := { name := "ytocelalollkadaa", sum := "d91ef49fb19ffe723b14a74c69fba239ddfffa61410993cac840bdf8c880ec9d", checked := Try.checked }
namespace Rows
def none {H : Type} : Left H := { results := [], args := [] }

/-- 'laws.FnExactNumberToDigits': WHATEVER THE INPUT: true; the input reads as it did. -/
def fnExactNumberToDigitsSpec : ChangeSpec := { name := "fnExactNumberToDigits", fn := fun _ => fun
  | [d1, d2] => { results := [.lit (.bool true)], args := [d1, d2] }
  | _ => none }
def fnExactNumberToDigitsRow : OpenClaim := { program := "ytocelalollkadaa", sum := "d91ef49fb19ffe723b14a74c69fba239ddfffa61410993cac840bdf8c880ec9d", func := "loop.example/g01139/laws.FnExactNumberToDigits", spec := "fnExactNumberToDigits", apart := false }
def FnExactNumberToDigitsSaid : Prop := fnExactNumberToDigitsRow.holds Try.pinned (OpenSpec.ofChange fnExactNumberToDigitsSpec)

/-- ITS FALSE NEIGHBOUR: 'it returns false'. Refute it at one input. -/
def fnExactNumberToDigitsWrong : ChangeSpec := { name := "fnExactNumberToDigits", fn := fun _ => fun
  | [d1, d2] => { results := [.lit (.bool false)], args := [d1, d2] }
  | _ => none }
def FnExactNumberToDigitsWrongFalsely : Prop := fnExactNumberToDigitsRow.holds Try.pinned (OpenSpec.ofChange fnExactNumberToDigitsWrong)

/-- 'laws.FnExactDigitsToNumber': WHATEVER THE INPUT: true; the input reads as it did. -/
def fnExactDigitsToNumberSpec : ChangeSpec := { name := "fnExactDigitsToNumber", fn := fun _ => fun
  | [d] => { results := [.lit (.bool true)], args := [d] }
  | _ => none }
def fnExactDigitsToNumberRow : OpenClaim := { program := "ytocelalollkadaa", sum := "d91ef49fb19ffe723b14a74c69fba239ddfffa61410993cac840bdf8c880ec9d", func := "loop.example/g01139/laws.FnExactDigitsToNumber", spec := "fnExactDigitsToNumber", unfollowed := true, recurses := true, apart := false }
def FnExactDigitsToNumberSaid : Prop := fnExactDigitsToNumberRow.holds Try.pinned (OpenSpec.ofChange fnExactDigitsToNumberSpec)

/-- ITS FALSE NEIGHBOUR: 'it returns false'. Refute it at one input. -/
def fnExactDigitsToNumberWrong : ChangeSpec := { name := "fnExactDigitsToNumber", fn := fun _ => fun
  | [d] => { results := [.lit (.bool false)], args := [d] }
  | _ => none }
def FnExactDigitsToNumberWrongFalsely : Prop := fnExactDigitsToNumberRow.holds Try.pinned (OpenSpec.ofChange fnExactDigitsToNumberWrong)

/-- 'laws.FnExactBitsOfLanes': WHATEVER THE INPUT: true; the input reads as it did. -/
def fnExactBitsOfLanesSpec : ChangeSpec := { name := "fnExactBitsOfLanes", fn := fun _ => fun
  | [d] => { results := [.lit (.bool true)], args := [d] }
  | _ => none }
def fnExactBitsOfLanesRow : OpenClaim := { program := "ytocelalollkadaa", sum := "d91ef49fb19ffe723b14a74c69fba239ddfffa61410993cac840bdf8c880ec9d", func := "loop.example/g01139/laws.FnExactBitsOfLanes", spec := "fnExactBitsOfLanes", unfollowed := true, recurses := true, apart := false }
def FnExactBitsOfLanesSaid : Prop := fnExactBitsOfLanesRow.holds Try.pinned (OpenSpec.ofChange fnExactBitsOfLanesSpec)

/-- ITS FALSE NEIGHBOUR: 'it returns false'. Refute it at one input. -/
def fnExactBitsOfLanesWrong : ChangeSpec := { name := "fnExactBitsOfLanes", fn := fun _ => fun
  | [d] => { results := [.lit (.bool false)], args := [d] }
  | _ => none }
def FnExactBitsOfLanesWrongFalsely : Prop := fnExactBitsOfLanesRow.holds Try.pinned (OpenSpec.ofChange fnExactBitsOfLanesWrong)

/-- 'laws.FnExactSortSteps': WHATEVER THE INPUT: true; the input reads as it did. -/
def fnExactSortStepsSpec : ChangeSpec := { name := "fnExactSortSteps", fn := fun _ => fun
  | [d] => { results := [.lit (.bool true)], args := [d] }
  | _ => none }
def fnExactSortStepsRow : OpenClaim := { program := "ytocelalollkadaa", sum := "d91ef49fb19ffe723b14a74c69fba239ddfffa61410993cac840bdf8c880ec9d", func := "loop.example/g01139/laws.FnExactSortSteps", spec := "fnExactSortSteps", apart := false }
def FnExactSortStepsSaid : Prop := fnExactSortStepsRow.holds Try.pinned (OpenSpec.ofChange fnExactSortStepsSpec)

/-- ITS FALSE NEIGHBOUR: 'it returns false'. Refute it at one input. -/
def fnExactSortStepsWrong : ChangeSpec := { name := "fnExactSortSteps", fn := fun _ => fun
  | [d] => { results := [.lit (.bool false)], args := [d] }
  | _ => none }
def FnExactSortStepsWrongFalsely : Prop := fnExactSortStepsRow.holds Try.pinned (OpenSpec.ofChange fnExactSortStepsWrong)

/-- 'laws.FnExactCountInBlock': WHATEVER THE INPUT: true; the input reads as it did. -/
def fnExactCountInBlockSpec : ChangeSpec := { name := "fnExactCountInBlock", fn := fun _ => fun
  | [d1, d2, d3, d4] => { results := [.lit (.bool true)], args := [d1, d2, d3, d4] }
  | _ => none }
def fnExactCountInBlockRow : OpenClaim := { program := "ytocelalollkadaa", sum := "d91ef49fb19ffe723b14a74c69fba239ddfffa61410993cac840bdf8c880ec9d", func := "loop.example/g01139/laws.FnExactCountInBlock", spec := "fnExactCountInBlock", unfollowed := true, recurses := true, apart := false }
def FnExactCountInBlockSaid : Prop := fnExactCountInBlockRow.holds Try.pinned (OpenSpec.ofChange fnExactCountInBlockSpec)

/-- ITS FALSE NEIGHBOUR: 'it returns false'. Refute it at one input. -/
def fnExactCountInBlockWrong : ChangeSpec := { name := "fnExactCountInBlock", fn := fun _ => fun
  | [d1, d2, d3, d4] => { results := [.lit (.bool false)], args := [d1, d2, d3, d4] }
  | _ => none }
def FnExactCountInBlockWrongFalsely : Prop := fnExactCountInBlockRow.holds Try.pinned (OpenSpec.ofChange fnExactCountInBlockWrong)

/-- 'laws.FnExactFindInBlock': WHATEVER THE INPUT: true; the input reads as it did. -/
def fnExactFindInBlockSpec : ChangeSpec := { name := "fnExactFindInBlock", fn := fun _ => fun
  | [d1, d2, d3, d4] => { results := [.lit (.bool true)], args := [d1, d2, d3, d4] }
  | _ => none }
def fnExactFindInBlockRow : OpenClaim := { program := "ytocelalollkadaa", sum := "d91ef49fb19ffe723b14a74c69fba239ddfffa61410993cac840bdf8c880ec9d", func := "loop.example/g01139/laws.FnExactFindInBlock", spec := "fnExactFindInBlock", unfollowed := true, recurses := true, apart := false }
def FnExactFindInBlockSaid : Prop := fnExactFindInBlockRow.holds Try.pinned (OpenSpec.ofChange fnExactFindInBlockSpec)

/-- ITS FALSE NEIGHBOUR: 'it returns false'. Refute it at one input. -/
def fnExactFindInBlockWrong : ChangeSpec := { name := "fnExactFindInBlock", fn := fun _ => fun
  | [d1, d2, d3, d4] => { results := [.lit (.bool false)], args := [d1, d2, d3, d4] }
  | _ => none }
def FnExactFindInBlockWrongFalsely : Prop := fnExactFindInBlockRow.holds Try.pinned (OpenSpec.ofChange fnExactFindInBlockWrong)

/-- 'laws.FnExactSumBlock': WHATEVER THE INPUT: true; the input reads as it did. -/
def fnExactSumBlockSpec : ChangeSpec := { name := "fnExactSumBlock", fn := fun _ => fun
  | [d1, d2, d3] => { results := [.lit (.bool true)], args := [d1, d2, d3] }
  | _ => none }
def fnExactSumBlockRow : OpenClaim := { program := "ytocelalollkadaa", sum := "d91ef49fb19ffe723b14a74c69fba239ddfffa61410993cac840bdf8c880ec9d", func := "loop.example/g01139/laws.FnExactSumBlock", spec := "fnExactSumBlock", unfollowed := true, recurses := true, apart := false }
def FnExactSumBlockSaid : Prop := fnExactSumBlockRow.holds Try.pinned (OpenSpec.ofChange fnExactSumBlockSpec)

/-- ITS FALSE NEIGHBOUR: 'it returns false'. Refute it at one input. -/
def fnExactSumBlockWrong : ChangeSpec := { name := "fnExactSumBlock", fn := fun _ => fun
  | [d1, d2, d3] => { results := [.lit (.bool false)], args := [d1, d2, d3] }
  | _ => none }
def FnExactSumBlockWrongFalsely : Prop := fnExactSumBlockRow.holds Try.pinned (OpenSpec.ofChange fnExactSumBlockWrong)

/-- 'laws.FnDigits': WHATEVER THE INPUT: true; the input reads as it did. -/
def fnDigitsSpec : ChangeSpec := { name := "fnDigits", fn := fun _ => fun
  | [d1, d2] => { results := [.lit (.bool true)], args := [d1, d2] }
  | _ => none }
def fnDigitsRow : OpenClaim := { program := "ytocelalollkadaa", sum := "d91ef49fb19ffe723b14a74c69fba239ddfffa61410993cac840bdf8c880ec9d", func := "loop.example/g01139/laws.FnDigits", spec := "fnDigits", unfollowed := true, recurses := true, apart := false }
def FnDigitsSaid : Prop := fnDigitsRow.holds Try.pinned (OpenSpec.ofChange fnDigitsSpec)

/-- ITS FALSE NEIGHBOUR: 'it returns false'. Refute it at one input. -/
def fnDigitsWrong : ChangeSpec := { name := "fnDigits", fn := fun _ => fun
  | [d1, d2] => { results := [.lit (.bool false)], args := [d1, d2] }
  | _ => none }
def FnDigitsWrongFalsely : Prop := fnDigitsRow.holds Try.pinned (OpenSpec.ofChange fnDigitsWrong)

/-- 'laws.FnExactLeastLane': WHATEVER THE INPUT: true; the input reads as it did. -/
def fnExactLeastLaneSpec : ChangeSpec := { name := "fnExactLeastLane", fn := fun _ => fun
  | [d1, d2] => { results := [.lit (.bool true)], args := [d1, d2] }
  | _ => none }
def fnExactLeastLaneRow : OpenClaim := { program := "ytocelalollkadaa", sum := "d91ef49fb19ffe723b14a74c69fba239ddfffa61410993cac840bdf8c880ec9d", func := "loop.example/g01139/laws.FnExactLeastLane", spec := "fnExactLeastLane", unfollowed := true, recurses := true, apart := false }
def FnExactLeastLaneSaid : Prop := fnExactLeastLaneRow.holds Try.pinned (OpenSpec.ofChange fnExactLeastLaneSpec)

/-- ITS FALSE NEIGHBOUR: 'it returns false'. Refute it at one input. -/
def fnExactLeastLaneWrong : ChangeSpec := { name := "fnExactLeastLane", fn := fun _ => fun
  | [d1, d2] => { results := [.lit (.bool false)], args := [d1, d2] }
  | _ => none }
def FnExactLeastLaneWrongFalsely : Prop := fnExactLeastLaneRow.holds Try.pinned (OpenSpec.ofChange fnExactLeastLaneWrong)

/-- 'laws.FnExactPrefixBlock': WHATEVER THE INPUT: true; the input reads as it did. -/
def fnExactPrefixBlockSpec : ChangeSpec := { name := "fnExactPrefixBlock", fn := fun _ => fun
  | [d1, d2, d3] => { results := [.lit (.bool true)], args := [d1, d2, d3] }
  | _ => none }
def fnExactPrefixBlockRow : OpenClaim := { program := "ytocelalollkadaa", sum := "d91ef49fb19ffe723b14a74c69fba239ddfffa61410993cac840bdf8c880ec9d", func := "loop.example/g01139/laws.FnExactPrefixBlock", spec := "fnExactPrefixBlock", unfollowed := true, recurses := true, apart := false }
def FnExactPrefixBlockSaid : Prop := fnExactPrefixBlockRow.holds Try.pinned (OpenSpec.ofChange fnExactPrefixBlockSpec)

/-- ITS FALSE NEIGHBOUR: 'it returns false'. Refute it at one input. -/
def fnExactPrefixBlockWrong : ChangeSpec := { name := "fnExactPrefixBlock", fn := fun _ => fun
  | [d1, d2, d3] => { results := [.lit (.bool false)], args := [d1, d2, d3] }
  | _ => none }
def FnExactPrefixBlockWrongFalsely : Prop := fnExactPrefixBlockRow.holds Try.pinned (OpenSpec.ofChange fnExactPrefixBlockWrong)

/-- 'laws.FnExactCountLanesWith': WHATEVER THE INPUT: true; the input reads as it did. -/
def fnExactCountLanesWithSpec : ChangeSpec := { name := "fnExactCountLanesWith", fn := fun _ => fun
  | [d1, d2] => { results := [.lit (.bool true)], args := [d1, d2] }
  | _ => none }
def fnExactCountLanesWithRow : OpenClaim := { program := "ytocelalollkadaa", sum := "d91ef49fb19ffe723b14a74c69fba239ddfffa61410993cac840bdf8c880ec9d", func := "loop.example/g01139/laws.FnExactCountLanesWith", spec := "fnExactCountLanesWith", unfollowed := true, recurses := true, apart := false }
def FnExactCountLanesWithSaid : Prop := fnExactCountLanesWithRow.holds Try.pinned (OpenSpec.ofChange fnExactCountLanesWithSpec)

/-- ITS FALSE NEIGHBOUR: 'it returns false'. Refute it at one input. -/
def fnExactCountLanesWithWrong : ChangeSpec := { name := "fnExactCountLanesWith", fn := fun _ => fun
  | [d1, d2] => { results := [.lit (.bool false)], args := [d1, d2] }
  | _ => none }
def FnExactCountLanesWithWrongFalsely : Prop := fnExactCountLanesWithRow.holds Try.pinned (OpenSpec.ofChange fnExactCountLanesWithWrong)

/-- 'laws.FnRounds': WHATEVER THE INPUT: true; the input reads as it did. -/
def fnRoundsSpec : ChangeSpec := { name := "fnRounds", fn := fun _ => fun
  | [d1, d2] => { results := [.lit (.bool true)], args := [d1, d2] }
  | _ => none }
def fnRoundsRow : OpenClaim := { program := "ytocelalollkadaa", sum := "d91ef49fb19ffe723b14a74c69fba239ddfffa61410993cac840bdf8c880ec9d", func := "loop.example/g01139/laws.FnRounds", spec := "fnRounds", unfollowed := true, recurses := true, apart := false }
def FnRoundsSaid : Prop := fnRoundsRow.holds Try.pinned (OpenSpec.ofChange fnRoundsSpec)

/-- ITS FALSE NEIGHBOUR: 'it returns false'. Refute it at one input. -/
def fnRoundsWrong : ChangeSpec := { name := "fnRounds", fn := fun _ => fun
  | [d1, d2] => { results := [.lit (.bool false)], args := [d1, d2] }
  | _ => none }
def FnRoundsWrongFalsely : Prop := fnRoundsRow.holds Try.pinned (OpenSpec.ofChange fnRoundsWrong)

/- THE SECOND FORM. 'bulk': how many values and letters a reading holds, each counted each time it is reached (what is shared counts as often as it is met; a slice's spare places count too). A statement '..UptoSaid' is the law's where the arguments, and the package variables that the reading takes, are together of bulk at most 1048576: NARROWER than '..Said'. Prove '..Said' where nothing that the law and all that it calls make is longer than what came in: it says more and counts as full. Else prove '..UptoSaid'. A law counts once. -/
mutual
def uptoBulk {H : Type} : DataW H → Nat
  | .lit (.string bytes) => bytes.length + 1
  | .lit _ => 1
  | .nil => 1
  | .ptr d => uptoBulk d + 1
  | .slice elems spare => uptoBulkAll elems + uptoBulkAll spare + 1
  | .agg parts => uptoBulkAll parts + 1
  | .iface _ d => uptoBulk d + 1
  | .map entries => uptoBulkEntries entries + 1
  | .held _ => 1
def uptoBulkAll {H : Type} : List (DataW H) → Nat
  | [] => 0
  | d :: r => uptoBulk d + uptoBulkAll r
def uptoBulkEntries {H : Type} : List (Lit × DataW H) → Nat
  | [] => 0
  | x :: r => uptoBulkEntry x + uptoBulkEntries r
def uptoBulkEntry {H : Type} : Lit × DataW H → Nat
  | (.string bytes, d) => bytes.length + uptoBulk d + 1
  | (_, d) => uptoBulk d + 1
 end
def uptoSmall : (H : Type) → List (DataW H) → Bool := fun _ ds => decide (uptoBulkAll ds ≤ 1048576)
def OpenSpec.upto (s : _root_.Go.ChangeSpec) : _root_.Go.OpenSpec := { _root_.Go.OpenSpec.ofChange s with cond := some uptoSmall }

/-- 'laws.FnExactNumberToDigits', WHERE WHAT IT READS IS OF BULK AT MOST 1048576: true; the input reads as it did. -/
def fnExactNumberToDigitsUptoRow : OpenClaim := { program := "ytocelalollkadaa", sum := "d91ef49fb19ffe723b14a74c69fba239ddfffa61410993cac840bdf8c880ec9d", func := "loop.example/g01139/laws.FnExactNumberToDigits", spec := "fnExactNumberToDigits", apart := false, narrowed := true }
def FnExactNumberToDigitsUptoSaid : Prop := fnExactNumberToDigitsUptoRow.holds Try.pinned (OpenSpec.upto fnExactNumberToDigitsSpec)

/-- 'laws.FnExactDigitsToNumber', WHERE WHAT IT READS IS OF BULK AT MOST 1048576: true; the input reads as it did. -/
def fnExactDigitsToNumberUptoRow : OpenClaim := { program := "ytocelalollkadaa", sum := "d91ef49fb19ffe723b14a74c69fba239ddfffa61410993cac840bdf8c880ec9d", func := "loop.example/g01139/laws.FnExactDigitsToNumber", spec := "fnExactDigitsToNumber", unfollowed := true, recurses := true, apart := false, narrowed := true }
def FnExactDigitsToNumberUptoSaid : Prop := fnExactDigitsToNumberUptoRow.holds Try.pinned (OpenSpec.upto fnExactDigitsToNumberSpec)

/-- 'laws.FnExactBitsOfLanes', WHERE WHAT IT READS IS OF BULK AT MOST 1048576: true; the input reads as it did. -/
def fnExactBitsOfLanesUptoRow : OpenClaim := { program := "ytocelalollkadaa", sum := "d91ef49fb19ffe723b14a74c69fba239ddfffa61410993cac840bdf8c880ec9d", func := "loop.example/g01139/laws.FnExactBitsOfLanes", spec := "fnExactBitsOfLanes", unfollowed := true, recurses := true, apart := false, narrowed := true }
def FnExactBitsOfLanesUptoSaid : Prop := fnExactBitsOfLanesUptoRow.holds Try.pinned (OpenSpec.upto fnExactBitsOfLanesSpec)

/-- 'laws.FnExactSortSteps', WHERE WHAT IT READS IS OF BULK AT MOST 1048576: true; the input reads as it did. -/
def fnExactSortStepsUptoRow : OpenClaim := { program := "ytocelalollkadaa", sum := "d91ef49fb19ffe723b14a74c69fba239ddfffa61410993cac840bdf8c880ec9d", func := "loop.example/g01139/laws.FnExactSortSteps", spec := "fnExactSortSteps", apart := false, narrowed := true }
def FnExactSortStepsUptoSaid : Prop := fnExactSortStepsUptoRow.holds Try.pinned (OpenSpec.upto fnExactSortStepsSpec)

/-- 'laws.FnExactCountInBlock', WHERE WHAT IT READS IS OF BULK AT MOST 1048576: true; the input reads as it did. -/
def fnExactCountInBlockUptoRow : OpenClaim := { program := "ytocelalollkadaa", sum := "d91ef49fb19ffe723b14a74c69fba239ddfffa61410993cac840bdf8c880ec9d", func := "loop.example/g01139/laws.FnExactCountInBlock", spec := "fnExactCountInBlock", unfollowed := true, recurses := true, apart := false, narrowed := true }
def FnExactCountInBlockUptoSaid : Prop := fnExactCountInBlockUptoRow.holds Try.pinned (OpenSpec.upto fnExactCountInBlockSpec)

/-- 'laws.FnExactFindInBlock', WHERE WHAT IT READS IS OF BULK AT MOST 1048576: true; the input reads as it did. -/
def fnExactFindInBlockUptoRow : OpenClaim := { program := "ytocelalollkadaa", sum := "d91ef49fb19ffe723b14a74c69fba239ddfffa61410993cac840bdf8c880ec9d", func := "loop.example/g01139/laws.FnExactFindInBlock", spec := "fnExactFindInBlock", unfollowed := true, recurses := true, apart := false, narrowed := true }
def FnExactFindInBlockUptoSaid : Prop := fnExactFindInBlockUptoRow.holds Try.pinned (OpenSpec.upto fnExactFindInBlockSpec)

/-- 'laws.FnExactSumBlock', WHERE WHAT IT READS IS OF BULK AT MOST 1048576: true; the input reads as it did. -/
def fnExactSumBlockUptoRow : OpenClaim := { program := "ytocelalollkadaa", sum := "d91ef49fb19ffe723b14a74c69fba239ddfffa61410993cac840bdf8c880ec9d", func := "loop.example/g01139/laws.FnExactSumBlock", spec := "fnExactSumBlock", unfollowed := true, recurses := true, apart := false, narrowed := true }
def FnExactSumBlockUptoSaid : Prop := fnExactSumBlockUptoRow.holds Try.pinned (OpenSpec.upto fnExactSumBlockSpec)

/-- 'laws.FnDigits', WHERE WHAT IT READS IS OF BULK AT MOST 1048576: true; the input reads as it did. -/
def fnDigitsUptoRow : OpenClaim := { program := "ytocelalollkadaa", sum := "d91ef49fb19ffe723b14a74c69fba239ddfffa61410993cac840bdf8c880ec9d", func := "loop.example/g01139/laws.FnDigits", spec := "fnDigits", unfollowed := true, recurses := true, apart := false, narrowed := true }
def FnDigitsUptoSaid : Prop := fnDigitsUptoRow.holds Try.pinned (OpenSpec.upto fnDigitsSpec)

/-- 'laws.FnExactLeastLane', WHERE WHAT IT READS IS OF BULK AT MOST 1048576: true; the input reads as it did. -/
def fnExactLeastLaneUptoRow : OpenClaim := { program := "ytocelalollkadaa", sum := "d91ef49fb19ffe723b14a74c69fba239ddfffa61410993cac840bdf8c880ec9d", func := "loop.example/g01139/laws.FnExactLeastLane", spec := "fnExactLeastLane", unfollowed := true, recurses := true, apart := false, narrowed := true }
def FnExactLeastLaneUptoSaid : Prop := fnExactLeastLaneUptoRow.holds Try.pinned (OpenSpec.upto fnExactLeastLaneSpec)

/-- 'laws.FnExactPrefixBlock', WHERE WHAT IT READS IS OF BULK AT MOST 1048576: true; the input reads as it did. -/
def fnExactPrefixBlockUptoRow : OpenClaim := { program := "ytocelalollkadaa", sum := "d91ef49fb19ffe723b14a74c69fba239ddfffa61410993cac840bdf8c880ec9d", func := "loop.example/g01139/laws.FnExactPrefixBlock", spec := "fnExactPrefixBlock", unfollowed := true, recurses := true, apart := false, narrowed := true }
def FnExactPrefixBlockUptoSaid : Prop := fnExactPrefixBlockUptoRow.holds Try.pinned (OpenSpec.upto fnExactPrefixBlockSpec)

/-- 'laws.FnExactCountLanesWith', WHERE WHAT IT READS IS OF BULK AT MOST 1048576: true; the input reads as it did. -/
def fnExactCountLanesWithUptoRow : OpenClaim := { program := "ytocelalollkadaa", sum := "d91ef49fb19ffe723b14a74c69fba239ddfffa61410993cac840bdf8c880ec9d", func := "loop.example/g01139/laws.FnExactCountLanesWith", spec := "fnExactCountLanesWith", unfollowed := true, recurses := true, apart := false, narrowed := true }
def FnExactCountLanesWithUptoSaid : Prop := fnExactCountLanesWithUptoRow.holds Try.pinned (OpenSpec.upto fnExactCountLanesWithSpec)

/-- 'laws.FnRounds', WHERE WHAT IT READS IS OF BULK AT MOST 1048576: true; the input reads as it did. -/
def fnRoundsUptoRow : OpenClaim := { program := "ytocelalollkadaa", sum := "d91ef49fb19ffe723b14a74c69fba239ddfffa61410993cac840bdf8c880ec9d", func := "loop.example/g01139/laws.FnRounds", spec := "fnRounds", unfollowed := true, recurses := true, apart := false, narrowed := true }
def FnRoundsUptoSaid : Prop := fnRoundsUptoRow.holds Try.pinned (OpenSpec.upto fnRoundsSpec)

end Rows
end Go.Proofs.Ytocelalollkadaa
