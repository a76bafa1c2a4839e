/-
  No cell of these rows narrows 'for every input' (looked for: loops, veiled, ifaces, maps, wideKeys, modest, calm, conditions, laid).
  DERIVED. THE GIVEN ROWS OF THIS SEAT. 10 by the template 'for every input the law returns true; each argument reads behind the call as it read before'; 0 by the template 'total and deterministic' (their statements: YtheemkehedmlfaaTotals.lean).
  GIVEN WITH THE SEED: the statements are not yours to turn. If you find one false, say at which input.
  Laid BY PROGRAM, IN A SANDBOX (cutbox-rows.mjs): the forced cells as the released guide's own fill.sh prints them over the translation 2ac80127d3ae0354… (all of the seat's roots in one cut). By AI agents, Wed Nov 11 2026. No macro, syntax, notation, axiom, sorry.
-/
import Derived.Test.YtheemkehedmlfaaChecked
import GoSem.Claim
import GoSem.ClaimJoined
import GoSem.ClaimMapViews
import Derived.JoinedTies
import Derived.KernelRfl
namespace Go.Proofs.Ytheemkehedmlfaa
/- THE CELL 'sum', in the pinned program and in every row, IS THE sha256 OF THE DUMP (.gsa) THAT YtheemkehedmlfaaProg.lean LOADS. Nothing in Lean hashes anything: it is a label: what it is worth is what the hold of that sum in a sandbox is worth. -/
noncomputable def Try.pinned : Pinned := { name := "ytheemkehedmlfaa", sum := "2ac80127d3ae0354c5c352dd414e4d39c2284d08fb80fb5185192905b010b60e", checked := Try.checked }
namespace Rows
def none {H : Type} : Left H := { results := [], args := [] }

/-- 'laws.FnExactValidLines': WHATEVER THE INPUT: true; the input reads as it did. -/
def fnExactValidLinesSpec : ChangeSpec := { name := "fnExactValidLines", fn := fun _ => fun
  | [d1, d2] => { results := [.lit (.bool true)], args := [d1, d2] }
  | _ => none }
def fnExactValidLinesRow : OpenClaim := { program := "ytheemkehedmlfaa", sum := "2ac80127d3ae0354c5c352dd414e4d39c2284d08fb80fb5185192905b010b60e", func := "loop.example/g01139/laws.FnExactValidLines", spec := "fnExactValidLines", apart := false }
def FnExactValidLinesSaid : Prop := fnExactValidLinesRow.holds Try.pinned (OpenSpec.ofChange fnExactValidLinesSpec)

/-- ITS FALSE NEIGHBOUR: 'it returns false'. Refute it at one input. -/
def fnExactValidLinesWrong : ChangeSpec := { name := "fnExactValidLines", fn := fun _ => fun
  | [d1, d2] => { results := [.lit (.bool false)], args := [d1, d2] }
  | _ => none }
def FnExactValidLinesWrongFalsely : Prop := fnExactValidLinesRow.holds Try.pinned (OpenSpec.ofChange fnExactValidLinesWrong)

/-- 'laws.FnExactPairedLines': WHATEVER THE INPUT: true; the input reads as it did. -/
def fnExactPairedLinesSpec : ChangeSpec := { name := "fnExactPairedLines", fn := fun _ => fun
  | [d1, d2] => { results := [.lit (.bool true)], args := [d1, d2] }
  | _ => none }
def fnExactPairedLinesRow : OpenClaim := { program := "ytheemkehedmlfaa", sum := "2ac80127d3ae0354c5c352dd414e4d39c2284d08fb80fb5185192905b010b60e", func := "loop.example/g01139/laws.FnExactPairedLines", spec := "fnExactPairedLines", apart := false }
def FnExactPairedLinesSaid : Prop := fnExactPairedLinesRow.holds Try.pinned (OpenSpec.ofChange fnExactPairedLinesSpec)

/-- ITS FALSE NEIGHBOUR: 'it returns false'. Refute it at one input. -/
def fnExactPairedLinesWrong : ChangeSpec := { name := "fnExactPairedLines", fn := fun _ => fun
  | [d1, d2] => { results := [.lit (.bool false)], args := [d1, d2] }
  | _ => none }
def FnExactPairedLinesWrongFalsely : Prop := fnExactPairedLinesRow.holds Try.pinned (OpenSpec.ofChange fnExactPairedLinesWrong)

/-- 'laws.FnExactCountAlone': WHATEVER THE INPUT: true; the input reads as it did. -/
def fnExactCountAloneSpec : ChangeSpec := { name := "fnExactCountAlone", fn := fun _ => fun
  | [d1, d2, d3] => { results := [.lit (.bool true)], args := [d1, d2, d3] }
  | _ => none }
def fnExactCountAloneRow : OpenClaim := { program := "ytheemkehedmlfaa", sum := "2ac80127d3ae0354c5c352dd414e4d39c2284d08fb80fb5185192905b010b60e", func := "loop.example/g01139/laws.FnExactCountAlone", spec := "fnExactCountAlone", unfollowed := true, recurses := true, apart := false }
def FnExactCountAloneSaid : Prop := fnExactCountAloneRow.holds Try.pinned (OpenSpec.ofChange fnExactCountAloneSpec)

/-- ITS FALSE NEIGHBOUR: 'it returns false'. Refute it at one input. -/
def fnExactCountAloneWrong : ChangeSpec := { name := "fnExactCountAlone", fn := fun _ => fun
  | [d1, d2, d3] => { results := [.lit (.bool false)], args := [d1, d2, d3] }
  | _ => none }
def FnExactCountAloneWrongFalsely : Prop := fnExactCountAloneRow.holds Try.pinned (OpenSpec.ofChange fnExactCountAloneWrong)

/-- 'laws.FnMerged': WHATEVER THE INPUT: true; the input reads as it did. -/
def fnMergedSpec : ChangeSpec := { name := "fnMerged", fn := fun _ => fun
  | [d1, d2] => { results := [.lit (.bool true)], args := [d1, d2] }
  | _ => none }
def fnMergedRow : OpenClaim := { program := "ytheemkehedmlfaa", sum := "2ac80127d3ae0354c5c352dd414e4d39c2284d08fb80fb5185192905b010b60e", func := "loop.example/g01139/laws.FnMerged", spec := "fnMerged", unfollowed := true, recurses := true, apart := false }
def FnMergedSaid : Prop := fnMergedRow.holds Try.pinned (OpenSpec.ofChange fnMergedSpec)

/-- ITS FALSE NEIGHBOUR: 'it returns false'. Refute it at one input. -/
def fnMergedWrong : ChangeSpec := { name := "fnMerged", fn := fun _ => fun
  | [d1, d2] => { results := [.lit (.bool false)], args := [d1, d2] }
  | _ => none }
def FnMergedWrongFalsely : Prop := fnMergedRow.holds Try.pinned (OpenSpec.ofChange fnMergedWrong)

/-- 'laws.FnExactPathOf': WHATEVER THE INPUT: true; the input reads as it did. -/
def fnExactPathOfSpec : ChangeSpec := { name := "fnExactPathOf", fn := fun _ => fun
  | [d1, d2, d3] => { results := [.lit (.bool true)], args := [d1, d2, d3] }
  | _ => none }
def fnExactPathOfRow : OpenClaim := { program := "ytheemkehedmlfaa", sum := "2ac80127d3ae0354c5c352dd414e4d39c2284d08fb80fb5185192905b010b60e", func := "loop.example/g01139/laws.FnExactPathOf", spec := "fnExactPathOf", unfollowed := true, recurses := true, apart := false }
def FnExactPathOfSaid : Prop := fnExactPathOfRow.holds Try.pinned (OpenSpec.ofChange fnExactPathOfSpec)

/-- ITS FALSE NEIGHBOUR: 'it returns false'. Refute it at one input. -/
def fnExactPathOfWrong : ChangeSpec := { name := "fnExactPathOf", fn := fun _ => fun
  | [d1, d2, d3] => { results := [.lit (.bool false)], args := [d1, d2, d3] }
  | _ => none }
def FnExactPathOfWrongFalsely : Prop := fnExactPathOfRow.holds Try.pinned (OpenSpec.ofChange fnExactPathOfWrong)

/-- 'laws.FnExactRunAlone': WHATEVER THE INPUT: true; the input reads as it did. -/
def fnExactRunAloneSpec : ChangeSpec := { name := "fnExactRunAlone", fn := fun _ => fun
  | [d1, d2, d3] => { results := [.lit (.bool true)], args := [d1, d2, d3] }
  | _ => none }
def fnExactRunAloneRow : OpenClaim := { program := "ytheemkehedmlfaa", sum := "2ac80127d3ae0354c5c352dd414e4d39c2284d08fb80fb5185192905b010b60e", func := "loop.example/g01139/laws.FnExactRunAlone", spec := "fnExactRunAlone", unfollowed := true, recurses := true, apart := false }
def FnExactRunAloneSaid : Prop := fnExactRunAloneRow.holds Try.pinned (OpenSpec.ofChange fnExactRunAloneSpec)

/-- ITS FALSE NEIGHBOUR: 'it returns false'. Refute it at one input. -/
def fnExactRunAloneWrong : ChangeSpec := { name := "fnExactRunAlone", fn := fun _ => fun
  | [d1, d2, d3] => { results := [.lit (.bool false)], args := [d1, d2, d3] }
  | _ => none }
def FnExactRunAloneWrongFalsely : Prop := fnExactRunAloneRow.holds Try.pinned (OpenSpec.ofChange fnExactRunAloneWrong)

/-- 'laws.FnMaskedLanes': WHATEVER THE INPUT: true; the input reads as it did. -/
def fnMaskedLanesSpec : ChangeSpec := { name := "fnMaskedLanes", fn := fun _ => fun
  | [d1, d2] => { results := [.lit (.bool true)], args := [d1, d2] }
  | _ => none }
def fnMaskedLanesRow : OpenClaim := { program := "ytheemkehedmlfaa", sum := "2ac80127d3ae0354c5c352dd414e4d39c2284d08fb80fb5185192905b010b60e", func := "loop.example/g01139/laws.FnMaskedLanes", spec := "fnMaskedLanes", unfollowed := true, recurses := true, apart := false }
def FnMaskedLanesSaid : Prop := fnMaskedLanesRow.holds Try.pinned (OpenSpec.ofChange fnMaskedLanesSpec)

/-- ITS FALSE NEIGHBOUR: 'it returns false'. Refute it at one input. -/
def fnMaskedLanesWrong : ChangeSpec := { name := "fnMaskedLanes", fn := fun _ => fun
  | [d1, d2] => { results := [.lit (.bool false)], args := [d1, d2] }
  | _ => none }
def FnMaskedLanesWrongFalsely : Prop := fnMaskedLanesRow.holds Try.pinned (OpenSpec.ofChange fnMaskedLanesWrong)

/-- 'laws.FnExactIsUniform': WHATEVER THE INPUT: true; the input reads as it did. -/
def fnExactIsUniformSpec : ChangeSpec := { name := "fnExactIsUniform", fn := fun _ => fun
  | [d1, d2, d3] => { results := [.lit (.bool true)], args := [d1, d2, d3] }
  | _ => none }
def fnExactIsUniformRow : OpenClaim := { program := "ytheemkehedmlfaa", sum := "2ac80127d3ae0354c5c352dd414e4d39c2284d08fb80fb5185192905b010b60e", func := "loop.example/g01139/laws.FnExactIsUniform", spec := "fnExactIsUniform", unfollowed := true, recurses := true, apart := false }
def FnExactIsUniformSaid : Prop := fnExactIsUniformRow.holds Try.pinned (OpenSpec.ofChange fnExactIsUniformSpec)

/-- ITS FALSE NEIGHBOUR: 'it returns false'. Refute it at one input. -/
def fnExactIsUniformWrong : ChangeSpec := { name := "fnExactIsUniform", fn := fun _ => fun
  | [d1, d2, d3] => { results := [.lit (.bool false)], args := [d1, d2, d3] }
  | _ => none }
def FnExactIsUniformWrongFalsely : Prop := fnExactIsUniformRow.holds Try.pinned (OpenSpec.ofChange fnExactIsUniformWrong)

/-- 'laws.FnExactCountMasked': WHATEVER THE INPUT: true; the input reads as it did. -/
def fnExactCountMaskedSpec : ChangeSpec := { name := "fnExactCountMasked", fn := fun _ => fun
  | [d1, d2, d3] => { results := [.lit (.bool true)], args := [d1, d2, d3] }
  | _ => none }
def fnExactCountMaskedRow : OpenClaim := { program := "ytheemkehedmlfaa", sum := "2ac80127d3ae0354c5c352dd414e4d39c2284d08fb80fb5185192905b010b60e", func := "loop.example/g01139/laws.FnExactCountMasked", spec := "fnExactCountMasked", unfollowed := true, recurses := true, apart := false }
def FnExactCountMaskedSaid : Prop := fnExactCountMaskedRow.holds Try.pinned (OpenSpec.ofChange fnExactCountMaskedSpec)

/-- ITS FALSE NEIGHBOUR: 'it returns false'. Refute it at one input. -/
def fnExactCountMaskedWrong : ChangeSpec := { name := "fnExactCountMasked", fn := fun _ => fun
  | [d1, d2, d3] => { results := [.lit (.bool false)], args := [d1, d2, d3] }
  | _ => none }
def FnExactCountMaskedWrongFalsely : Prop := fnExactCountMaskedRow.holds Try.pinned (OpenSpec.ofChange fnExactCountMaskedWrong)

/-- 'laws.FnExactRunMasked': WHATEVER THE INPUT: true; the input reads as it did. -/
def fnExactRunMaskedSpec : ChangeSpec := { name := "fnExactRunMasked", fn := fun _ => fun
  | [d1, d2, d3] => { results := [.lit (.bool true)], args := [d1, d2, d3] }
  | _ => none }
def fnExactRunMaskedRow : OpenClaim := { program := "ytheemkehedmlfaa", sum := "2ac80127d3ae0354c5c352dd414e4d39c2284d08fb80fb5185192905b010b60e", func := "loop.example/g01139/laws.FnExactRunMasked", spec := "fnExactRunMasked", unfollowed := true, recurses := true, apart := false }
def FnExactRunMaskedSaid : Prop := fnExactRunMaskedRow.holds Try.pinned (OpenSpec.ofChange fnExactRunMaskedSpec)

/-- ITS FALSE NEIGHBOUR: 'it returns false'. Refute it at one input. -/
def fnExactRunMaskedWrong : ChangeSpec := { name := "fnExactRunMasked", fn := fun _ => fun
  | [d1, d2, d3] => { results := [.lit (.bool false)], args := [d1, d2, d3] }
  | _ => none }
def FnExactRunMaskedWrongFalsely : Prop := fnExactRunMaskedRow.holds Try.pinned (OpenSpec.ofChange fnExactRunMaskedWrong)

/- THE SECOND FORM. 'bulk': how many values and letters a reading holds, each counted each time it is reached (what is shared counts as often as it is met; a slice's spare places count too). A statement '..UptoSaid' is the law's where the arguments, and the package variables that the reading takes, are together of bulk at most 1048576: NARROWER than '..Said'. Prove '..Said' where nothing that the law and all that it calls make is longer than what came in: it says more and counts as full. Else prove '..UptoSaid'. A law counts once. -/
mutual
def uptoBulk {H : Type} : DataW H → Nat
  | .lit (.string bytes) => bytes.length + 1
  | .lit _ => 1
  | .nil => 1
  | .ptr d => uptoBulk d + 1
  | .slice elems spare => uptoBulkAll elems + uptoBulkAll spare + 1
  | .agg parts => uptoBulkAll parts + 1
  | .iface _ d => uptoBulk d + 1
  | .map entries => uptoBulkEntries entries + 1
  | .held _ => 1
def uptoBulkAll {H : Type} : List (DataW H) → Nat
  | [] => 0
  | d :: r => uptoBulk d + uptoBulkAll r
def uptoBulkEntries {H : Type} : List (Lit × DataW H) → Nat
  | [] => 0
  | x :: r => uptoBulkEntry x + uptoBulkEntries r
def uptoBulkEntry {H : Type} : Lit × DataW H → Nat
  | (.string bytes, d) => bytes.length + uptoBulk d + 1
  | (_, d) => uptoBulk d + 1
 end
def uptoSmall : (H : Type) → List (DataW H) → Bool := fun _ ds => decide (uptoBulkAll ds ≤ 1048576)
def OpenSpec.upto (s : _root_.Go.ChangeSpec) : _root_.Go.OpenSpec := { _root_.Go.OpenSpec.ofChange s with cond := some uptoSmall }

/-- 'laws.FnExactValidLines', WHERE WHAT IT READS IS OF BULK AT MOST 1048576: true; the input reads as it did. -/
def fnExactValidLinesUptoRow : OpenClaim := { program := "ytheemkehedmlfaa", sum := "2ac80127d3ae0354c5c352dd414e4d39c2284d08fb80fb5185192905b010b60e", func := "loop.example/g01139/laws.FnExactValidLines", spec := "fnExactValidLines", apart := false, narrowed := true }
def FnExactValidLinesUptoSaid : Prop := fnExactValidLinesUptoRow.holds Try.pinned (OpenSpec.upto fnExactValidLinesSpec)

/-- 'laws.FnExactPairedLines', WHERE WHAT IT READS IS OF BULK AT MOST 1048576: true; the input reads as it did. -/
def fnExactPairedLinesUptoRow : OpenClaim := { program := "ytheemkehedmlfaa", sum := "2ac80127d3ae0354c5c352dd414e4d39c2284d08fb80fb5185192905b010b60e", func := "loop.example/g01139/laws.FnExactPairedLines", spec := "fnExactPairedLines", apart := false, narrowed := true }
def FnExactPairedLinesUptoSaid : Prop := fnExactPairedLinesUptoRow.holds Try.pinned (OpenSpec.upto fnExactPairedLinesSpec)

/-- 'laws.FnExactCountAlone', WHERE WHAT IT READS IS OF BULK AT MOST 1048576: true; the input reads as it did. -/
def fnExactCountAloneUptoRow : OpenClaim := { program := "ytheemkehedmlfaa", sum := "2ac80127d3ae0354c5c352dd414e4d39c2284d08fb80fb5185192905b010b60e", func := "loop.example/g01139/laws.FnExactCountAlone", spec := "fnExactCountAlone", unfollowed := true, recurses := true, apart := false, narrowed := true }
def FnExactCountAloneUptoSaid : Prop := fnExactCountAloneUptoRow.holds Try.pinned (OpenSpec.upto fnExactCountAloneSpec)

/-- 'laws.FnMerged', WHERE WHAT IT READS IS OF BULK AT MOST 1048576: true; the input reads as it did. -/
def fnMergedUptoRow : OpenClaim := { program := "ytheemkehedmlfaa", sum := "2ac80127d3ae0354c5c352dd414e4d39c2284d08fb80fb5185192905b010b60e", func := "loop.example/g01139/laws.FnMerged", spec := "fnMerged", unfollowed := true, recurses := true, apart := false, narrowed := true }
def FnMergedUptoSaid : Prop := fnMergedUptoRow.holds Try.pinned (OpenSpec.upto fnMergedSpec)

/-- 'laws.FnExactPathOf', WHERE WHAT IT READS IS OF BULK AT MOST 1048576: true; the input reads as it did. -/
def fnExactPathOfUptoRow : OpenClaim := { program := "ytheemkehedmlfaa", sum := "2ac80127d3ae0354c5c352dd414e4d39c2284d08fb80fb5185192905b010b60e", func := "loop.example/g01139/laws.FnExactPathOf", spec := "fnExactPathOf", unfollowed := true, recurses := true, apart := false, narrowed := true }
def FnExactPathOfUptoSaid : Prop := fnExactPathOfUptoRow.holds Try.pinned (OpenSpec.upto fnExactPathOfSpec)

/-- 'laws.FnExactRunAlone', WHERE WHAT IT READS IS OF BULK AT MOST 1048576: true; the input reads as it did. -/
def fnExactRunAloneUptoRow : OpenClaim := { program := "ytheemkehedmlfaa", sum := "2ac80127d3ae0354c5c352dd414e4d39c2284d08fb80fb5185192905b010b60e", func := "loop.example/g01139/laws.FnExactRunAlone", spec := "fnExactRunAlone", unfollowed := true, recurses := true, apart := false, narrowed := true }
def FnExactRunAloneUptoSaid : Prop := fnExactRunAloneUptoRow.holds Try.pinned (OpenSpec.upto fnExactRunAloneSpec)

/-- 'laws.FnMaskedLanes', WHERE WHAT IT READS IS OF BULK AT MOST 1048576: true; the input reads as it did. -/
def fnMaskedLanesUptoRow : OpenClaim := { program := "ytheemkehedmlfaa", sum := "2ac80127d3ae0354c5c352dd414e4d39c2284d08fb80fb5185192905b010b60e", func := "loop.example/g01139/laws.FnMaskedLanes", spec := "fnMaskedLanes", unfollowed := true, recurses := true, apart := false, narrowed := true }
def FnMaskedLanesUptoSaid : Prop := fnMaskedLanesUptoRow.holds Try.pinned (OpenSpec.upto fnMaskedLanesSpec)

/-- 'laws.FnExactIsUniform', WHERE WHAT IT READS IS OF BULK AT MOST 1048576: true; the input reads as it did. -/
def fnExactIsUniformUptoRow : OpenClaim := { program := "ytheemkehedmlfaa", sum := "2ac80127d3ae0354c5c352dd414e4d39c2284d08fb80fb5185192905b010b60e", func := "loop.example/g01139/laws.FnExactIsUniform", spec := "fnExactIsUniform", unfollowed := true, recurses := true, apart := false, narrowed := true }
def FnExactIsUniformUptoSaid : Prop := fnExactIsUniformUptoRow.holds Try.pinned (OpenSpec.upto fnExactIsUniformSpec)

/-- 'laws.FnExactCountMasked', WHERE WHAT IT READS IS OF BULK AT MOST 1048576: true; the input reads as it did. -/
def fnExactCountMaskedUptoRow : OpenClaim := { program := "ytheemkehedmlfaa", sum := "2ac80127d3ae0354c5c352dd414e4d39c2284d08fb80fb5185192905b010b60e", func := "loop.example/g01139/laws.FnExactCountMasked", spec := "fnExactCountMasked", unfollowed := true, recurses := true, apart := false, narrowed := true }
def FnExactCountMaskedUptoSaid : Prop := fnExactCountMaskedUptoRow.holds Try.pinned (OpenSpec.upto fnExactCountMaskedSpec)

/-- 'laws.FnExactRunMasked', WHERE WHAT IT READS IS OF BULK AT MOST 1048576: true; the input reads as it did. -/
def fnExactRunMaskedUptoRow : OpenClaim := { program := "ytheemkehedmlfaa", sum := "2ac80127d3ae0354c5c352dd414e4d39c2284d08fb80fb5185192905b010b60e", func := "loop.example/g01139/laws.FnExactRunMasked", spec := "fnExactRunMasked", unfollowed := true, recurses := true, apart := false, narrowed := true }
def FnExactRunMaskedUptoSaid : Prop := fnExactRunMaskedUptoRow.holds Try.pinned (OpenSpec.upto fnExactRunMaskedSpec)

end Rows
end Go.Proofs.Ytheemkehedmlfaa
