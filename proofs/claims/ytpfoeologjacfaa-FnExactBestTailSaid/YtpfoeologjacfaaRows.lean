/-
  No cell of these rows narrows 'for every input' (looked for: loops, veiled, ifaces, maps, wideKeys, modest, calm, conditions, laid).
  DERIVED. THE GIVEN ROWS OF THIS SEAT. 16 by the template 'for every input the law returns true; each argument reads behind the call as it read before'; 0 by the template 'total and deterministic' (their statements: YtpfoeologjacfaaTotals.lean).
  GIVEN WITH THE SEED: the statements are not yours to turn. If you find one false, say at which input.
  Laid BY PROGRAM, IN A SANDBOX (cutbox-rows.mjs): the forced cells as the released guide's own fill.sh prints them over the translation 57634febff27b814… (all of the seat's roots in one cut). By AI agents, Wed Nov 11 2026. No macro, syntax, notation, axiom, sorry.
-/
import Derived.Test.YtpfoeologjacfaaChecked
import GoSem.Claim
import GoSem.ClaimJoined
import GoSem.ClaimMapViews
import Derived.JoinedTies
import Derived.KernelRfl
namespace Go.Proofs.Ytpfoeologjacfaa
/- THE CELL 'sum', in the pinned program and in every row, IS THE sha256 OF THE DUMP (.gsa) THAT YtpfoeologjacfaaProg.lean LOADS. Nothing in Lean hashes anything: it is a label: what it is worth is what the hold of that sum in a sandbox is worth. -/
noncomputable def Try.pinned : Pinned := { name := "ytpfoeologjacfaa", sum := "57634febff27b8144212478ee0d69ca0aa412beaf9ae64d64a634d916e6d2ca0", checked := Try.checked }
namespace Rows
def none {H : Type} : Left H := { results := [], args := [] }

/-- 'laws.FnExactValidLoop': WHATEVER THE INPUT: true; the input reads as it did. -/
def fnExactValidLoopSpec : ChangeSpec := { name := "fnExactValidLoop", fn := fun _ => fun
  | [d] => { results := [.lit (.bool true)], args := [d] }
  | _ => none }
def fnExactValidLoopRow : OpenClaim := { program := "ytpfoeologjacfaa", sum := "57634febff27b8144212478ee0d69ca0aa412beaf9ae64d64a634d916e6d2ca0", func := "loop.example/g01139/laws.FnExactValidLoop", spec := "fnExactValidLoop", apart := false }
def FnExactValidLoopSaid : Prop := fnExactValidLoopRow.holds Try.pinned (OpenSpec.ofChange fnExactValidLoopSpec)

/-- ITS FALSE NEIGHBOUR: 'it returns false'. Refute it at one input. -/
def fnExactValidLoopWrong : ChangeSpec := { name := "fnExactValidLoop", fn := fun _ => fun
  | [d] => { results := [.lit (.bool false)], args := [d] }
  | _ => none }
def FnExactValidLoopWrongFalsely : Prop := fnExactValidLoopRow.holds Try.pinned (OpenSpec.ofChange fnExactValidLoopWrong)

/-- 'laws.FnExactCanStrip': WHATEVER THE INPUT: true; the input reads as it did. -/
def fnExactCanStripSpec : ChangeSpec := { name := "fnExactCanStrip", fn := fun _ => fun
  | [d1, d2, d3] => { results := [.lit (.bool true)], args := [d1, d2, d3] }
  | _ => none }
def fnExactCanStripRow : OpenClaim := { program := "ytpfoeologjacfaa", sum := "57634febff27b8144212478ee0d69ca0aa412beaf9ae64d64a634d916e6d2ca0", func := "loop.example/g01139/laws.FnExactCanStrip", spec := "fnExactCanStrip", apart := false }
def FnExactCanStripSaid : Prop := fnExactCanStripRow.holds Try.pinned (OpenSpec.ofChange fnExactCanStripSpec)

/-- ITS FALSE NEIGHBOUR: 'it returns false'. Refute it at one input. -/
def fnExactCanStripWrong : ChangeSpec := { name := "fnExactCanStrip", fn := fun _ => fun
  | [d1, d2, d3] => { results := [.lit (.bool false)], args := [d1, d2, d3] }
  | _ => none }
def FnExactCanStripWrongFalsely : Prop := fnExactCanStripRow.holds Try.pinned (OpenSpec.ofChange fnExactCanStripWrong)

/-- 'laws.FnExactMostLanes': WHATEVER THE INPUT: true; the input reads as it did. -/
def fnExactMostLanesSpec : ChangeSpec := { name := "fnExactMostLanes", fn := fun _ => fun
  | [d] => { results := [.lit (.bool true)], args := [d] }
  | _ => none }
def fnExactMostLanesRow : OpenClaim := { program := "ytpfoeologjacfaa", sum := "57634febff27b8144212478ee0d69ca0aa412beaf9ae64d64a634d916e6d2ca0", func := "loop.example/g01139/laws.FnExactMostLanes", spec := "fnExactMostLanes", apart := false }
def FnExactMostLanesSaid : Prop := fnExactMostLanesRow.holds Try.pinned (OpenSpec.ofChange fnExactMostLanesSpec)

/-- ITS FALSE NEIGHBOUR: 'it returns false'. Refute it at one input. -/
def fnExactMostLanesWrong : ChangeSpec := { name := "fnExactMostLanes", fn := fun _ => fun
  | [d] => { results := [.lit (.bool false)], args := [d] }
  | _ => none }
def FnExactMostLanesWrongFalsely : Prop := fnExactMostLanesRow.holds Try.pinned (OpenSpec.ofChange fnExactMostLanesWrong)

/-- 'laws.FnExactSortLanes': WHATEVER THE INPUT: true; the input reads as it did. -/
def fnExactSortLanesSpec : ChangeSpec := { name := "fnExactSortLanes", fn := fun _ => fun
  | [d1, d2] => { results := [.lit (.bool true)], args := [d1, d2] }
  | _ => none }
def fnExactSortLanesRow : OpenClaim := { program := "ytpfoeologjacfaa", sum := "57634febff27b8144212478ee0d69ca0aa412beaf9ae64d64a634d916e6d2ca0", func := "loop.example/g01139/laws.FnExactSortLanes", spec := "fnExactSortLanes", unfollowed := true, recurses := true, apart := false }
def FnExactSortLanesSaid : Prop := fnExactSortLanesRow.holds Try.pinned (OpenSpec.ofChange fnExactSortLanesSpec)

/-- ITS FALSE NEIGHBOUR: 'it returns false'. Refute it at one input. -/
def fnExactSortLanesWrong : ChangeSpec := { name := "fnExactSortLanes", fn := fun _ => fun
  | [d1, d2] => { results := [.lit (.bool false)], args := [d1, d2] }
  | _ => none }
def FnExactSortLanesWrongFalsely : Prop := fnExactSortLanesRow.holds Try.pinned (OpenSpec.ofChange fnExactSortLanesWrong)

/-- 'laws.FnCompressed': WHATEVER THE INPUT: true; the input reads as it did. -/
def fnCompressedSpec : ChangeSpec := { name := "fnCompressed", fn := fun _ => fun
  | [d1, d2] => { results := [.lit (.bool true)], args := [d1, d2] }
  | _ => none }
def fnCompressedRow : OpenClaim := { program := "ytpfoeologjacfaa", sum := "57634febff27b8144212478ee0d69ca0aa412beaf9ae64d64a634d916e6d2ca0", func := "loop.example/g01139/laws.FnCompressed", spec := "fnCompressed", unfollowed := true, recurses := true, apart := false }
def FnCompressedSaid : Prop := fnCompressedRow.holds Try.pinned (OpenSpec.ofChange fnCompressedSpec)

/-- ITS FALSE NEIGHBOUR: 'it returns false'. Refute it at one input. -/
def fnCompressedWrong : ChangeSpec := { name := "fnCompressed", fn := fun _ => fun
  | [d1, d2] => { results := [.lit (.bool false)], args := [d1, d2] }
  | _ => none }
def FnCompressedWrongFalsely : Prop := fnCompressedRow.holds Try.pinned (OpenSpec.ofChange fnCompressedWrong)

/-- 'laws.FnExactExchangeLanes': WHATEVER THE INPUT: true; the input reads as it did. -/
def fnExactExchangeLanesSpec : ChangeSpec := { name := "fnExactExchangeLanes", fn := fun _ => fun
  | [d1, d2, d3] => { results := [.lit (.bool true)], args := [d1, d2, d3] }
  | _ => none }
def fnExactExchangeLanesRow : OpenClaim := { program := "ytpfoeologjacfaa", sum := "57634febff27b8144212478ee0d69ca0aa412beaf9ae64d64a634d916e6d2ca0", func := "loop.example/g01139/laws.FnExactExchangeLanes", spec := "fnExactExchangeLanes", unfollowed := true, recurses := true, apart := false }
def FnExactExchangeLanesSaid : Prop := fnExactExchangeLanesRow.holds Try.pinned (OpenSpec.ofChange fnExactExchangeLanesSpec)

/-- ITS FALSE NEIGHBOUR: 'it returns false'. Refute it at one input. -/
def fnExactExchangeLanesWrong : ChangeSpec := { name := "fnExactExchangeLanes", fn := fun _ => fun
  | [d1, d2, d3] => { results := [.lit (.bool false)], args := [d1, d2, d3] }
  | _ => none }
def FnExactExchangeLanesWrongFalsely : Prop := fnExactExchangeLanesRow.holds Try.pinned (OpenSpec.ofChange fnExactExchangeLanesWrong)

/-- 'laws.FnSorted': WHATEVER THE INPUT: true; the input reads as it did. -/
def fnSortedSpec : ChangeSpec := { name := "fnSorted", fn := fun _ => fun
  | [d1, d2] => { results := [.lit (.bool true)], args := [d1, d2] }
  | _ => none }
def fnSortedRow : OpenClaim := { program := "ytpfoeologjacfaa", sum := "57634febff27b8144212478ee0d69ca0aa412beaf9ae64d64a634d916e6d2ca0", func := "loop.example/g01139/laws.FnSorted", spec := "fnSorted", unfollowed := true, recurses := true, apart := false }
def FnSortedSaid : Prop := fnSortedRow.holds Try.pinned (OpenSpec.ofChange fnSortedSpec)

/-- ITS FALSE NEIGHBOUR: 'it returns false'. Refute it at one input. -/
def fnSortedWrong : ChangeSpec := { name := "fnSorted", fn := fun _ => fun
  | [d1, d2] => { results := [.lit (.bool false)], args := [d1, d2] }
  | _ => none }
def FnSortedWrongFalsely : Prop := fnSortedRow.holds Try.pinned (OpenSpec.ofChange fnSortedWrong)

/-- 'laws.FnBlocks': WHATEVER THE INPUT: true; the input reads as it did. -/
def fnBlocksSpec : ChangeSpec := { name := "fnBlocks", fn := fun _ => fun
  | [d1, d2] => { results := [.lit (.bool true)], args := [d1, d2] }
  | _ => none }
def fnBlocksRow : OpenClaim := { program := "ytpfoeologjacfaa", sum := "57634febff27b8144212478ee0d69ca0aa412beaf9ae64d64a634d916e6d2ca0", func := "loop.example/g01139/laws.FnBlocks", spec := "fnBlocks", unfollowed := true, recurses := true, apart := false }
def FnBlocksSaid : Prop := fnBlocksRow.holds Try.pinned (OpenSpec.ofChange fnBlocksSpec)

/-- ITS FALSE NEIGHBOUR: 'it returns false'. Refute it at one input. -/
def fnBlocksWrong : ChangeSpec := { name := "fnBlocks", fn := fun _ => fun
  | [d1, d2] => { results := [.lit (.bool false)], args := [d1, d2] }
  | _ => none }
def FnBlocksWrongFalsely : Prop := fnBlocksRow.holds Try.pinned (OpenSpec.ofChange fnBlocksWrong)

/-- 'laws.FnExactNewConsole': WHATEVER THE INPUT: true; the input reads as it did. -/
def fnExactNewConsoleSpec : ChangeSpec := { name := "fnExactNewConsole", fn := fun _ => fun
  | [d1, d2] => { results := [.lit (.bool true)], args := [d1, d2] }
  | _ => none }
def fnExactNewConsoleRow : OpenClaim := { program := "ytpfoeologjacfaa", sum := "57634febff27b8144212478ee0d69ca0aa412beaf9ae64d64a634d916e6d2ca0", func := "loop.example/g01139/laws.FnExactNewConsole", spec := "fnExactNewConsole", unfollowed := true, recurses := true, apart := false }
def FnExactNewConsoleSaid : Prop := fnExactNewConsoleRow.holds Try.pinned (OpenSpec.ofChange fnExactNewConsoleSpec)

/-- ITS FALSE NEIGHBOUR: 'it returns false'. Refute it at one input. -/
def fnExactNewConsoleWrong : ChangeSpec := { name := "fnExactNewConsole", fn := fun _ => fun
  | [d1, d2] => { results := [.lit (.bool false)], args := [d1, d2] }
  | _ => none }
def FnExactNewConsoleWrongFalsely : Prop := fnExactNewConsoleRow.holds Try.pinned (OpenSpec.ofChange fnExactNewConsoleWrong)

/-- 'laws.FnExactValidConsole': WHATEVER THE INPUT: true; the input reads as it did. -/
def fnExactValidConsoleSpec : ChangeSpec := { name := "fnExactValidConsole", fn := fun _ => fun
  | [d] => { results := [.lit (.bool true)], args := [d] }
  | _ => none }
def fnExactValidConsoleRow : OpenClaim := { program := "ytpfoeologjacfaa", sum := "57634febff27b8144212478ee0d69ca0aa412beaf9ae64d64a634d916e6d2ca0", func := "loop.example/g01139/laws.FnExactValidConsole", spec := "fnExactValidConsole", unfollowed := true, recurses := true, apart := false }
def FnExactValidConsoleSaid : Prop := fnExactValidConsoleRow.holds Try.pinned (OpenSpec.ofChange fnExactValidConsoleSpec)

/-- ITS FALSE NEIGHBOUR: 'it returns false'. Refute it at one input. -/
def fnExactValidConsoleWrong : ChangeSpec := { name := "fnExactValidConsole", fn := fun _ => fun
  | [d] => { results := [.lit (.bool false)], args := [d] }
  | _ => none }
def FnExactValidConsoleWrongFalsely : Prop := fnExactValidConsoleRow.holds Try.pinned (OpenSpec.ofChange fnExactValidConsoleWrong)

/-- 'laws.FnExactRunLoop': WHATEVER THE INPUT: true; the input reads as it did. -/
def fnExactRunLoopSpec : ChangeSpec := { name := "fnExactRunLoop", fn := fun _ => fun
  | [d1, d2, d3] => { results := [.lit (.bool true)], args := [d1, d2, d3] }
  | _ => none }
def fnExactRunLoopRow : OpenClaim := { program := "ytpfoeologjacfaa", sum := "57634febff27b8144212478ee0d69ca0aa412beaf9ae64d64a634d916e6d2ca0", func := "loop.example/g01139/laws.FnExactRunLoop", spec := "fnExactRunLoop", unfollowed := true, recurses := true, apart := false }
def FnExactRunLoopSaid : Prop := fnExactRunLoopRow.holds Try.pinned (OpenSpec.ofChange fnExactRunLoopSpec)

/-- ITS FALSE NEIGHBOUR: 'it returns false'. Refute it at one input. -/
def fnExactRunLoopWrong : ChangeSpec := { name := "fnExactRunLoop", fn := fun _ => fun
  | [d1, d2, d3] => { results := [.lit (.bool false)], args := [d1, d2, d3] }
  | _ => none }
def FnExactRunLoopWrongFalsely : Prop := fnExactRunLoopRow.holds Try.pinned (OpenSpec.ofChange fnExactRunLoopWrong)

/-- 'laws.FnExactStripCode': WHATEVER THE INPUT: true; the input reads as it did. -/
def fnExactStripCodeSpec : ChangeSpec := { name := "fnExactStripCode", fn := fun _ => fun
  | [d1, d2, d3] => { results := [.lit (.bool true)], args := [d1, d2, d3] }
  | _ => none }
def fnExactStripCodeRow : OpenClaim := { program := "ytpfoeologjacfaa", sum := "57634febff27b8144212478ee0d69ca0aa412beaf9ae64d64a634d916e6d2ca0", func := "loop.example/g01139/laws.FnExactStripCode", spec := "fnExactStripCode", apart := false }
def FnExactStripCodeSaid : Prop := fnExactStripCodeRow.holds Try.pinned (OpenSpec.ofChange fnExactStripCodeSpec)

/-- ITS FALSE NEIGHBOUR: 'it returns false'. Refute it at one input. -/
def fnExactStripCodeWrong : ChangeSpec := { name := "fnExactStripCode", fn := fun _ => fun
  | [d1, d2, d3] => { results := [.lit (.bool false)], args := [d1, d2, d3] }
  | _ => none }
def FnExactStripCodeWrongFalsely : Prop := fnExactStripCodeRow.holds Try.pinned (OpenSpec.ofChange fnExactStripCodeWrong)

/-- 'laws.FnExactStripCost': WHATEVER THE INPUT: true; the input reads as it did. -/
def fnExactStripCostSpec : ChangeSpec := { name := "fnExactStripCost", fn := fun _ => fun
  | [d1, d2, d3] => { results := [.lit (.bool true)], args := [d1, d2, d3] }
  | _ => none }
def fnExactStripCostRow : OpenClaim := { program := "ytpfoeologjacfaa", sum := "57634febff27b8144212478ee0d69ca0aa412beaf9ae64d64a634d916e6d2ca0", func := "loop.example/g01139/laws.FnExactStripCost", spec := "fnExactStripCost", unfollowed := true, recurses := true, apart := false }
def FnExactStripCostSaid : Prop := fnExactStripCostRow.holds Try.pinned (OpenSpec.ofChange fnExactStripCostSpec)

/-- ITS FALSE NEIGHBOUR: 'it returns false'. Refute it at one input. -/
def fnExactStripCostWrong : ChangeSpec := { name := "fnExactStripCost", fn := fun _ => fun
  | [d1, d2, d3] => { results := [.lit (.bool false)], args := [d1, d2, d3] }
  | _ => none }
def FnExactStripCostWrongFalsely : Prop := fnExactStripCostRow.holds Try.pinned (OpenSpec.ofChange fnExactStripCostWrong)

/-- 'laws.FnExactBestTail': WHATEVER THE INPUT: true; the input reads as it did. -/
def fnExactBestTailSpec : ChangeSpec := { name := "fnExactBestTail", fn := fun _ => fun
  | [d1, d2] => { results := [.lit (.bool true)], args := [d1, d2] }
  | _ => none }
def fnExactBestTailRow : OpenClaim := { program := "ytpfoeologjacfaa", sum := "57634febff27b8144212478ee0d69ca0aa412beaf9ae64d64a634d916e6d2ca0", func := "loop.example/g01139/laws.FnExactBestTail", spec := "fnExactBestTail", unfollowed := true, recurses := true, apart := false }
def FnExactBestTailSaid : Prop := fnExactBestTailRow.holds Try.pinned (OpenSpec.ofChange fnExactBestTailSpec)

/-- ITS FALSE NEIGHBOUR: 'it returns false'. Refute it at one input. -/
def fnExactBestTailWrong : ChangeSpec := { name := "fnExactBestTail", fn := fun _ => fun
  | [d1, d2] => { results := [.lit (.bool false)], args := [d1, d2] }
  | _ => none }
def FnExactBestTailWrongFalsely : Prop := fnExactBestTailRow.holds Try.pinned (OpenSpec.ofChange fnExactBestTailWrong)

/-- 'laws.FnExactUniqueLanes': WHATEVER THE INPUT: true; the input reads as it did. -/
def fnExactUniqueLanesSpec : ChangeSpec := { name := "fnExactUniqueLanes", fn := fun _ => fun
  | [d1, d2] => { results := [.lit (.bool true)], args := [d1, d2] }
  | _ => none }
def fnExactUniqueLanesRow : OpenClaim := { program := "ytpfoeologjacfaa", sum := "57634febff27b8144212478ee0d69ca0aa412beaf9ae64d64a634d916e6d2ca0", func := "loop.example/g01139/laws.FnExactUniqueLanes", spec := "fnExactUniqueLanes", unfollowed := true, recurses := true, apart := false }
def FnExactUniqueLanesSaid : Prop := fnExactUniqueLanesRow.holds Try.pinned (OpenSpec.ofChange fnExactUniqueLanesSpec)

/-- ITS FALSE NEIGHBOUR: 'it returns false'. Refute it at one input. -/
def fnExactUniqueLanesWrong : ChangeSpec := { name := "fnExactUniqueLanes", fn := fun _ => fun
  | [d1, d2] => { results := [.lit (.bool false)], args := [d1, d2] }
  | _ => none }
def FnExactUniqueLanesWrongFalsely : Prop := fnExactUniqueLanesRow.holds Try.pinned (OpenSpec.ofChange fnExactUniqueLanesWrong)

/-- 'laws.FnExactMergeLanes': WHATEVER THE INPUT: true; the input reads as it did. -/
def fnExactMergeLanesSpec : ChangeSpec := { name := "fnExactMergeLanes", fn := fun _ => fun
  | [d1, d2, d3] => { results := [.lit (.bool true)], args := [d1, d2, d3] }
  | _ => none }
def fnExactMergeLanesRow : OpenClaim := { program := "ytpfoeologjacfaa", sum := "57634febff27b8144212478ee0d69ca0aa412beaf9ae64d64a634d916e6d2ca0", func := "loop.example/g01139/laws.FnExactMergeLanes", spec := "fnExactMergeLanes", unfollowed := true, recurses := true, apart := false }
def FnExactMergeLanesSaid : Prop := fnExactMergeLanesRow.holds Try.pinned (OpenSpec.ofChange fnExactMergeLanesSpec)

/-- ITS FALSE NEIGHBOUR: 'it returns false'. Refute it at one input. -/
def fnExactMergeLanesWrong : ChangeSpec := { name := "fnExactMergeLanes", fn := fun _ => fun
  | [d1, d2, d3] => { results := [.lit (.bool false)], args := [d1, d2, d3] }
  | _ => none }
def FnExactMergeLanesWrongFalsely : Prop := fnExactMergeLanesRow.holds Try.pinned (OpenSpec.ofChange fnExactMergeLanesWrong)

/- THE SECOND FORM. 'bulk': how many values and letters a reading holds, each counted each time it is reached (what is shared counts as often as it is met; a slice's spare places count too). A statement '..UptoSaid' is the law's where the arguments, and the package variables that the reading takes, are together of bulk at most 1048576: NARROWER than '..Said'. Prove '..Said' where nothing that the law and all that it calls make is longer than what came in: it says more and counts as full. Else prove '..UptoSaid'. A law counts once. -/
mutual
def uptoBulk {H : Type} : DataW H → Nat
  | .lit (.string bytes) => bytes.length + 1
  | .lit _ => 1
  | .nil => 1
  | .ptr d => uptoBulk d + 1
  | .slice elems spare => uptoBulkAll elems + uptoBulkAll spare + 1
  | .agg parts => uptoBulkAll parts + 1
  | .iface _ d => uptoBulk d + 1
  | .map entries => uptoBulkEntries entries + 1
  | .held _ => 1
def uptoBulkAll {H : Type} : List (DataW H) → Nat
  | [] => 0
  | d :: r => uptoBulk d + uptoBulkAll r
def uptoBulkEntries {H : Type} : List (Lit × DataW H) → Nat
  | [] => 0
  | x :: r => uptoBulkEntry x + uptoBulkEntries r
def uptoBulkEntry {H : Type} : Lit × DataW H → Nat
  | (.string bytes, d) => bytes.length + uptoBulk d + 1
  | (_, d) => uptoBulk d + 1
 end
def uptoSmall : (H : Type) → List (DataW H) → Bool := fun _ ds => decide (uptoBulkAll ds ≤ 1048576)
def OpenSpec.upto (s : _root_.Go.ChangeSpec) : _root_.Go.OpenSpec := { _root_.Go.OpenSpec.ofChange s with cond := some uptoSmall }

/-- 'laws.FnExactValidLoop', WHERE WHAT IT READS IS OF BULK AT MOST 1048576: true; the input reads as it did. -/
def fnExactValidLoopUptoRow : OpenClaim := { program := "ytpfoeologjacfaa", sum := "57634febff27b8144212478ee0d69ca0aa412beaf9ae64d64a634d916e6d2ca0", func := "loop.example/g01139/laws.FnExactValidLoop", spec := "fnExactValidLoop", apart := false, narrowed := true }
def FnExactValidLoopUptoSaid : Prop := fnExactValidLoopUptoRow.holds Try.pinned (OpenSpec.upto fnExactValidLoopSpec)

/-- 'laws.FnExactCanStrip', WHERE WHAT IT READS IS OF BULK AT MOST 1048576: true; the input reads as it did. -/
def fnExactCanStripUptoRow : OpenClaim := { program := "ytpfoeologjacfaa", sum := "57634febff27b8144212478ee0d69ca0aa412beaf9ae64d64a634d916e6d2ca0", func := "loop.example/g01139/laws.FnExactCanStrip", spec := "fnExactCanStrip", apart := false, narrowed := true }
def FnExactCanStripUptoSaid : Prop := fnExactCanStripUptoRow.holds Try.pinned (OpenSpec.upto fnExactCanStripSpec)

/-- 'laws.FnExactMostLanes', WHERE WHAT IT READS IS OF BULK AT MOST 1048576: true; the input reads as it did. -/
def fnExactMostLanesUptoRow : OpenClaim := { program := "ytpfoeologjacfaa", sum := "57634febff27b8144212478ee0d69ca0aa412beaf9ae64d64a634d916e6d2ca0", func := "loop.example/g01139/laws.FnExactMostLanes", spec := "fnExactMostLanes", apart := false, narrowed := true }
def FnExactMostLanesUptoSaid : Prop := fnExactMostLanesUptoRow.holds Try.pinned (OpenSpec.upto fnExactMostLanesSpec)

/-- 'laws.FnExactSortLanes', WHERE WHAT IT READS IS OF BULK AT MOST 1048576: true; the input reads as it did. -/
def fnExactSortLanesUptoRow : OpenClaim := { program := "ytpfoeologjacfaa", sum := "57634febff27b8144212478ee0d69ca0aa412beaf9ae64d64a634d916e6d2ca0", func := "loop.example/g01139/laws.FnExactSortLanes", spec := "fnExactSortLanes", unfollowed := true, recurses := true, apart := false, narrowed := true }
def FnExactSortLanesUptoSaid : Prop := fnExactSortLanesUptoRow.holds Try.pinned (OpenSpec.upto fnExactSortLanesSpec)

/-- 'laws.FnCompressed', WHERE WHAT IT READS IS OF BULK AT MOST 1048576: true; the input reads as it did. -/
def fnCompressedUptoRow : OpenClaim := { program := "ytpfoeologjacfaa", sum := "57634febff27b8144212478ee0d69ca0aa412beaf9ae64d64a634d916e6d2ca0", func := "loop.example/g01139/laws.FnCompressed", spec := "fnCompressed", unfollowed := true, recurses := true, apart := false, narrowed := true }
def FnCompressedUptoSaid : Prop := fnCompressedUptoRow.holds Try.pinned (OpenSpec.upto fnCompressedSpec)

/-- 'laws.FnExactExchangeLanes', WHERE WHAT IT READS IS OF BULK AT MOST 1048576: true; the input reads as it did. -/
def fnExactExchangeLanesUptoRow : OpenClaim := { program := "ytpfoeologjacfaa", sum := "57634febff27b8144212478ee0d69ca0aa412beaf9ae64d64a634d916e6d2ca0", func := "loop.example/g01139/laws.FnExactExchangeLanes", spec := "fnExactExchangeLanes", unfollowed := true, recurses := true, apart := false, narrowed := true }
def FnExactExchangeLanesUptoSaid : Prop := fnExactExchangeLanesUptoRow.holds Try.pinned (OpenSpec.upto fnExactExchangeLanesSpec)

/-- 'laws.FnSorted', WHERE WHAT IT READS IS OF BULK AT MOST 1048576: true; the input reads as it did. -/
def fnSortedUptoRow : OpenClaim := { program := "ytpfoeologjacfaa", sum := "57634febff27b8144212478ee0d69ca0aa412beaf9ae64d64a634d916e6d2ca0", func := "loop.example/g01139/laws.FnSorted", spec := "fnSorted", unfollowed := true, recurses := true, apart := false, narrowed := true }
def FnSortedUptoSaid : Prop := fnSortedUptoRow.holds Try.pinned (OpenSpec.upto fnSortedSpec)

/-- 'laws.FnBlocks', WHERE WHAT IT READS IS OF BULK AT MOST 1048576: true; the input reads as it did. -/
def fnBlocksUptoRow : OpenClaim := { program := "ytpfoeologjacfaa", sum := "57634febff27b8144212478ee0d69ca0aa412beaf9ae64d64a634d916e6d2ca0", func := "loop.example/g01139/laws.FnBlocks", spec := "fnBlocks", unfollowed := true, recurses := true, apart := false, narrowed := true }
def FnBlocksUptoSaid : Prop := fnBlocksUptoRow.holds Try.pinned (OpenSpec.upto fnBlocksSpec)

/-- 'laws.FnExactNewConsole', WHERE WHAT IT READS IS OF BULK AT MOST 1048576: true; the input reads as it did. -/
def fnExactNewConsoleUptoRow : OpenClaim := { program := "ytpfoeologjacfaa", sum := "57634febff27b8144212478ee0d69ca0aa412beaf9ae64d64a634d916e6d2ca0", func := "loop.example/g01139/laws.FnExactNewConsole", spec := "fnExactNewConsole", unfollowed := true, recurses := true, apart := false, narrowed := true }
def FnExactNewConsoleUptoSaid : Prop := fnExactNewConsoleUptoRow.holds Try.pinned (OpenSpec.upto fnExactNewConsoleSpec)

/-- 'laws.FnExactValidConsole', WHERE WHAT IT READS IS OF BULK AT MOST 1048576: true; the input reads as it did. -/
def fnExactValidConsoleUptoRow : OpenClaim := { program := "ytpfoeologjacfaa", sum := "57634febff27b8144212478ee0d69ca0aa412beaf9ae64d64a634d916e6d2ca0", func := "loop.example/g01139/laws.FnExactValidConsole", spec := "fnExactValidConsole", unfollowed := true, recurses := true, apart := false, narrowed := true }
def FnExactValidConsoleUptoSaid : Prop := fnExactValidConsoleUptoRow.holds Try.pinned (OpenSpec.upto fnExactValidConsoleSpec)

/-- 'laws.FnExactRunLoop', WHERE WHAT IT READS IS OF BULK AT MOST 1048576: true; the input reads as it did. -/
def fnExactRunLoopUptoRow : OpenClaim := { program := "ytpfoeologjacfaa", sum := "57634febff27b8144212478ee0d69ca0aa412beaf9ae64d64a634d916e6d2ca0", func := "loop.example/g01139/laws.FnExactRunLoop", spec := "fnExactRunLoop", unfollowed := true, recurses := true, apart := false, narrowed := true }
def FnExactRunLoopUptoSaid : Prop := fnExactRunLoopUptoRow.holds Try.pinned (OpenSpec.upto fnExactRunLoopSpec)

/-- 'laws.FnExactStripCode', WHERE WHAT IT READS IS OF BULK AT MOST 1048576: true; the input reads as it did. -/
def fnExactStripCodeUptoRow : OpenClaim := { program := "ytpfoeologjacfaa", sum := "57634febff27b8144212478ee0d69ca0aa412beaf9ae64d64a634d916e6d2ca0", func := "loop.example/g01139/laws.FnExactStripCode", spec := "fnExactStripCode", apart := false, narrowed := true }
def FnExactStripCodeUptoSaid : Prop := fnExactStripCodeUptoRow.holds Try.pinned (OpenSpec.upto fnExactStripCodeSpec)

/-- 'laws.FnExactStripCost', WHERE WHAT IT READS IS OF BULK AT MOST 1048576: true; the input reads as it did. -/
def fnExactStripCostUptoRow : OpenClaim := { program := "ytpfoeologjacfaa", sum := "57634febff27b8144212478ee0d69ca0aa412beaf9ae64d64a634d916e6d2ca0", func := "loop.example/g01139/laws.FnExactStripCost", spec := "fnExactStripCost", unfollowed := true, recurses := true, apart := false, narrowed := true }
def FnExactStripCostUptoSaid : Prop := fnExactStripCostUptoRow.holds Try.pinned (OpenSpec.upto fnExactStripCostSpec)

/-- 'laws.FnExactBestTail', WHERE WHAT IT READS IS OF BULK AT MOST 1048576: true; the input reads as it did. -/
def fnExactBestTailUptoRow : OpenClaim := { program := "ytpfoeologjacfaa", sum := "57634febff27b8144212478ee0d69ca0aa412beaf9ae64d64a634d916e6d2ca0", func := "loop.example/g01139/laws.FnExactBestTail", spec := "fnExactBestTail", unfollowed := true, recurses := true, apart := false, narrowed := true }
def FnExactBestTailUptoSaid : Prop := fnExactBestTailUptoRow.holds Try.pinned (OpenSpec.upto fnExactBestTailSpec)

/-- 'laws.FnExactUniqueLanes', WHERE WHAT IT READS IS OF BULK AT MOST 1048576: true; the input reads as it did. -/
def fnExactUniqueLanesUptoRow : OpenClaim := { program := "ytpfoeologjacfaa", sum := "57634febff27b8144212478ee0d69ca0aa412beaf9ae64d64a634d916e6d2ca0", func := "loop.example/g01139/laws.FnExactUniqueLanes", spec := "fnExactUniqueLanes", unfollowed := true, recurses := true, apart := false, narrowed := true }
def FnExactUniqueLanesUptoSaid : Prop := fnExactUniqueLanesUptoRow.holds Try.pinned (OpenSpec.upto fnExactUniqueLanesSpec)

/-- 'laws.FnExactMergeLanes', WHERE WHAT IT READS IS OF BULK AT MOST 1048576: true; the input reads as it did. -/
def fnExactMergeLanesUptoRow : OpenClaim := { program := "ytpfoeologjacfaa", sum := "57634febff27b8144212478ee0d69ca0aa412beaf9ae64d64a634d916e6d2ca0", func := "loop.example/g01139/laws.FnExactMergeLanes", spec := "fnExactMergeLanes", unfollowed := true, recurses := true, apart := false, narrowed := true }
def FnExactMergeLanesUptoSaid : Prop := fnExactMergeLanesUptoRow.holds Try.pinned (OpenSpec.upto fnExactMergeLanesSpec)

end Rows
end Go.Proofs.Ytpfoeologjacfaa
