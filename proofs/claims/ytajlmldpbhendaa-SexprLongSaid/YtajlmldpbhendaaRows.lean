/-
  NARROWER THAN 'FOR EVERY INPUT', by the rows' own cells (each row's printed sentence says how): CostTrees: loops · CostDags: loops · CostShared: loops · CostOrder: loops · CostGrows: loops · SexprGaps: loops · SexprPrints: loops · SexprBack: loops.
  DERIVED. THE GIVEN ROWS OF THIS SEAT. 12 by the template 'for every input the law returns true; each argument reads behind the call as it read before'; 0 by the template 'total and deterministic' (their statements: YtajlmldpbhendaaTotals.lean).
  GIVEN WITH THE SEED: the statements are not yours to turn. If you find one false, say at which input.
  Laid BY PROGRAM, IN A SANDBOX (cutbox-rows.mjs): the forced cells as the released guide's own fill.sh prints them over the translation 2fab66f14897f55f… (all of the seat's roots in one cut). By AI agents, Wed Nov 11 2026. No macro, syntax, notation, axiom, sorry.
-/
import Derived.Test.YtajlmldpbhendaaChecked
import GoSem.Claim
import GoSem.ClaimJoined
import GoSem.ClaimMapViews
import Derived.JoinedTies
import Derived.KernelRfl
namespace Go.Proofs.Ytajlmldpbhendaa
/- THE CELL 'sum', in the pinned program and in every row, IS THE sha256 OF THE DUMP (.gsa) THAT YtajlmldpbhendaaProg.lean LOADS. Nothing in Lean hashes anything: it is a label: what it is worth is what the hold of that sum in a sandbox is worth. -/
noncomputable def Try.pinned : Pinned := { name := "ytajlmldpbhendaa", sum := "2fab66f14897f55f77de5fe43ff53239c43de9ca11a307e660db4b0a94bca947", checked := Try.checked }
namespace Rows
def none {H : Type} : Left H := { results := [], args := [] }

/-- 'saturatelaw10.CostNodes': WHATEVER THE INPUT: true; the input reads as it did. -/
def costNodesSpec : ChangeSpec := { name := "costNodes", fn := fun _ => fun
  | [d1, d2, d3] => { results := [.lit (.bool true)], args := [d1, d2, d3] }
  | _ => none }
def costNodesRow : OpenClaim := { program := "ytajlmldpbhendaa", sum := "2fab66f14897f55f77de5fe43ff53239c43de9ca11a307e660db4b0a94bca947", func := "saturate/saturatelaw10.CostNodes", spec := "costNodes", unfollowed := true, recurses := true, apart := false }
def CostNodesSaid : Prop := costNodesRow.holds Try.pinned (OpenSpec.ofChange costNodesSpec)

/-- ITS FALSE NEIGHBOUR: 'it returns false'. Refute it at one input. -/
def costNodesWrong : ChangeSpec := { name := "costNodes", fn := fun _ => fun
  | [d1, d2, d3] => { results := [.lit (.bool false)], args := [d1, d2, d3] }
  | _ => none }
def CostNodesWrongFalsely : Prop := costNodesRow.holds Try.pinned (OpenSpec.ofChange costNodesWrong)

/-- 'saturatelaw10.CostTrees': WHATEVER THE INPUT: true; the input reads as it did. -/
def costTreesSpec : ChangeSpec := { name := "costTrees", fn := fun _ => fun
  | [d1, d2] => { results := [.lit (.bool true)], args := [d1, d2] }
  | _ => none }
def costTreesRow : OpenClaim := { program := "ytajlmldpbhendaa", sum := "2fab66f14897f55f77de5fe43ff53239c43de9ca11a307e660db4b0a94bca947", func := "saturate/saturatelaw10.CostTrees", spec := "costTrees", unfollowed := true, recurses := true, loops := true, apart := false }
def CostTreesSaid : Prop := costTreesRow.holds Try.pinned (OpenSpec.ofChange costTreesSpec)

/-- ITS FALSE NEIGHBOUR: 'it returns false'. Refute it at one input. -/
def costTreesWrong : ChangeSpec := { name := "costTrees", fn := fun _ => fun
  | [d1, d2] => { results := [.lit (.bool false)], args := [d1, d2] }
  | _ => none }
def CostTreesWrongFalsely : Prop := costTreesRow.holds Try.pinned (OpenSpec.ofChange costTreesWrong)

/-- 'saturatelaw10.CostDags': WHATEVER THE INPUT: true; the input reads as it did. -/
def costDagsSpec : ChangeSpec := { name := "costDags", fn := fun _ => fun
  | [d1, d2] => { results := [.lit (.bool true)], args := [d1, d2] }
  | _ => none }
def costDagsRow : OpenClaim := { program := "ytajlmldpbhendaa", sum := "2fab66f14897f55f77de5fe43ff53239c43de9ca11a307e660db4b0a94bca947", func := "saturate/saturatelaw10.CostDags", spec := "costDags", unfollowed := true, recurses := true, loops := true, apart := false }
def CostDagsSaid : Prop := costDagsRow.holds Try.pinned (OpenSpec.ofChange costDagsSpec)

/-- ITS FALSE NEIGHBOUR: 'it returns false'. Refute it at one input. -/
def costDagsWrong : ChangeSpec := { name := "costDags", fn := fun _ => fun
  | [d1, d2] => { results := [.lit (.bool false)], args := [d1, d2] }
  | _ => none }
def CostDagsWrongFalsely : Prop := costDagsRow.holds Try.pinned (OpenSpec.ofChange costDagsWrong)

/-- 'saturatelaw10.CostShared': WHATEVER THE INPUT: true; the input reads as it did. -/
def costSharedSpec : ChangeSpec := { name := "costShared", fn := fun _ => fun
  | [d1, d2] => { results := [.lit (.bool true)], args := [d1, d2] }
  | _ => none }
def costSharedRow : OpenClaim := { program := "ytajlmldpbhendaa", sum := "2fab66f14897f55f77de5fe43ff53239c43de9ca11a307e660db4b0a94bca947", func := "saturate/saturatelaw10.CostShared", spec := "costShared", unfollowed := true, recurses := true, loops := true, apart := false }
def CostSharedSaid : Prop := costSharedRow.holds Try.pinned (OpenSpec.ofChange costSharedSpec)

/-- ITS FALSE NEIGHBOUR: 'it returns false'. Refute it at one input. -/
def costSharedWrong : ChangeSpec := { name := "costShared", fn := fun _ => fun
  | [d1, d2] => { results := [.lit (.bool false)], args := [d1, d2] }
  | _ => none }
def CostSharedWrongFalsely : Prop := costSharedRow.holds Try.pinned (OpenSpec.ofChange costSharedWrong)

/-- 'saturatelaw10.CostOrder': WHATEVER THE INPUT: true; the input reads as it did. -/
def costOrderSpec : ChangeSpec := { name := "costOrder", fn := fun _ => fun
  | [d1, d2, d3] => { results := [.lit (.bool true)], args := [d1, d2, d3] }
  | _ => none }
def costOrderRow : OpenClaim := { program := "ytajlmldpbhendaa", sum := "2fab66f14897f55f77de5fe43ff53239c43de9ca11a307e660db4b0a94bca947", func := "saturate/saturatelaw10.CostOrder", spec := "costOrder", unfollowed := true, recurses := true, loops := true, apart := false }
def CostOrderSaid : Prop := costOrderRow.holds Try.pinned (OpenSpec.ofChange costOrderSpec)

/-- ITS FALSE NEIGHBOUR: 'it returns false'. Refute it at one input. -/
def costOrderWrong : ChangeSpec := { name := "costOrder", fn := fun _ => fun
  | [d1, d2, d3] => { results := [.lit (.bool false)], args := [d1, d2, d3] }
  | _ => none }
def CostOrderWrongFalsely : Prop := costOrderRow.holds Try.pinned (OpenSpec.ofChange costOrderWrong)

/-- 'saturatelaw10.CostGrows': WHATEVER THE INPUT: true; the input reads as it did. -/
def costGrowsSpec : ChangeSpec := { name := "costGrows", fn := fun _ => fun
  | [d1, d2] => { results := [.lit (.bool true)], args := [d1, d2] }
  | _ => none }
def costGrowsRow : OpenClaim := { program := "ytajlmldpbhendaa", sum := "2fab66f14897f55f77de5fe43ff53239c43de9ca11a307e660db4b0a94bca947", func := "saturate/saturatelaw10.CostGrows", spec := "costGrows", unfollowed := true, recurses := true, loops := true, apart := false }
def CostGrowsSaid : Prop := costGrowsRow.holds Try.pinned (OpenSpec.ofChange costGrowsSpec)

/-- ITS FALSE NEIGHBOUR: 'it returns false'. Refute it at one input. -/
def costGrowsWrong : ChangeSpec := { name := "costGrows", fn := fun _ => fun
  | [d1, d2] => { results := [.lit (.bool false)], args := [d1, d2] }
  | _ => none }
def CostGrowsWrongFalsely : Prop := costGrowsRow.holds Try.pinned (OpenSpec.ofChange costGrowsWrong)

/-- 'saturatelaw05.SexprParses': WHATEVER THE INPUT: true; the input reads as it did. -/
def sexprParsesSpec : ChangeSpec := { name := "sexprParses", fn := fun _ => fun
  | [d] => { results := [.lit (.bool true)], args := [d] }
  | _ => none }
def sexprParsesRow : OpenClaim := { program := "ytajlmldpbhendaa", sum := "2fab66f14897f55f77de5fe43ff53239c43de9ca11a307e660db4b0a94bca947", func := "saturate/saturatelaw05.SexprParses", spec := "sexprParses", inPlace := ["internal/abi.NoEscape"], unfollowed := true, recurses := true, apart := false }
def SexprParsesSaid : Prop := sexprParsesRow.holds Try.pinned (OpenSpec.ofChange sexprParsesSpec)

/-- ITS FALSE NEIGHBOUR: 'it returns false'. Refute it at one input. -/
def sexprParsesWrong : ChangeSpec := { name := "sexprParses", fn := fun _ => fun
  | [d] => { results := [.lit (.bool false)], args := [d] }
  | _ => none }
def SexprParsesWrongFalsely : Prop := sexprParsesRow.holds Try.pinned (OpenSpec.ofChange sexprParsesWrong)

/-- 'saturatelaw05.SexprGaps': WHATEVER THE INPUT: true; the input reads as it did. -/
def sexprGapsSpec : ChangeSpec := { name := "sexprGaps", fn := fun _ => fun
  | [d1, d2] => { results := [.lit (.bool true)], args := [d1, d2] }
  | _ => none }
def sexprGapsRow : OpenClaim := { program := "ytajlmldpbhendaa", sum := "2fab66f14897f55f77de5fe43ff53239c43de9ca11a307e660db4b0a94bca947", func := "saturate/saturatelaw05.SexprGaps", spec := "sexprGaps", inPlace := ["internal/abi.NoEscape"], unfollowed := true, recurses := true, loops := true, apart := false }
def SexprGapsSaid : Prop := sexprGapsRow.holds Try.pinned (OpenSpec.ofChange sexprGapsSpec)

/-- ITS FALSE NEIGHBOUR: 'it returns false'. Refute it at one input. -/
def sexprGapsWrong : ChangeSpec := { name := "sexprGaps", fn := fun _ => fun
  | [d1, d2] => { results := [.lit (.bool false)], args := [d1, d2] }
  | _ => none }
def SexprGapsWrongFalsely : Prop := sexprGapsRow.holds Try.pinned (OpenSpec.ofChange sexprGapsWrong)

/-- 'saturatelaw05.SexprLong': WHATEVER THE INPUT: true; the input reads as it did. -/
def sexprLongSpec : ChangeSpec := { name := "sexprLong", fn := fun _ => fun
  | [d] => { results := [.lit (.bool true)], args := [d] }
  | _ => none }
def sexprLongRow : OpenClaim := { program := "ytajlmldpbhendaa", sum := "2fab66f14897f55f77de5fe43ff53239c43de9ca11a307e660db4b0a94bca947", func := "saturate/saturatelaw05.SexprLong", spec := "sexprLong", inPlace := ["internal/abi.NoEscape"], unfollowed := true, recurses := true, apart := false }
def SexprLongSaid : Prop := sexprLongRow.holds Try.pinned (OpenSpec.ofChange sexprLongSpec)

/-- ITS FALSE NEIGHBOUR: 'it returns false'. Refute it at one input. -/
def sexprLongWrong : ChangeSpec := { name := "sexprLong", fn := fun _ => fun
  | [d] => { results := [.lit (.bool false)], args := [d] }
  | _ => none }
def SexprLongWrongFalsely : Prop := sexprLongRow.holds Try.pinned (OpenSpec.ofChange sexprLongWrong)

/-- 'saturatelaw05.SexprPrints': WHATEVER THE INPUT: true; the input reads as it did. -/
def sexprPrintsSpec : ChangeSpec := { name := "sexprPrints", fn := fun _ => fun
  | [d] => { results := [.lit (.bool true)], args := [d] }
  | _ => none }
def sexprPrintsRow : OpenClaim := { program := "ytajlmldpbhendaa", sum := "2fab66f14897f55f77de5fe43ff53239c43de9ca11a307e660db4b0a94bca947", func := "saturate/saturatelaw05.SexprPrints", spec := "sexprPrints", inPlace := ["internal/abi.NoEscape"], unfollowed := true, recurses := true, loops := true, apart := false }
def SexprPrintsSaid : Prop := sexprPrintsRow.holds Try.pinned (OpenSpec.ofChange sexprPrintsSpec)

/-- ITS FALSE NEIGHBOUR: 'it returns false'. Refute it at one input. -/
def sexprPrintsWrong : ChangeSpec := { name := "sexprPrints", fn := fun _ => fun
  | [d] => { results := [.lit (.bool false)], args := [d] }
  | _ => none }
def SexprPrintsWrongFalsely : Prop := sexprPrintsRow.holds Try.pinned (OpenSpec.ofChange sexprPrintsWrong)

/-- 'saturatelaw05.SexprBack': WHATEVER THE INPUT: true; the input reads as it did. -/
def sexprBackSpec : ChangeSpec := { name := "sexprBack", fn := fun _ => fun
  | [d] => { results := [.lit (.bool true)], args := [d] }
  | _ => none }
def sexprBackRow : OpenClaim := { program := "ytajlmldpbhendaa", sum := "2fab66f14897f55f77de5fe43ff53239c43de9ca11a307e660db4b0a94bca947", func := "saturate/saturatelaw05.SexprBack", spec := "sexprBack", inPlace := ["internal/abi.NoEscape"], unfollowed := true, recurses := true, loops := true, apart := false }
def SexprBackSaid : Prop := sexprBackRow.holds Try.pinned (OpenSpec.ofChange sexprBackSpec)

/-- ITS FALSE NEIGHBOUR: 'it returns false'. Refute it at one input. -/
def sexprBackWrong : ChangeSpec := { name := "sexprBack", fn := fun _ => fun
  | [d] => { results := [.lit (.bool false)], args := [d] }
  | _ => none }
def SexprBackWrongFalsely : Prop := sexprBackRow.holds Try.pinned (OpenSpec.ofChange sexprBackWrong)

/-- 'saturatelaw05.SexprTwice': WHATEVER THE INPUT: true; the input reads as it did. -/
def sexprTwiceSpec : ChangeSpec := { name := "sexprTwice", fn := fun _ => fun
  | [d] => { results := [.lit (.bool true)], args := [d] }
  | _ => none }
def sexprTwiceRow : OpenClaim := { program := "ytajlmldpbhendaa", sum := "2fab66f14897f55f77de5fe43ff53239c43de9ca11a307e660db4b0a94bca947", func := "saturate/saturatelaw05.SexprTwice", spec := "sexprTwice", inPlace := ["internal/abi.NoEscape"], unfollowed := true, recurses := true, apart := false }
def SexprTwiceSaid : Prop := sexprTwiceRow.holds Try.pinned (OpenSpec.ofChange sexprTwiceSpec)

/-- ITS FALSE NEIGHBOUR: 'it returns false'. Refute it at one input. -/
def sexprTwiceWrong : ChangeSpec := { name := "sexprTwice", fn := fun _ => fun
  | [d] => { results := [.lit (.bool false)], args := [d] }
  | _ => none }
def SexprTwiceWrongFalsely : Prop := sexprTwiceRow.holds Try.pinned (OpenSpec.ofChange sexprTwiceWrong)

/- THE SECOND FORM. 'bulk': how many values and letters a reading holds, each counted each time it is reached (what is shared counts as often as it is met; a slice's spare places count too). A statement '..UptoSaid' is the law's where the arguments, and the package variables that the reading takes, are together of bulk at most 1048576: NARROWER than '..Said'. Prove '..Said' where nothing that the law and all that it calls make is longer than what came in: it says more and counts as full. Else prove '..UptoSaid'. A law counts once. -/
mutual
def uptoBulk {H : Type} : DataW H → Nat
  | .lit (.string bytes) => bytes.length + 1
  | .lit _ => 1
  | .nil => 1
  | .ptr d => uptoBulk d + 1
  | .slice elems spare => uptoBulkAll elems + uptoBulkAll spare + 1
  | .agg parts => uptoBulkAll parts + 1
  | .iface _ d => uptoBulk d + 1
  | .map entries => uptoBulkEntries entries + 1
  | .held _ => 1
def uptoBulkAll {H : Type} : List (DataW H) → Nat
  | [] => 0
  | d :: r => uptoBulk d + uptoBulkAll r
def uptoBulkEntries {H : Type} : List (Lit × DataW H) → Nat
  | [] => 0
  | x :: r => uptoBulkEntry x + uptoBulkEntries r
def uptoBulkEntry {H : Type} : Lit × DataW H → Nat
  | (.string bytes, d) => bytes.length + uptoBulk d + 1
  | (_, d) => uptoBulk d + 1
 end
def uptoSmall : (H : Type) → List (DataW H) → Bool := fun _ ds => decide (uptoBulkAll ds ≤ 1048576)
def OpenSpec.upto (s : _root_.Go.ChangeSpec) : _root_.Go.OpenSpec := { _root_.Go.OpenSpec.ofChange s with cond := some uptoSmall }

/-- 'saturatelaw10.CostNodes', WHERE WHAT IT READS IS OF BULK AT MOST 1048576: true; the input reads as it did. -/
def costNodesUptoRow : OpenClaim := { program := "ytajlmldpbhendaa", sum := "2fab66f14897f55f77de5fe43ff53239c43de9ca11a307e660db4b0a94bca947", func := "saturate/saturatelaw10.CostNodes", spec := "costNodes", unfollowed := true, recurses := true, apart := false, narrowed := true }
def CostNodesUptoSaid : Prop := costNodesUptoRow.holds Try.pinned (OpenSpec.upto costNodesSpec)

/-- 'saturatelaw10.CostTrees', WHERE WHAT IT READS IS OF BULK AT MOST 1048576: true; the input reads as it did. -/
def costTreesUptoRow : OpenClaim := { program := "ytajlmldpbhendaa", sum := "2fab66f14897f55f77de5fe43ff53239c43de9ca11a307e660db4b0a94bca947", func := "saturate/saturatelaw10.CostTrees", spec := "costTrees", unfollowed := true, recurses := true, loops := true, apart := false, narrowed := true }
def CostTreesUptoSaid : Prop := costTreesUptoRow.holds Try.pinned (OpenSpec.upto costTreesSpec)

/-- 'saturatelaw10.CostDags', WHERE WHAT IT READS IS OF BULK AT MOST 1048576: true; the input reads as it did. -/
def costDagsUptoRow : OpenClaim := { program := "ytajlmldpbhendaa", sum := "2fab66f14897f55f77de5fe43ff53239c43de9ca11a307e660db4b0a94bca947", func := "saturate/saturatelaw10.CostDags", spec := "costDags", unfollowed := true, recurses := true, loops := true, apart := false, narrowed := true }
def CostDagsUptoSaid : Prop := costDagsUptoRow.holds Try.pinned (OpenSpec.upto costDagsSpec)

/-- 'saturatelaw10.CostShared', WHERE WHAT IT READS IS OF BULK AT MOST 1048576: true; the input reads as it did. -/
def costSharedUptoRow : OpenClaim := { program := "ytajlmldpbhendaa", sum := "2fab66f14897f55f77de5fe43ff53239c43de9ca11a307e660db4b0a94bca947", func := "saturate/saturatelaw10.CostShared", spec := "costShared", unfollowed := true, recurses := true, loops := true, apart := false, narrowed := true }
def CostSharedUptoSaid : Prop := costSharedUptoRow.holds Try.pinned (OpenSpec.upto costSharedSpec)

/-- 'saturatelaw10.CostOrder', WHERE WHAT IT READS IS OF BULK AT MOST 1048576: true; the input reads as it did. -/
def costOrderUptoRow : OpenClaim := { program := "ytajlmldpbhendaa", sum := "2fab66f14897f55f77de5fe43ff53239c43de9ca11a307e660db4b0a94bca947", func := "saturate/saturatelaw10.CostOrder", spec := "costOrder", unfollowed := true, recurses := true, loops := true, apart := false, narrowed := true }
def CostOrderUptoSaid : Prop := costOrderUptoRow.holds Try.pinned (OpenSpec.upto costOrderSpec)

/-- 'saturatelaw10.CostGrows', WHERE WHAT IT READS IS OF BULK AT MOST 1048576: true; the input reads as it did. -/
def costGrowsUptoRow : OpenClaim := { program := "ytajlmldpbhendaa", sum := "2fab66f14897f55f77de5fe43ff53239c43de9ca11a307e660db4b0a94bca947", func := "saturate/saturatelaw10.CostGrows", spec := "costGrows", unfollowed := true, recurses := true, loops := true, apart := false, narrowed := true }
def CostGrowsUptoSaid : Prop := costGrowsUptoRow.holds Try.pinned (OpenSpec.upto costGrowsSpec)

/-- 'saturatelaw05.SexprParses', WHERE WHAT IT READS IS OF BULK AT MOST 1048576: true; the input reads as it did. -/
def sexprParsesUptoRow : OpenClaim := { program := "ytajlmldpbhendaa", sum := "2fab66f14897f55f77de5fe43ff53239c43de9ca11a307e660db4b0a94bca947", func := "saturate/saturatelaw05.SexprParses", spec := "sexprParses", inPlace := ["internal/abi.NoEscape"], unfollowed := true, recurses := true, apart := false, narrowed := true }
def SexprParsesUptoSaid : Prop := sexprParsesUptoRow.holds Try.pinned (OpenSpec.upto sexprParsesSpec)

/-- 'saturatelaw05.SexprGaps', WHERE WHAT IT READS IS OF BULK AT MOST 1048576: true; the input reads as it did. -/
def sexprGapsUptoRow : OpenClaim := { program := "ytajlmldpbhendaa", sum := "2fab66f14897f55f77de5fe43ff53239c43de9ca11a307e660db4b0a94bca947", func := "saturate/saturatelaw05.SexprGaps", spec := "sexprGaps", inPlace := ["internal/abi.NoEscape"], unfollowed := true, recurses := true, loops := true, apart := false, narrowed := true }
def SexprGapsUptoSaid : Prop := sexprGapsUptoRow.holds Try.pinned (OpenSpec.upto sexprGapsSpec)

/-- 'saturatelaw05.SexprLong', WHERE WHAT IT READS IS OF BULK AT MOST 1048576: true; the input reads as it did. -/
def sexprLongUptoRow : OpenClaim := { program := "ytajlmldpbhendaa", sum := "2fab66f14897f55f77de5fe43ff53239c43de9ca11a307e660db4b0a94bca947", func := "saturate/saturatelaw05.SexprLong", spec := "sexprLong", inPlace := ["internal/abi.NoEscape"], unfollowed := true, recurses := true, apart := false, narrowed := true }
def SexprLongUptoSaid : Prop := sexprLongUptoRow.holds Try.pinned (OpenSpec.upto sexprLongSpec)

/-- 'saturatelaw05.SexprPrints', WHERE WHAT IT READS IS OF BULK AT MOST 1048576: true; the input reads as it did. -/
def sexprPrintsUptoRow : OpenClaim := { program := "ytajlmldpbhendaa", sum := "2fab66f14897f55f77de5fe43ff53239c43de9ca11a307e660db4b0a94bca947", func := "saturate/saturatelaw05.SexprPrints", spec := "sexprPrints", inPlace := ["internal/abi.NoEscape"], unfollowed := true, recurses := true, loops := true, apart := false, narrowed := true }
def SexprPrintsUptoSaid : Prop := sexprPrintsUptoRow.holds Try.pinned (OpenSpec.upto sexprPrintsSpec)

/-- 'saturatelaw05.SexprBack', WHERE WHAT IT READS IS OF BULK AT MOST 1048576: true; the input reads as it did. -/
def sexprBackUptoRow : OpenClaim := { program := "ytajlmldpbhendaa", sum := "2fab66f14897f55f77de5fe43ff53239c43de9ca11a307e660db4b0a94bca947", func := "saturate/saturatelaw05.SexprBack", spec := "sexprBack", inPlace := ["internal/abi.NoEscape"], unfollowed := true, recurses := true, loops := true, apart := false, narrowed := true }
def SexprBackUptoSaid : Prop := sexprBackUptoRow.holds Try.pinned (OpenSpec.upto sexprBackSpec)

/-- 'saturatelaw05.SexprTwice', WHERE WHAT IT READS IS OF BULK AT MOST 1048576: true; the input reads as it did. -/
def sexprTwiceUptoRow : OpenClaim := { program := "ytajlmldpbhendaa", sum := "2fab66f14897f55f77de5fe43ff53239c43de9ca11a307e660db4b0a94bca947", func := "saturate/saturatelaw05.SexprTwice", spec := "sexprTwice", inPlace := ["internal/abi.NoEscape"], unfollowed := true, recurses := true, apart := false, narrowed := true }
def SexprTwiceUptoSaid : Prop := sexprTwiceUptoRow.holds Try.pinned (OpenSpec.upto sexprTwiceSpec)

end Rows
end Go.Proofs.Ytajlmldpbhendaa
