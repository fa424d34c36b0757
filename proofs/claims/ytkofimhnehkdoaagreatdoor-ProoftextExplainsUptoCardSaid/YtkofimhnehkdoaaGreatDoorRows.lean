/-
  NARROWER THAN 'FOR EVERY INPUT', by the rows' own cells (each row's printed sentence says how): TermtextReads: loops, laid · TermtextParses: laid · TermtextWrites: loops, laid · TermtextBack: loops, laid · TermtextDiffers: loops, laid · ProoftextParses: laid · ProoftextPrints: loops, laid · ProoftextBack: loops, laid · ProoftextTwice: laid · ProoftextConcls: loops, laid · ProoftextExplains: loops, laid.
  DERIVED. THE GIVEN ROWS OF THIS SEAT. 11 by the template 'for every input the law returns true; each argument reads behind the call as it read before'; 0 by the template 'total and deterministic' (their statements: YtkofimhnehkdoaaGreatDoorTotals.lean).
  GIVEN WITH THE SEED: the statements are not yours to turn. If you find one false, say at which input.
  Laid BY PROGRAM, IN A SANDBOX (cutbox-rows.mjs): the forced cells as the released guide's own fill.sh prints them over the translation 8ebaeceefa417723… (all of the seat's roots in one cut). By AI agents, Wed Nov 11 2026. No macro, syntax, notation, axiom, sorry.
-/
import Derived.Test.YtkofimhnehkdoaaGreatDoorChecked
import GoSem.Claim
import GoSem.ClaimJoined
import GoSem.ClaimMapViews
import Derived.JoinedTies
import Derived.KernelRfl
namespace Go.Proofs.YtkofimhnehkdoaaGreatDoor
/- THE CELL 'sum', in the pinned program and in every row, IS THE sha256 OF THE DUMP (.gsa) THAT YtkofimhnehkdoaaGreatDoorProg.lean LOADS. Nothing in Lean hashes anything: it is a label: what it is worth is what the hold of that sum in a sandbox is worth. -/
noncomputable def Tryz.pinned : Pinned := { name := "ytkofimhnehkdoaagreatdoor", sum := "8ebaeceefa417723a336538c9fb888ec4ccf672c247699dbf3e15f192d07e5dc", checked := Tryz.checked }
namespace Rows
def none {H : Type} : Left H := { results := [], args := [] }

/- WHAT THE LISTED PACKAGE-LEVEL VARIABLES READ AS WHEN THE CALL BEGINS. Each datum BY PROGRAM (the guide's laid-datum.mjs) off the statement by which the dump's own 'gosem.cut.vars' lays the variable. In a bare row this is a premise. The card (YtkofimhnehkdoaaGreatDoorCards.lean) ties it to the program's text. -/
def laid_math_bits_deBruijn32tab {H : Type} : DataW H := .agg [.lit (.int .u8 0), .lit (.int .u8 1), .lit (.int .u8 28), .lit (.int .u8 2), .lit (.int .u8 29), .lit (.int .u8 14), .lit (.int .u8 24), .lit (.int .u8 3), .lit (.int .u8 30), .lit (.int .u8 22), .lit (.int .u8 20), .lit (.int .u8 15), .lit (.int .u8 25), .lit (.int .u8 17), .lit (.int .u8 4), .lit (.int .u8 8), .lit (.int .u8 31), .lit (.int .u8 27), .lit (.int .u8 13), .lit (.int .u8 23), .lit (.int .u8 21), .lit (.int .u8 19), .lit (.int .u8 16), .lit (.int .u8 7), .lit (.int .u8 26), .lit (.int .u8 12), .lit (.int .u8 18), .lit (.int .u8 6), .lit (.int .u8 11), .lit (.int .u8 5), .lit (.int .u8 10), .lit (.int .u8 9)]
def laid_math_bits_deBruijn64tab {H : Type} : DataW H := .agg [.lit (.int .u8 0), .lit (.int .u8 1), .lit (.int .u8 56), .lit (.int .u8 2), .lit (.int .u8 57), .lit (.int .u8 49), .lit (.int .u8 28), .lit (.int .u8 3), .lit (.int .u8 61), .lit (.int .u8 58), .lit (.int .u8 42), .lit (.int .u8 50), .lit (.int .u8 38), .lit (.int .u8 29), .lit (.int .u8 17), .lit (.int .u8 4), .lit (.int .u8 62), .lit (.int .u8 47), .lit (.int .u8 59), .lit (.int .u8 36), .lit (.int .u8 45), .lit (.int .u8 43), .lit (.int .u8 51), .lit (.int .u8 22), .lit (.int .u8 53), .lit (.int .u8 39), .lit (.int .u8 33), .lit (.int .u8 30), .lit (.int .u8 24), .lit (.int .u8 18), .lit (.int .u8 12), .lit (.int .u8 5), .lit (.int .u8 63), .lit (.int .u8 55), .lit (.int .u8 48), .lit (.int .u8 27), .lit (.int .u8 60), .lit (.int .u8 41), .lit (.int .u8 37), .lit (.int .u8 16), .lit (.int .u8 46), .lit (.int .u8 35), .lit (.int .u8 44), .lit (.int .u8 21), .lit (.int .u8 52), .lit (.int .u8 32), .lit (.int .u8 23), .lit (.int .u8 11), .lit (.int .u8 54), .lit (.int .u8 26), .lit (.int .u8 40), .lit (.int .u8 15), .lit (.int .u8 34), .lit (.int .u8 20), .lit (.int .u8 31), .lit (.int .u8 10), .lit (.int .u8 25), .lit (.int .u8 14), .lit (.int .u8 19), .lit (.int .u8 9), .lit (.int .u8 13), .lit (.int .u8 8), .lit (.int .u8 7), .lit (.int .u8 6)]
def laid_internal_strconv_uint64pow10 {H : Type} : DataW H := .agg [.lit (.int .u64 1), .lit (.int .u64 10), .lit (.int .u64 100), .lit (.int .u64 1000), .lit (.int .u64 10000), .lit (.int .u64 100000), .lit (.int .u64 1000000), .lit (.int .u64 10000000), .lit (.int .u64 100000000), .lit (.int .u64 1000000000), .lit (.int .u64 10000000000), .lit (.int .u64 100000000000), .lit (.int .u64 1000000000000), .lit (.int .u64 10000000000000), .lit (.int .u64 100000000000000), .lit (.int .u64 1000000000000000), .lit (.int .u64 10000000000000000), .lit (.int .u64 100000000000000000), .lit (.int .u64 1000000000000000000), .lit (.int .u64 10000000000000000000)]
def laid_saturate_opinfo_names {H : Type} : DataW H := .agg [.lit (.string []), .lit (.string [118, 97, 114]), .lit (.string [99, 111, 110, 115, 116]), .lit (.string [110, 111, 116]), .lit (.string [110, 101, 103]), .lit (.string [97, 110, 100]), .lit (.string [111, 114]), .lit (.string [120, 111, 114]), .lit (.string [97, 100, 100]), .lit (.string [115, 117, 98]), .lit (.string [109, 117, 108]), .lit (.string [117, 100, 105, 118]), .lit (.string [117, 114, 101, 109]), .lit (.string [115, 104, 108]), .lit (.string [108, 115, 104, 114]), .lit (.string [97, 115, 104, 114]), .lit (.string [101, 113]), .lit (.string [117, 108, 116]), .lit (.string [115, 108, 116]), .lit (.string [105, 116, 101]), .lit (.string [99, 111, 110, 99, 97, 116]), .lit (.string [101, 120, 116, 114, 97, 99, 116]), .lit (.string [122, 101, 120, 116]), .lit (.string [115, 101, 120, 116]), .lit (.string [104, 111, 108, 101]), .lit (.string [110, 117, 109]), .lit (.string [101, 118, 97, 108])]
def laid_strconv_ErrRange {H : Type} : DataW H := .iface "*errors.errorString" (.ptr (.agg [.lit (.string [118, 97, 108, 117, 101, 32, 111, 117, 116, 32, 111, 102, 32, 114, 97, 110, 103, 101])]))
def laid_strconv_ErrSyntax {H : Type} : DataW H := .iface "*errors.errorString" (.ptr (.agg [.lit (.string [105, 110, 118, 97, 108, 105, 100, 32, 115, 121, 110, 116, 97, 120])]))
def laid_saturate_proof_kinds {H : Type} : DataW H := .agg [.agg [.lit (.string []), .lit (.int .i64 0), .lit (.int .i64 0)], .agg [.lit (.string [114, 101, 102, 108]), .lit (.int .i64 0), .lit (.int .i64 0)], .agg [.lit (.string [115, 121, 109]), .lit (.int .i64 1), .lit (.int .i64 1)], .agg [.lit (.string [116, 114, 97, 110, 115]), .lit (.int .i64 2), .lit (.int .i64 2)], .agg [.lit (.string [99, 111, 110, 103]), .lit (.int .i64 0), .lit (.int .i64 3)], .agg [.lit (.string [114, 117, 108, 101]), .lit (.int .i64 0), .lit (.int .i64 12)], .agg [.lit (.string [102, 111, 108, 100]), .lit (.int .i64 0), .lit (.int .i64 0)], .agg [.lit (.string [116, 111, 112]), .lit (.int .i64 0), .lit (.int .i64 0)], .agg [.lit (.string [110, 111, 100, 101]), .lit (.int .i64 0), .lit (.int .i64 3)], .agg [.lit (.string [109, 101, 101, 116]), .lit (.int .i64 2), .lit (.int .i64 2)], .agg [.lit (.string [109, 111, 118, 101]), .lit (.int .i64 2), .lit (.int .i64 2)], .agg [.lit (.string [115, 105, 110, 103, 108, 101]), .lit (.int .i64 1), .lit (.int .i64 1)], .agg [.lit (.string [103, 105, 118, 101, 110]), .lit (.int .i64 0), .lit (.int .i64 0)]]

/-- 'saturatelaw07.TermtextReads': WHATEVER THE INPUT: true; the input reads as it did. -/
def termtextReadsSpec : ChangeSpec := { name := "termtextReads", fn := fun _ => fun
  | [d] => { results := [.lit (.bool true)], args := [d] }
  | _ => none }
def termtextReadsRow : OpenClaim := { program := "ytkofimhnehkdoaagreatdoor", sum := "8ebaeceefa417723a336538c9fb888ec4ccf672c247699dbf3e15f192d07e5dc", func := "saturate/saturatelaw07.TermtextReads", spec := "termtextReads", inPlace := ["internal/bytealg.IndexByteString", "internal/bytealg.IndexString", "internal/abi.NoEscape"], unfollowed := true, recurses := true, named := ["internal/bytealg.MaxLen", "strconv.ErrSyntax", "strconv.ErrRange", "internal/strconv.uint64pow10", "math/bits.deBruijn32tab", "math/bits.deBruijn64tab", "saturate/opinfo.names"], loops := true, apart := false, laid := [("math/bits.deBruijn32tab", laid_math_bits_deBruijn32tab), ("math/bits.deBruijn64tab", laid_math_bits_deBruijn64tab), ("internal/strconv.uint64pow10", laid_internal_strconv_uint64pow10), ("saturate/opinfo.names", laid_saturate_opinfo_names), ("strconv.ErrRange", laid_strconv_ErrRange), ("strconv.ErrSyntax", laid_strconv_ErrSyntax)] }
def TermtextReadsSaid : Prop := termtextReadsRow.holds Tryz.pinned (OpenSpec.ofChange termtextReadsSpec)

/-- ITS FALSE NEIGHBOUR: 'it returns false'. Refute it at one input. -/
def termtextReadsWrong : ChangeSpec := { name := "termtextReads", fn := fun _ => fun
  | [d] => { results := [.lit (.bool false)], args := [d] }
  | _ => none }
def TermtextReadsWrongFalsely : Prop := termtextReadsRow.holds Tryz.pinned (OpenSpec.ofChange termtextReadsWrong)

/-- 'saturatelaw07.TermtextParses': WHATEVER THE INPUT: true; the input reads as it did. -/
def termtextParsesSpec : ChangeSpec := { name := "termtextParses", fn := fun _ => fun
  | [d] => { results := [.lit (.bool true)], args := [d] }
  | _ => none }
def termtextParsesRow : OpenClaim := { program := "ytkofimhnehkdoaagreatdoor", sum := "8ebaeceefa417723a336538c9fb888ec4ccf672c247699dbf3e15f192d07e5dc", func := "saturate/saturatelaw07.TermtextParses", spec := "termtextParses", inPlace := ["internal/bytealg.IndexByteString", "internal/bytealg.IndexString", "internal/abi.NoEscape"], unfollowed := true, recurses := true, named := ["internal/bytealg.MaxLen", "strconv.ErrSyntax", "strconv.ErrRange", "internal/strconv.uint64pow10", "math/bits.deBruijn32tab", "math/bits.deBruijn64tab", "saturate/opinfo.names"], apart := false, laid := [("math/bits.deBruijn32tab", laid_math_bits_deBruijn32tab), ("math/bits.deBruijn64tab", laid_math_bits_deBruijn64tab), ("internal/strconv.uint64pow10", laid_internal_strconv_uint64pow10), ("saturate/opinfo.names", laid_saturate_opinfo_names), ("strconv.ErrRange", laid_strconv_ErrRange), ("strconv.ErrSyntax", laid_strconv_ErrSyntax)] }
def TermtextParsesSaid : Prop := termtextParsesRow.holds Tryz.pinned (OpenSpec.ofChange termtextParsesSpec)

/-- ITS FALSE NEIGHBOUR: 'it returns false'. Refute it at one input. -/
def termtextParsesWrong : ChangeSpec := { name := "termtextParses", fn := fun _ => fun
  | [d] => { results := [.lit (.bool false)], args := [d] }
  | _ => none }
def TermtextParsesWrongFalsely : Prop := termtextParsesRow.holds Tryz.pinned (OpenSpec.ofChange termtextParsesWrong)

/-- 'saturatelaw07.TermtextWrites': WHATEVER THE INPUT: true; the input reads as it did. -/
def termtextWritesSpec : ChangeSpec := { name := "termtextWrites", fn := fun _ => fun
  | [d] => { results := [.lit (.bool true)], args := [d] }
  | _ => none }
def termtextWritesRow : OpenClaim := { program := "ytkofimhnehkdoaagreatdoor", sum := "8ebaeceefa417723a336538c9fb888ec4ccf672c247699dbf3e15f192d07e5dc", func := "saturate/saturatelaw07.TermtextWrites", spec := "termtextWrites", inPlace := ["internal/bytealg.IndexByteString", "internal/bytealg.IndexString", "internal/abi.NoEscape"], unfollowed := true, recurses := true, named := ["internal/bytealg.MaxLen", "strconv.ErrSyntax", "strconv.ErrRange", "internal/strconv.uint64pow10", "math/bits.deBruijn32tab", "math/bits.deBruijn64tab", "saturate/opinfo.names"], loops := true, apart := false, laid := [("math/bits.deBruijn32tab", laid_math_bits_deBruijn32tab), ("math/bits.deBruijn64tab", laid_math_bits_deBruijn64tab), ("internal/strconv.uint64pow10", laid_internal_strconv_uint64pow10), ("saturate/opinfo.names", laid_saturate_opinfo_names), ("strconv.ErrRange", laid_strconv_ErrRange), ("strconv.ErrSyntax", laid_strconv_ErrSyntax)] }
def TermtextWritesSaid : Prop := termtextWritesRow.holds Tryz.pinned (OpenSpec.ofChange termtextWritesSpec)

/-- ITS FALSE NEIGHBOUR: 'it returns false'. Refute it at one input. -/
def termtextWritesWrong : ChangeSpec := { name := "termtextWrites", fn := fun _ => fun
  | [d] => { results := [.lit (.bool false)], args := [d] }
  | _ => none }
def TermtextWritesWrongFalsely : Prop := termtextWritesRow.holds Tryz.pinned (OpenSpec.ofChange termtextWritesWrong)

/-- 'saturatelaw07.TermtextBack': WHATEVER THE INPUT: true; the input reads as it did. -/
def termtextBackSpec : ChangeSpec := { name := "termtextBack", fn := fun _ => fun
  | [d] => { results := [.lit (.bool true)], args := [d] }
  | _ => none }
def termtextBackRow : OpenClaim := { program := "ytkofimhnehkdoaagreatdoor", sum := "8ebaeceefa417723a336538c9fb888ec4ccf672c247699dbf3e15f192d07e5dc", func := "saturate/saturatelaw07.TermtextBack", spec := "termtextBack", inPlace := ["internal/bytealg.IndexByteString", "internal/bytealg.IndexString", "internal/abi.NoEscape"], unfollowed := true, recurses := true, named := ["internal/bytealg.MaxLen", "strconv.ErrSyntax", "strconv.ErrRange", "internal/strconv.uint64pow10", "math/bits.deBruijn32tab", "math/bits.deBruijn64tab", "saturate/opinfo.names"], loops := true, apart := false, laid := [("math/bits.deBruijn32tab", laid_math_bits_deBruijn32tab), ("math/bits.deBruijn64tab", laid_math_bits_deBruijn64tab), ("internal/strconv.uint64pow10", laid_internal_strconv_uint64pow10), ("saturate/opinfo.names", laid_saturate_opinfo_names), ("strconv.ErrRange", laid_strconv_ErrRange), ("strconv.ErrSyntax", laid_strconv_ErrSyntax)] }
def TermtextBackSaid : Prop := termtextBackRow.holds Tryz.pinned (OpenSpec.ofChange termtextBackSpec)

/-- ITS FALSE NEIGHBOUR: 'it returns false'. Refute it at one input. -/
def termtextBackWrong : ChangeSpec := { name := "termtextBack", fn := fun _ => fun
  | [d] => { results := [.lit (.bool false)], args := [d] }
  | _ => none }
def TermtextBackWrongFalsely : Prop := termtextBackRow.holds Tryz.pinned (OpenSpec.ofChange termtextBackWrong)

/-- 'saturatelaw07.TermtextDiffers': WHATEVER THE INPUT: true; the input reads as it did. -/
def termtextDiffersSpec : ChangeSpec := { name := "termtextDiffers", fn := fun _ => fun
  | [d1, d2] => { results := [.lit (.bool true)], args := [d1, d2] }
  | _ => none }
def termtextDiffersRow : OpenClaim := { program := "ytkofimhnehkdoaagreatdoor", sum := "8ebaeceefa417723a336538c9fb888ec4ccf672c247699dbf3e15f192d07e5dc", func := "saturate/saturatelaw07.TermtextDiffers", spec := "termtextDiffers", inPlace := ["internal/bytealg.IndexByteString", "internal/bytealg.IndexString", "internal/abi.NoEscape"], unfollowed := true, recurses := true, named := ["internal/bytealg.MaxLen", "strconv.ErrSyntax", "strconv.ErrRange", "internal/strconv.uint64pow10", "math/bits.deBruijn32tab", "math/bits.deBruijn64tab", "saturate/opinfo.names"], loops := true, apart := false, laid := [("math/bits.deBruijn32tab", laid_math_bits_deBruijn32tab), ("math/bits.deBruijn64tab", laid_math_bits_deBruijn64tab), ("internal/strconv.uint64pow10", laid_internal_strconv_uint64pow10), ("saturate/opinfo.names", laid_saturate_opinfo_names), ("strconv.ErrRange", laid_strconv_ErrRange), ("strconv.ErrSyntax", laid_strconv_ErrSyntax)] }
def TermtextDiffersSaid : Prop := termtextDiffersRow.holds Tryz.pinned (OpenSpec.ofChange termtextDiffersSpec)

/-- ITS FALSE NEIGHBOUR: 'it returns false'. Refute it at one input. -/
def termtextDiffersWrong : ChangeSpec := { name := "termtextDiffers", fn := fun _ => fun
  | [d1, d2] => { results := [.lit (.bool false)], args := [d1, d2] }
  | _ => none }
def TermtextDiffersWrongFalsely : Prop := termtextDiffersRow.holds Tryz.pinned (OpenSpec.ofChange termtextDiffersWrong)

/-- 'saturatelaw36.ProoftextParses': WHATEVER THE INPUT: true; the input reads as it did. -/
def prooftextParsesSpec : ChangeSpec := { name := "prooftextParses", fn := fun _ => fun
  | [d] => { results := [.lit (.bool true)], args := [d] }
  | _ => none }
def prooftextParsesRow : OpenClaim := { program := "ytkofimhnehkdoaagreatdoor", sum := "8ebaeceefa417723a336538c9fb888ec4ccf672c247699dbf3e15f192d07e5dc", func := "saturate/saturatelaw36.ProoftextParses", spec := "prooftextParses", inPlace := ["internal/bytealg.IndexByteString", "internal/bytealg.IndexString", "internal/abi.NoEscape"], unfollowed := true, recurses := true, named := ["saturate/proof.kinds", "strconv.ErrSyntax", "strconv.ErrRange", "internal/strconv.uint64pow10", "math/bits.deBruijn32tab", "math/bits.deBruijn64tab", "internal/bytealg.MaxLen", "saturate/opinfo.names"], apart := false, laid := [("math/bits.deBruijn32tab", laid_math_bits_deBruijn32tab), ("math/bits.deBruijn64tab", laid_math_bits_deBruijn64tab), ("internal/strconv.uint64pow10", laid_internal_strconv_uint64pow10), ("saturate/opinfo.names", laid_saturate_opinfo_names), ("strconv.ErrRange", laid_strconv_ErrRange), ("strconv.ErrSyntax", laid_strconv_ErrSyntax), ("saturate/proof.kinds", laid_saturate_proof_kinds)] }
def ProoftextParsesSaid : Prop := prooftextParsesRow.holds Tryz.pinned (OpenSpec.ofChange prooftextParsesSpec)

/-- ITS FALSE NEIGHBOUR: 'it returns false'. Refute it at one input. -/
def prooftextParsesWrong : ChangeSpec := { name := "prooftextParses", fn := fun _ => fun
  | [d] => { results := [.lit (.bool false)], args := [d] }
  | _ => none }
def ProoftextParsesWrongFalsely : Prop := prooftextParsesRow.holds Tryz.pinned (OpenSpec.ofChange prooftextParsesWrong)

/-- 'saturatelaw36.ProoftextPrints': WHATEVER THE INPUT: true; the input reads as it did. -/
def prooftextPrintsSpec : ChangeSpec := { name := "prooftextPrints", fn := fun _ => fun
  | [d] => { results := [.lit (.bool true)], args := [d] }
  | _ => none }
def prooftextPrintsRow : OpenClaim := { program := "ytkofimhnehkdoaagreatdoor", sum := "8ebaeceefa417723a336538c9fb888ec4ccf672c247699dbf3e15f192d07e5dc", func := "saturate/saturatelaw36.ProoftextPrints", spec := "prooftextPrints", inPlace := ["internal/bytealg.IndexByteString", "internal/bytealg.IndexString", "internal/abi.NoEscape"], unfollowed := true, recurses := true, named := ["saturate/proof.kinds", "strconv.ErrSyntax", "strconv.ErrRange", "internal/strconv.uint64pow10", "math/bits.deBruijn32tab", "math/bits.deBruijn64tab", "internal/bytealg.MaxLen", "saturate/opinfo.names"], loops := true, apart := false, laid := [("math/bits.deBruijn32tab", laid_math_bits_deBruijn32tab), ("math/bits.deBruijn64tab", laid_math_bits_deBruijn64tab), ("internal/strconv.uint64pow10", laid_internal_strconv_uint64pow10), ("saturate/opinfo.names", laid_saturate_opinfo_names), ("strconv.ErrRange", laid_strconv_ErrRange), ("strconv.ErrSyntax", laid_strconv_ErrSyntax), ("saturate/proof.kinds", laid_saturate_proof_kinds)] }
def ProoftextPrintsSaid : Prop := prooftextPrintsRow.holds Tryz.pinned (OpenSpec.ofChange prooftextPrintsSpec)

/-- ITS FALSE NEIGHBOUR: 'it returns false'. Refute it at one input. -/
def prooftextPrintsWrong : ChangeSpec := { name := "prooftextPrints", fn := fun _ => fun
  | [d] => { results := [.lit (.bool false)], args := [d] }
  | _ => none }
def ProoftextPrintsWrongFalsely : Prop := prooftextPrintsRow.holds Tryz.pinned (OpenSpec.ofChange prooftextPrintsWrong)

/-- 'saturatelaw36.ProoftextBack': WHATEVER THE INPUT: true; the input reads as it did. -/
def prooftextBackSpec : ChangeSpec := { name := "prooftextBack", fn := fun _ => fun
  | [d] => { results := [.lit (.bool true)], args := [d] }
  | _ => none }
def prooftextBackRow : OpenClaim := { program := "ytkofimhnehkdoaagreatdoor", sum := "8ebaeceefa417723a336538c9fb888ec4ccf672c247699dbf3e15f192d07e5dc", func := "saturate/saturatelaw36.ProoftextBack", spec := "prooftextBack", inPlace := ["internal/bytealg.IndexByteString", "internal/bytealg.IndexString", "internal/abi.NoEscape"], unfollowed := true, recurses := true, named := ["saturate/proof.kinds", "strconv.ErrSyntax", "strconv.ErrRange", "internal/strconv.uint64pow10", "math/bits.deBruijn32tab", "math/bits.deBruijn64tab", "internal/bytealg.MaxLen", "saturate/opinfo.names"], loops := true, apart := false, laid := [("math/bits.deBruijn32tab", laid_math_bits_deBruijn32tab), ("math/bits.deBruijn64tab", laid_math_bits_deBruijn64tab), ("internal/strconv.uint64pow10", laid_internal_strconv_uint64pow10), ("saturate/opinfo.names", laid_saturate_opinfo_names), ("strconv.ErrRange", laid_strconv_ErrRange), ("strconv.ErrSyntax", laid_strconv_ErrSyntax), ("saturate/proof.kinds", laid_saturate_proof_kinds)] }
def ProoftextBackSaid : Prop := prooftextBackRow.holds Tryz.pinned (OpenSpec.ofChange prooftextBackSpec)

/-- ITS FALSE NEIGHBOUR: 'it returns false'. Refute it at one input. -/
def prooftextBackWrong : ChangeSpec := { name := "prooftextBack", fn := fun _ => fun
  | [d] => { results := [.lit (.bool false)], args := [d] }
  | _ => none }
def ProoftextBackWrongFalsely : Prop := prooftextBackRow.holds Tryz.pinned (OpenSpec.ofChange prooftextBackWrong)

/-- 'saturatelaw36.ProoftextTwice': WHATEVER THE INPUT: true; the input reads as it did. -/
def prooftextTwiceSpec : ChangeSpec := { name := "prooftextTwice", fn := fun _ => fun
  | [d] => { results := [.lit (.bool true)], args := [d] }
  | _ => none }
def prooftextTwiceRow : OpenClaim := { program := "ytkofimhnehkdoaagreatdoor", sum := "8ebaeceefa417723a336538c9fb888ec4ccf672c247699dbf3e15f192d07e5dc", func := "saturate/saturatelaw36.ProoftextTwice", spec := "prooftextTwice", inPlace := ["internal/bytealg.IndexByteString", "internal/bytealg.IndexString", "internal/abi.NoEscape"], unfollowed := true, recurses := true, named := ["saturate/proof.kinds", "strconv.ErrSyntax", "strconv.ErrRange", "internal/strconv.uint64pow10", "math/bits.deBruijn32tab", "math/bits.deBruijn64tab", "internal/bytealg.MaxLen", "saturate/opinfo.names"], apart := false, laid := [("math/bits.deBruijn32tab", laid_math_bits_deBruijn32tab), ("math/bits.deBruijn64tab", laid_math_bits_deBruijn64tab), ("internal/strconv.uint64pow10", laid_internal_strconv_uint64pow10), ("saturate/opinfo.names", laid_saturate_opinfo_names), ("strconv.ErrRange", laid_strconv_ErrRange), ("strconv.ErrSyntax", laid_strconv_ErrSyntax), ("saturate/proof.kinds", laid_saturate_proof_kinds)] }
def ProoftextTwiceSaid : Prop := prooftextTwiceRow.holds Tryz.pinned (OpenSpec.ofChange prooftextTwiceSpec)

/-- ITS FALSE NEIGHBOUR: 'it returns false'. Refute it at one input. -/
def prooftextTwiceWrong : ChangeSpec := { name := "prooftextTwice", fn := fun _ => fun
  | [d] => { results := [.lit (.bool false)], args := [d] }
  | _ => none }
def ProoftextTwiceWrongFalsely : Prop := prooftextTwiceRow.holds Tryz.pinned (OpenSpec.ofChange prooftextTwiceWrong)

/-- 'saturatelaw36.ProoftextConcls': WHATEVER THE INPUT: true; the input reads as it did. -/
def prooftextConclsSpec : ChangeSpec := { name := "prooftextConcls", fn := fun _ => fun
  | [d] => { results := [.lit (.bool true)], args := [d] }
  | _ => none }
def prooftextConclsRow : OpenClaim := { program := "ytkofimhnehkdoaagreatdoor", sum := "8ebaeceefa417723a336538c9fb888ec4ccf672c247699dbf3e15f192d07e5dc", func := "saturate/saturatelaw36.ProoftextConcls", spec := "prooftextConcls", inPlace := ["internal/bytealg.IndexByteString", "internal/bytealg.IndexString", "internal/abi.NoEscape", "internal/bytealg.MakeNoZero"], unfollowed := true, recurses := true, named := ["saturate/proof.kinds", "strconv.ErrSyntax", "strconv.ErrRange", "internal/strconv.uint64pow10", "math/bits.deBruijn32tab", "math/bits.deBruijn64tab", "internal/bytealg.MaxLen", "saturate/opinfo.names"], loops := true, apart := false, laid := [("math/bits.deBruijn32tab", laid_math_bits_deBruijn32tab), ("math/bits.deBruijn64tab", laid_math_bits_deBruijn64tab), ("internal/strconv.uint64pow10", laid_internal_strconv_uint64pow10), ("saturate/opinfo.names", laid_saturate_opinfo_names), ("strconv.ErrRange", laid_strconv_ErrRange), ("strconv.ErrSyntax", laid_strconv_ErrSyntax), ("saturate/proof.kinds", laid_saturate_proof_kinds)] }
def ProoftextConclsSaid : Prop := prooftextConclsRow.holds Tryz.pinned (OpenSpec.ofChange prooftextConclsSpec)

/-- ITS FALSE NEIGHBOUR: 'it returns false'. Refute it at one input. -/
def prooftextConclsWrong : ChangeSpec := { name := "prooftextConcls", fn := fun _ => fun
  | [d] => { results := [.lit (.bool false)], args := [d] }
  | _ => none }
def ProoftextConclsWrongFalsely : Prop := prooftextConclsRow.holds Tryz.pinned (OpenSpec.ofChange prooftextConclsWrong)

/-- 'saturatelaw36.ProoftextExplains': WHATEVER THE INPUT: true; the input reads as it did. -/
def prooftextExplainsSpec : ChangeSpec := { name := "prooftextExplains", fn := fun _ => fun
  | [d1, d2, d3] => { results := [.lit (.bool true)], args := [d1, d2, d3] }
  | _ => none }
def prooftextExplainsRow : OpenClaim := { program := "ytkofimhnehkdoaagreatdoor", sum := "8ebaeceefa417723a336538c9fb888ec4ccf672c247699dbf3e15f192d07e5dc", func := "saturate/saturatelaw36.ProoftextExplains", spec := "prooftextExplains", inPlace := ["internal/bytealg.IndexByteString", "internal/bytealg.IndexString", "internal/abi.NoEscape", "internal/bytealg.MakeNoZero"], unfollowed := true, recurses := true, named := ["saturate/proof.kinds", "strconv.ErrSyntax", "strconv.ErrRange", "internal/strconv.uint64pow10", "math/bits.deBruijn32tab", "math/bits.deBruijn64tab", "internal/bytealg.MaxLen", "saturate/opinfo.names"], loops := true, apart := false, laid := [("math/bits.deBruijn32tab", laid_math_bits_deBruijn32tab), ("math/bits.deBruijn64tab", laid_math_bits_deBruijn64tab), ("internal/strconv.uint64pow10", laid_internal_strconv_uint64pow10), ("saturate/opinfo.names", laid_saturate_opinfo_names), ("strconv.ErrRange", laid_strconv_ErrRange), ("strconv.ErrSyntax", laid_strconv_ErrSyntax), ("saturate/proof.kinds", laid_saturate_proof_kinds)] }
def ProoftextExplainsSaid : Prop := prooftextExplainsRow.holds Tryz.pinned (OpenSpec.ofChange prooftextExplainsSpec)

/-- ITS FALSE NEIGHBOUR: 'it returns false'. Refute it at one input. -/
def prooftextExplainsWrong : ChangeSpec := { name := "prooftextExplains", fn := fun _ => fun
  | [d1, d2, d3] => { results := [.lit (.bool false)], args := [d1, d2, d3] }
  | _ => none }
def ProoftextExplainsWrongFalsely : Prop := prooftextExplainsRow.holds Tryz.pinned (OpenSpec.ofChange prooftextExplainsWrong)

/- THE SECOND FORM. 'bulk': how many values and letters a reading holds, each counted each time it is reached (what is shared counts as often as it is met; a slice's spare places count too). A statement '..UptoSaid' is the law's where the arguments, and the package variables that the reading takes, are together of bulk at most 1048576: NARROWER than '..Said'. Prove '..Said' where nothing that the law and all that it calls make is longer than what came in: it says more and counts as full. Else prove '..UptoSaid'. A law counts once. -/
mutual
def uptoBulk {H : Type} : DataW H → Nat
  | .lit (.string bytes) => bytes.length + 1
  | .lit _ => 1
  | .nil => 1
  | .ptr d => uptoBulk d + 1
  | .slice elems spare => uptoBulkAll elems + uptoBulkAll spare + 1
  | .agg parts => uptoBulkAll parts + 1
  | .iface _ d => uptoBulk d + 1
  | .map entries => uptoBulkEntries entries + 1
  | .held _ => 1
def uptoBulkAll {H : Type} : List (DataW H) → Nat
  | [] => 0
  | d :: r => uptoBulk d + uptoBulkAll r
def uptoBulkEntries {H : Type} : List (Lit × DataW H) → Nat
  | [] => 0
  | x :: r => uptoBulkEntry x + uptoBulkEntries r
def uptoBulkEntry {H : Type} : Lit × DataW H → Nat
  | (.string bytes, d) => bytes.length + uptoBulk d + 1
  | (_, d) => uptoBulk d + 1
 end
def uptoSmall : (H : Type) → List (DataW H) → Bool := fun _ ds => decide (uptoBulkAll ds ≤ 1048576)
def OpenSpec.upto (s : _root_.Go.ChangeSpec) : _root_.Go.OpenSpec := { _root_.Go.OpenSpec.ofChange s with cond := some uptoSmall }

/-- 'saturatelaw07.TermtextReads', WHERE WHAT IT READS IS OF BULK AT MOST 1048576: true; the input reads as it did. -/
def termtextReadsUptoRow : OpenClaim := { program := "ytkofimhnehkdoaagreatdoor", sum := "8ebaeceefa417723a336538c9fb888ec4ccf672c247699dbf3e15f192d07e5dc", func := "saturate/saturatelaw07.TermtextReads", spec := "termtextReads", inPlace := ["internal/bytealg.IndexByteString", "internal/bytealg.IndexString", "internal/abi.NoEscape"], unfollowed := true, recurses := true, named := ["internal/bytealg.MaxLen", "strconv.ErrSyntax", "strconv.ErrRange", "internal/strconv.uint64pow10", "math/bits.deBruijn32tab", "math/bits.deBruijn64tab", "saturate/opinfo.names"], loops := true, apart := false, laid := [("math/bits.deBruijn32tab", laid_math_bits_deBruijn32tab), ("math/bits.deBruijn64tab", laid_math_bits_deBruijn64tab), ("internal/strconv.uint64pow10", laid_internal_strconv_uint64pow10), ("saturate/opinfo.names", laid_saturate_opinfo_names), ("strconv.ErrRange", laid_strconv_ErrRange), ("strconv.ErrSyntax", laid_strconv_ErrSyntax)], narrowed := true }
def TermtextReadsUptoSaid : Prop := termtextReadsUptoRow.holds Tryz.pinned (OpenSpec.upto termtextReadsSpec)

/-- 'saturatelaw07.TermtextParses', WHERE WHAT IT READS IS OF BULK AT MOST 1048576: true; the input reads as it did. -/
def termtextParsesUptoRow : OpenClaim := { program := "ytkofimhnehkdoaagreatdoor", sum := "8ebaeceefa417723a336538c9fb888ec4ccf672c247699dbf3e15f192d07e5dc", func := "saturate/saturatelaw07.TermtextParses", spec := "termtextParses", inPlace := ["internal/bytealg.IndexByteString", "internal/bytealg.IndexString", "internal/abi.NoEscape"], unfollowed := true, recurses := true, named := ["internal/bytealg.MaxLen", "strconv.ErrSyntax", "strconv.ErrRange", "internal/strconv.uint64pow10", "math/bits.deBruijn32tab", "math/bits.deBruijn64tab", "saturate/opinfo.names"], apart := false, laid := [("math/bits.deBruijn32tab", laid_math_bits_deBruijn32tab), ("math/bits.deBruijn64tab", laid_math_bits_deBruijn64tab), ("internal/strconv.uint64pow10", laid_internal_strconv_uint64pow10), ("saturate/opinfo.names", laid_saturate_opinfo_names), ("strconv.ErrRange", laid_strconv_ErrRange), ("strconv.ErrSyntax", laid_strconv_ErrSyntax)], narrowed := true }
def TermtextParsesUptoSaid : Prop := termtextParsesUptoRow.holds Tryz.pinned (OpenSpec.upto termtextParsesSpec)

/-- 'saturatelaw07.TermtextWrites', WHERE WHAT IT READS IS OF BULK AT MOST 1048576: true; the input reads as it did. -/
def termtextWritesUptoRow : OpenClaim := { program := "ytkofimhnehkdoaagreatdoor", sum := "8ebaeceefa417723a336538c9fb888ec4ccf672c247699dbf3e15f192d07e5dc", func := "saturate/saturatelaw07.TermtextWrites", spec := "termtextWrites", inPlace := ["internal/bytealg.IndexByteString", "internal/bytealg.IndexString", "internal/abi.NoEscape"], unfollowed := true, recurses := true, named := ["internal/bytealg.MaxLen", "strconv.ErrSyntax", "strconv.ErrRange", "internal/strconv.uint64pow10", "math/bits.deBruijn32tab", "math/bits.deBruijn64tab", "saturate/opinfo.names"], loops := true, apart := false, laid := [("math/bits.deBruijn32tab", laid_math_bits_deBruijn32tab), ("math/bits.deBruijn64tab", laid_math_bits_deBruijn64tab), ("internal/strconv.uint64pow10", laid_internal_strconv_uint64pow10), ("saturate/opinfo.names", laid_saturate_opinfo_names), ("strconv.ErrRange", laid_strconv_ErrRange), ("strconv.ErrSyntax", laid_strconv_ErrSyntax)], narrowed := true }
def TermtextWritesUptoSaid : Prop := termtextWritesUptoRow.holds Tryz.pinned (OpenSpec.upto termtextWritesSpec)

/-- 'saturatelaw07.TermtextBack', WHERE WHAT IT READS IS OF BULK AT MOST 1048576: true; the input reads as it did. -/
def termtextBackUptoRow : OpenClaim := { program := "ytkofimhnehkdoaagreatdoor", sum := "8ebaeceefa417723a336538c9fb888ec4ccf672c247699dbf3e15f192d07e5dc", func := "saturate/saturatelaw07.TermtextBack", spec := "termtextBack", inPlace := ["internal/bytealg.IndexByteString", "internal/bytealg.IndexString", "internal/abi.NoEscape"], unfollowed := true, recurses := true, named := ["internal/bytealg.MaxLen", "strconv.ErrSyntax", "strconv.ErrRange", "internal/strconv.uint64pow10", "math/bits.deBruijn32tab", "math/bits.deBruijn64tab", "saturate/opinfo.names"], loops := true, apart := false, laid := [("math/bits.deBruijn32tab", laid_math_bits_deBruijn32tab), ("math/bits.deBruijn64tab", laid_math_bits_deBruijn64tab), ("internal/strconv.uint64pow10", laid_internal_strconv_uint64pow10), ("saturate/opinfo.names", laid_saturate_opinfo_names), ("strconv.ErrRange", laid_strconv_ErrRange), ("strconv.ErrSyntax", laid_strconv_ErrSyntax)], narrowed := true }
def TermtextBackUptoSaid : Prop := termtextBackUptoRow.holds Tryz.pinned (OpenSpec.upto termtextBackSpec)

/-- 'saturatelaw07.TermtextDiffers', WHERE WHAT IT READS IS OF BULK AT MOST 1048576: true; the input reads as it did. -/
def termtextDiffersUptoRow : OpenClaim := { program := "ytkofimhnehkdoaagreatdoor", sum := "8ebaeceefa417723a336538c9fb888ec4ccf672c247699dbf3e15f192d07e5dc", func := "saturate/saturatelaw07.TermtextDiffers", spec := "termtextDiffers", inPlace := ["internal/bytealg.IndexByteString", "internal/bytealg.IndexString", "internal/abi.NoEscape"], unfollowed := true, recurses := true, named := ["internal/bytealg.MaxLen", "strconv.ErrSyntax", "strconv.ErrRange", "internal/strconv.uint64pow10", "math/bits.deBruijn32tab", "math/bits.deBruijn64tab", "saturate/opinfo.names"], loops := true, apart := false, laid := [("math/bits.deBruijn32tab", laid_math_bits_deBruijn32tab), ("math/bits.deBruijn64tab", laid_math_bits_deBruijn64tab), ("internal/strconv.uint64pow10", laid_internal_strconv_uint64pow10), ("saturate/opinfo.names", laid_saturate_opinfo_names), ("strconv.ErrRange", laid_strconv_ErrRange), ("strconv.ErrSyntax", laid_strconv_ErrSyntax)], narrowed := true }
def TermtextDiffersUptoSaid : Prop := termtextDiffersUptoRow.holds Tryz.pinned (OpenSpec.upto termtextDiffersSpec)

/-- 'saturatelaw36.ProoftextParses', WHERE WHAT IT READS IS OF BULK AT MOST 1048576: true; the input reads as it did. -/
def prooftextParsesUptoRow : OpenClaim := { program := "ytkofimhnehkdoaagreatdoor", sum := "8ebaeceefa417723a336538c9fb888ec4ccf672c247699dbf3e15f192d07e5dc", func := "saturate/saturatelaw36.ProoftextParses", spec := "prooftextParses", inPlace := ["internal/bytealg.IndexByteString", "internal/bytealg.IndexString", "internal/abi.NoEscape"], unfollowed := true, recurses := true, named := ["saturate/proof.kinds", "strconv.ErrSyntax", "strconv.ErrRange", "internal/strconv.uint64pow10", "math/bits.deBruijn32tab", "math/bits.deBruijn64tab", "internal/bytealg.MaxLen", "saturate/opinfo.names"], apart := false, laid := [("math/bits.deBruijn32tab", laid_math_bits_deBruijn32tab), ("math/bits.deBruijn64tab", laid_math_bits_deBruijn64tab), ("internal/strconv.uint64pow10", laid_internal_strconv_uint64pow10), ("saturate/opinfo.names", laid_saturate_opinfo_names), ("strconv.ErrRange", laid_strconv_ErrRange), ("strconv.ErrSyntax", laid_strconv_ErrSyntax), ("saturate/proof.kinds", laid_saturate_proof_kinds)], narrowed := true }
def ProoftextParsesUptoSaid : Prop := prooftextParsesUptoRow.holds Tryz.pinned (OpenSpec.upto prooftextParsesSpec)

/-- 'saturatelaw36.ProoftextPrints', WHERE WHAT IT READS IS OF BULK AT MOST 1048576: true; the input reads as it did. -/
def prooftextPrintsUptoRow : OpenClaim := { program := "ytkofimhnehkdoaagreatdoor", sum := "8ebaeceefa417723a336538c9fb888ec4ccf672c247699dbf3e15f192d07e5dc", func := "saturate/saturatelaw36.ProoftextPrints", spec := "prooftextPrints", inPlace := ["internal/bytealg.IndexByteString", "internal/bytealg.IndexString", "internal/abi.NoEscape"], unfollowed := true, recurses := true, named := ["saturate/proof.kinds", "strconv.ErrSyntax", "strconv.ErrRange", "internal/strconv.uint64pow10", "math/bits.deBruijn32tab", "math/bits.deBruijn64tab", "internal/bytealg.MaxLen", "saturate/opinfo.names"], loops := true, apart := false, laid := [("math/bits.deBruijn32tab", laid_math_bits_deBruijn32tab), ("math/bits.deBruijn64tab", laid_math_bits_deBruijn64tab), ("internal/strconv.uint64pow10", laid_internal_strconv_uint64pow10), ("saturate/opinfo.names", laid_saturate_opinfo_names), ("strconv.ErrRange", laid_strconv_ErrRange), ("strconv.ErrSyntax", laid_strconv_ErrSyntax), ("saturate/proof.kinds", laid_saturate_proof_kinds)], narrowed := true }
def ProoftextPrintsUptoSaid : Prop := prooftextPrintsUptoRow.holds Tryz.pinned (OpenSpec.upto prooftextPrintsSpec)

/-- 'saturatelaw36.ProoftextBack', WHERE WHAT IT READS IS OF BULK AT MOST 1048576: true; the input reads as it did. -/
def prooftextBackUptoRow : OpenClaim := { program := "ytkofimhnehkdoaagreatdoor", sum := "8ebaeceefa417723a336538c9fb888ec4ccf672c247699dbf3e15f192d07e5dc", func := "saturate/saturatelaw36.ProoftextBack", spec := "prooftextBack", inPlace := ["internal/bytealg.IndexByteString", "internal/bytealg.IndexString", "internal/abi.NoEscape"], unfollowed := true, recurses := true, named := ["saturate/proof.kinds", "strconv.ErrSyntax", "strconv.ErrRange", "internal/strconv.uint64pow10", "math/bits.deBruijn32tab", "math/bits.deBruijn64tab", "internal/bytealg.MaxLen", "saturate/opinfo.names"], loops := true, apart := false, laid := [("math/bits.deBruijn32tab", laid_math_bits_deBruijn32tab), ("math/bits.deBruijn64tab", laid_math_bits_deBruijn64tab), ("internal/strconv.uint64pow10", laid_internal_strconv_uint64pow10), ("saturate/opinfo.names", laid_saturate_opinfo_names), ("strconv.ErrRange", laid_strconv_ErrRange), ("strconv.ErrSyntax", laid_strconv_ErrSyntax), ("saturate/proof.kinds", laid_saturate_proof_kinds)], narrowed := true }
def ProoftextBackUptoSaid : Prop := prooftextBackUptoRow.holds Tryz.pinned (OpenSpec.upto prooftextBackSpec)

/-- 'saturatelaw36.ProoftextTwice', WHERE WHAT IT READS IS OF BULK AT MOST 1048576: true; the input reads as it did. -/
def prooftextTwiceUptoRow : OpenClaim := { program := "ytkofimhnehkdoaagreatdoor", sum := "8ebaeceefa417723a336538c9fb888ec4ccf672c247699dbf3e15f192d07e5dc", func := "saturate/saturatelaw36.ProoftextTwice", spec := "prooftextTwice", inPlace := ["internal/bytealg.IndexByteString", "internal/bytealg.IndexString", "internal/abi.NoEscape"], unfollowed := true, recurses := true, named := ["saturate/proof.kinds", "strconv.ErrSyntax", "strconv.ErrRange", "internal/strconv.uint64pow10", "math/bits.deBruijn32tab", "math/bits.deBruijn64tab", "internal/bytealg.MaxLen", "saturate/opinfo.names"], apart := false, laid := [("math/bits.deBruijn32tab", laid_math_bits_deBruijn32tab), ("math/bits.deBruijn64tab", laid_math_bits_deBruijn64tab), ("internal/strconv.uint64pow10", laid_internal_strconv_uint64pow10), ("saturate/opinfo.names", laid_saturate_opinfo_names), ("strconv.ErrRange", laid_strconv_ErrRange), ("strconv.ErrSyntax", laid_strconv_ErrSyntax), ("saturate/proof.kinds", laid_saturate_proof_kinds)], narrowed := true }
def ProoftextTwiceUptoSaid : Prop := prooftextTwiceUptoRow.holds Tryz.pinned (OpenSpec.upto prooftextTwiceSpec)

/-- 'saturatelaw36.ProoftextConcls', WHERE WHAT IT READS IS OF BULK AT MOST 1048576: true; the input reads as it did. -/
def prooftextConclsUptoRow : OpenClaim := { program := "ytkofimhnehkdoaagreatdoor", sum := "8ebaeceefa417723a336538c9fb888ec4ccf672c247699dbf3e15f192d07e5dc", func := "saturate/saturatelaw36.ProoftextConcls", spec := "prooftextConcls", inPlace := ["internal/bytealg.IndexByteString", "internal/bytealg.IndexString", "internal/abi.NoEscape", "internal/bytealg.MakeNoZero"], unfollowed := true, recurses := true, named := ["saturate/proof.kinds", "strconv.ErrSyntax", "strconv.ErrRange", "internal/strconv.uint64pow10", "math/bits.deBruijn32tab", "math/bits.deBruijn64tab", "internal/bytealg.MaxLen", "saturate/opinfo.names"], loops := true, apart := false, laid := [("math/bits.deBruijn32tab", laid_math_bits_deBruijn32tab), ("math/bits.deBruijn64tab", laid_math_bits_deBruijn64tab), ("internal/strconv.uint64pow10", laid_internal_strconv_uint64pow10), ("saturate/opinfo.names", laid_saturate_opinfo_names), ("strconv.ErrRange", laid_strconv_ErrRange), ("strconv.ErrSyntax", laid_strconv_ErrSyntax), ("saturate/proof.kinds", laid_saturate_proof_kinds)], narrowed := true }
def ProoftextConclsUptoSaid : Prop := prooftextConclsUptoRow.holds Tryz.pinned (OpenSpec.upto prooftextConclsSpec)

/-- 'saturatelaw36.ProoftextExplains', WHERE WHAT IT READS IS OF BULK AT MOST 1048576: true; the input reads as it did. -/
def prooftextExplainsUptoRow : OpenClaim := { program := "ytkofimhnehkdoaagreatdoor", sum := "8ebaeceefa417723a336538c9fb888ec4ccf672c247699dbf3e15f192d07e5dc", func := "saturate/saturatelaw36.ProoftextExplains", spec := "prooftextExplains", inPlace := ["internal/bytealg.IndexByteString", "internal/bytealg.IndexString", "internal/abi.NoEscape", "internal/bytealg.MakeNoZero"], unfollowed := true, recurses := true, named := ["saturate/proof.kinds", "strconv.ErrSyntax", "strconv.ErrRange", "internal/strconv.uint64pow10", "math/bits.deBruijn32tab", "math/bits.deBruijn64tab", "internal/bytealg.MaxLen", "saturate/opinfo.names"], loops := true, apart := false, laid := [("math/bits.deBruijn32tab", laid_math_bits_deBruijn32tab), ("math/bits.deBruijn64tab", laid_math_bits_deBruijn64tab), ("internal/strconv.uint64pow10", laid_internal_strconv_uint64pow10), ("saturate/opinfo.names", laid_saturate_opinfo_names), ("strconv.ErrRange", laid_strconv_ErrRange), ("strconv.ErrSyntax", laid_strconv_ErrSyntax), ("saturate/proof.kinds", laid_saturate_proof_kinds)], narrowed := true }
def ProoftextExplainsUptoSaid : Prop := prooftextExplainsUptoRow.holds Tryz.pinned (OpenSpec.upto prooftextExplainsSpec)

end Rows
end Go.Proofs.YtkofimhnehkdoaaGreatDoor
