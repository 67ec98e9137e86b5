/-
  NARROWER THAN 'FOR EVERY INPUT', by the rows' own cells (each row's printed sentence says how): PathPrints: laid · PathJoins: laid · ScriptParses: laid · ScriptLines: laid · ScriptPrints: laid · ScriptMany: laid.
  DERIVED. THE GIVEN ROWS OF THIS SEAT. 6 by the template 'for every input the law returns true; each argument reads behind the call as it read before'; 0 by the template 'total and deterministic' (their statements: YtchgjjegcoiepaaDoorTotals.lean).
  GIVEN WITH THE SEED: the statements are not yours to turn. If you find one false, say at which input.
  Laid BY PROGRAM, IN A SANDBOX (cutbox-rows.mjs): the forced cells as the released guide's own fill.sh prints them over the translation be55a6f257b1e279… (all of the seat's roots in one cut). By AI agents, Wed Nov 11 2026. No macro, syntax, notation, axiom, sorry.
-/
import Derived.Test.YtchgjjegcoiepaaDoorChecked
import GoSem.Claim
import GoSem.ClaimJoined
import GoSem.ClaimMapViews
import Derived.JoinedTies
import Derived.KernelRfl
namespace Go.Proofs.YtchgjjegcoiepaaDoor
/- THE CELL 'sum', in the pinned program and in every row, IS THE sha256 OF THE DUMP (.gsa) THAT YtchgjjegcoiepaaDoorProg.lean LOADS. Nothing in Lean hashes anything: it is a label: what it is worth is what the hold of that sum in a sandbox is worth. -/
noncomputable def Tryd.pinned : Pinned := { name := "ytchgjjegcoiepaadoor", sum := "be55a6f257b1e279230f3d5c9edeb1001adffb2aa73edd061546c71529038322", checked := Tryd.checked }
namespace Rows
def none {H : Type} : Left H := { results := [], args := [] }

/- WHAT THE LISTED PACKAGE-LEVEL VARIABLES READ AS WHEN THE CALL BEGINS. Each datum BY PROGRAM (the guide's laid-datum.mjs) off the statement by which the dump's own 'gosem.cut.vars' lays the variable. In a bare row this is a premise. The card (YtchgjjegcoiepaaDoorCards.lean) ties it to the program's text. -/
def laid_math_bits_deBruijn32tab {H : Type} : DataW H := .agg [.lit (.int .u8 0), .lit (.int .u8 1), .lit (.int .u8 28), .lit (.int .u8 2), .lit (.int .u8 29), .lit (.int .u8 14), .lit (.int .u8 24), .lit (.int .u8 3), .lit (.int .u8 30), .lit (.int .u8 22), .lit (.int .u8 20), .lit (.int .u8 15), .lit (.int .u8 25), .lit (.int .u8 17), .lit (.int .u8 4), .lit (.int .u8 8), .lit (.int .u8 31), .lit (.int .u8 27), .lit (.int .u8 13), .lit (.int .u8 23), .lit (.int .u8 21), .lit (.int .u8 19), .lit (.int .u8 16), .lit (.int .u8 7), .lit (.int .u8 26), .lit (.int .u8 12), .lit (.int .u8 18), .lit (.int .u8 6), .lit (.int .u8 11), .lit (.int .u8 5), .lit (.int .u8 10), .lit (.int .u8 9)]
def laid_math_bits_deBruijn64tab {H : Type} : DataW H := .agg [.lit (.int .u8 0), .lit (.int .u8 1), .lit (.int .u8 56), .lit (.int .u8 2), .lit (.int .u8 57), .lit (.int .u8 49), .lit (.int .u8 28), .lit (.int .u8 3), .lit (.int .u8 61), .lit (.int .u8 58), .lit (.int .u8 42), .lit (.int .u8 50), .lit (.int .u8 38), .lit (.int .u8 29), .lit (.int .u8 17), .lit (.int .u8 4), .lit (.int .u8 62), .lit (.int .u8 47), .lit (.int .u8 59), .lit (.int .u8 36), .lit (.int .u8 45), .lit (.int .u8 43), .lit (.int .u8 51), .lit (.int .u8 22), .lit (.int .u8 53), .lit (.int .u8 39), .lit (.int .u8 33), .lit (.int .u8 30), .lit (.int .u8 24), .lit (.int .u8 18), .lit (.int .u8 12), .lit (.int .u8 5), .lit (.int .u8 63), .lit (.int .u8 55), .lit (.int .u8 48), .lit (.int .u8 27), .lit (.int .u8 60), .lit (.int .u8 41), .lit (.int .u8 37), .lit (.int .u8 16), .lit (.int .u8 46), .lit (.int .u8 35), .lit (.int .u8 44), .lit (.int .u8 21), .lit (.int .u8 52), .lit (.int .u8 32), .lit (.int .u8 23), .lit (.int .u8 11), .lit (.int .u8 54), .lit (.int .u8 26), .lit (.int .u8 40), .lit (.int .u8 15), .lit (.int .u8 34), .lit (.int .u8 20), .lit (.int .u8 31), .lit (.int .u8 10), .lit (.int .u8 25), .lit (.int .u8 14), .lit (.int .u8 19), .lit (.int .u8 9), .lit (.int .u8 13), .lit (.int .u8 8), .lit (.int .u8 7), .lit (.int .u8 6)]
def laid_internal_strconv_uint64pow10 {H : Type} : DataW H := .agg [.lit (.int .u64 1), .lit (.int .u64 10), .lit (.int .u64 100), .lit (.int .u64 1000), .lit (.int .u64 10000), .lit (.int .u64 100000), .lit (.int .u64 1000000), .lit (.int .u64 10000000), .lit (.int .u64 100000000), .lit (.int .u64 1000000000), .lit (.int .u64 10000000000), .lit (.int .u64 100000000000), .lit (.int .u64 1000000000000), .lit (.int .u64 10000000000000), .lit (.int .u64 100000000000000), .lit (.int .u64 1000000000000000), .lit (.int .u64 10000000000000000), .lit (.int .u64 100000000000000000), .lit (.int .u64 1000000000000000000), .lit (.int .u64 10000000000000000000)]
def laid_pointillist_dec_next {H : Type} : DataW H := .agg [.agg [.lit (.int .i64 2), .lit (.int .i64 3), .lit (.int .i64 0), .lit (.int .i64 1)], .agg [.lit (.int .i64 2), .lit (.int .i64 3), .lit (.int .i64 0), .lit (.int .i64 0)], .agg [.lit (.int .i64 2), .lit (.int .i64 4), .lit (.int .i64 6), .lit (.int .i64 0)], .agg [.lit (.int .i64 5), .lit (.int .i64 0), .lit (.int .i64 0), .lit (.int .i64 0)], .agg [.lit (.int .i64 5), .lit (.int .i64 0), .lit (.int .i64 6), .lit (.int .i64 0)], .agg [.lit (.int .i64 5), .lit (.int .i64 0), .lit (.int .i64 6), .lit (.int .i64 0)], .agg [.lit (.int .i64 8), .lit (.int .i64 0), .lit (.int .i64 0), .lit (.int .i64 7)], .agg [.lit (.int .i64 8), .lit (.int .i64 0), .lit (.int .i64 0), .lit (.int .i64 0)], .agg [.lit (.int .i64 8), .lit (.int .i64 0), .lit (.int .i64 0), .lit (.int .i64 0)]]
def laid_pointillist_dec_ends {H : Type} : DataW H := .agg [.lit (.int .i64 0), .lit (.int .i64 0), .lit (.int .i64 1), .lit (.int .i64 0), .lit (.int .i64 1), .lit (.int .i64 1), .lit (.int .i64 0), .lit (.int .i64 0), .lit (.int .i64 1)]
def laid_pointillist_scan_blanks {H : Type} : DataW H := .agg [.lit (.int .i64 0), .lit (.int .i64 0), .lit (.int .i64 0), .lit (.int .i64 0), .lit (.int .i64 0), .lit (.int .i64 0), .lit (.int .i64 0), .lit (.int .i64 0), .lit (.int .i64 0), .lit (.int .i64 1), .lit (.int .i64 1), .lit (.int .i64 0), .lit (.int .i64 0), .lit (.int .i64 1), .lit (.int .i64 0), .lit (.int .i64 0), .lit (.int .i64 0), .lit (.int .i64 0), .lit (.int .i64 0), .lit (.int .i64 0), .lit (.int .i64 0), .lit (.int .i64 0), .lit (.int .i64 0), .lit (.int .i64 0), .lit (.int .i64 0), .lit (.int .i64 0), .lit (.int .i64 0), .lit (.int .i64 0), .lit (.int .i64 0), .lit (.int .i64 0), .lit (.int .i64 0), .lit (.int .i64 0), .lit (.int .i64 1)]
def laid_pointillist_path_signs {H : Type} : DataW H := .agg [.agg [.lit (.int .u8 77), .lit (.string [110, 110])], .agg [.lit (.int .u8 76), .lit (.string [110, 110])], .agg [.lit (.int .u8 72), .lit (.string [110])], .agg [.lit (.int .u8 86), .lit (.string [110])], .agg [.lit (.int .u8 67), .lit (.string [110, 110, 110, 110, 110, 110])], .agg [.lit (.int .u8 83), .lit (.string [110, 110, 110, 110])], .agg [.lit (.int .u8 81), .lit (.string [110, 110, 110, 110])], .agg [.lit (.int .u8 84), .lit (.string [110, 110])], .agg [.lit (.int .u8 65), .lit (.string [117, 117, 110, 103, 102, 110, 110])], .agg [.lit (.int .u8 90), .lit (.string [])]]
def laid_pointillist_op_kinds {H : Type} : DataW H := .agg [.agg [.lit (.string [99, 108, 101, 97, 114]), .lit (.string [48, 48])], .agg [.lit (.string [115, 114, 99]), .lit (.string [49, 48])], .agg [.lit (.string [100, 115, 116]), .lit (.string [48, 49])], .agg [.lit (.string [115, 114, 99, 111, 118, 101, 114]), .lit (.string [49, 83])], .agg [.lit (.string [100, 115, 116, 111, 118, 101, 114]), .lit (.string [68, 49])], .agg [.lit (.string [115, 114, 99, 105, 110]), .lit (.string [100, 48])], .agg [.lit (.string [100, 115, 116, 105, 110]), .lit (.string [48, 115])], .agg [.lit (.string [115, 114, 99, 111, 117, 116]), .lit (.string [68, 48])], .agg [.lit (.string [100, 115, 116, 111, 117, 116]), .lit (.string [48, 83])], .agg [.lit (.string [115, 114, 99, 97, 116, 111, 112]), .lit (.string [100, 83])], .agg [.lit (.string [100, 115, 116, 97, 116, 111, 112]), .lit (.string [68, 115])], .agg [.lit (.string [120, 111, 114]), .lit (.string [68, 83])]]
def laid_strconv_ErrRange {H : Type} : DataW H := .iface "*errors.errorString" (.ptr (.agg [.lit (.string [118, 97, 108, 117, 101, 32, 111, 117, 116, 32, 111, 102, 32, 114, 97, 110, 103, 101])]))
def laid_strconv_ErrSyntax {H : Type} : DataW H := .iface "*errors.errorString" (.ptr (.agg [.lit (.string [105, 110, 118, 97, 108, 105, 100, 32, 115, 121, 110, 116, 97, 120])]))
def laid_pointillist_rule_words {H : Type} : DataW H := .agg [.lit (.string [110, 111, 110, 122, 101, 114, 111]), .lit (.string [101, 118, 101, 110, 111, 100, 100])]

/-- 'pointillistlaw06.PathPrints': WHATEVER THE INPUT: true; the input reads as it did. -/
def pathPrintsSpec : ChangeSpec := { name := "pathPrints", fn := fun _ => fun
  | [d] => { results := [.lit (.bool true)], args := [d] }
  | _ => none }
def pathPrintsRow : OpenClaim := { program := "ytchgjjegcoiepaadoor", sum := "be55a6f257b1e279230f3d5c9edeb1001adffb2aa73edd061546c71529038322", func := "pointillist/pointillistlaw06.PathPrints", spec := "pathPrints", inPlace := ["internal/abi.NoEscape"], unfollowed := true, recurses := true, named := ["pointillist/scan.blanks", "pointillist/path.signs", "pointillist/dec.next", "pointillist/dec.ends", "math/bits.divideError", "math/bits.overflowError", "internal/strconv.uint64pow10", "math/bits.deBruijn32tab", "math/bits.deBruijn64tab"], apart := false, laid := [("math/bits.deBruijn32tab", laid_math_bits_deBruijn32tab), ("math/bits.deBruijn64tab", laid_math_bits_deBruijn64tab), ("internal/strconv.uint64pow10", laid_internal_strconv_uint64pow10), ("pointillist/dec.next", laid_pointillist_dec_next), ("pointillist/dec.ends", laid_pointillist_dec_ends), ("pointillist/scan.blanks", laid_pointillist_scan_blanks), ("pointillist/path.signs", laid_pointillist_path_signs)] }
def PathPrintsSaid : Prop := pathPrintsRow.holds Tryd.pinned (OpenSpec.ofChange pathPrintsSpec)

/-- ITS FALSE NEIGHBOUR: 'it returns false'. Refute it at one input. -/
def pathPrintsWrong : ChangeSpec := { name := "pathPrints", fn := fun _ => fun
  | [d] => { results := [.lit (.bool false)], args := [d] }
  | _ => none }
def PathPrintsWrongFalsely : Prop := pathPrintsRow.holds Tryd.pinned (OpenSpec.ofChange pathPrintsWrong)

/-- 'pointillistlaw06.PathJoins': WHATEVER THE INPUT: true; the input reads as it did. -/
def pathJoinsSpec : ChangeSpec := { name := "pathJoins", fn := fun _ => fun
  | [d1, d2] => { results := [.lit (.bool true)], args := [d1, d2] }
  | _ => none }
def pathJoinsRow : OpenClaim := { program := "ytchgjjegcoiepaadoor", sum := "be55a6f257b1e279230f3d5c9edeb1001adffb2aa73edd061546c71529038322", func := "pointillist/pointillistlaw06.PathJoins", spec := "pathJoins", inPlace := ["internal/abi.NoEscape"], unfollowed := true, recurses := true, named := ["pointillist/scan.blanks", "pointillist/path.signs", "pointillist/dec.next", "pointillist/dec.ends", "math/bits.divideError", "math/bits.overflowError", "internal/strconv.uint64pow10", "math/bits.deBruijn32tab", "math/bits.deBruijn64tab"], apart := false, laid := [("math/bits.deBruijn32tab", laid_math_bits_deBruijn32tab), ("math/bits.deBruijn64tab", laid_math_bits_deBruijn64tab), ("internal/strconv.uint64pow10", laid_internal_strconv_uint64pow10), ("pointillist/dec.next", laid_pointillist_dec_next), ("pointillist/dec.ends", laid_pointillist_dec_ends), ("pointillist/scan.blanks", laid_pointillist_scan_blanks), ("pointillist/path.signs", laid_pointillist_path_signs)] }
def PathJoinsSaid : Prop := pathJoinsRow.holds Tryd.pinned (OpenSpec.ofChange pathJoinsSpec)

/-- ITS FALSE NEIGHBOUR: 'it returns false'. Refute it at one input. -/
def pathJoinsWrong : ChangeSpec := { name := "pathJoins", fn := fun _ => fun
  | [d1, d2] => { results := [.lit (.bool false)], args := [d1, d2] }
  | _ => none }
def PathJoinsWrongFalsely : Prop := pathJoinsRow.holds Tryd.pinned (OpenSpec.ofChange pathJoinsWrong)

/-- 'pointillistlaw24.ScriptParses': WHATEVER THE INPUT: true; the input reads as it did. -/
def scriptParsesSpec : ChangeSpec := { name := "scriptParses", fn := fun _ => fun
  | [d] => { results := [.lit (.bool true)], args := [d] }
  | _ => none }
def scriptParsesRow : OpenClaim := { program := "ytchgjjegcoiepaadoor", sum := "be55a6f257b1e279230f3d5c9edeb1001adffb2aa73edd061546c71529038322", func := "pointillist/pointillistlaw24.ScriptParses", spec := "scriptParses", inPlace := ["internal/bytealg.CountString", "internal/bytealg.IndexByteString", "internal/bytealg.IndexString"], unfollowed := true, recurses := true, named := ["internal/bytealg.MaxLen", "strconv.ErrSyntax", "strconv.ErrRange", "internal/strconv.uint64pow10", "math/bits.deBruijn32tab", "math/bits.deBruijn64tab", "pointillist/op.kinds", "pointillist/rule.words", "pointillist/dec.next", "pointillist/dec.ends", "math/bits.divideError", "math/bits.overflowError"], apart := false, laid := [("math/bits.deBruijn32tab", laid_math_bits_deBruijn32tab), ("math/bits.deBruijn64tab", laid_math_bits_deBruijn64tab), ("internal/strconv.uint64pow10", laid_internal_strconv_uint64pow10), ("pointillist/op.kinds", laid_pointillist_op_kinds), ("strconv.ErrRange", laid_strconv_ErrRange), ("strconv.ErrSyntax", laid_strconv_ErrSyntax), ("pointillist/dec.next", laid_pointillist_dec_next), ("pointillist/dec.ends", laid_pointillist_dec_ends), ("pointillist/rule.words", laid_pointillist_rule_words)] }
def ScriptParsesSaid : Prop := scriptParsesRow.holds Tryd.pinned (OpenSpec.ofChange scriptParsesSpec)

/-- ITS FALSE NEIGHBOUR: 'it returns false'. Refute it at one input. -/
def scriptParsesWrong : ChangeSpec := { name := "scriptParses", fn := fun _ => fun
  | [d] => { results := [.lit (.bool false)], args := [d] }
  | _ => none }
def ScriptParsesWrongFalsely : Prop := scriptParsesRow.holds Tryd.pinned (OpenSpec.ofChange scriptParsesWrong)

/-- 'pointillistlaw24.ScriptLines': WHATEVER THE INPUT: true; the input reads as it did. -/
def scriptLinesSpec : ChangeSpec := { name := "scriptLines", fn := fun _ => fun
  | [d1, d2] => { results := [.lit (.bool true)], args := [d1, d2] }
  | _ => none }
def scriptLinesRow : OpenClaim := { program := "ytchgjjegcoiepaadoor", sum := "be55a6f257b1e279230f3d5c9edeb1001adffb2aa73edd061546c71529038322", func := "pointillist/pointillistlaw24.ScriptLines", spec := "scriptLines", inPlace := ["internal/bytealg.CountString", "internal/bytealg.IndexByteString", "internal/bytealg.IndexString"], unfollowed := true, recurses := true, named := ["internal/bytealg.MaxLen", "strconv.ErrSyntax", "strconv.ErrRange", "internal/strconv.uint64pow10", "math/bits.deBruijn32tab", "math/bits.deBruijn64tab", "pointillist/op.kinds", "pointillist/rule.words", "pointillist/dec.next", "pointillist/dec.ends", "math/bits.divideError", "math/bits.overflowError"], apart := false, laid := [("math/bits.deBruijn32tab", laid_math_bits_deBruijn32tab), ("math/bits.deBruijn64tab", laid_math_bits_deBruijn64tab), ("internal/strconv.uint64pow10", laid_internal_strconv_uint64pow10), ("pointillist/op.kinds", laid_pointillist_op_kinds), ("strconv.ErrRange", laid_strconv_ErrRange), ("strconv.ErrSyntax", laid_strconv_ErrSyntax), ("pointillist/dec.next", laid_pointillist_dec_next), ("pointillist/dec.ends", laid_pointillist_dec_ends), ("pointillist/rule.words", laid_pointillist_rule_words)] }
def ScriptLinesSaid : Prop := scriptLinesRow.holds Tryd.pinned (OpenSpec.ofChange scriptLinesSpec)

/-- ITS FALSE NEIGHBOUR: 'it returns false'. Refute it at one input. -/
def scriptLinesWrong : ChangeSpec := { name := "scriptLines", fn := fun _ => fun
  | [d1, d2] => { results := [.lit (.bool false)], args := [d1, d2] }
  | _ => none }
def ScriptLinesWrongFalsely : Prop := scriptLinesRow.holds Tryd.pinned (OpenSpec.ofChange scriptLinesWrong)

/-- 'pointillistlaw24.ScriptPrints': WHATEVER THE INPUT: true; the input reads as it did. -/
def scriptPrintsSpec : ChangeSpec := { name := "scriptPrints", fn := fun _ => fun
  | [d] => { results := [.lit (.bool true)], args := [d] }
  | _ => none }
def scriptPrintsRow : OpenClaim := { program := "ytchgjjegcoiepaadoor", sum := "be55a6f257b1e279230f3d5c9edeb1001adffb2aa73edd061546c71529038322", func := "pointillist/pointillistlaw24.ScriptPrints", spec := "scriptPrints", inPlace := ["internal/bytealg.CountString", "internal/bytealg.IndexByteString", "internal/bytealg.IndexString", "internal/abi.NoEscape", "internal/bytealg.MakeNoZero"], unfollowed := true, recurses := true, named := ["internal/bytealg.MaxLen", "strconv.ErrSyntax", "strconv.ErrRange", "internal/strconv.uint64pow10", "math/bits.deBruijn32tab", "math/bits.deBruijn64tab", "pointillist/op.kinds", "pointillist/rule.words", "pointillist/dec.next", "pointillist/dec.ends", "math/bits.divideError", "math/bits.overflowError"], apart := false, laid := [("math/bits.deBruijn32tab", laid_math_bits_deBruijn32tab), ("math/bits.deBruijn64tab", laid_math_bits_deBruijn64tab), ("internal/strconv.uint64pow10", laid_internal_strconv_uint64pow10), ("pointillist/op.kinds", laid_pointillist_op_kinds), ("strconv.ErrRange", laid_strconv_ErrRange), ("strconv.ErrSyntax", laid_strconv_ErrSyntax), ("pointillist/dec.next", laid_pointillist_dec_next), ("pointillist/dec.ends", laid_pointillist_dec_ends), ("pointillist/rule.words", laid_pointillist_rule_words)] }
def ScriptPrintsSaid : Prop := scriptPrintsRow.holds Tryd.pinned (OpenSpec.ofChange scriptPrintsSpec)

/-- ITS FALSE NEIGHBOUR: 'it returns false'. Refute it at one input. -/
def scriptPrintsWrong : ChangeSpec := { name := "scriptPrints", fn := fun _ => fun
  | [d] => { results := [.lit (.bool false)], args := [d] }
  | _ => none }
def ScriptPrintsWrongFalsely : Prop := scriptPrintsRow.holds Tryd.pinned (OpenSpec.ofChange scriptPrintsWrong)

/-- 'pointillistlaw24.ScriptMany': WHATEVER THE INPUT: true; the input reads as it did. -/
def scriptManySpec : ChangeSpec := { name := "scriptMany", fn := fun _ => fun
  | [d1, d2] => { results := [.lit (.bool true)], args := [d1, d2] }
  | _ => none }
def scriptManyRow : OpenClaim := { program := "ytchgjjegcoiepaadoor", sum := "be55a6f257b1e279230f3d5c9edeb1001adffb2aa73edd061546c71529038322", func := "pointillist/pointillistlaw24.ScriptMany", spec := "scriptMany", inPlace := ["internal/bytealg.CountString", "internal/bytealg.IndexByteString", "internal/bytealg.IndexString", "internal/abi.NoEscape", "internal/bytealg.MakeNoZero"], unfollowed := true, recurses := true, named := ["internal/bytealg.MaxLen", "strconv.ErrSyntax", "strconv.ErrRange", "internal/strconv.uint64pow10", "math/bits.deBruijn32tab", "math/bits.deBruijn64tab", "pointillist/op.kinds", "pointillist/rule.words", "pointillist/dec.next", "pointillist/dec.ends", "math/bits.divideError", "math/bits.overflowError"], apart := false, laid := [("math/bits.deBruijn32tab", laid_math_bits_deBruijn32tab), ("math/bits.deBruijn64tab", laid_math_bits_deBruijn64tab), ("internal/strconv.uint64pow10", laid_internal_strconv_uint64pow10), ("pointillist/op.kinds", laid_pointillist_op_kinds), ("strconv.ErrRange", laid_strconv_ErrRange), ("strconv.ErrSyntax", laid_strconv_ErrSyntax), ("pointillist/dec.next", laid_pointillist_dec_next), ("pointillist/dec.ends", laid_pointillist_dec_ends), ("pointillist/rule.words", laid_pointillist_rule_words)] }
def ScriptManySaid : Prop := scriptManyRow.holds Tryd.pinned (OpenSpec.ofChange scriptManySpec)

/-- ITS FALSE NEIGHBOUR: 'it returns false'. Refute it at one input. -/
def scriptManyWrong : ChangeSpec := { name := "scriptMany", fn := fun _ => fun
  | [d1, d2] => { results := [.lit (.bool false)], args := [d1, d2] }
  | _ => none }
def ScriptManyWrongFalsely : Prop := scriptManyRow.holds Tryd.pinned (OpenSpec.ofChange scriptManyWrong)

/- THE SECOND FORM. 'bulk': how many values and letters a reading holds, each counted each time it is reached (what is shared counts as often as it is met; a slice's spare places count too). A statement '..UptoSaid' is the law's where the arguments, and the package variables that the reading takes, are together of bulk at most 1048576: NARROWER than '..Said'. Prove '..Said' where nothing that the law and all that it calls make is longer than what came in: it says more and counts as full. Else prove '..UptoSaid'. A law counts once. -/
mutual
def uptoBulk {H : Type} : DataW H → Nat
  | .lit (.string bytes) => bytes.length + 1
  | .lit _ => 1
  | .nil => 1
  | .ptr d => uptoBulk d + 1
  | .slice elems spare => uptoBulkAll elems + uptoBulkAll spare + 1
  | .agg parts => uptoBulkAll parts + 1
  | .iface _ d => uptoBulk d + 1
  | .map entries => uptoBulkEntries entries + 1
  | .held _ => 1
def uptoBulkAll {H : Type} : List (DataW H) → Nat
  | [] => 0
  | d :: r => uptoBulk d + uptoBulkAll r
def uptoBulkEntries {H : Type} : List (Lit × DataW H) → Nat
  | [] => 0
  | x :: r => uptoBulkEntry x + uptoBulkEntries r
def uptoBulkEntry {H : Type} : Lit × DataW H → Nat
  | (.string bytes, d) => bytes.length + uptoBulk d + 1
  | (_, d) => uptoBulk d + 1
 end
def uptoSmall : (H : Type) → List (DataW H) → Bool := fun _ ds => decide (uptoBulkAll ds ≤ 1048576)
def OpenSpec.upto (s : _root_.Go.ChangeSpec) : _root_.Go.OpenSpec := { _root_.Go.OpenSpec.ofChange s with cond := some uptoSmall }

/-- 'pointillistlaw06.PathPrints', WHERE WHAT IT READS IS OF BULK AT MOST 1048576: true; the input reads as it did. -/
def pathPrintsUptoRow : OpenClaim := { program := "ytchgjjegcoiepaadoor", sum := "be55a6f257b1e279230f3d5c9edeb1001adffb2aa73edd061546c71529038322", func := "pointillist/pointillistlaw06.PathPrints", spec := "pathPrints", inPlace := ["internal/abi.NoEscape"], unfollowed := true, recurses := true, named := ["pointillist/scan.blanks", "pointillist/path.signs", "pointillist/dec.next", "pointillist/dec.ends", "math/bits.divideError", "math/bits.overflowError", "internal/strconv.uint64pow10", "math/bits.deBruijn32tab", "math/bits.deBruijn64tab"], apart := false, laid := [("math/bits.deBruijn32tab", laid_math_bits_deBruijn32tab), ("math/bits.deBruijn64tab", laid_math_bits_deBruijn64tab), ("internal/strconv.uint64pow10", laid_internal_strconv_uint64pow10), ("pointillist/dec.next", laid_pointillist_dec_next), ("pointillist/dec.ends", laid_pointillist_dec_ends), ("pointillist/scan.blanks", laid_pointillist_scan_blanks), ("pointillist/path.signs", laid_pointillist_path_signs)], narrowed := true }
def PathPrintsUptoSaid : Prop := pathPrintsUptoRow.holds Tryd.pinned (OpenSpec.upto pathPrintsSpec)

/-- 'pointillistlaw06.PathJoins', WHERE WHAT IT READS IS OF BULK AT MOST 1048576: true; the input reads as it did. -/
def pathJoinsUptoRow : OpenClaim := { program := "ytchgjjegcoiepaadoor", sum := "be55a6f257b1e279230f3d5c9edeb1001adffb2aa73edd061546c71529038322", func := "pointillist/pointillistlaw06.PathJoins", spec := "pathJoins", inPlace := ["internal/abi.NoEscape"], unfollowed := true, recurses := true, named := ["pointillist/scan.blanks", "pointillist/path.signs", "pointillist/dec.next", "pointillist/dec.ends", "math/bits.divideError", "math/bits.overflowError", "internal/strconv.uint64pow10", "math/bits.deBruijn32tab", "math/bits.deBruijn64tab"], apart := false, laid := [("math/bits.deBruijn32tab", laid_math_bits_deBruijn32tab), ("math/bits.deBruijn64tab", laid_math_bits_deBruijn64tab), ("internal/strconv.uint64pow10", laid_internal_strconv_uint64pow10), ("pointillist/dec.next", laid_pointillist_dec_next), ("pointillist/dec.ends", laid_pointillist_dec_ends), ("pointillist/scan.blanks", laid_pointillist_scan_blanks), ("pointillist/path.signs", laid_pointillist_path_signs)], narrowed := true }
def PathJoinsUptoSaid : Prop := pathJoinsUptoRow.holds Tryd.pinned (OpenSpec.upto pathJoinsSpec)

/-- 'pointillistlaw24.ScriptParses', WHERE WHAT IT READS IS OF BULK AT MOST 1048576: true; the input reads as it did. -/
def scriptParsesUptoRow : OpenClaim := { program := "ytchgjjegcoiepaadoor", sum := "be55a6f257b1e279230f3d5c9edeb1001adffb2aa73edd061546c71529038322", func := "pointillist/pointillistlaw24.ScriptParses", spec := "scriptParses", inPlace := ["internal/bytealg.CountString", "internal/bytealg.IndexByteString", "internal/bytealg.IndexString"], unfollowed := true, recurses := true, named := ["internal/bytealg.MaxLen", "strconv.ErrSyntax", "strconv.ErrRange", "internal/strconv.uint64pow10", "math/bits.deBruijn32tab", "math/bits.deBruijn64tab", "pointillist/op.kinds", "pointillist/rule.words", "pointillist/dec.next", "pointillist/dec.ends", "math/bits.divideError", "math/bits.overflowError"], apart := false, laid := [("math/bits.deBruijn32tab", laid_math_bits_deBruijn32tab), ("math/bits.deBruijn64tab", laid_math_bits_deBruijn64tab), ("internal/strconv.uint64pow10", laid_internal_strconv_uint64pow10), ("pointillist/op.kinds", laid_pointillist_op_kinds), ("strconv.ErrRange", laid_strconv_ErrRange), ("strconv.ErrSyntax", laid_strconv_ErrSyntax), ("pointillist/dec.next", laid_pointillist_dec_next), ("pointillist/dec.ends", laid_pointillist_dec_ends), ("pointillist/rule.words", laid_pointillist_rule_words)], narrowed := true }
def ScriptParsesUptoSaid : Prop := scriptParsesUptoRow.holds Tryd.pinned (OpenSpec.upto scriptParsesSpec)

/-- 'pointillistlaw24.ScriptLines', WHERE WHAT IT READS IS OF BULK AT MOST 1048576: true; the input reads as it did. -/
def scriptLinesUptoRow : OpenClaim := { program := "ytchgjjegcoiepaadoor", sum := "be55a6f257b1e279230f3d5c9edeb1001adffb2aa73edd061546c71529038322", func := "pointillist/pointillistlaw24.ScriptLines", spec := "scriptLines", inPlace := ["internal/bytealg.CountString", "internal/bytealg.IndexByteString", "internal/bytealg.IndexString"], unfollowed := true, recurses := true, named := ["internal/bytealg.MaxLen", "strconv.ErrSyntax", "strconv.ErrRange", "internal/strconv.uint64pow10", "math/bits.deBruijn32tab", "math/bits.deBruijn64tab", "pointillist/op.kinds", "pointillist/rule.words", "pointillist/dec.next", "pointillist/dec.ends", "math/bits.divideError", "math/bits.overflowError"], apart := false, laid := [("math/bits.deBruijn32tab", laid_math_bits_deBruijn32tab), ("math/bits.deBruijn64tab", laid_math_bits_deBruijn64tab), ("internal/strconv.uint64pow10", laid_internal_strconv_uint64pow10), ("pointillist/op.kinds", laid_pointillist_op_kinds), ("strconv.ErrRange", laid_strconv_ErrRange), ("strconv.ErrSyntax", laid_strconv_ErrSyntax), ("pointillist/dec.next", laid_pointillist_dec_next), ("pointillist/dec.ends", laid_pointillist_dec_ends), ("pointillist/rule.words", laid_pointillist_rule_words)], narrowed := true }
def ScriptLinesUptoSaid : Prop := scriptLinesUptoRow.holds Tryd.pinned (OpenSpec.upto scriptLinesSpec)

/-- 'pointillistlaw24.ScriptPrints', WHERE WHAT IT READS IS OF BULK AT MOST 1048576: true; the input reads as it did. -/
def scriptPrintsUptoRow : OpenClaim := { program := "ytchgjjegcoiepaadoor", sum := "be55a6f257b1e279230f3d5c9edeb1001adffb2aa73edd061546c71529038322", func := "pointillist/pointillistlaw24.ScriptPrints", spec := "scriptPrints", inPlace := ["internal/bytealg.CountString", "internal/bytealg.IndexByteString", "internal/bytealg.IndexString", "internal/abi.NoEscape", "internal/bytealg.MakeNoZero"], unfollowed := true, recurses := true, named := ["internal/bytealg.MaxLen", "strconv.ErrSyntax", "strconv.ErrRange", "internal/strconv.uint64pow10", "math/bits.deBruijn32tab", "math/bits.deBruijn64tab", "pointillist/op.kinds", "pointillist/rule.words", "pointillist/dec.next", "pointillist/dec.ends", "math/bits.divideError", "math/bits.overflowError"], apart := false, laid := [("math/bits.deBruijn32tab", laid_math_bits_deBruijn32tab), ("math/bits.deBruijn64tab", laid_math_bits_deBruijn64tab), ("internal/strconv.uint64pow10", laid_internal_strconv_uint64pow10), ("pointillist/op.kinds", laid_pointillist_op_kinds), ("strconv.ErrRange", laid_strconv_ErrRange), ("strconv.ErrSyntax", laid_strconv_ErrSyntax), ("pointillist/dec.next", laid_pointillist_dec_next), ("pointillist/dec.ends", laid_pointillist_dec_ends), ("pointillist/rule.words", laid_pointillist_rule_words)], narrowed := true }
def ScriptPrintsUptoSaid : Prop := scriptPrintsUptoRow.holds Tryd.pinned (OpenSpec.upto scriptPrintsSpec)

/-- 'pointillistlaw24.ScriptMany', WHERE WHAT IT READS IS OF BULK AT MOST 1048576: true; the input reads as it did. -/
def scriptManyUptoRow : OpenClaim := { program := "ytchgjjegcoiepaadoor", sum := "be55a6f257b1e279230f3d5c9edeb1001adffb2aa73edd061546c71529038322", func := "pointillist/pointillistlaw24.ScriptMany", spec := "scriptMany", inPlace := ["internal/bytealg.CountString", "internal/bytealg.IndexByteString", "internal/bytealg.IndexString", "internal/abi.NoEscape", "internal/bytealg.MakeNoZero"], unfollowed := true, recurses := true, named := ["internal/bytealg.MaxLen", "strconv.ErrSyntax", "strconv.ErrRange", "internal/strconv.uint64pow10", "math/bits.deBruijn32tab", "math/bits.deBruijn64tab", "pointillist/op.kinds", "pointillist/rule.words", "pointillist/dec.next", "pointillist/dec.ends", "math/bits.divideError", "math/bits.overflowError"], apart := false, laid := [("math/bits.deBruijn32tab", laid_math_bits_deBruijn32tab), ("math/bits.deBruijn64tab", laid_math_bits_deBruijn64tab), ("internal/strconv.uint64pow10", laid_internal_strconv_uint64pow10), ("pointillist/op.kinds", laid_pointillist_op_kinds), ("strconv.ErrRange", laid_strconv_ErrRange), ("strconv.ErrSyntax", laid_strconv_ErrSyntax), ("pointillist/dec.next", laid_pointillist_dec_next), ("pointillist/dec.ends", laid_pointillist_dec_ends), ("pointillist/rule.words", laid_pointillist_rule_words)], narrowed := true }
def ScriptManyUptoSaid : Prop := scriptManyUptoRow.holds Tryd.pinned (OpenSpec.upto scriptManySpec)

end Rows
end Go.Proofs.YtchgjjegcoiepaaDoor
