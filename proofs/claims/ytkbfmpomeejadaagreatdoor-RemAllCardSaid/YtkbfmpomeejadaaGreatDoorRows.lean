/-
  NARROWER THAN 'FOR EVERY INPUT', by the rows' own cells (each row's printed sentence says how): RemAll: laid · TopCloser: laid · TopModel: laid · TableKeeps: laid · TableRuns: laid · ScriptRuns: laid.
  DERIVED. THE GIVEN ROWS OF THIS SEAT. 6 by the template 'for every input the law returns true; each argument reads behind the call as it read before'; 0 by the template 'total and deterministic' (their statements: YtkbfmpomeejadaaGreatDoorTotals.lean).
  GIVEN WITH THE SEED: the statements are not yours to turn. If you find one false, say at which input.
  Laid BY PROGRAM, IN A SANDBOX (cutbox-rows.mjs): the forced cells as the released guide's own fill.sh prints them over the translation e48207eafd96a75d… (all of the seat's roots in one cut). By AI agents, Wed Nov 11 2026. No macro, syntax, notation, axiom, sorry.
-/
import Derived.Test.YtkbfmpomeejadaaGreatDoorChecked
import GoSem.PinnedTables
import GoSem.Claim
import GoSem.ClaimJoined
import GoSem.ClaimMapViews
import Derived.JoinedTies
import Derived.KernelRfl
namespace Go.Proofs.YtkbfmpomeejadaaGreatDoor
/- THE CELL 'sum', in the pinned program and in every row, IS THE sha256 OF THE DUMP (.gsa) THAT YtkbfmpomeejadaaGreatDoorProg.lean LOADS. Nothing in Lean hashes anything: it is a label: what it is worth is what the hold of that sum in a sandbox is worth. -/
noncomputable def Tryz.pinned : Pinned := { name := "ytkbfmpomeejadaagreatdoor", sum := "e48207eafd96a75d0aeb59e5d9971cefb75487c44e4777103932f96275783430", checked := Tryz.checked }
namespace Rows
def none {H : Type} : Left H := { results := [], args := [] }

/- WHAT THE LISTED PACKAGE-LEVEL VARIABLES READ AS WHEN THE CALL BEGINS. Each datum BY PROGRAM (the guide's laid-datum.mjs) off the statement by which the dump's own 'gosem.cut.vars' lays the variable. In a bare row this is a premise. The card (YtkbfmpomeejadaaGreatDoorCards.lean) ties it to the program's text. -/
def laid_hairsbreadth_format_table {H : Type} : DataW H := .agg [.agg [.lit (.int .i64 16), .lit (.int .i64 11), .lit (.int .i64 15)], .agg [.lit (.int .i64 32), .lit (.int .i64 24), .lit (.int .i64 127)], .agg [.lit (.int .i64 64), .lit (.int .i64 53), .lit (.int .i64 1023)], .agg [.lit (.int .i64 128), .lit (.int .i64 113), .lit (.int .i64 16383)]]
def laid_math_bits_deBruijn32tab {H : Type} : DataW H := .agg [.lit (.int .u8 0), .lit (.int .u8 1), .lit (.int .u8 28), .lit (.int .u8 2), .lit (.int .u8 29), .lit (.int .u8 14), .lit (.int .u8 24), .lit (.int .u8 3), .lit (.int .u8 30), .lit (.int .u8 22), .lit (.int .u8 20), .lit (.int .u8 15), .lit (.int .u8 25), .lit (.int .u8 17), .lit (.int .u8 4), .lit (.int .u8 8), .lit (.int .u8 31), .lit (.int .u8 27), .lit (.int .u8 13), .lit (.int .u8 23), .lit (.int .u8 21), .lit (.int .u8 19), .lit (.int .u8 16), .lit (.int .u8 7), .lit (.int .u8 26), .lit (.int .u8 12), .lit (.int .u8 18), .lit (.int .u8 6), .lit (.int .u8 11), .lit (.int .u8 5), .lit (.int .u8 10), .lit (.int .u8 9)]
def laid_math_bits_deBruijn64tab {H : Type} : DataW H := .agg [.lit (.int .u8 0), .lit (.int .u8 1), .lit (.int .u8 56), .lit (.int .u8 2), .lit (.int .u8 57), .lit (.int .u8 49), .lit (.int .u8 28), .lit (.int .u8 3), .lit (.int .u8 61), .lit (.int .u8 58), .lit (.int .u8 42), .lit (.int .u8 50), .lit (.int .u8 38), .lit (.int .u8 29), .lit (.int .u8 17), .lit (.int .u8 4), .lit (.int .u8 62), .lit (.int .u8 47), .lit (.int .u8 59), .lit (.int .u8 36), .lit (.int .u8 45), .lit (.int .u8 43), .lit (.int .u8 51), .lit (.int .u8 22), .lit (.int .u8 53), .lit (.int .u8 39), .lit (.int .u8 33), .lit (.int .u8 30), .lit (.int .u8 24), .lit (.int .u8 18), .lit (.int .u8 12), .lit (.int .u8 5), .lit (.int .u8 63), .lit (.int .u8 55), .lit (.int .u8 48), .lit (.int .u8 27), .lit (.int .u8 60), .lit (.int .u8 41), .lit (.int .u8 37), .lit (.int .u8 16), .lit (.int .u8 46), .lit (.int .u8 35), .lit (.int .u8 44), .lit (.int .u8 21), .lit (.int .u8 52), .lit (.int .u8 32), .lit (.int .u8 23), .lit (.int .u8 11), .lit (.int .u8 54), .lit (.int .u8 26), .lit (.int .u8 40), .lit (.int .u8 15), .lit (.int .u8 34), .lit (.int .u8 20), .lit (.int .u8 31), .lit (.int .u8 10), .lit (.int .u8 25), .lit (.int .u8 14), .lit (.int .u8 19), .lit (.int .u8 9), .lit (.int .u8 13), .lit (.int .u8 8), .lit (.int .u8 7), .lit (.int .u8 6)]
def laid_internal_strconv_uint64pow10 {H : Type} : DataW H := .agg [.lit (.int .u64 1), .lit (.int .u64 10), .lit (.int .u64 100), .lit (.int .u64 1000), .lit (.int .u64 10000), .lit (.int .u64 100000), .lit (.int .u64 1000000), .lit (.int .u64 10000000), .lit (.int .u64 100000000), .lit (.int .u64 1000000000), .lit (.int .u64 10000000000), .lit (.int .u64 100000000000), .lit (.int .u64 1000000000000), .lit (.int .u64 10000000000000), .lit (.int .u64 100000000000000), .lit (.int .u64 1000000000000000), .lit (.int .u64 10000000000000000), .lit (.int .u64 100000000000000000), .lit (.int .u64 1000000000000000000), .lit (.int .u64 10000000000000000000)]
def laid_unicode_utf8_acceptRanges {H : Type} : DataW H := .agg [.agg [.lit (.int .u8 128), .lit (.int .u8 191)], .agg [.lit (.int .u8 160), .lit (.int .u8 191)], .agg [.lit (.int .u8 128), .lit (.int .u8 159)], .agg [.lit (.int .u8 144), .lit (.int .u8 191)], .agg [.lit (.int .u8 128), .lit (.int .u8 143)], .agg [.lit (.int .u8 0), .lit (.int .u8 0)], .agg [.lit (.int .u8 0), .lit (.int .u8 0)], .agg [.lit (.int .u8 0), .lit (.int .u8 0)], .agg [.lit (.int .u8 0), .lit (.int .u8 0)], .agg [.lit (.int .u8 0), .lit (.int .u8 0)], .agg [.lit (.int .u8 0), .lit (.int .u8 0)], .agg [.lit (.int .u8 0), .lit (.int .u8 0)], .agg [.lit (.int .u8 0), .lit (.int .u8 0)], .agg [.lit (.int .u8 0), .lit (.int .u8 0)], .agg [.lit (.int .u8 0), .lit (.int .u8 0)], .agg [.lit (.int .u8 0), .lit (.int .u8 0)]]
def laid_hairsbreadth_flag_names {H : Type} : DataW H := .agg [.lit (.string [105, 110, 118, 97, 108, 105, 100]), .lit (.string [100, 105, 118, 122, 101, 114, 111]), .lit (.string [111, 118, 101, 114, 102, 108, 111, 119]), .lit (.string [117, 110, 100, 101, 114, 102, 108, 111, 119]), .lit (.string [105, 110, 101, 120, 97, 99, 116])]
def laid_hairsbreadth_toint_ends {H : Type} : DataW H := .agg [.agg [.lit (.int .u64 2147483648), .lit (.int .u64 2147483647)], .agg [.lit (.int .u64 0), .lit (.int .u64 4294967295)], .agg [.lit (.int .u64 9223372036854775808), .lit (.int .u64 9223372036854775807)], .agg [.lit (.int .u64 0), .lit (.int .u64 18446744073709551615)]]
/-- One of Go's own tables, pinned by name: the form's constant. -/
def laid_unicode_utf8_first : DataW Unit := Go.Pinned.utf8First

/-- 'hairsbreadthlaw23.RemAll': WHATEVER THE INPUT: true; the input reads as it did. -/
def remAllSpec : ChangeSpec := { name := "remAll", fn := fun _ => fun
  | [d1, d2, d3] => { results := [.lit (.bool true)], args := [d1, d2, d3] }
  | _ => none }
def remAllRow : OpenClaim := { program := "ytkbfmpomeejadaagreatdoor", sum := "e48207eafd96a75d0aeb59e5d9971cefb75487c44e4777103932f96275783430", func := "hairsbreadth/hairsbreadthlaw23.RemAll", spec := "remAll", inPlace := ["math/bits.Add64", "math/bits.Sub64"], unfollowed := true, recurses := true, named := ["hairsbreadth/format.table"], apart := false, laid := [("hairsbreadth/format.table", laid_hairsbreadth_format_table)] }
def RemAllSaid : Prop := remAllRow.holds Tryz.pinned (OpenSpec.ofChange remAllSpec)

/-- ITS FALSE NEIGHBOUR: 'it returns false'. Refute it at one input. -/
def remAllWrong : ChangeSpec := { name := "remAll", fn := fun _ => fun
  | [d1, d2, d3] => { results := [.lit (.bool false)], args := [d1, d2, d3] }
  | _ => none }
def RemAllWrongFalsely : Prop := remAllRow.holds Tryz.pinned (OpenSpec.ofChange remAllWrong)

/-- 'hairsbreadthtop.TopCloser': WHATEVER THE INPUT: true; the input reads as it did. -/
def topCloserSpec : ChangeSpec := { name := "topCloser", fn := fun _ => fun
  | [d1, d2, d3, d4, d5, d6, d7] => { results := [.lit (.bool true)], args := [d1, d2, d3, d4, d5, d6, d7] }
  | _ => none }
def topCloserRow : OpenClaim := { program := "ytkbfmpomeejadaagreatdoor", sum := "e48207eafd96a75d0aeb59e5d9971cefb75487c44e4777103932f96275783430", func := "hairsbreadth/hairsbreadthtop.TopCloser", spec := "topCloser", inPlace := ["math/bits.Add64", "math/bits.Sub64", "internal/bytealg.CountString", "internal/bytealg.IndexByteString", "internal/bytealg.IndexString", "internal/abi.NoEscape", "internal/bytealg.MakeNoZero"], unfollowed := true, recurses := true, named := ["hairsbreadth/format.table", "hairsbreadth/toint.ends", "unicode/utf8.first", "unicode/utf8.acceptRanges", "internal/bytealg.MaxLen", "hairsbreadth/flag.names", "internal/strconv.uint64pow10", "math/bits.deBruijn32tab", "math/bits.deBruijn64tab"], apart := false, laid := [("math/bits.deBruijn32tab", laid_math_bits_deBruijn32tab), ("math/bits.deBruijn64tab", laid_math_bits_deBruijn64tab), ("internal/strconv.uint64pow10", laid_internal_strconv_uint64pow10), ("unicode/utf8.acceptRanges", laid_unicode_utf8_acceptRanges), ("hairsbreadth/flag.names", laid_hairsbreadth_flag_names), ("hairsbreadth/format.table", laid_hairsbreadth_format_table), ("hairsbreadth/toint.ends", laid_hairsbreadth_toint_ends), ("unicode/utf8.first", laid_unicode_utf8_first)] }
def TopCloserSaid : Prop := topCloserRow.holds Tryz.pinned (OpenSpec.ofChange topCloserSpec)

/-- ITS FALSE NEIGHBOUR: 'it returns false'. Refute it at one input. -/
def topCloserWrong : ChangeSpec := { name := "topCloser", fn := fun _ => fun
  | [d1, d2, d3, d4, d5, d6, d7] => { results := [.lit (.bool false)], args := [d1, d2, d3, d4, d5, d6, d7] }
  | _ => none }
def TopCloserWrongFalsely : Prop := topCloserRow.holds Tryz.pinned (OpenSpec.ofChange topCloserWrong)

/-- 'hairsbreadthtop.TopModel': WHATEVER THE INPUT: true; the input reads as it did. -/
def topModelSpec : ChangeSpec := { name := "topModel", fn := fun _ => fun
  | [d] => { results := [.lit (.bool true)], args := [d] }
  | _ => none }
def topModelRow : OpenClaim := { program := "ytkbfmpomeejadaagreatdoor", sum := "e48207eafd96a75d0aeb59e5d9971cefb75487c44e4777103932f96275783430", func := "hairsbreadth/hairsbreadthtop.TopModel", spec := "topModel", inPlace := ["math/bits.Add64", "math/bits.Sub64", "internal/bytealg.CountString", "internal/bytealg.IndexByteString", "internal/bytealg.IndexString", "internal/abi.NoEscape", "internal/bytealg.MakeNoZero"], unfollowed := true, recurses := true, named := ["hairsbreadth/format.table", "hairsbreadth/toint.ends", "unicode/utf8.first", "unicode/utf8.acceptRanges", "internal/bytealg.MaxLen", "hairsbreadth/flag.names", "internal/strconv.uint64pow10", "math/bits.deBruijn32tab", "math/bits.deBruijn64tab"], apart := false, laid := [("math/bits.deBruijn32tab", laid_math_bits_deBruijn32tab), ("math/bits.deBruijn64tab", laid_math_bits_deBruijn64tab), ("internal/strconv.uint64pow10", laid_internal_strconv_uint64pow10), ("unicode/utf8.acceptRanges", laid_unicode_utf8_acceptRanges), ("hairsbreadth/flag.names", laid_hairsbreadth_flag_names), ("hairsbreadth/format.table", laid_hairsbreadth_format_table), ("hairsbreadth/toint.ends", laid_hairsbreadth_toint_ends), ("unicode/utf8.first", laid_unicode_utf8_first)] }
def TopModelSaid : Prop := topModelRow.holds Tryz.pinned (OpenSpec.ofChange topModelSpec)

/-- ITS FALSE NEIGHBOUR: 'it returns false'. Refute it at one input. -/
def topModelWrong : ChangeSpec := { name := "topModel", fn := fun _ => fun
  | [d] => { results := [.lit (.bool false)], args := [d] }
  | _ => none }
def TopModelWrongFalsely : Prop := topModelRow.holds Tryz.pinned (OpenSpec.ofChange topModelWrong)

/-- 'hairsbreadthlaw29.TableKeeps': WHATEVER THE INPUT: true; the input reads as it did. -/
def tableKeepsSpec : ChangeSpec := { name := "tableKeeps", fn := fun _ => fun
  | [d1, d2] => { results := [.lit (.bool true)], args := [d1, d2] }
  | _ => none }
def tableKeepsRow : OpenClaim := { program := "ytkbfmpomeejadaagreatdoor", sum := "e48207eafd96a75d0aeb59e5d9971cefb75487c44e4777103932f96275783430", func := "hairsbreadth/hairsbreadthlaw29.TableKeeps", spec := "tableKeeps", inPlace := ["math/bits.Add64", "math/bits.Sub64"], unfollowed := true, recurses := true, named := ["hairsbreadth/format.table", "hairsbreadth/toint.ends"], apart := false, laid := [("hairsbreadth/format.table", laid_hairsbreadth_format_table), ("hairsbreadth/toint.ends", laid_hairsbreadth_toint_ends)] }
def TableKeepsSaid : Prop := tableKeepsRow.holds Tryz.pinned (OpenSpec.ofChange tableKeepsSpec)

/-- ITS FALSE NEIGHBOUR: 'it returns false'. Refute it at one input. -/
def tableKeepsWrong : ChangeSpec := { name := "tableKeeps", fn := fun _ => fun
  | [d1, d2] => { results := [.lit (.bool false)], args := [d1, d2] }
  | _ => none }
def TableKeepsWrongFalsely : Prop := tableKeepsRow.holds Tryz.pinned (OpenSpec.ofChange tableKeepsWrong)

/-- 'hairsbreadthlaw29.TableRuns': WHATEVER THE INPUT: true; the input reads as it did. -/
def tableRunsSpec : ChangeSpec := { name := "tableRuns", fn := fun _ => fun
  | [d] => { results := [.lit (.bool true)], args := [d] }
  | _ => none }
def tableRunsRow : OpenClaim := { program := "ytkbfmpomeejadaagreatdoor", sum := "e48207eafd96a75d0aeb59e5d9971cefb75487c44e4777103932f96275783430", func := "hairsbreadth/hairsbreadthlaw29.TableRuns", spec := "tableRuns", inPlace := ["math/bits.Add64", "math/bits.Sub64"], unfollowed := true, recurses := true, named := ["hairsbreadth/format.table", "hairsbreadth/toint.ends"], apart := false, laid := [("hairsbreadth/format.table", laid_hairsbreadth_format_table), ("hairsbreadth/toint.ends", laid_hairsbreadth_toint_ends)] }
def TableRunsSaid : Prop := tableRunsRow.holds Tryz.pinned (OpenSpec.ofChange tableRunsSpec)

/-- ITS FALSE NEIGHBOUR: 'it returns false'. Refute it at one input. -/
def tableRunsWrong : ChangeSpec := { name := "tableRuns", fn := fun _ => fun
  | [d] => { results := [.lit (.bool false)], args := [d] }
  | _ => none }
def TableRunsWrongFalsely : Prop := tableRunsRow.holds Tryz.pinned (OpenSpec.ofChange tableRunsWrong)

/-- 'hairsbreadthlaw30.ScriptRuns': WHATEVER THE INPUT: true; the input reads as it did. -/
def scriptRunsSpec : ChangeSpec := { name := "scriptRuns", fn := fun _ => fun
  | [d] => { results := [.lit (.bool true)], args := [d] }
  | _ => none }
def scriptRunsRow : OpenClaim := { program := "ytkbfmpomeejadaagreatdoor", sum := "e48207eafd96a75d0aeb59e5d9971cefb75487c44e4777103932f96275783430", func := "hairsbreadth/hairsbreadthlaw30.ScriptRuns", spec := "scriptRuns", inPlace := ["internal/bytealg.CountString", "internal/bytealg.IndexByteString", "internal/bytealg.IndexString", "math/bits.Add64", "math/bits.Sub64", "internal/abi.NoEscape", "internal/bytealg.MakeNoZero"], unfollowed := true, recurses := true, named := ["unicode/utf8.first", "unicode/utf8.acceptRanges", "internal/bytealg.MaxLen", "hairsbreadth/format.table", "hairsbreadth/toint.ends", "hairsbreadth/flag.names", "internal/strconv.uint64pow10", "math/bits.deBruijn32tab", "math/bits.deBruijn64tab"], apart := false, laid := [("math/bits.deBruijn32tab", laid_math_bits_deBruijn32tab), ("math/bits.deBruijn64tab", laid_math_bits_deBruijn64tab), ("internal/strconv.uint64pow10", laid_internal_strconv_uint64pow10), ("unicode/utf8.acceptRanges", laid_unicode_utf8_acceptRanges), ("hairsbreadth/flag.names", laid_hairsbreadth_flag_names), ("hairsbreadth/format.table", laid_hairsbreadth_format_table), ("hairsbreadth/toint.ends", laid_hairsbreadth_toint_ends), ("unicode/utf8.first", laid_unicode_utf8_first)] }
def ScriptRunsSaid : Prop := scriptRunsRow.holds Tryz.pinned (OpenSpec.ofChange scriptRunsSpec)

/-- ITS FALSE NEIGHBOUR: 'it returns false'. Refute it at one input. -/
def scriptRunsWrong : ChangeSpec := { name := "scriptRuns", fn := fun _ => fun
  | [d] => { results := [.lit (.bool false)], args := [d] }
  | _ => none }
def ScriptRunsWrongFalsely : Prop := scriptRunsRow.holds Tryz.pinned (OpenSpec.ofChange scriptRunsWrong)

/- THE SECOND FORM. 'bulk': how many values and letters a reading holds, each counted each time it is reached (what is shared counts as often as it is met; a slice's spare places count too). A statement '..UptoSaid' is the law's where the arguments, and the package variables that the reading takes, are together of bulk at most 1048576: NARROWER than '..Said'. Prove '..Said' where nothing that the law and all that it calls make is longer than what came in: it says more and counts as full. Else prove '..UptoSaid'. A law counts once. -/
mutual
def uptoBulk {H : Type} : DataW H → Nat
  | .lit (.string bytes) => bytes.length + 1
  | .lit _ => 1
  | .nil => 1
  | .ptr d => uptoBulk d + 1
  | .slice elems spare => uptoBulkAll elems + uptoBulkAll spare + 1
  | .agg parts => uptoBulkAll parts + 1
  | .iface _ d => uptoBulk d + 1
  | .map entries => uptoBulkEntries entries + 1
  | .held _ => 1
def uptoBulkAll {H : Type} : List (DataW H) → Nat
  | [] => 0
  | d :: r => uptoBulk d + uptoBulkAll r
def uptoBulkEntries {H : Type} : List (Lit × DataW H) → Nat
  | [] => 0
  | x :: r => uptoBulkEntry x + uptoBulkEntries r
def uptoBulkEntry {H : Type} : Lit × DataW H → Nat
  | (.string bytes, d) => bytes.length + uptoBulk d + 1
  | (_, d) => uptoBulk d + 1
 end
def uptoSmall : (H : Type) → List (DataW H) → Bool := fun _ ds => decide (uptoBulkAll ds ≤ 1048576)
def OpenSpec.upto (s : _root_.Go.ChangeSpec) : _root_.Go.OpenSpec := { _root_.Go.OpenSpec.ofChange s with cond := some uptoSmall }

/-- 'hairsbreadthlaw23.RemAll', WHERE WHAT IT READS IS OF BULK AT MOST 1048576: true; the input reads as it did. -/
def remAllUptoRow : OpenClaim := { program := "ytkbfmpomeejadaagreatdoor", sum := "e48207eafd96a75d0aeb59e5d9971cefb75487c44e4777103932f96275783430", func := "hairsbreadth/hairsbreadthlaw23.RemAll", spec := "remAll", inPlace := ["math/bits.Add64", "math/bits.Sub64"], unfollowed := true, recurses := true, named := ["hairsbreadth/format.table"], apart := false, laid := [("hairsbreadth/format.table", laid_hairsbreadth_format_table)], narrowed := true }
def RemAllUptoSaid : Prop := remAllUptoRow.holds Tryz.pinned (OpenSpec.upto remAllSpec)

/-- 'hairsbreadthtop.TopCloser', WHERE WHAT IT READS IS OF BULK AT MOST 1048576: true; the input reads as it did. -/
def topCloserUptoRow : OpenClaim := { program := "ytkbfmpomeejadaagreatdoor", sum := "e48207eafd96a75d0aeb59e5d9971cefb75487c44e4777103932f96275783430", func := "hairsbreadth/hairsbreadthtop.TopCloser", spec := "topCloser", inPlace := ["math/bits.Add64", "math/bits.Sub64", "internal/bytealg.CountString", "internal/bytealg.IndexByteString", "internal/bytealg.IndexString", "internal/abi.NoEscape", "internal/bytealg.MakeNoZero"], unfollowed := true, recurses := true, named := ["hairsbreadth/format.table", "hairsbreadth/toint.ends", "unicode/utf8.first", "unicode/utf8.acceptRanges", "internal/bytealg.MaxLen", "hairsbreadth/flag.names", "internal/strconv.uint64pow10", "math/bits.deBruijn32tab", "math/bits.deBruijn64tab"], apart := false, laid := [("math/bits.deBruijn32tab", laid_math_bits_deBruijn32tab), ("math/bits.deBruijn64tab", laid_math_bits_deBruijn64tab), ("internal/strconv.uint64pow10", laid_internal_strconv_uint64pow10), ("unicode/utf8.acceptRanges", laid_unicode_utf8_acceptRanges), ("hairsbreadth/flag.names", laid_hairsbreadth_flag_names), ("hairsbreadth/format.table", laid_hairsbreadth_format_table), ("hairsbreadth/toint.ends", laid_hairsbreadth_toint_ends), ("unicode/utf8.first", laid_unicode_utf8_first)], narrowed := true }
def TopCloserUptoSaid : Prop := topCloserUptoRow.holds Tryz.pinned (OpenSpec.upto topCloserSpec)

/-- 'hairsbreadthtop.TopModel', WHERE WHAT IT READS IS OF BULK AT MOST 1048576: true; the input reads as it did. -/
def topModelUptoRow : OpenClaim := { program := "ytkbfmpomeejadaagreatdoor", sum := "e48207eafd96a75d0aeb59e5d9971cefb75487c44e4777103932f96275783430", func := "hairsbreadth/hairsbreadthtop.TopModel", spec := "topModel", inPlace := ["math/bits.Add64", "math/bits.Sub64", "internal/bytealg.CountString", "internal/bytealg.IndexByteString", "internal/bytealg.IndexString", "internal/abi.NoEscape", "internal/bytealg.MakeNoZero"], unfollowed := true, recurses := true, named := ["hairsbreadth/format.table", "hairsbreadth/toint.ends", "unicode/utf8.first", "unicode/utf8.acceptRanges", "internal/bytealg.MaxLen", "hairsbreadth/flag.names", "internal/strconv.uint64pow10", "math/bits.deBruijn32tab", "math/bits.deBruijn64tab"], apart := false, laid := [("math/bits.deBruijn32tab", laid_math_bits_deBruijn32tab), ("math/bits.deBruijn64tab", laid_math_bits_deBruijn64tab), ("internal/strconv.uint64pow10", laid_internal_strconv_uint64pow10), ("unicode/utf8.acceptRanges", laid_unicode_utf8_acceptRanges), ("hairsbreadth/flag.names", laid_hairsbreadth_flag_names), ("hairsbreadth/format.table", laid_hairsbreadth_format_table), ("hairsbreadth/toint.ends", laid_hairsbreadth_toint_ends), ("unicode/utf8.first", laid_unicode_utf8_first)], narrowed := true }
def TopModelUptoSaid : Prop := topModelUptoRow.holds Tryz.pinned (OpenSpec.upto topModelSpec)

/-- 'hairsbreadthlaw29.TableKeeps', WHERE WHAT IT READS IS OF BULK AT MOST 1048576: true; the input reads as it did. -/
def tableKeepsUptoRow : OpenClaim := { program := "ytkbfmpomeejadaagreatdoor", sum := "e48207eafd96a75d0aeb59e5d9971cefb75487c44e4777103932f96275783430", func := "hairsbreadth/hairsbreadthlaw29.TableKeeps", spec := "tableKeeps", inPlace := ["math/bits.Add64", "math/bits.Sub64"], unfollowed := true, recurses := true, named := ["hairsbreadth/format.table", "hairsbreadth/toint.ends"], apart := false, laid := [("hairsbreadth/format.table", laid_hairsbreadth_format_table), ("hairsbreadth/toint.ends", laid_hairsbreadth_toint_ends)], narrowed := true }
def TableKeepsUptoSaid : Prop := tableKeepsUptoRow.holds Tryz.pinned (OpenSpec.upto tableKeepsSpec)

/-- 'hairsbreadthlaw29.TableRuns', WHERE WHAT IT READS IS OF BULK AT MOST 1048576: true; the input reads as it did. -/
def tableRunsUptoRow : OpenClaim := { program := "ytkbfmpomeejadaagreatdoor", sum := "e48207eafd96a75d0aeb59e5d9971cefb75487c44e4777103932f96275783430", func := "hairsbreadth/hairsbreadthlaw29.TableRuns", spec := "tableRuns", inPlace := ["math/bits.Add64", "math/bits.Sub64"], unfollowed := true, recurses := true, named := ["hairsbreadth/format.table", "hairsbreadth/toint.ends"], apart := false, laid := [("hairsbreadth/format.table", laid_hairsbreadth_format_table), ("hairsbreadth/toint.ends", laid_hairsbreadth_toint_ends)], narrowed := true }
def TableRunsUptoSaid : Prop := tableRunsUptoRow.holds Tryz.pinned (OpenSpec.upto tableRunsSpec)

/-- 'hairsbreadthlaw30.ScriptRuns', WHERE WHAT IT READS IS OF BULK AT MOST 1048576: true; the input reads as it did. -/
def scriptRunsUptoRow : OpenClaim := { program := "ytkbfmpomeejadaagreatdoor", sum := "e48207eafd96a75d0aeb59e5d9971cefb75487c44e4777103932f96275783430", func := "hairsbreadth/hairsbreadthlaw30.ScriptRuns", spec := "scriptRuns", inPlace := ["internal/bytealg.CountString", "internal/bytealg.IndexByteString", "internal/bytealg.IndexString", "math/bits.Add64", "math/bits.Sub64", "internal/abi.NoEscape", "internal/bytealg.MakeNoZero"], unfollowed := true, recurses := true, named := ["unicode/utf8.first", "unicode/utf8.acceptRanges", "internal/bytealg.MaxLen", "hairsbreadth/format.table", "hairsbreadth/toint.ends", "hairsbreadth/flag.names", "internal/strconv.uint64pow10", "math/bits.deBruijn32tab", "math/bits.deBruijn64tab"], apart := false, laid := [("math/bits.deBruijn32tab", laid_math_bits_deBruijn32tab), ("math/bits.deBruijn64tab", laid_math_bits_deBruijn64tab), ("internal/strconv.uint64pow10", laid_internal_strconv_uint64pow10), ("unicode/utf8.acceptRanges", laid_unicode_utf8_acceptRanges), ("hairsbreadth/flag.names", laid_hairsbreadth_flag_names), ("hairsbreadth/format.table", laid_hairsbreadth_format_table), ("hairsbreadth/toint.ends", laid_hairsbreadth_toint_ends), ("unicode/utf8.first", laid_unicode_utf8_first)], narrowed := true }
def ScriptRunsUptoSaid : Prop := scriptRunsUptoRow.holds Tryz.pinned (OpenSpec.upto scriptRunsSpec)

end Rows
end Go.Proofs.YtkbfmpomeejadaaGreatDoor
