/-
  NARROWER THAN 'FOR EVERY INPUT', by the rows' own cells (each row's printed sentence says how): TagPrints: laid · TagWords: laid · TagOnes: laid · TagRefuses: calm, laid · TagNormal: calm, laid.
  DERIVED. THE GIVEN ROWS OF THIS SEAT. 5 by the template 'for every input the law returns true; each argument reads behind the call as it read before'; 0 by the template 'total and deterministic' (their statements: YtogcepiofpmabaaGreatDoorTotals.lean).
  GIVEN WITH THE SEED: the statements are not yours to turn. If you find one false, say at which input.
  Laid BY PROGRAM, IN A SANDBOX (cutbox-rows.mjs): the forced cells as the released guide's own fill.sh prints them over the translation a9c5b69c868adc0a… (all of the seat's roots in one cut). By AI agents, Wed Nov 11 2026. No macro, syntax, notation, axiom, sorry.
-/
import Derived.Test.YtogcepiofpmabaaGreatDoorChecked
import GoSem.PinnedTables
import GoSem.Claim
import GoSem.ClaimJoined
import GoSem.ClaimMapViews
import Derived.JoinedTies
import Derived.KernelRfl
namespace Go.Proofs.YtogcepiofpmabaaGreatDoor
/- THE CELL 'sum', in the pinned program and in every row, IS THE sha256 OF THE DUMP (.gsa) THAT YtogcepiofpmabaaGreatDoorProg.lean LOADS. Nothing in Lean hashes anything: it is a label: what it is worth is what the hold of that sum in a sandbox is worth. -/
noncomputable def Tryz.pinned : Pinned := { name := "ytogcepiofpmabaagreatdoor", sum := "a9c5b69c868adc0ad7245a84f2699aadb9ee7fb7d3dffad7bc1cbd628d3cae15", checked := Tryz.checked }
namespace Rows
def none {H : Type} : Left H := { results := [], args := [] }

/- WHAT THE LISTED PACKAGE-LEVEL VARIABLES READ AS WHEN THE CALL BEGINS. Each datum BY PROGRAM (the guide's laid-datum.mjs) off the statement by which the dump's own 'gosem.cut.vars' lays the variable. In a bare row this is a premise. The card (YtogcepiofpmabaaGreatDoorCards.lean) ties it to the program's text. -/
def laid_math_bits_deBruijn32tab {H : Type} : DataW H := .agg [.lit (.int .u8 0), .lit (.int .u8 1), .lit (.int .u8 28), .lit (.int .u8 2), .lit (.int .u8 29), .lit (.int .u8 14), .lit (.int .u8 24), .lit (.int .u8 3), .lit (.int .u8 30), .lit (.int .u8 22), .lit (.int .u8 20), .lit (.int .u8 15), .lit (.int .u8 25), .lit (.int .u8 17), .lit (.int .u8 4), .lit (.int .u8 8), .lit (.int .u8 31), .lit (.int .u8 27), .lit (.int .u8 13), .lit (.int .u8 23), .lit (.int .u8 21), .lit (.int .u8 19), .lit (.int .u8 16), .lit (.int .u8 7), .lit (.int .u8 26), .lit (.int .u8 12), .lit (.int .u8 18), .lit (.int .u8 6), .lit (.int .u8 11), .lit (.int .u8 5), .lit (.int .u8 10), .lit (.int .u8 9)]
def laid_math_bits_deBruijn64tab {H : Type} : DataW H := .agg [.lit (.int .u8 0), .lit (.int .u8 1), .lit (.int .u8 56), .lit (.int .u8 2), .lit (.int .u8 57), .lit (.int .u8 49), .lit (.int .u8 28), .lit (.int .u8 3), .lit (.int .u8 61), .lit (.int .u8 58), .lit (.int .u8 42), .lit (.int .u8 50), .lit (.int .u8 38), .lit (.int .u8 29), .lit (.int .u8 17), .lit (.int .u8 4), .lit (.int .u8 62), .lit (.int .u8 47), .lit (.int .u8 59), .lit (.int .u8 36), .lit (.int .u8 45), .lit (.int .u8 43), .lit (.int .u8 51), .lit (.int .u8 22), .lit (.int .u8 53), .lit (.int .u8 39), .lit (.int .u8 33), .lit (.int .u8 30), .lit (.int .u8 24), .lit (.int .u8 18), .lit (.int .u8 12), .lit (.int .u8 5), .lit (.int .u8 63), .lit (.int .u8 55), .lit (.int .u8 48), .lit (.int .u8 27), .lit (.int .u8 60), .lit (.int .u8 41), .lit (.int .u8 37), .lit (.int .u8 16), .lit (.int .u8 46), .lit (.int .u8 35), .lit (.int .u8 44), .lit (.int .u8 21), .lit (.int .u8 52), .lit (.int .u8 32), .lit (.int .u8 23), .lit (.int .u8 11), .lit (.int .u8 54), .lit (.int .u8 26), .lit (.int .u8 40), .lit (.int .u8 15), .lit (.int .u8 34), .lit (.int .u8 20), .lit (.int .u8 31), .lit (.int .u8 10), .lit (.int .u8 25), .lit (.int .u8 14), .lit (.int .u8 19), .lit (.int .u8 9), .lit (.int .u8 13), .lit (.int .u8 8), .lit (.int .u8 7), .lit (.int .u8 6)]
def laid_internal_strconv_uint64pow10 {H : Type} : DataW H := .agg [.lit (.int .u64 1), .lit (.int .u64 10), .lit (.int .u64 100), .lit (.int .u64 1000), .lit (.int .u64 10000), .lit (.int .u64 100000), .lit (.int .u64 1000000), .lit (.int .u64 10000000), .lit (.int .u64 100000000), .lit (.int .u64 1000000000), .lit (.int .u64 10000000000), .lit (.int .u64 100000000000), .lit (.int .u64 1000000000000), .lit (.int .u64 10000000000000), .lit (.int .u64 100000000000000), .lit (.int .u64 1000000000000000), .lit (.int .u64 10000000000000000), .lit (.int .u64 100000000000000000), .lit (.int .u64 1000000000000000000), .lit (.int .u64 10000000000000000000)]
def laid_unicode_utf8_acceptRanges {H : Type} : DataW H := .agg [.agg [.lit (.int .u8 128), .lit (.int .u8 191)], .agg [.lit (.int .u8 160), .lit (.int .u8 191)], .agg [.lit (.int .u8 128), .lit (.int .u8 159)], .agg [.lit (.int .u8 144), .lit (.int .u8 191)], .agg [.lit (.int .u8 128), .lit (.int .u8 143)], .agg [.lit (.int .u8 0), .lit (.int .u8 0)], .agg [.lit (.int .u8 0), .lit (.int .u8 0)], .agg [.lit (.int .u8 0), .lit (.int .u8 0)], .agg [.lit (.int .u8 0), .lit (.int .u8 0)], .agg [.lit (.int .u8 0), .lit (.int .u8 0)], .agg [.lit (.int .u8 0), .lit (.int .u8 0)], .agg [.lit (.int .u8 0), .lit (.int .u8 0)], .agg [.lit (.int .u8 0), .lit (.int .u8 0)], .agg [.lit (.int .u8 0), .lit (.int .u8 0)], .agg [.lit (.int .u8 0), .lit (.int .u8 0)], .agg [.lit (.int .u8 0), .lit (.int .u8 0)]]
def laid_strconv_ErrRange {H : Type} : DataW H := .iface "*errors.errorString" (.ptr (.agg [.lit (.string [118, 97, 108, 117, 101, 32, 111, 117, 116, 32, 111, 102, 32, 114, 97, 110, 103, 101])]))
def laid_strconv_ErrSyntax {H : Type} : DataW H := .iface "*errors.errorString" (.ptr (.agg [.lit (.string [105, 110, 118, 97, 108, 105, 100, 32, 115, 121, 110, 116, 97, 120])]))
def laid_tempo_fen_letters {H : Type} : DataW H := .agg [.agg [.lit (.int .i64 1), .lit (.string [75])], .agg [.lit (.int .i64 2), .lit (.string [81])], .agg [.lit (.int .i64 4), .lit (.string [107])], .agg [.lit (.int .i64 8), .lit (.string [113])]]
def laid_tempo_tag_roster {H : Type} : DataW H := .agg [.agg [.lit (.string [69, 118, 101, 110, 116]), .lit (.string [63])], .agg [.lit (.string [83, 105, 116, 101]), .lit (.string [63])], .agg [.lit (.string [68, 97, 116, 101]), .lit (.string [63, 63, 63, 63, 46, 63, 63, 46, 63, 63])], .agg [.lit (.string [82, 111, 117, 110, 100]), .lit (.string [63])], .agg [.lit (.string [87, 104, 105, 116, 101]), .lit (.string [63])], .agg [.lit (.string [66, 108, 97, 99, 107]), .lit (.string [63])], .agg [.lit (.string [82, 101, 115, 117, 108, 116]), .lit (.string [])]]
def laid_tempo_tag_results {H : Type} : DataW H := .agg [.lit (.string [42]), .lit (.string [49, 45, 48]), .lit (.string [48, 45, 49]), .lit (.string [49, 47, 50, 45, 49, 47, 50])]
/-- One of Go's own tables, pinned by name: the form's constant. -/
def laid_unicode_utf8_first : DataW Unit := Go.Pinned.utf8First

/-- 'tempolaw24.TagPrints': WHATEVER THE INPUT: true; the input reads as it did. -/
def tagPrintsSpec : ChangeSpec := { name := "tagPrints", fn := fun _ => fun
  | [d1, d2] => { results := [.lit (.bool true)], args := [d1, d2] }
  | _ => none }
def tagPrintsRow : OpenClaim := { program := "ytogcepiofpmabaagreatdoor", sum := "a9c5b69c868adc0ad7245a84f2699aadb9ee7fb7d3dffad7bc1cbd628d3cae15", func := "tempo/tempolaw24.TagPrints", spec := "tagPrints", inPlace := ["internal/bytealg.CountString", "internal/bytealg.IndexByteString", "internal/bytealg.IndexString", "internal/abi.NoEscape", "internal/bytealg.MakeNoZero", "math.archTrunc", "math.Float64bits", "math.Float64frombits"], unfollowed := true, recurses := true, named := ["internal/bytealg.MaxLen", "unicode/utf8.first", "unicode/utf8.acceptRanges", "tempo/tag.roster", "tempo/tag.results", "internal/strconv.uint64pow10", "math/bits.deBruijn32tab", "math/bits.deBruijn64tab", "tempo/fen.letters", "strconv.ErrSyntax", "strconv.ErrRange", "tempo/gauss.steps"], apart := false, laid := [("math/bits.deBruijn32tab", laid_math_bits_deBruijn32tab), ("math/bits.deBruijn64tab", laid_math_bits_deBruijn64tab), ("internal/strconv.uint64pow10", laid_internal_strconv_uint64pow10), ("unicode/utf8.acceptRanges", laid_unicode_utf8_acceptRanges), ("strconv.ErrRange", laid_strconv_ErrRange), ("strconv.ErrSyntax", laid_strconv_ErrSyntax), ("tempo/fen.letters", laid_tempo_fen_letters), ("tempo/tag.roster", laid_tempo_tag_roster), ("tempo/tag.results", laid_tempo_tag_results), ("unicode/utf8.first", laid_unicode_utf8_first)] }
def TagPrintsSaid : Prop := tagPrintsRow.holds Tryz.pinned (OpenSpec.ofChange tagPrintsSpec)

/-- ITS FALSE NEIGHBOUR: 'it returns false'. Refute it at one input. -/
def tagPrintsWrong : ChangeSpec := { name := "tagPrints", fn := fun _ => fun
  | [d1, d2] => { results := [.lit (.bool false)], args := [d1, d2] }
  | _ => none }
def TagPrintsWrongFalsely : Prop := tagPrintsRow.holds Tryz.pinned (OpenSpec.ofChange tagPrintsWrong)

/-- 'tempolaw24.TagWords': WHATEVER THE INPUT: true; the input reads as it did. -/
def tagWordsSpec : ChangeSpec := { name := "tagWords", fn := fun _ => fun
  | [d1, d2] => { results := [.lit (.bool true)], args := [d1, d2] }
  | _ => none }
def tagWordsRow : OpenClaim := { program := "ytogcepiofpmabaagreatdoor", sum := "a9c5b69c868adc0ad7245a84f2699aadb9ee7fb7d3dffad7bc1cbd628d3cae15", func := "tempo/tempolaw24.TagWords", spec := "tagWords", inPlace := ["internal/bytealg.CountString", "internal/bytealg.IndexByteString", "internal/bytealg.IndexString", "internal/abi.NoEscape", "internal/bytealg.MakeNoZero", "math.archTrunc", "math.Float64bits", "math.Float64frombits"], unfollowed := true, recurses := true, named := ["internal/bytealg.MaxLen", "unicode/utf8.first", "unicode/utf8.acceptRanges", "tempo/tag.roster", "tempo/tag.results", "internal/strconv.uint64pow10", "math/bits.deBruijn32tab", "math/bits.deBruijn64tab", "tempo/fen.letters", "strconv.ErrSyntax", "strconv.ErrRange", "tempo/gauss.steps"], apart := false, laid := [("math/bits.deBruijn32tab", laid_math_bits_deBruijn32tab), ("math/bits.deBruijn64tab", laid_math_bits_deBruijn64tab), ("internal/strconv.uint64pow10", laid_internal_strconv_uint64pow10), ("unicode/utf8.acceptRanges", laid_unicode_utf8_acceptRanges), ("strconv.ErrRange", laid_strconv_ErrRange), ("strconv.ErrSyntax", laid_strconv_ErrSyntax), ("tempo/fen.letters", laid_tempo_fen_letters), ("tempo/tag.roster", laid_tempo_tag_roster), ("tempo/tag.results", laid_tempo_tag_results), ("unicode/utf8.first", laid_unicode_utf8_first)] }
def TagWordsSaid : Prop := tagWordsRow.holds Tryz.pinned (OpenSpec.ofChange tagWordsSpec)

/-- ITS FALSE NEIGHBOUR: 'it returns false'. Refute it at one input. -/
def tagWordsWrong : ChangeSpec := { name := "tagWords", fn := fun _ => fun
  | [d1, d2] => { results := [.lit (.bool false)], args := [d1, d2] }
  | _ => none }
def TagWordsWrongFalsely : Prop := tagWordsRow.holds Tryz.pinned (OpenSpec.ofChange tagWordsWrong)

/-- 'tempolaw24.TagOnes': WHATEVER THE INPUT: true; the input reads as it did. -/
def tagOnesSpec : ChangeSpec := { name := "tagOnes", fn := fun _ => fun
  | [d1, d2, d3] => { results := [.lit (.bool true)], args := [d1, d2, d3] }
  | _ => none }
def tagOnesRow : OpenClaim := { program := "ytogcepiofpmabaagreatdoor", sum := "a9c5b69c868adc0ad7245a84f2699aadb9ee7fb7d3dffad7bc1cbd628d3cae15", func := "tempo/tempolaw24.TagOnes", spec := "tagOnes", inPlace := ["internal/bytealg.CountString", "internal/bytealg.IndexByteString", "internal/bytealg.IndexString", "internal/abi.NoEscape", "internal/bytealg.MakeNoZero", "math.archTrunc", "math.Float64bits", "math.Float64frombits"], unfollowed := true, recurses := true, named := ["internal/bytealg.MaxLen", "unicode/utf8.first", "unicode/utf8.acceptRanges", "tempo/tag.roster", "tempo/tag.results", "internal/strconv.uint64pow10", "math/bits.deBruijn32tab", "math/bits.deBruijn64tab", "tempo/fen.letters", "strconv.ErrSyntax", "strconv.ErrRange", "tempo/gauss.steps"], apart := false, laid := [("math/bits.deBruijn32tab", laid_math_bits_deBruijn32tab), ("math/bits.deBruijn64tab", laid_math_bits_deBruijn64tab), ("internal/strconv.uint64pow10", laid_internal_strconv_uint64pow10), ("unicode/utf8.acceptRanges", laid_unicode_utf8_acceptRanges), ("strconv.ErrRange", laid_strconv_ErrRange), ("strconv.ErrSyntax", laid_strconv_ErrSyntax), ("tempo/fen.letters", laid_tempo_fen_letters), ("tempo/tag.roster", laid_tempo_tag_roster), ("tempo/tag.results", laid_tempo_tag_results), ("unicode/utf8.first", laid_unicode_utf8_first)] }
def TagOnesSaid : Prop := tagOnesRow.holds Tryz.pinned (OpenSpec.ofChange tagOnesSpec)

/-- ITS FALSE NEIGHBOUR: 'it returns false'. Refute it at one input. -/
def tagOnesWrong : ChangeSpec := { name := "tagOnes", fn := fun _ => fun
  | [d1, d2, d3] => { results := [.lit (.bool false)], args := [d1, d2, d3] }
  | _ => none }
def TagOnesWrongFalsely : Prop := tagOnesRow.holds Tryz.pinned (OpenSpec.ofChange tagOnesWrong)

/-- 'tempolaw24.TagRefuses': WHATEVER THE INPUT: true; the input reads as it did. -/
def tagRefusesSpec : ChangeSpec := { name := "tagRefuses", fn := fun _ => fun
  | [d1, d2, d3, d4] => { results := [.lit (.bool true)], args := [d1, d2, d3, d4] }
  | _ => none }
def tagRefusesRow : OpenClaim := { program := "ytogcepiofpmabaagreatdoor", sum := "a9c5b69c868adc0ad7245a84f2699aadb9ee7fb7d3dffad7bc1cbd628d3cae15", func := "tempo/tempolaw24.TagRefuses", spec := "tagRefuses", inPlace := ["internal/bytealg.CountString", "internal/bytealg.IndexByteString", "internal/bytealg.IndexString", "internal/abi.NoEscape", "internal/bytealg.MakeNoZero", "math.archTrunc", "math.Float64bits", "math.Float64frombits"], unfollowed := true, recurses := true, named := ["internal/bytealg.MaxLen", "unicode/utf8.first", "unicode/utf8.acceptRanges", "tempo/tag.roster", "tempo/tag.results", "internal/strconv.uint64pow10", "math/bits.deBruijn32tab", "math/bits.deBruijn64tab", "tempo/fen.letters", "strconv.ErrSyntax", "strconv.ErrRange", "tempo/gauss.steps"], apart := false, calm := true, outside := [.timePasses], laid := [("math/bits.deBruijn32tab", laid_math_bits_deBruijn32tab), ("math/bits.deBruijn64tab", laid_math_bits_deBruijn64tab), ("internal/strconv.uint64pow10", laid_internal_strconv_uint64pow10), ("unicode/utf8.acceptRanges", laid_unicode_utf8_acceptRanges), ("strconv.ErrRange", laid_strconv_ErrRange), ("strconv.ErrSyntax", laid_strconv_ErrSyntax), ("tempo/fen.letters", laid_tempo_fen_letters), ("tempo/tag.roster", laid_tempo_tag_roster), ("tempo/tag.results", laid_tempo_tag_results), ("unicode/utf8.first", laid_unicode_utf8_first)] }
def TagRefusesSaid : Prop := tagRefusesRow.holds Tryz.pinned (OpenSpec.ofChange tagRefusesSpec)

/-- ITS FALSE NEIGHBOUR: 'it returns false'. Refute it at one input. -/
def tagRefusesWrong : ChangeSpec := { name := "tagRefuses", fn := fun _ => fun
  | [d1, d2, d3, d4] => { results := [.lit (.bool false)], args := [d1, d2, d3, d4] }
  | _ => none }
def TagRefusesWrongFalsely : Prop := tagRefusesRow.holds Tryz.pinned (OpenSpec.ofChange tagRefusesWrong)

/-- 'tempolaw24.TagNormal': WHATEVER THE INPUT: true; the input reads as it did. -/
def tagNormalSpec : ChangeSpec := { name := "tagNormal", fn := fun _ => fun
  | [d1, d2, d3, d4] => { results := [.lit (.bool true)], args := [d1, d2, d3, d4] }
  | _ => none }
def tagNormalRow : OpenClaim := { program := "ytogcepiofpmabaagreatdoor", sum := "a9c5b69c868adc0ad7245a84f2699aadb9ee7fb7d3dffad7bc1cbd628d3cae15", func := "tempo/tempolaw24.TagNormal", spec := "tagNormal", inPlace := ["internal/bytealg.CountString", "internal/bytealg.IndexByteString", "internal/bytealg.IndexString", "internal/abi.NoEscape", "internal/bytealg.MakeNoZero", "math.archTrunc", "math.Float64bits", "math.Float64frombits"], unfollowed := true, recurses := true, named := ["internal/bytealg.MaxLen", "unicode/utf8.first", "unicode/utf8.acceptRanges", "tempo/tag.roster", "tempo/tag.results", "internal/strconv.uint64pow10", "math/bits.deBruijn32tab", "math/bits.deBruijn64tab", "tempo/fen.letters", "strconv.ErrSyntax", "strconv.ErrRange", "tempo/gauss.steps"], apart := false, calm := true, outside := [.timePasses], laid := [("math/bits.deBruijn32tab", laid_math_bits_deBruijn32tab), ("math/bits.deBruijn64tab", laid_math_bits_deBruijn64tab), ("internal/strconv.uint64pow10", laid_internal_strconv_uint64pow10), ("unicode/utf8.acceptRanges", laid_unicode_utf8_acceptRanges), ("strconv.ErrRange", laid_strconv_ErrRange), ("strconv.ErrSyntax", laid_strconv_ErrSyntax), ("tempo/fen.letters", laid_tempo_fen_letters), ("tempo/tag.roster", laid_tempo_tag_roster), ("tempo/tag.results", laid_tempo_tag_results), ("unicode/utf8.first", laid_unicode_utf8_first)] }
def TagNormalSaid : Prop := tagNormalRow.holds Tryz.pinned (OpenSpec.ofChange tagNormalSpec)

/-- ITS FALSE NEIGHBOUR: 'it returns false'. Refute it at one input. -/
def tagNormalWrong : ChangeSpec := { name := "tagNormal", fn := fun _ => fun
  | [d1, d2, d3, d4] => { results := [.lit (.bool false)], args := [d1, d2, d3, d4] }
  | _ => none }
def TagNormalWrongFalsely : Prop := tagNormalRow.holds Tryz.pinned (OpenSpec.ofChange tagNormalWrong)

/- THE SECOND FORM. 'bulk': how many values and letters a reading holds, each counted each time it is reached (what is shared counts as often as it is met; a slice's spare places count too). A statement '..UptoSaid' is the law's where the arguments, and the package variables that the reading takes, are together of bulk at most 1048576: NARROWER than '..Said'. Prove '..Said' where nothing that the law and all that it calls make is longer than what came in: it says more and counts as full. Else prove '..UptoSaid'. A law counts once. -/
mutual
def uptoBulk {H : Type} : DataW H → Nat
  | .lit (.string bytes) => bytes.length + 1
  | .lit _ => 1
  | .nil => 1
  | .ptr d => uptoBulk d + 1
  | .slice elems spare => uptoBulkAll elems + uptoBulkAll spare + 1
  | .agg parts => uptoBulkAll parts + 1
  | .iface _ d => uptoBulk d + 1
  | .map entries => uptoBulkEntries entries + 1
  | .held _ => 1
def uptoBulkAll {H : Type} : List (DataW H) → Nat
  | [] => 0
  | d :: r => uptoBulk d + uptoBulkAll r
def uptoBulkEntries {H : Type} : List (Lit × DataW H) → Nat
  | [] => 0
  | x :: r => uptoBulkEntry x + uptoBulkEntries r
def uptoBulkEntry {H : Type} : Lit × DataW H → Nat
  | (.string bytes, d) => bytes.length + uptoBulk d + 1
  | (_, d) => uptoBulk d + 1
 end
def uptoSmall : (H : Type) → List (DataW H) → Bool := fun _ ds => decide (uptoBulkAll ds ≤ 1048576)
def OpenSpec.upto (s : _root_.Go.ChangeSpec) : _root_.Go.OpenSpec := { _root_.Go.OpenSpec.ofChange s with cond := some uptoSmall }

/-- 'tempolaw24.TagPrints', WHERE WHAT IT READS IS OF BULK AT MOST 1048576: true; the input reads as it did. -/
def tagPrintsUptoRow : OpenClaim := { program := "ytogcepiofpmabaagreatdoor", sum := "a9c5b69c868adc0ad7245a84f2699aadb9ee7fb7d3dffad7bc1cbd628d3cae15", func := "tempo/tempolaw24.TagPrints", spec := "tagPrints", inPlace := ["internal/bytealg.CountString", "internal/bytealg.IndexByteString", "internal/bytealg.IndexString", "internal/abi.NoEscape", "internal/bytealg.MakeNoZero", "math.archTrunc", "math.Float64bits", "math.Float64frombits"], unfollowed := true, recurses := true, named := ["internal/bytealg.MaxLen", "unicode/utf8.first", "unicode/utf8.acceptRanges", "tempo/tag.roster", "tempo/tag.results", "internal/strconv.uint64pow10", "math/bits.deBruijn32tab", "math/bits.deBruijn64tab", "tempo/fen.letters", "strconv.ErrSyntax", "strconv.ErrRange", "tempo/gauss.steps"], apart := false, laid := [("math/bits.deBruijn32tab", laid_math_bits_deBruijn32tab), ("math/bits.deBruijn64tab", laid_math_bits_deBruijn64tab), ("internal/strconv.uint64pow10", laid_internal_strconv_uint64pow10), ("unicode/utf8.acceptRanges", laid_unicode_utf8_acceptRanges), ("strconv.ErrRange", laid_strconv_ErrRange), ("strconv.ErrSyntax", laid_strconv_ErrSyntax), ("tempo/fen.letters", laid_tempo_fen_letters), ("tempo/tag.roster", laid_tempo_tag_roster), ("tempo/tag.results", laid_tempo_tag_results), ("unicode/utf8.first", laid_unicode_utf8_first)], narrowed := true }
def TagPrintsUptoSaid : Prop := tagPrintsUptoRow.holds Tryz.pinned (OpenSpec.upto tagPrintsSpec)

/-- 'tempolaw24.TagWords', WHERE WHAT IT READS IS OF BULK AT MOST 1048576: true; the input reads as it did. -/
def tagWordsUptoRow : OpenClaim := { program := "ytogcepiofpmabaagreatdoor", sum := "a9c5b69c868adc0ad7245a84f2699aadb9ee7fb7d3dffad7bc1cbd628d3cae15", func := "tempo/tempolaw24.TagWords", spec := "tagWords", inPlace := ["internal/bytealg.CountString", "internal/bytealg.IndexByteString", "internal/bytealg.IndexString", "internal/abi.NoEscape", "internal/bytealg.MakeNoZero", "math.archTrunc", "math.Float64bits", "math.Float64frombits"], unfollowed := true, recurses := true, named := ["internal/bytealg.MaxLen", "unicode/utf8.first", "unicode/utf8.acceptRanges", "tempo/tag.roster", "tempo/tag.results", "internal/strconv.uint64pow10", "math/bits.deBruijn32tab", "math/bits.deBruijn64tab", "tempo/fen.letters", "strconv.ErrSyntax", "strconv.ErrRange", "tempo/gauss.steps"], apart := false, laid := [("math/bits.deBruijn32tab", laid_math_bits_deBruijn32tab), ("math/bits.deBruijn64tab", laid_math_bits_deBruijn64tab), ("internal/strconv.uint64pow10", laid_internal_strconv_uint64pow10), ("unicode/utf8.acceptRanges", laid_unicode_utf8_acceptRanges), ("strconv.ErrRange", laid_strconv_ErrRange), ("strconv.ErrSyntax", laid_strconv_ErrSyntax), ("tempo/fen.letters", laid_tempo_fen_letters), ("tempo/tag.roster", laid_tempo_tag_roster), ("tempo/tag.results", laid_tempo_tag_results), ("unicode/utf8.first", laid_unicode_utf8_first)], narrowed := true }
def TagWordsUptoSaid : Prop := tagWordsUptoRow.holds Tryz.pinned (OpenSpec.upto tagWordsSpec)

/-- 'tempolaw24.TagOnes', WHERE WHAT IT READS IS OF BULK AT MOST 1048576: true; the input reads as it did. -/
def tagOnesUptoRow : OpenClaim := { program := "ytogcepiofpmabaagreatdoor", sum := "a9c5b69c868adc0ad7245a84f2699aadb9ee7fb7d3dffad7bc1cbd628d3cae15", func := "tempo/tempolaw24.TagOnes", spec := "tagOnes", inPlace := ["internal/bytealg.CountString", "internal/bytealg.IndexByteString", "internal/bytealg.IndexString", "internal/abi.NoEscape", "internal/bytealg.MakeNoZero", "math.archTrunc", "math.Float64bits", "math.Float64frombits"], unfollowed := true, recurses := true, named := ["internal/bytealg.MaxLen", "unicode/utf8.first", "unicode/utf8.acceptRanges", "tempo/tag.roster", "tempo/tag.results", "internal/strconv.uint64pow10", "math/bits.deBruijn32tab", "math/bits.deBruijn64tab", "tempo/fen.letters", "strconv.ErrSyntax", "strconv.ErrRange", "tempo/gauss.steps"], apart := false, laid := [("math/bits.deBruijn32tab", laid_math_bits_deBruijn32tab), ("math/bits.deBruijn64tab", laid_math_bits_deBruijn64tab), ("internal/strconv.uint64pow10", laid_internal_strconv_uint64pow10), ("unicode/utf8.acceptRanges", laid_unicode_utf8_acceptRanges), ("strconv.ErrRange", laid_strconv_ErrRange), ("strconv.ErrSyntax", laid_strconv_ErrSyntax), ("tempo/fen.letters", laid_tempo_fen_letters), ("tempo/tag.roster", laid_tempo_tag_roster), ("tempo/tag.results", laid_tempo_tag_results), ("unicode/utf8.first", laid_unicode_utf8_first)], narrowed := true }
def TagOnesUptoSaid : Prop := tagOnesUptoRow.holds Tryz.pinned (OpenSpec.upto tagOnesSpec)

end Rows
end Go.Proofs.YtogcepiofpmabaaGreatDoor
