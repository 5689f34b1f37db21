/-
  NARROWER THAN 'FOR EVERY INPUT', by the rows' own cells (each row's printed sentence says how): SignsNames: laid · SignsParses: laid · SignsChecks: laid · SignsBearers: laid · SignsSame: laid · SignsValues: laid · SignsReadsNames: laid · SignsFormats: laid · SignsNamed: laid · SignsTidies: laid · SignsKept: laid · SignsMerges: laid · SignsMerged: laid.
  DERIVED. THE GIVEN ROWS OF THIS SEAT. 13 by the template 'for every input the law returns true; each argument reads behind the call as it read before'; 0 by the template 'total and deterministic' (their statements: YtkmimjngmfdpmaaGreatDoorTotals.lean).
  GIVEN WITH THE SEED: the statements are not yours to turn. If you find one false, say at which input.
  Laid BY PROGRAM, IN A SANDBOX (cutbox-rows.mjs): the forced cells as the released guide's own fill.sh prints them over the translation b1c8fc00e9b42d55… (all of the seat's roots in one cut). By AI agents, Wed Nov 11 2026. No macro, syntax, notation, axiom, sorry.
-/
import Derived.Test.YtkmimjngmfdpmaaGreatDoorChecked
import GoSem.PinnedTables
import GoSem.Claim
import GoSem.ClaimJoined
import GoSem.ClaimMapViews
import Derived.JoinedTies
import Derived.KernelRfl
namespace Go.Proofs.YtkmimjngmfdpmaaGreatDoor
/- THE CELL 'sum', in the pinned program and in every row, IS THE sha256 OF THE DUMP (.gsa) THAT YtkmimjngmfdpmaaGreatDoorProg.lean LOADS. Nothing in Lean hashes anything: it is a label: what it is worth is what the hold of that sum in a sandbox is worth. -/
noncomputable def Tryz.pinned : Pinned := { name := "ytkmimjngmfdpmaagreatdoor", sum := "b1c8fc00e9b42d552588acc39d2f09b90d6a03c64912b6ae84361ad747222eae", checked := Tryz.checked }
namespace Rows
def none {H : Type} : Left H := { results := [], args := [] }

/- WHAT THE LISTED PACKAGE-LEVEL VARIABLES READ AS WHEN THE CALL BEGINS. Each datum BY PROGRAM (the guide's laid-datum.mjs) off the statement by which the dump's own 'gosem.cut.vars' lays the variable. In a bare row this is a premise. The card (YtkmimjngmfdpmaaGreatDoorCards.lean) ties it to the program's text. -/
def laid_math_bits_deBruijn32tab {H : Type} : DataW H := .agg [.lit (.int .u8 0), .lit (.int .u8 1), .lit (.int .u8 28), .lit (.int .u8 2), .lit (.int .u8 29), .lit (.int .u8 14), .lit (.int .u8 24), .lit (.int .u8 3), .lit (.int .u8 30), .lit (.int .u8 22), .lit (.int .u8 20), .lit (.int .u8 15), .lit (.int .u8 25), .lit (.int .u8 17), .lit (.int .u8 4), .lit (.int .u8 8), .lit (.int .u8 31), .lit (.int .u8 27), .lit (.int .u8 13), .lit (.int .u8 23), .lit (.int .u8 21), .lit (.int .u8 19), .lit (.int .u8 16), .lit (.int .u8 7), .lit (.int .u8 26), .lit (.int .u8 12), .lit (.int .u8 18), .lit (.int .u8 6), .lit (.int .u8 11), .lit (.int .u8 5), .lit (.int .u8 10), .lit (.int .u8 9)]
def laid_math_bits_deBruijn64tab {H : Type} : DataW H := .agg [.lit (.int .u8 0), .lit (.int .u8 1), .lit (.int .u8 56), .lit (.int .u8 2), .lit (.int .u8 57), .lit (.int .u8 49), .lit (.int .u8 28), .lit (.int .u8 3), .lit (.int .u8 61), .lit (.int .u8 58), .lit (.int .u8 42), .lit (.int .u8 50), .lit (.int .u8 38), .lit (.int .u8 29), .lit (.int .u8 17), .lit (.int .u8 4), .lit (.int .u8 62), .lit (.int .u8 47), .lit (.int .u8 59), .lit (.int .u8 36), .lit (.int .u8 45), .lit (.int .u8 43), .lit (.int .u8 51), .lit (.int .u8 22), .lit (.int .u8 53), .lit (.int .u8 39), .lit (.int .u8 33), .lit (.int .u8 30), .lit (.int .u8 24), .lit (.int .u8 18), .lit (.int .u8 12), .lit (.int .u8 5), .lit (.int .u8 63), .lit (.int .u8 55), .lit (.int .u8 48), .lit (.int .u8 27), .lit (.int .u8 60), .lit (.int .u8 41), .lit (.int .u8 37), .lit (.int .u8 16), .lit (.int .u8 46), .lit (.int .u8 35), .lit (.int .u8 44), .lit (.int .u8 21), .lit (.int .u8 52), .lit (.int .u8 32), .lit (.int .u8 23), .lit (.int .u8 11), .lit (.int .u8 54), .lit (.int .u8 26), .lit (.int .u8 40), .lit (.int .u8 15), .lit (.int .u8 34), .lit (.int .u8 20), .lit (.int .u8 31), .lit (.int .u8 10), .lit (.int .u8 25), .lit (.int .u8 14), .lit (.int .u8 19), .lit (.int .u8 9), .lit (.int .u8 13), .lit (.int .u8 8), .lit (.int .u8 7), .lit (.int .u8 6)]
def laid_internal_strconv_uint64pow10 {H : Type} : DataW H := .agg [.lit (.int .u64 1), .lit (.int .u64 10), .lit (.int .u64 100), .lit (.int .u64 1000), .lit (.int .u64 10000), .lit (.int .u64 100000), .lit (.int .u64 1000000), .lit (.int .u64 10000000), .lit (.int .u64 100000000), .lit (.int .u64 1000000000), .lit (.int .u64 10000000000), .lit (.int .u64 100000000000), .lit (.int .u64 1000000000000), .lit (.int .u64 10000000000000), .lit (.int .u64 100000000000000), .lit (.int .u64 1000000000000000), .lit (.int .u64 10000000000000000), .lit (.int .u64 100000000000000000), .lit (.int .u64 1000000000000000000), .lit (.int .u64 10000000000000000000)]
def laid_unicode_utf8_acceptRanges {H : Type} : DataW H := .agg [.agg [.lit (.int .u8 128), .lit (.int .u8 191)], .agg [.lit (.int .u8 160), .lit (.int .u8 191)], .agg [.lit (.int .u8 128), .lit (.int .u8 159)], .agg [.lit (.int .u8 144), .lit (.int .u8 191)], .agg [.lit (.int .u8 128), .lit (.int .u8 143)], .agg [.lit (.int .u8 0), .lit (.int .u8 0)], .agg [.lit (.int .u8 0), .lit (.int .u8 0)], .agg [.lit (.int .u8 0), .lit (.int .u8 0)], .agg [.lit (.int .u8 0), .lit (.int .u8 0)], .agg [.lit (.int .u8 0), .lit (.int .u8 0)], .agg [.lit (.int .u8 0), .lit (.int .u8 0)], .agg [.lit (.int .u8 0), .lit (.int .u8 0)], .agg [.lit (.int .u8 0), .lit (.int .u8 0)], .agg [.lit (.int .u8 0), .lit (.int .u8 0)], .agg [.lit (.int .u8 0), .lit (.int .u8 0)], .agg [.lit (.int .u8 0), .lit (.int .u8 0)]]
def laid_strconv_ErrRange {H : Type} : DataW H := .iface "*errors.errorString" (.ptr (.agg [.lit (.string [118, 97, 108, 117, 101, 32, 111, 117, 116, 32, 111, 102, 32, 114, 97, 110, 103, 101])]))
def laid_strconv_ErrSyntax {H : Type} : DataW H := .iface "*errors.errorString" (.ptr (.agg [.lit (.string [105, 110, 118, 97, 108, 105, 100, 32, 115, 121, 110, 116, 97, 120])]))
def laid_ostracon_signs_letters {H : Type} : DataW H := .agg [.lit (.int .u8 115), .lit (.int .u8 119), .lit (.int .u8 99)]
/-- One of Go's own tables, pinned by name: the form's constant. -/
def laid_unicode_utf8_first : DataW Unit := Go.Pinned.utf8First

/-- 'ostraconlaw01.SignsNames': WHATEVER THE INPUT: true; the input reads as it did. -/
def signsNamesSpec : ChangeSpec := { name := "signsNames", fn := fun _ => fun
  | [d1, d2, d3] => { results := [.lit (.bool true)], args := [d1, d2, d3] }
  | _ => none }
def signsNamesRow : OpenClaim := { program := "ytkmimjngmfdpmaagreatdoor", sum := "b1c8fc00e9b42d552588acc39d2f09b90d6a03c64912b6ae84361ad747222eae", func := "ostracon/ostraconlaw01.SignsNames", spec := "signsNames", inPlace := ["internal/bytealg.CountString", "internal/bytealg.IndexByteString", "internal/bytealg.IndexString"], unfollowed := true, recurses := true, named := ["unicode/utf8.first", "unicode/utf8.acceptRanges", "internal/bytealg.MaxLen", "strconv.ErrSyntax", "strconv.ErrRange", "internal/strconv.uint64pow10", "math/bits.deBruijn32tab", "math/bits.deBruijn64tab", "ostracon/signs.letters"], apart := false, laid := [("math/bits.deBruijn32tab", laid_math_bits_deBruijn32tab), ("math/bits.deBruijn64tab", laid_math_bits_deBruijn64tab), ("internal/strconv.uint64pow10", laid_internal_strconv_uint64pow10), ("unicode/utf8.acceptRanges", laid_unicode_utf8_acceptRanges), ("strconv.ErrRange", laid_strconv_ErrRange), ("strconv.ErrSyntax", laid_strconv_ErrSyntax), ("ostracon/signs.letters", laid_ostracon_signs_letters), ("unicode/utf8.first", laid_unicode_utf8_first)] }
def SignsNamesSaid : Prop := signsNamesRow.holds Tryz.pinned (OpenSpec.ofChange signsNamesSpec)

/-- ITS FALSE NEIGHBOUR: 'it returns false'. Refute it at one input. -/
def signsNamesWrong : ChangeSpec := { name := "signsNames", fn := fun _ => fun
  | [d1, d2, d3] => { results := [.lit (.bool false)], args := [d1, d2, d3] }
  | _ => none }
def SignsNamesWrongFalsely : Prop := signsNamesRow.holds Tryz.pinned (OpenSpec.ofChange signsNamesWrong)

/-- 'ostraconlaw01.SignsParses': WHATEVER THE INPUT: true; the input reads as it did. -/
def signsParsesSpec : ChangeSpec := { name := "signsParses", fn := fun _ => fun
  | [d] => { results := [.lit (.bool true)], args := [d] }
  | _ => none }
def signsParsesRow : OpenClaim := { program := "ytkmimjngmfdpmaagreatdoor", sum := "b1c8fc00e9b42d552588acc39d2f09b90d6a03c64912b6ae84361ad747222eae", func := "ostracon/ostraconlaw01.SignsParses", spec := "signsParses", inPlace := ["internal/bytealg.CountString", "internal/bytealg.IndexByteString", "internal/bytealg.IndexString"], unfollowed := true, recurses := true, named := ["unicode/utf8.first", "unicode/utf8.acceptRanges", "internal/bytealg.MaxLen", "strconv.ErrSyntax", "strconv.ErrRange", "internal/strconv.uint64pow10", "math/bits.deBruijn32tab", "math/bits.deBruijn64tab", "ostracon/signs.letters"], apart := false, laid := [("math/bits.deBruijn32tab", laid_math_bits_deBruijn32tab), ("math/bits.deBruijn64tab", laid_math_bits_deBruijn64tab), ("internal/strconv.uint64pow10", laid_internal_strconv_uint64pow10), ("unicode/utf8.acceptRanges", laid_unicode_utf8_acceptRanges), ("strconv.ErrRange", laid_strconv_ErrRange), ("strconv.ErrSyntax", laid_strconv_ErrSyntax), ("ostracon/signs.letters", laid_ostracon_signs_letters), ("unicode/utf8.first", laid_unicode_utf8_first)] }
def SignsParsesSaid : Prop := signsParsesRow.holds Tryz.pinned (OpenSpec.ofChange signsParsesSpec)

/-- ITS FALSE NEIGHBOUR: 'it returns false'. Refute it at one input. -/
def signsParsesWrong : ChangeSpec := { name := "signsParses", fn := fun _ => fun
  | [d] => { results := [.lit (.bool false)], args := [d] }
  | _ => none }
def SignsParsesWrongFalsely : Prop := signsParsesRow.holds Tryz.pinned (OpenSpec.ofChange signsParsesWrong)

/-- 'ostraconlaw01.SignsChecks': WHATEVER THE INPUT: true; the input reads as it did. -/
def signsChecksSpec : ChangeSpec := { name := "signsChecks", fn := fun _ => fun
  | [d1, d2] => { results := [.lit (.bool true)], args := [d1, d2] }
  | _ => none }
def signsChecksRow : OpenClaim := { program := "ytkmimjngmfdpmaagreatdoor", sum := "b1c8fc00e9b42d552588acc39d2f09b90d6a03c64912b6ae84361ad747222eae", func := "ostracon/ostraconlaw01.SignsChecks", spec := "signsChecks", inPlace := ["internal/bytealg.CountString", "internal/bytealg.IndexByteString", "internal/bytealg.IndexString"], unfollowed := true, recurses := true, named := ["unicode/utf8.first", "unicode/utf8.acceptRanges", "internal/bytealg.MaxLen", "strconv.ErrSyntax", "strconv.ErrRange", "internal/strconv.uint64pow10", "math/bits.deBruijn32tab", "math/bits.deBruijn64tab", "ostracon/signs.letters"], apart := false, laid := [("math/bits.deBruijn32tab", laid_math_bits_deBruijn32tab), ("math/bits.deBruijn64tab", laid_math_bits_deBruijn64tab), ("internal/strconv.uint64pow10", laid_internal_strconv_uint64pow10), ("unicode/utf8.acceptRanges", laid_unicode_utf8_acceptRanges), ("strconv.ErrRange", laid_strconv_ErrRange), ("strconv.ErrSyntax", laid_strconv_ErrSyntax), ("ostracon/signs.letters", laid_ostracon_signs_letters), ("unicode/utf8.first", laid_unicode_utf8_first)] }
def SignsChecksSaid : Prop := signsChecksRow.holds Tryz.pinned (OpenSpec.ofChange signsChecksSpec)

/-- ITS FALSE NEIGHBOUR: 'it returns false'. Refute it at one input. -/
def signsChecksWrong : ChangeSpec := { name := "signsChecks", fn := fun _ => fun
  | [d1, d2] => { results := [.lit (.bool false)], args := [d1, d2] }
  | _ => none }
def SignsChecksWrongFalsely : Prop := signsChecksRow.holds Tryz.pinned (OpenSpec.ofChange signsChecksWrong)

/-- 'ostraconlaw01.SignsBearers': WHATEVER THE INPUT: true; the input reads as it did. -/
def signsBearersSpec : ChangeSpec := { name := "signsBearers", fn := fun _ => fun
  | [d1, d2] => { results := [.lit (.bool true)], args := [d1, d2] }
  | _ => none }
def signsBearersRow : OpenClaim := { program := "ytkmimjngmfdpmaagreatdoor", sum := "b1c8fc00e9b42d552588acc39d2f09b90d6a03c64912b6ae84361ad747222eae", func := "ostracon/ostraconlaw01.SignsBearers", spec := "signsBearers", inPlace := ["internal/bytealg.CountString", "internal/bytealg.IndexByteString", "internal/bytealg.IndexString"], unfollowed := true, recurses := true, named := ["unicode/utf8.first", "unicode/utf8.acceptRanges", "internal/bytealg.MaxLen", "strconv.ErrSyntax", "strconv.ErrRange", "internal/strconv.uint64pow10", "math/bits.deBruijn32tab", "math/bits.deBruijn64tab", "ostracon/signs.letters"], apart := false, laid := [("math/bits.deBruijn32tab", laid_math_bits_deBruijn32tab), ("math/bits.deBruijn64tab", laid_math_bits_deBruijn64tab), ("internal/strconv.uint64pow10", laid_internal_strconv_uint64pow10), ("unicode/utf8.acceptRanges", laid_unicode_utf8_acceptRanges), ("strconv.ErrRange", laid_strconv_ErrRange), ("strconv.ErrSyntax", laid_strconv_ErrSyntax), ("ostracon/signs.letters", laid_ostracon_signs_letters), ("unicode/utf8.first", laid_unicode_utf8_first)] }
def SignsBearersSaid : Prop := signsBearersRow.holds Tryz.pinned (OpenSpec.ofChange signsBearersSpec)

/-- ITS FALSE NEIGHBOUR: 'it returns false'. Refute it at one input. -/
def signsBearersWrong : ChangeSpec := { name := "signsBearers", fn := fun _ => fun
  | [d1, d2] => { results := [.lit (.bool false)], args := [d1, d2] }
  | _ => none }
def SignsBearersWrongFalsely : Prop := signsBearersRow.holds Tryz.pinned (OpenSpec.ofChange signsBearersWrong)

/-- 'ostraconlaw01.SignsSame': WHATEVER THE INPUT: true; the input reads as it did. -/
def signsSameSpec : ChangeSpec := { name := "signsSame", fn := fun _ => fun
  | [d1, d2] => { results := [.lit (.bool true)], args := [d1, d2] }
  | _ => none }
def signsSameRow : OpenClaim := { program := "ytkmimjngmfdpmaagreatdoor", sum := "b1c8fc00e9b42d552588acc39d2f09b90d6a03c64912b6ae84361ad747222eae", func := "ostracon/ostraconlaw01.SignsSame", spec := "signsSame", inPlace := ["internal/bytealg.CountString", "internal/bytealg.IndexByteString", "internal/bytealg.IndexString"], unfollowed := true, recurses := true, named := ["unicode/utf8.first", "unicode/utf8.acceptRanges", "internal/bytealg.MaxLen", "strconv.ErrSyntax", "strconv.ErrRange", "internal/strconv.uint64pow10", "math/bits.deBruijn32tab", "math/bits.deBruijn64tab", "ostracon/signs.letters"], apart := false, laid := [("math/bits.deBruijn32tab", laid_math_bits_deBruijn32tab), ("math/bits.deBruijn64tab", laid_math_bits_deBruijn64tab), ("internal/strconv.uint64pow10", laid_internal_strconv_uint64pow10), ("unicode/utf8.acceptRanges", laid_unicode_utf8_acceptRanges), ("strconv.ErrRange", laid_strconv_ErrRange), ("strconv.ErrSyntax", laid_strconv_ErrSyntax), ("ostracon/signs.letters", laid_ostracon_signs_letters), ("unicode/utf8.first", laid_unicode_utf8_first)] }
def SignsSameSaid : Prop := signsSameRow.holds Tryz.pinned (OpenSpec.ofChange signsSameSpec)

/-- ITS FALSE NEIGHBOUR: 'it returns false'. Refute it at one input. -/
def signsSameWrong : ChangeSpec := { name := "signsSame", fn := fun _ => fun
  | [d1, d2] => { results := [.lit (.bool false)], args := [d1, d2] }
  | _ => none }
def SignsSameWrongFalsely : Prop := signsSameRow.holds Tryz.pinned (OpenSpec.ofChange signsSameWrong)

/-- 'ostraconlaw01.SignsValues': WHATEVER THE INPUT: true; the input reads as it did. -/
def signsValuesSpec : ChangeSpec := { name := "signsValues", fn := fun _ => fun
  | [d1, d2, d3] => { results := [.lit (.bool true)], args := [d1, d2, d3] }
  | _ => none }
def signsValuesRow : OpenClaim := { program := "ytkmimjngmfdpmaagreatdoor", sum := "b1c8fc00e9b42d552588acc39d2f09b90d6a03c64912b6ae84361ad747222eae", func := "ostracon/ostraconlaw01.SignsValues", spec := "signsValues", inPlace := ["internal/bytealg.CountString", "internal/bytealg.IndexByteString", "internal/bytealg.IndexString"], unfollowed := true, recurses := true, named := ["unicode/utf8.first", "unicode/utf8.acceptRanges", "internal/bytealg.MaxLen", "strconv.ErrSyntax", "strconv.ErrRange", "internal/strconv.uint64pow10", "math/bits.deBruijn32tab", "math/bits.deBruijn64tab", "ostracon/signs.letters"], apart := false, laid := [("math/bits.deBruijn32tab", laid_math_bits_deBruijn32tab), ("math/bits.deBruijn64tab", laid_math_bits_deBruijn64tab), ("internal/strconv.uint64pow10", laid_internal_strconv_uint64pow10), ("unicode/utf8.acceptRanges", laid_unicode_utf8_acceptRanges), ("strconv.ErrRange", laid_strconv_ErrRange), ("strconv.ErrSyntax", laid_strconv_ErrSyntax), ("ostracon/signs.letters", laid_ostracon_signs_letters), ("unicode/utf8.first", laid_unicode_utf8_first)] }
def SignsValuesSaid : Prop := signsValuesRow.holds Tryz.pinned (OpenSpec.ofChange signsValuesSpec)

/-- ITS FALSE NEIGHBOUR: 'it returns false'. Refute it at one input. -/
def signsValuesWrong : ChangeSpec := { name := "signsValues", fn := fun _ => fun
  | [d1, d2, d3] => { results := [.lit (.bool false)], args := [d1, d2, d3] }
  | _ => none }
def SignsValuesWrongFalsely : Prop := signsValuesRow.holds Tryz.pinned (OpenSpec.ofChange signsValuesWrong)

/-- 'ostraconlaw01.SignsReadsNames': WHATEVER THE INPUT: true; the input reads as it did. -/
def signsReadsNamesSpec : ChangeSpec := { name := "signsReadsNames", fn := fun _ => fun
  | [d1, d2, d3] => { results := [.lit (.bool true)], args := [d1, d2, d3] }
  | _ => none }
def signsReadsNamesRow : OpenClaim := { program := "ytkmimjngmfdpmaagreatdoor", sum := "b1c8fc00e9b42d552588acc39d2f09b90d6a03c64912b6ae84361ad747222eae", func := "ostracon/ostraconlaw01.SignsReadsNames", spec := "signsReadsNames", inPlace := ["internal/bytealg.CountString", "internal/bytealg.IndexByteString", "internal/bytealg.IndexString"], unfollowed := true, recurses := true, named := ["unicode/utf8.first", "unicode/utf8.acceptRanges", "internal/bytealg.MaxLen", "strconv.ErrSyntax", "strconv.ErrRange", "internal/strconv.uint64pow10", "math/bits.deBruijn32tab", "math/bits.deBruijn64tab", "ostracon/signs.letters"], apart := false, laid := [("math/bits.deBruijn32tab", laid_math_bits_deBruijn32tab), ("math/bits.deBruijn64tab", laid_math_bits_deBruijn64tab), ("internal/strconv.uint64pow10", laid_internal_strconv_uint64pow10), ("unicode/utf8.acceptRanges", laid_unicode_utf8_acceptRanges), ("strconv.ErrRange", laid_strconv_ErrRange), ("strconv.ErrSyntax", laid_strconv_ErrSyntax), ("ostracon/signs.letters", laid_ostracon_signs_letters), ("unicode/utf8.first", laid_unicode_utf8_first)] }
def SignsReadsNamesSaid : Prop := signsReadsNamesRow.holds Tryz.pinned (OpenSpec.ofChange signsReadsNamesSpec)

/-- ITS FALSE NEIGHBOUR: 'it returns false'. Refute it at one input. -/
def signsReadsNamesWrong : ChangeSpec := { name := "signsReadsNames", fn := fun _ => fun
  | [d1, d2, d3] => { results := [.lit (.bool false)], args := [d1, d2, d3] }
  | _ => none }
def SignsReadsNamesWrongFalsely : Prop := signsReadsNamesRow.holds Tryz.pinned (OpenSpec.ofChange signsReadsNamesWrong)

/-- 'ostraconlaw01.SignsFormats': WHATEVER THE INPUT: true; the input reads as it did. -/
def signsFormatsSpec : ChangeSpec := { name := "signsFormats", fn := fun _ => fun
  | [d] => { results := [.lit (.bool true)], args := [d] }
  | _ => none }
def signsFormatsRow : OpenClaim := { program := "ytkmimjngmfdpmaagreatdoor", sum := "b1c8fc00e9b42d552588acc39d2f09b90d6a03c64912b6ae84361ad747222eae", func := "ostracon/ostraconlaw01.SignsFormats", spec := "signsFormats", inPlace := ["internal/bytealg.CountString", "internal/bytealg.IndexByteString", "internal/bytealg.IndexString", "internal/abi.NoEscape"], unfollowed := true, recurses := true, named := ["unicode/utf8.first", "unicode/utf8.acceptRanges", "internal/bytealg.MaxLen", "strconv.ErrSyntax", "strconv.ErrRange", "internal/strconv.uint64pow10", "math/bits.deBruijn32tab", "math/bits.deBruijn64tab", "ostracon/signs.letters"], apart := false, laid := [("math/bits.deBruijn32tab", laid_math_bits_deBruijn32tab), ("math/bits.deBruijn64tab", laid_math_bits_deBruijn64tab), ("internal/strconv.uint64pow10", laid_internal_strconv_uint64pow10), ("unicode/utf8.acceptRanges", laid_unicode_utf8_acceptRanges), ("strconv.ErrRange", laid_strconv_ErrRange), ("strconv.ErrSyntax", laid_strconv_ErrSyntax), ("ostracon/signs.letters", laid_ostracon_signs_letters), ("unicode/utf8.first", laid_unicode_utf8_first)] }
def SignsFormatsSaid : Prop := signsFormatsRow.holds Tryz.pinned (OpenSpec.ofChange signsFormatsSpec)

/-- ITS FALSE NEIGHBOUR: 'it returns false'. Refute it at one input. -/
def signsFormatsWrong : ChangeSpec := { name := "signsFormats", fn := fun _ => fun
  | [d] => { results := [.lit (.bool false)], args := [d] }
  | _ => none }
def SignsFormatsWrongFalsely : Prop := signsFormatsRow.holds Tryz.pinned (OpenSpec.ofChange signsFormatsWrong)

/-- 'ostraconlaw01.SignsNamed': WHATEVER THE INPUT: true; the input reads as it did. -/
def signsNamedSpec : ChangeSpec := { name := "signsNamed", fn := fun _ => fun
  | [d1, d2] => { results := [.lit (.bool true)], args := [d1, d2] }
  | _ => none }
def signsNamedRow : OpenClaim := { program := "ytkmimjngmfdpmaagreatdoor", sum := "b1c8fc00e9b42d552588acc39d2f09b90d6a03c64912b6ae84361ad747222eae", func := "ostracon/ostraconlaw01.SignsNamed", spec := "signsNamed", inPlace := ["internal/bytealg.CountString", "internal/bytealg.IndexByteString", "internal/bytealg.IndexString"], unfollowed := true, recurses := true, named := ["unicode/utf8.first", "unicode/utf8.acceptRanges", "internal/bytealg.MaxLen", "strconv.ErrSyntax", "strconv.ErrRange", "internal/strconv.uint64pow10", "math/bits.deBruijn32tab", "math/bits.deBruijn64tab", "ostracon/signs.letters"], apart := false, laid := [("math/bits.deBruijn32tab", laid_math_bits_deBruijn32tab), ("math/bits.deBruijn64tab", laid_math_bits_deBruijn64tab), ("internal/strconv.uint64pow10", laid_internal_strconv_uint64pow10), ("unicode/utf8.acceptRanges", laid_unicode_utf8_acceptRanges), ("strconv.ErrRange", laid_strconv_ErrRange), ("strconv.ErrSyntax", laid_strconv_ErrSyntax), ("ostracon/signs.letters", laid_ostracon_signs_letters), ("unicode/utf8.first", laid_unicode_utf8_first)] }
def SignsNamedSaid : Prop := signsNamedRow.holds Tryz.pinned (OpenSpec.ofChange signsNamedSpec)

/-- ITS FALSE NEIGHBOUR: 'it returns false'. Refute it at one input. -/
def signsNamedWrong : ChangeSpec := { name := "signsNamed", fn := fun _ => fun
  | [d1, d2] => { results := [.lit (.bool false)], args := [d1, d2] }
  | _ => none }
def SignsNamedWrongFalsely : Prop := signsNamedRow.holds Tryz.pinned (OpenSpec.ofChange signsNamedWrong)

/-- 'ostraconlaw01.SignsTidies': WHATEVER THE INPUT: true; the input reads as it did. -/
def signsTidiesSpec : ChangeSpec := { name := "signsTidies", fn := fun _ => fun
  | [d1, d2] => { results := [.lit (.bool true)], args := [d1, d2] }
  | _ => none }
def signsTidiesRow : OpenClaim := { program := "ytkmimjngmfdpmaagreatdoor", sum := "b1c8fc00e9b42d552588acc39d2f09b90d6a03c64912b6ae84361ad747222eae", func := "ostracon/ostraconlaw01.SignsTidies", spec := "signsTidies", inPlace := ["internal/bytealg.CountString", "internal/bytealg.IndexByteString", "internal/bytealg.IndexString"], unfollowed := true, recurses := true, named := ["unicode/utf8.first", "unicode/utf8.acceptRanges", "internal/bytealg.MaxLen", "strconv.ErrSyntax", "strconv.ErrRange", "internal/strconv.uint64pow10", "math/bits.deBruijn32tab", "math/bits.deBruijn64tab", "ostracon/signs.letters"], apart := false, laid := [("math/bits.deBruijn32tab", laid_math_bits_deBruijn32tab), ("math/bits.deBruijn64tab", laid_math_bits_deBruijn64tab), ("internal/strconv.uint64pow10", laid_internal_strconv_uint64pow10), ("unicode/utf8.acceptRanges", laid_unicode_utf8_acceptRanges), ("strconv.ErrRange", laid_strconv_ErrRange), ("strconv.ErrSyntax", laid_strconv_ErrSyntax), ("ostracon/signs.letters", laid_ostracon_signs_letters), ("unicode/utf8.first", laid_unicode_utf8_first)] }
def SignsTidiesSaid : Prop := signsTidiesRow.holds Tryz.pinned (OpenSpec.ofChange signsTidiesSpec)

/-- ITS FALSE NEIGHBOUR: 'it returns false'. Refute it at one input. -/
def signsTidiesWrong : ChangeSpec := { name := "signsTidies", fn := fun _ => fun
  | [d1, d2] => { results := [.lit (.bool false)], args := [d1, d2] }
  | _ => none }
def SignsTidiesWrongFalsely : Prop := signsTidiesRow.holds Tryz.pinned (OpenSpec.ofChange signsTidiesWrong)

/-- 'ostraconlaw01.SignsKept': WHATEVER THE INPUT: true; the input reads as it did. -/
def signsKeptSpec : ChangeSpec := { name := "signsKept", fn := fun _ => fun
  | [d1, d2] => { results := [.lit (.bool true)], args := [d1, d2] }
  | _ => none }
def signsKeptRow : OpenClaim := { program := "ytkmimjngmfdpmaagreatdoor", sum := "b1c8fc00e9b42d552588acc39d2f09b90d6a03c64912b6ae84361ad747222eae", func := "ostracon/ostraconlaw01.SignsKept", spec := "signsKept", inPlace := ["internal/bytealg.CountString", "internal/bytealg.IndexByteString", "internal/bytealg.IndexString"], unfollowed := true, recurses := true, named := ["unicode/utf8.first", "unicode/utf8.acceptRanges", "internal/bytealg.MaxLen", "strconv.ErrSyntax", "strconv.ErrRange", "internal/strconv.uint64pow10", "math/bits.deBruijn32tab", "math/bits.deBruijn64tab", "ostracon/signs.letters"], apart := false, laid := [("math/bits.deBruijn32tab", laid_math_bits_deBruijn32tab), ("math/bits.deBruijn64tab", laid_math_bits_deBruijn64tab), ("internal/strconv.uint64pow10", laid_internal_strconv_uint64pow10), ("unicode/utf8.acceptRanges", laid_unicode_utf8_acceptRanges), ("strconv.ErrRange", laid_strconv_ErrRange), ("strconv.ErrSyntax", laid_strconv_ErrSyntax), ("ostracon/signs.letters", laid_ostracon_signs_letters), ("unicode/utf8.first", laid_unicode_utf8_first)] }
def SignsKeptSaid : Prop := signsKeptRow.holds Tryz.pinned (OpenSpec.ofChange signsKeptSpec)

/-- ITS FALSE NEIGHBOUR: 'it returns false'. Refute it at one input. -/
def signsKeptWrong : ChangeSpec := { name := "signsKept", fn := fun _ => fun
  | [d1, d2] => { results := [.lit (.bool false)], args := [d1, d2] }
  | _ => none }
def SignsKeptWrongFalsely : Prop := signsKeptRow.holds Tryz.pinned (OpenSpec.ofChange signsKeptWrong)

/-- 'ostraconlaw01.SignsMerges': WHATEVER THE INPUT: true; the input reads as it did. -/
def signsMergesSpec : ChangeSpec := { name := "signsMerges", fn := fun _ => fun
  | [d1, d2] => { results := [.lit (.bool true)], args := [d1, d2] }
  | _ => none }
def signsMergesRow : OpenClaim := { program := "ytkmimjngmfdpmaagreatdoor", sum := "b1c8fc00e9b42d552588acc39d2f09b90d6a03c64912b6ae84361ad747222eae", func := "ostracon/ostraconlaw01.SignsMerges", spec := "signsMerges", inPlace := ["internal/bytealg.CountString", "internal/bytealg.IndexByteString", "internal/bytealg.IndexString"], unfollowed := true, recurses := true, named := ["unicode/utf8.first", "unicode/utf8.acceptRanges", "internal/bytealg.MaxLen", "strconv.ErrSyntax", "strconv.ErrRange", "internal/strconv.uint64pow10", "math/bits.deBruijn32tab", "math/bits.deBruijn64tab", "ostracon/signs.letters"], apart := false, laid := [("math/bits.deBruijn32tab", laid_math_bits_deBruijn32tab), ("math/bits.deBruijn64tab", laid_math_bits_deBruijn64tab), ("internal/strconv.uint64pow10", laid_internal_strconv_uint64pow10), ("unicode/utf8.acceptRanges", laid_unicode_utf8_acceptRanges), ("strconv.ErrRange", laid_strconv_ErrRange), ("strconv.ErrSyntax", laid_strconv_ErrSyntax), ("ostracon/signs.letters", laid_ostracon_signs_letters), ("unicode/utf8.first", laid_unicode_utf8_first)] }
def SignsMergesSaid : Prop := signsMergesRow.holds Tryz.pinned (OpenSpec.ofChange signsMergesSpec)

/-- ITS FALSE NEIGHBOUR: 'it returns false'. Refute it at one input. -/
def signsMergesWrong : ChangeSpec := { name := "signsMerges", fn := fun _ => fun
  | [d1, d2] => { results := [.lit (.bool false)], args := [d1, d2] }
  | _ => none }
def SignsMergesWrongFalsely : Prop := signsMergesRow.holds Tryz.pinned (OpenSpec.ofChange signsMergesWrong)

/-- 'ostraconlaw01.SignsMerged': WHATEVER THE INPUT: true; the input reads as it did. -/
def signsMergedSpec : ChangeSpec := { name := "signsMerged", fn := fun _ => fun
  | [d1, d2] => { results := [.lit (.bool true)], args := [d1, d2] }
  | _ => none }
def signsMergedRow : OpenClaim := { program := "ytkmimjngmfdpmaagreatdoor", sum := "b1c8fc00e9b42d552588acc39d2f09b90d6a03c64912b6ae84361ad747222eae", func := "ostracon/ostraconlaw01.SignsMerged", spec := "signsMerged", inPlace := ["internal/bytealg.CountString", "internal/bytealg.IndexByteString", "internal/bytealg.IndexString"], unfollowed := true, recurses := true, named := ["unicode/utf8.first", "unicode/utf8.acceptRanges", "internal/bytealg.MaxLen", "strconv.ErrSyntax", "strconv.ErrRange", "internal/strconv.uint64pow10", "math/bits.deBruijn32tab", "math/bits.deBruijn64tab", "ostracon/signs.letters"], apart := false, laid := [("math/bits.deBruijn32tab", laid_math_bits_deBruijn32tab), ("math/bits.deBruijn64tab", laid_math_bits_deBruijn64tab), ("internal/strconv.uint64pow10", laid_internal_strconv_uint64pow10), ("unicode/utf8.acceptRanges", laid_unicode_utf8_acceptRanges), ("strconv.ErrRange", laid_strconv_ErrRange), ("strconv.ErrSyntax", laid_strconv_ErrSyntax), ("ostracon/signs.letters", laid_ostracon_signs_letters), ("unicode/utf8.first", laid_unicode_utf8_first)] }
def SignsMergedSaid : Prop := signsMergedRow.holds Tryz.pinned (OpenSpec.ofChange signsMergedSpec)

/-- ITS FALSE NEIGHBOUR: 'it returns false'. Refute it at one input. -/
def signsMergedWrong : ChangeSpec := { name := "signsMerged", fn := fun _ => fun
  | [d1, d2] => { results := [.lit (.bool false)], args := [d1, d2] }
  | _ => none }
def SignsMergedWrongFalsely : Prop := signsMergedRow.holds Tryz.pinned (OpenSpec.ofChange signsMergedWrong)

/- THE SECOND FORM. 'bulk': how many values and letters a reading holds, each counted each time it is reached (what is shared counts as often as it is met; a slice's spare places count too). A statement '..UptoSaid' is the law's where the arguments, and the package variables that the reading takes, are together of bulk at most 1048576: NARROWER than '..Said'. Prove '..Said' where nothing that the law and all that it calls make is longer than what came in: it says more and counts as full. Else prove '..UptoSaid'. A law counts once. -/
mutual
def uptoBulk {H : Type} : DataW H → Nat
  | .lit (.string bytes) => bytes.length + 1
  | .lit _ => 1
  | .nil => 1
  | .ptr d => uptoBulk d + 1
  | .slice elems spare => uptoBulkAll elems + uptoBulkAll spare + 1
  | .agg parts => uptoBulkAll parts + 1
  | .iface _ d => uptoBulk d + 1
  | .map entries => uptoBulkEntries entries + 1
  | .held _ => 1
def uptoBulkAll {H : Type} : List (DataW H) → Nat
  | [] => 0
  | d :: r => uptoBulk d + uptoBulkAll r
def uptoBulkEntries {H : Type} : List (Lit × DataW H) → Nat
  | [] => 0
  | x :: r => uptoBulkEntry x + uptoBulkEntries r
def uptoBulkEntry {H : Type} : Lit × DataW H → Nat
  | (.string bytes, d) => bytes.length + uptoBulk d + 1
  | (_, d) => uptoBulk d + 1
 end
def uptoSmall : (H : Type) → List (DataW H) → Bool := fun _ ds => decide (uptoBulkAll ds ≤ 1048576)
def OpenSpec.upto (s : _root_.Go.ChangeSpec) : _root_.Go.OpenSpec := { _root_.Go.OpenSpec.ofChange s with cond := some uptoSmall }

/-- 'ostraconlaw01.SignsNames', WHERE WHAT IT READS IS OF BULK AT MOST 1048576: true; the input reads as it did. -/
def signsNamesUptoRow : OpenClaim := { program := "ytkmimjngmfdpmaagreatdoor", sum := "b1c8fc00e9b42d552588acc39d2f09b90d6a03c64912b6ae84361ad747222eae", func := "ostracon/ostraconlaw01.SignsNames", spec := "signsNames", inPlace := ["internal/bytealg.CountString", "internal/bytealg.IndexByteString", "internal/bytealg.IndexString"], unfollowed := true, recurses := true, named := ["unicode/utf8.first", "unicode/utf8.acceptRanges", "internal/bytealg.MaxLen", "strconv.ErrSyntax", "strconv.ErrRange", "internal/strconv.uint64pow10", "math/bits.deBruijn32tab", "math/bits.deBruijn64tab", "ostracon/signs.letters"], apart := false, laid := [("math/bits.deBruijn32tab", laid_math_bits_deBruijn32tab), ("math/bits.deBruijn64tab", laid_math_bits_deBruijn64tab), ("internal/strconv.uint64pow10", laid_internal_strconv_uint64pow10), ("unicode/utf8.acceptRanges", laid_unicode_utf8_acceptRanges), ("strconv.ErrRange", laid_strconv_ErrRange), ("strconv.ErrSyntax", laid_strconv_ErrSyntax), ("ostracon/signs.letters", laid_ostracon_signs_letters), ("unicode/utf8.first", laid_unicode_utf8_first)], narrowed := true }
def SignsNamesUptoSaid : Prop := signsNamesUptoRow.holds Tryz.pinned (OpenSpec.upto signsNamesSpec)

/-- 'ostraconlaw01.SignsParses', WHERE WHAT IT READS IS OF BULK AT MOST 1048576: true; the input reads as it did. -/
def signsParsesUptoRow : OpenClaim := { program := "ytkmimjngmfdpmaagreatdoor", sum := "b1c8fc00e9b42d552588acc39d2f09b90d6a03c64912b6ae84361ad747222eae", func := "ostracon/ostraconlaw01.SignsParses", spec := "signsParses", inPlace := ["internal/bytealg.CountString", "internal/bytealg.IndexByteString", "internal/bytealg.IndexString"], unfollowed := true, recurses := true, named := ["unicode/utf8.first", "unicode/utf8.acceptRanges", "internal/bytealg.MaxLen", "strconv.ErrSyntax", "strconv.ErrRange", "internal/strconv.uint64pow10", "math/bits.deBruijn32tab", "math/bits.deBruijn64tab", "ostracon/signs.letters"], apart := false, laid := [("math/bits.deBruijn32tab", laid_math_bits_deBruijn32tab), ("math/bits.deBruijn64tab", laid_math_bits_deBruijn64tab), ("internal/strconv.uint64pow10", laid_internal_strconv_uint64pow10), ("unicode/utf8.acceptRanges", laid_unicode_utf8_acceptRanges), ("strconv.ErrRange", laid_strconv_ErrRange), ("strconv.ErrSyntax", laid_strconv_ErrSyntax), ("ostracon/signs.letters", laid_ostracon_signs_letters), ("unicode/utf8.first", laid_unicode_utf8_first)], narrowed := true }
def SignsParsesUptoSaid : Prop := signsParsesUptoRow.holds Tryz.pinned (OpenSpec.upto signsParsesSpec)

/-- 'ostraconlaw01.SignsChecks', WHERE WHAT IT READS IS OF BULK AT MOST 1048576: true; the input reads as it did. -/
def signsChecksUptoRow : OpenClaim := { program := "ytkmimjngmfdpmaagreatdoor", sum := "b1c8fc00e9b42d552588acc39d2f09b90d6a03c64912b6ae84361ad747222eae", func := "ostracon/ostraconlaw01.SignsChecks", spec := "signsChecks", inPlace := ["internal/bytealg.CountString", "internal/bytealg.IndexByteString", "internal/bytealg.IndexString"], unfollowed := true, recurses := true, named := ["unicode/utf8.first", "unicode/utf8.acceptRanges", "internal/bytealg.MaxLen", "strconv.ErrSyntax", "strconv.ErrRange", "internal/strconv.uint64pow10", "math/bits.deBruijn32tab", "math/bits.deBruijn64tab", "ostracon/signs.letters"], apart := false, laid := [("math/bits.deBruijn32tab", laid_math_bits_deBruijn32tab), ("math/bits.deBruijn64tab", laid_math_bits_deBruijn64tab), ("internal/strconv.uint64pow10", laid_internal_strconv_uint64pow10), ("unicode/utf8.acceptRanges", laid_unicode_utf8_acceptRanges), ("strconv.ErrRange", laid_strconv_ErrRange), ("strconv.ErrSyntax", laid_strconv_ErrSyntax), ("ostracon/signs.letters", laid_ostracon_signs_letters), ("unicode/utf8.first", laid_unicode_utf8_first)], narrowed := true }
def SignsChecksUptoSaid : Prop := signsChecksUptoRow.holds Tryz.pinned (OpenSpec.upto signsChecksSpec)

/-- 'ostraconlaw01.SignsBearers', WHERE WHAT IT READS IS OF BULK AT MOST 1048576: true; the input reads as it did. -/
def signsBearersUptoRow : OpenClaim := { program := "ytkmimjngmfdpmaagreatdoor", sum := "b1c8fc00e9b42d552588acc39d2f09b90d6a03c64912b6ae84361ad747222eae", func := "ostracon/ostraconlaw01.SignsBearers", spec := "signsBearers", inPlace := ["internal/bytealg.CountString", "internal/bytealg.IndexByteString", "internal/bytealg.IndexString"], unfollowed := true, recurses := true, named := ["unicode/utf8.first", "unicode/utf8.acceptRanges", "internal/bytealg.MaxLen", "strconv.ErrSyntax", "strconv.ErrRange", "internal/strconv.uint64pow10", "math/bits.deBruijn32tab", "math/bits.deBruijn64tab", "ostracon/signs.letters"], apart := false, laid := [("math/bits.deBruijn32tab", laid_math_bits_deBruijn32tab), ("math/bits.deBruijn64tab", laid_math_bits_deBruijn64tab), ("internal/strconv.uint64pow10", laid_internal_strconv_uint64pow10), ("unicode/utf8.acceptRanges", laid_unicode_utf8_acceptRanges), ("strconv.ErrRange", laid_strconv_ErrRange), ("strconv.ErrSyntax", laid_strconv_ErrSyntax), ("ostracon/signs.letters", laid_ostracon_signs_letters), ("unicode/utf8.first", laid_unicode_utf8_first)], narrowed := true }
def SignsBearersUptoSaid : Prop := signsBearersUptoRow.holds Tryz.pinned (OpenSpec.upto signsBearersSpec)

/-- 'ostraconlaw01.SignsSame', WHERE WHAT IT READS IS OF BULK AT MOST 1048576: true; the input reads as it did. -/
def signsSameUptoRow : OpenClaim := { program := "ytkmimjngmfdpmaagreatdoor", sum := "b1c8fc00e9b42d552588acc39d2f09b90d6a03c64912b6ae84361ad747222eae", func := "ostracon/ostraconlaw01.SignsSame", spec := "signsSame", inPlace := ["internal/bytealg.CountString", "internal/bytealg.IndexByteString", "internal/bytealg.IndexString"], unfollowed := true, recurses := true, named := ["unicode/utf8.first", "unicode/utf8.acceptRanges", "internal/bytealg.MaxLen", "strconv.ErrSyntax", "strconv.ErrRange", "internal/strconv.uint64pow10", "math/bits.deBruijn32tab", "math/bits.deBruijn64tab", "ostracon/signs.letters"], apart := false, laid := [("math/bits.deBruijn32tab", laid_math_bits_deBruijn32tab), ("math/bits.deBruijn64tab", laid_math_bits_deBruijn64tab), ("internal/strconv.uint64pow10", laid_internal_strconv_uint64pow10), ("unicode/utf8.acceptRanges", laid_unicode_utf8_acceptRanges), ("strconv.ErrRange", laid_strconv_ErrRange), ("strconv.ErrSyntax", laid_strconv_ErrSyntax), ("ostracon/signs.letters", laid_ostracon_signs_letters), ("unicode/utf8.first", laid_unicode_utf8_first)], narrowed := true }
def SignsSameUptoSaid : Prop := signsSameUptoRow.holds Tryz.pinned (OpenSpec.upto signsSameSpec)

/-- 'ostraconlaw01.SignsValues', WHERE WHAT IT READS IS OF BULK AT MOST 1048576: true; the input reads as it did. -/
def signsValuesUptoRow : OpenClaim := { program := "ytkmimjngmfdpmaagreatdoor", sum := "b1c8fc00e9b42d552588acc39d2f09b90d6a03c64912b6ae84361ad747222eae", func := "ostracon/ostraconlaw01.SignsValues", spec := "signsValues", inPlace := ["internal/bytealg.CountString", "internal/bytealg.IndexByteString", "internal/bytealg.IndexString"], unfollowed := true, recurses := true, named := ["unicode/utf8.first", "unicode/utf8.acceptRanges", "internal/bytealg.MaxLen", "strconv.ErrSyntax", "strconv.ErrRange", "internal/strconv.uint64pow10", "math/bits.deBruijn32tab", "math/bits.deBruijn64tab", "ostracon/signs.letters"], apart := false, laid := [("math/bits.deBruijn32tab", laid_math_bits_deBruijn32tab), ("math/bits.deBruijn64tab", laid_math_bits_deBruijn64tab), ("internal/strconv.uint64pow10", laid_internal_strconv_uint64pow10), ("unicode/utf8.acceptRanges", laid_unicode_utf8_acceptRanges), ("strconv.ErrRange", laid_strconv_ErrRange), ("strconv.ErrSyntax", laid_strconv_ErrSyntax), ("ostracon/signs.letters", laid_ostracon_signs_letters), ("unicode/utf8.first", laid_unicode_utf8_first)], narrowed := true }
def SignsValuesUptoSaid : Prop := signsValuesUptoRow.holds Tryz.pinned (OpenSpec.upto signsValuesSpec)

/-- 'ostraconlaw01.SignsReadsNames', WHERE WHAT IT READS IS OF BULK AT MOST 1048576: true; the input reads as it did. -/
def signsReadsNamesUptoRow : OpenClaim := { program := "ytkmimjngmfdpmaagreatdoor", sum := "b1c8fc00e9b42d552588acc39d2f09b90d6a03c64912b6ae84361ad747222eae", func := "ostracon/ostraconlaw01.SignsReadsNames", spec := "signsReadsNames", inPlace := ["internal/bytealg.CountString", "internal/bytealg.IndexByteString", "internal/bytealg.IndexString"], unfollowed := true, recurses := true, named := ["unicode/utf8.first", "unicode/utf8.acceptRanges", "internal/bytealg.MaxLen", "strconv.ErrSyntax", "strconv.ErrRange", "internal/strconv.uint64pow10", "math/bits.deBruijn32tab", "math/bits.deBruijn64tab", "ostracon/signs.letters"], apart := false, laid := [("math/bits.deBruijn32tab", laid_math_bits_deBruijn32tab), ("math/bits.deBruijn64tab", laid_math_bits_deBruijn64tab), ("internal/strconv.uint64pow10", laid_internal_strconv_uint64pow10), ("unicode/utf8.acceptRanges", laid_unicode_utf8_acceptRanges), ("strconv.ErrRange", laid_strconv_ErrRange), ("strconv.ErrSyntax", laid_strconv_ErrSyntax), ("ostracon/signs.letters", laid_ostracon_signs_letters), ("unicode/utf8.first", laid_unicode_utf8_first)], narrowed := true }
def SignsReadsNamesUptoSaid : Prop := signsReadsNamesUptoRow.holds Tryz.pinned (OpenSpec.upto signsReadsNamesSpec)

/-- 'ostraconlaw01.SignsFormats', WHERE WHAT IT READS IS OF BULK AT MOST 1048576: true; the input reads as it did. -/
def signsFormatsUptoRow : OpenClaim := { program := "ytkmimjngmfdpmaagreatdoor", sum := "b1c8fc00e9b42d552588acc39d2f09b90d6a03c64912b6ae84361ad747222eae", func := "ostracon/ostraconlaw01.SignsFormats", spec := "signsFormats", inPlace := ["internal/bytealg.CountString", "internal/bytealg.IndexByteString", "internal/bytealg.IndexString", "internal/abi.NoEscape"], unfollowed := true, recurses := true, named := ["unicode/utf8.first", "unicode/utf8.acceptRanges", "internal/bytealg.MaxLen", "strconv.ErrSyntax", "strconv.ErrRange", "internal/strconv.uint64pow10", "math/bits.deBruijn32tab", "math/bits.deBruijn64tab", "ostracon/signs.letters"], apart := false, laid := [("math/bits.deBruijn32tab", laid_math_bits_deBruijn32tab), ("math/bits.deBruijn64tab", laid_math_bits_deBruijn64tab), ("internal/strconv.uint64pow10", laid_internal_strconv_uint64pow10), ("unicode/utf8.acceptRanges", laid_unicode_utf8_acceptRanges), ("strconv.ErrRange", laid_strconv_ErrRange), ("strconv.ErrSyntax", laid_strconv_ErrSyntax), ("ostracon/signs.letters", laid_ostracon_signs_letters), ("unicode/utf8.first", laid_unicode_utf8_first)], narrowed := true }
def SignsFormatsUptoSaid : Prop := signsFormatsUptoRow.holds Tryz.pinned (OpenSpec.upto signsFormatsSpec)

/-- 'ostraconlaw01.SignsNamed', WHERE WHAT IT READS IS OF BULK AT MOST 1048576: true; the input reads as it did. -/
def signsNamedUptoRow : OpenClaim := { program := "ytkmimjngmfdpmaagreatdoor", sum := "b1c8fc00e9b42d552588acc39d2f09b90d6a03c64912b6ae84361ad747222eae", func := "ostracon/ostraconlaw01.SignsNamed", spec := "signsNamed", inPlace := ["internal/bytealg.CountString", "internal/bytealg.IndexByteString", "internal/bytealg.IndexString"], unfollowed := true, recurses := true, named := ["unicode/utf8.first", "unicode/utf8.acceptRanges", "internal/bytealg.MaxLen", "strconv.ErrSyntax", "strconv.ErrRange", "internal/strconv.uint64pow10", "math/bits.deBruijn32tab", "math/bits.deBruijn64tab", "ostracon/signs.letters"], apart := false, laid := [("math/bits.deBruijn32tab", laid_math_bits_deBruijn32tab), ("math/bits.deBruijn64tab", laid_math_bits_deBruijn64tab), ("internal/strconv.uint64pow10", laid_internal_strconv_uint64pow10), ("unicode/utf8.acceptRanges", laid_unicode_utf8_acceptRanges), ("strconv.ErrRange", laid_strconv_ErrRange), ("strconv.ErrSyntax", laid_strconv_ErrSyntax), ("ostracon/signs.letters", laid_ostracon_signs_letters), ("unicode/utf8.first", laid_unicode_utf8_first)], narrowed := true }
def SignsNamedUptoSaid : Prop := signsNamedUptoRow.holds Tryz.pinned (OpenSpec.upto signsNamedSpec)

/-- 'ostraconlaw01.SignsTidies', WHERE WHAT IT READS IS OF BULK AT MOST 1048576: true; the input reads as it did. -/
def signsTidiesUptoRow : OpenClaim := { program := "ytkmimjngmfdpmaagreatdoor", sum := "b1c8fc00e9b42d552588acc39d2f09b90d6a03c64912b6ae84361ad747222eae", func := "ostracon/ostraconlaw01.SignsTidies", spec := "signsTidies", inPlace := ["internal/bytealg.CountString", "internal/bytealg.IndexByteString", "internal/bytealg.IndexString"], unfollowed := true, recurses := true, named := ["unicode/utf8.first", "unicode/utf8.acceptRanges", "internal/bytealg.MaxLen", "strconv.ErrSyntax", "strconv.ErrRange", "internal/strconv.uint64pow10", "math/bits.deBruijn32tab", "math/bits.deBruijn64tab", "ostracon/signs.letters"], apart := false, laid := [("math/bits.deBruijn32tab", laid_math_bits_deBruijn32tab), ("math/bits.deBruijn64tab", laid_math_bits_deBruijn64tab), ("internal/strconv.uint64pow10", laid_internal_strconv_uint64pow10), ("unicode/utf8.acceptRanges", laid_unicode_utf8_acceptRanges), ("strconv.ErrRange", laid_strconv_ErrRange), ("strconv.ErrSyntax", laid_strconv_ErrSyntax), ("ostracon/signs.letters", laid_ostracon_signs_letters), ("unicode/utf8.first", laid_unicode_utf8_first)], narrowed := true }
def SignsTidiesUptoSaid : Prop := signsTidiesUptoRow.holds Tryz.pinned (OpenSpec.upto signsTidiesSpec)

/-- 'ostraconlaw01.SignsKept', WHERE WHAT IT READS IS OF BULK AT MOST 1048576: true; the input reads as it did. -/
def signsKeptUptoRow : OpenClaim := { program := "ytkmimjngmfdpmaagreatdoor", sum := "b1c8fc00e9b42d552588acc39d2f09b90d6a03c64912b6ae84361ad747222eae", func := "ostracon/ostraconlaw01.SignsKept", spec := "signsKept", inPlace := ["internal/bytealg.CountString", "internal/bytealg.IndexByteString", "internal/bytealg.IndexString"], unfollowed := true, recurses := true, named := ["unicode/utf8.first", "unicode/utf8.acceptRanges", "internal/bytealg.MaxLen", "strconv.ErrSyntax", "strconv.ErrRange", "internal/strconv.uint64pow10", "math/bits.deBruijn32tab", "math/bits.deBruijn64tab", "ostracon/signs.letters"], apart := false, laid := [("math/bits.deBruijn32tab", laid_math_bits_deBruijn32tab), ("math/bits.deBruijn64tab", laid_math_bits_deBruijn64tab), ("internal/strconv.uint64pow10", laid_internal_strconv_uint64pow10), ("unicode/utf8.acceptRanges", laid_unicode_utf8_acceptRanges), ("strconv.ErrRange", laid_strconv_ErrRange), ("strconv.ErrSyntax", laid_strconv_ErrSyntax), ("ostracon/signs.letters", laid_ostracon_signs_letters), ("unicode/utf8.first", laid_unicode_utf8_first)], narrowed := true }
def SignsKeptUptoSaid : Prop := signsKeptUptoRow.holds Tryz.pinned (OpenSpec.upto signsKeptSpec)

/-- 'ostraconlaw01.SignsMerges', WHERE WHAT IT READS IS OF BULK AT MOST 1048576: true; the input reads as it did. -/
def signsMergesUptoRow : OpenClaim := { program := "ytkmimjngmfdpmaagreatdoor", sum := "b1c8fc00e9b42d552588acc39d2f09b90d6a03c64912b6ae84361ad747222eae", func := "ostracon/ostraconlaw01.SignsMerges", spec := "signsMerges", inPlace := ["internal/bytealg.CountString", "internal/bytealg.IndexByteString", "internal/bytealg.IndexString"], unfollowed := true, recurses := true, named := ["unicode/utf8.first", "unicode/utf8.acceptRanges", "internal/bytealg.MaxLen", "strconv.ErrSyntax", "strconv.ErrRange", "internal/strconv.uint64pow10", "math/bits.deBruijn32tab", "math/bits.deBruijn64tab", "ostracon/signs.letters"], apart := false, laid := [("math/bits.deBruijn32tab", laid_math_bits_deBruijn32tab), ("math/bits.deBruijn64tab", laid_math_bits_deBruijn64tab), ("internal/strconv.uint64pow10", laid_internal_strconv_uint64pow10), ("unicode/utf8.acceptRanges", laid_unicode_utf8_acceptRanges), ("strconv.ErrRange", laid_strconv_ErrRange), ("strconv.ErrSyntax", laid_strconv_ErrSyntax), ("ostracon/signs.letters", laid_ostracon_signs_letters), ("unicode/utf8.first", laid_unicode_utf8_first)], narrowed := true }
def SignsMergesUptoSaid : Prop := signsMergesUptoRow.holds Tryz.pinned (OpenSpec.upto signsMergesSpec)

/-- 'ostraconlaw01.SignsMerged', WHERE WHAT IT READS IS OF BULK AT MOST 1048576: true; the input reads as it did. -/
def signsMergedUptoRow : OpenClaim := { program := "ytkmimjngmfdpmaagreatdoor", sum := "b1c8fc00e9b42d552588acc39d2f09b90d6a03c64912b6ae84361ad747222eae", func := "ostracon/ostraconlaw01.SignsMerged", spec := "signsMerged", inPlace := ["internal/bytealg.CountString", "internal/bytealg.IndexByteString", "internal/bytealg.IndexString"], unfollowed := true, recurses := true, named := ["unicode/utf8.first", "unicode/utf8.acceptRanges", "internal/bytealg.MaxLen", "strconv.ErrSyntax", "strconv.ErrRange", "internal/strconv.uint64pow10", "math/bits.deBruijn32tab", "math/bits.deBruijn64tab", "ostracon/signs.letters"], apart := false, laid := [("math/bits.deBruijn32tab", laid_math_bits_deBruijn32tab), ("math/bits.deBruijn64tab", laid_math_bits_deBruijn64tab), ("internal/strconv.uint64pow10", laid_internal_strconv_uint64pow10), ("unicode/utf8.acceptRanges", laid_unicode_utf8_acceptRanges), ("strconv.ErrRange", laid_strconv_ErrRange), ("strconv.ErrSyntax", laid_strconv_ErrSyntax), ("ostracon/signs.letters", laid_ostracon_signs_letters), ("unicode/utf8.first", laid_unicode_utf8_first)], narrowed := true }
def SignsMergedUptoSaid : Prop := signsMergedUptoRow.holds Tryz.pinned (OpenSpec.upto signsMergedSpec)

end Rows
end Go.Proofs.YtkmimjngmfdpmaaGreatDoor
