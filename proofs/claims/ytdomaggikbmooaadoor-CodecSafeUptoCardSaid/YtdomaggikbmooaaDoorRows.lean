/-
  NARROWER THAN 'FOR EVERY INPUT', by the rows' own cells (each row's printed sentence says how): CodecHex: laid · CodecBase: laid · CodecPercent: laid · CodecForm: laid · CodecGet: laid · CodecBack: laid · CodecOnly: laid · CodecSafe: laid.
  DERIVED. THE GIVEN ROWS OF THIS SEAT. 8 by the template 'for every input the law returns true; each argument reads behind the call as it read before'; 0 by the template 'total and deterministic' (their statements: YtdomaggikbmooaaDoorTotals.lean).
  GIVEN WITH THE SEED: the statements are not yours to turn. If you find one false, say at which input.
  Laid BY PROGRAM, IN A SANDBOX (cutbox-rows.mjs): the forced cells as the released guide's own fill.sh prints them over the translation e8e34a51e3f9f25a… (all of the seat's roots in one cut). By AI agents, Wed Nov 11 2026. No macro, syntax, notation, axiom, sorry.
-/
import Derived.Test.YtdomaggikbmooaaDoorChecked
import GoSem.PinnedTables
import GoSem.Claim
import GoSem.ClaimJoined
import GoSem.ClaimMapViews
import Derived.JoinedTies
import Derived.KernelRfl
namespace Go.Proofs.YtdomaggikbmooaaDoor
/- THE CELL 'sum', in the pinned program and in every row, IS THE sha256 OF THE DUMP (.gsa) THAT YtdomaggikbmooaaDoorProg.lean LOADS. Nothing in Lean hashes anything: it is a label: what it is worth is what the hold of that sum in a sandbox is worth. -/
noncomputable def Tryd.pinned : Pinned := { name := "ytdomaggikbmooaadoor", sum := "e8e34a51e3f9f25a9a8eb9b2234c1db61c2ae9365ca3064619f29173a01a56b7", checked := Tryd.checked }
namespace Rows
def none {H : Type} : Left H := { results := [], args := [] }

/- WHAT THE LISTED PACKAGE-LEVEL VARIABLES READ AS WHEN THE CALL BEGINS. Each datum BY PROGRAM (the guide's laid-datum.mjs) off the statement by which the dump's own 'gosem.cut.vars' lays the variable. In a bare row this is a premise. The card (YtdomaggikbmooaaDoorCards.lean) ties it to the program's text. -/
def laid_unicode_utf8_acceptRanges {H : Type} : DataW H := .agg [.agg [.lit (.int .u8 128), .lit (.int .u8 191)], .agg [.lit (.int .u8 160), .lit (.int .u8 191)], .agg [.lit (.int .u8 128), .lit (.int .u8 159)], .agg [.lit (.int .u8 144), .lit (.int .u8 191)], .agg [.lit (.int .u8 128), .lit (.int .u8 143)], .agg [.lit (.int .u8 0), .lit (.int .u8 0)], .agg [.lit (.int .u8 0), .lit (.int .u8 0)], .agg [.lit (.int .u8 0), .lit (.int .u8 0)], .agg [.lit (.int .u8 0), .lit (.int .u8 0)], .agg [.lit (.int .u8 0), .lit (.int .u8 0)], .agg [.lit (.int .u8 0), .lit (.int .u8 0)], .agg [.lit (.int .u8 0), .lit (.int .u8 0)], .agg [.lit (.int .u8 0), .lit (.int .u8 0)], .agg [.lit (.int .u8 0), .lit (.int .u8 0)], .agg [.lit (.int .u8 0), .lit (.int .u8 0)], .agg [.lit (.int .u8 0), .lit (.int .u8 0)]]
/-- One of Go's own tables, pinned by name: the form's constant. -/
def laid_unicode_utf8_first : DataW Unit := Go.Pinned.utf8First

/-- 'seneschallaw01.CodecHex': WHATEVER THE INPUT: true; the input reads as it did. -/
def codecHexSpec : ChangeSpec := { name := "codecHex", fn := fun _ => fun
  | [d1, d2] => { results := [.lit (.bool true)], args := [d1, d2] }
  | _ => none }
def codecHexRow : OpenClaim := { program := "ytdomaggikbmooaadoor", sum := "e8e34a51e3f9f25a9a8eb9b2234c1db61c2ae9365ca3064619f29173a01a56b7", func := "seneschal/seneschallaw01.CodecHex", spec := "codecHex", inPlace := ["internal/bytealg.IndexByteString", "internal/bytealg.IndexString", "internal/abi.NoEscape", "internal/bytealg.MakeNoZero", "internal/bytealg.CountString"], named := ["internal/bytealg.MaxLen", "unicode/utf8.first", "unicode/utf8.acceptRanges"], apart := false, laid := [("unicode/utf8.acceptRanges", laid_unicode_utf8_acceptRanges), ("unicode/utf8.first", laid_unicode_utf8_first)] }
def CodecHexSaid : Prop := codecHexRow.holds Tryd.pinned (OpenSpec.ofChange codecHexSpec)

/-- ITS FALSE NEIGHBOUR: 'it returns false'. Refute it at one input. -/
def codecHexWrong : ChangeSpec := { name := "codecHex", fn := fun _ => fun
  | [d1, d2] => { results := [.lit (.bool false)], args := [d1, d2] }
  | _ => none }
def CodecHexWrongFalsely : Prop := codecHexRow.holds Tryd.pinned (OpenSpec.ofChange codecHexWrong)

/-- 'seneschallaw01.CodecBase': WHATEVER THE INPUT: true; the input reads as it did. -/
def codecBaseSpec : ChangeSpec := { name := "codecBase", fn := fun _ => fun
  | [d1, d2] => { results := [.lit (.bool true)], args := [d1, d2] }
  | _ => none }
def codecBaseRow : OpenClaim := { program := "ytdomaggikbmooaadoor", sum := "e8e34a51e3f9f25a9a8eb9b2234c1db61c2ae9365ca3064619f29173a01a56b7", func := "seneschal/seneschallaw01.CodecBase", spec := "codecBase", inPlace := ["internal/bytealg.IndexByteString", "internal/bytealg.IndexString", "internal/abi.NoEscape", "internal/bytealg.MakeNoZero", "internal/bytealg.CountString"], named := ["internal/bytealg.MaxLen", "unicode/utf8.first", "unicode/utf8.acceptRanges"], apart := false, laid := [("unicode/utf8.acceptRanges", laid_unicode_utf8_acceptRanges), ("unicode/utf8.first", laid_unicode_utf8_first)] }
def CodecBaseSaid : Prop := codecBaseRow.holds Tryd.pinned (OpenSpec.ofChange codecBaseSpec)

/-- ITS FALSE NEIGHBOUR: 'it returns false'. Refute it at one input. -/
def codecBaseWrong : ChangeSpec := { name := "codecBase", fn := fun _ => fun
  | [d1, d2] => { results := [.lit (.bool false)], args := [d1, d2] }
  | _ => none }
def CodecBaseWrongFalsely : Prop := codecBaseRow.holds Tryd.pinned (OpenSpec.ofChange codecBaseWrong)

/-- 'seneschallaw01.CodecPercent': WHATEVER THE INPUT: true; the input reads as it did. -/
def codecPercentSpec : ChangeSpec := { name := "codecPercent", fn := fun _ => fun
  | [d1, d2] => { results := [.lit (.bool true)], args := [d1, d2] }
  | _ => none }
def codecPercentRow : OpenClaim := { program := "ytdomaggikbmooaadoor", sum := "e8e34a51e3f9f25a9a8eb9b2234c1db61c2ae9365ca3064619f29173a01a56b7", func := "seneschal/seneschallaw01.CodecPercent", spec := "codecPercent", inPlace := ["internal/bytealg.IndexByteString", "internal/bytealg.IndexString", "internal/abi.NoEscape", "internal/bytealg.MakeNoZero", "internal/bytealg.CountString"], named := ["internal/bytealg.MaxLen", "unicode/utf8.first", "unicode/utf8.acceptRanges"], apart := false, laid := [("unicode/utf8.acceptRanges", laid_unicode_utf8_acceptRanges), ("unicode/utf8.first", laid_unicode_utf8_first)] }
def CodecPercentSaid : Prop := codecPercentRow.holds Tryd.pinned (OpenSpec.ofChange codecPercentSpec)

/-- ITS FALSE NEIGHBOUR: 'it returns false'. Refute it at one input. -/
def codecPercentWrong : ChangeSpec := { name := "codecPercent", fn := fun _ => fun
  | [d1, d2] => { results := [.lit (.bool false)], args := [d1, d2] }
  | _ => none }
def CodecPercentWrongFalsely : Prop := codecPercentRow.holds Tryd.pinned (OpenSpec.ofChange codecPercentWrong)

/-- 'seneschallaw01.CodecForm': WHATEVER THE INPUT: true; the input reads as it did. -/
def codecFormSpec : ChangeSpec := { name := "codecForm", fn := fun _ => fun
  | [d1, d2] => { results := [.lit (.bool true)], args := [d1, d2] }
  | _ => none }
def codecFormRow : OpenClaim := { program := "ytdomaggikbmooaadoor", sum := "e8e34a51e3f9f25a9a8eb9b2234c1db61c2ae9365ca3064619f29173a01a56b7", func := "seneschal/seneschallaw01.CodecForm", spec := "codecForm", inPlace := ["internal/abi.NoEscape", "internal/bytealg.MakeNoZero", "internal/bytealg.IndexByteString", "internal/bytealg.IndexString", "internal/bytealg.CountString"], named := ["internal/bytealg.MaxLen", "unicode/utf8.first", "unicode/utf8.acceptRanges"], apart := false, laid := [("unicode/utf8.acceptRanges", laid_unicode_utf8_acceptRanges), ("unicode/utf8.first", laid_unicode_utf8_first)] }
def CodecFormSaid : Prop := codecFormRow.holds Tryd.pinned (OpenSpec.ofChange codecFormSpec)

/-- ITS FALSE NEIGHBOUR: 'it returns false'. Refute it at one input. -/
def codecFormWrong : ChangeSpec := { name := "codecForm", fn := fun _ => fun
  | [d1, d2] => { results := [.lit (.bool false)], args := [d1, d2] }
  | _ => none }
def CodecFormWrongFalsely : Prop := codecFormRow.holds Tryd.pinned (OpenSpec.ofChange codecFormWrong)

/-- 'seneschallaw01.CodecGet': WHATEVER THE INPUT: true; the input reads as it did. -/
def codecGetSpec : ChangeSpec := { name := "codecGet", fn := fun _ => fun
  | [d1, d2] => { results := [.lit (.bool true)], args := [d1, d2] }
  | _ => none }
def codecGetRow : OpenClaim := { program := "ytdomaggikbmooaadoor", sum := "e8e34a51e3f9f25a9a8eb9b2234c1db61c2ae9365ca3064619f29173a01a56b7", func := "seneschal/seneschallaw01.CodecGet", spec := "codecGet", inPlace := ["internal/bytealg.IndexByteString", "internal/bytealg.IndexString", "internal/abi.NoEscape", "internal/bytealg.MakeNoZero", "internal/bytealg.CountString"], named := ["internal/bytealg.MaxLen", "unicode/utf8.first", "unicode/utf8.acceptRanges"], apart := false, laid := [("unicode/utf8.acceptRanges", laid_unicode_utf8_acceptRanges), ("unicode/utf8.first", laid_unicode_utf8_first)] }
def CodecGetSaid : Prop := codecGetRow.holds Tryd.pinned (OpenSpec.ofChange codecGetSpec)

/-- ITS FALSE NEIGHBOUR: 'it returns false'. Refute it at one input. -/
def codecGetWrong : ChangeSpec := { name := "codecGet", fn := fun _ => fun
  | [d1, d2] => { results := [.lit (.bool false)], args := [d1, d2] }
  | _ => none }
def CodecGetWrongFalsely : Prop := codecGetRow.holds Tryd.pinned (OpenSpec.ofChange codecGetWrong)

/-- 'seneschallaw01.CodecBack': WHATEVER THE INPUT: true; the input reads as it did. -/
def codecBackSpec : ChangeSpec := { name := "codecBack", fn := fun _ => fun
  | [d1, d2] => { results := [.lit (.bool true)], args := [d1, d2] }
  | _ => none }
def codecBackRow : OpenClaim := { program := "ytdomaggikbmooaadoor", sum := "e8e34a51e3f9f25a9a8eb9b2234c1db61c2ae9365ca3064619f29173a01a56b7", func := "seneschal/seneschallaw01.CodecBack", spec := "codecBack", inPlace := ["internal/abi.NoEscape", "internal/bytealg.IndexByteString", "internal/bytealg.IndexString", "internal/bytealg.MakeNoZero", "internal/bytealg.CountString"], named := ["internal/bytealg.MaxLen", "unicode/utf8.first", "unicode/utf8.acceptRanges"], apart := false, laid := [("unicode/utf8.acceptRanges", laid_unicode_utf8_acceptRanges), ("unicode/utf8.first", laid_unicode_utf8_first)] }
def CodecBackSaid : Prop := codecBackRow.holds Tryd.pinned (OpenSpec.ofChange codecBackSpec)

/-- ITS FALSE NEIGHBOUR: 'it returns false'. Refute it at one input. -/
def codecBackWrong : ChangeSpec := { name := "codecBack", fn := fun _ => fun
  | [d1, d2] => { results := [.lit (.bool false)], args := [d1, d2] }
  | _ => none }
def CodecBackWrongFalsely : Prop := codecBackRow.holds Tryd.pinned (OpenSpec.ofChange codecBackWrong)

/-- 'seneschallaw01.CodecOnly': WHATEVER THE INPUT: true; the input reads as it did. -/
def codecOnlySpec : ChangeSpec := { name := "codecOnly", fn := fun _ => fun
  | [d1, d2] => { results := [.lit (.bool true)], args := [d1, d2] }
  | _ => none }
def codecOnlyRow : OpenClaim := { program := "ytdomaggikbmooaadoor", sum := "e8e34a51e3f9f25a9a8eb9b2234c1db61c2ae9365ca3064619f29173a01a56b7", func := "seneschal/seneschallaw01.CodecOnly", spec := "codecOnly", inPlace := ["internal/bytealg.IndexByteString", "internal/bytealg.IndexString", "internal/abi.NoEscape", "internal/bytealg.MakeNoZero", "internal/bytealg.CountString"], named := ["internal/bytealg.MaxLen", "unicode/utf8.first", "unicode/utf8.acceptRanges"], apart := false, laid := [("unicode/utf8.acceptRanges", laid_unicode_utf8_acceptRanges), ("unicode/utf8.first", laid_unicode_utf8_first)] }
def CodecOnlySaid : Prop := codecOnlyRow.holds Tryd.pinned (OpenSpec.ofChange codecOnlySpec)

/-- ITS FALSE NEIGHBOUR: 'it returns false'. Refute it at one input. -/
def codecOnlyWrong : ChangeSpec := { name := "codecOnly", fn := fun _ => fun
  | [d1, d2] => { results := [.lit (.bool false)], args := [d1, d2] }
  | _ => none }
def CodecOnlyWrongFalsely : Prop := codecOnlyRow.holds Tryd.pinned (OpenSpec.ofChange codecOnlyWrong)

/-- 'seneschallaw01.CodecSafe': WHATEVER THE INPUT: true; the input reads as it did. -/
def codecSafeSpec : ChangeSpec := { name := "codecSafe", fn := fun _ => fun
  | [d1, d2] => { results := [.lit (.bool true)], args := [d1, d2] }
  | _ => none }
def codecSafeRow : OpenClaim := { program := "ytdomaggikbmooaadoor", sum := "e8e34a51e3f9f25a9a8eb9b2234c1db61c2ae9365ca3064619f29173a01a56b7", func := "seneschal/seneschallaw01.CodecSafe", spec := "codecSafe", inPlace := ["internal/abi.NoEscape", "internal/bytealg.MakeNoZero", "internal/bytealg.IndexByteString", "internal/bytealg.IndexString", "internal/bytealg.CountString"], named := ["internal/bytealg.MaxLen", "unicode/utf8.first", "unicode/utf8.acceptRanges"], apart := false, laid := [("unicode/utf8.acceptRanges", laid_unicode_utf8_acceptRanges), ("unicode/utf8.first", laid_unicode_utf8_first)] }
def CodecSafeSaid : Prop := codecSafeRow.holds Tryd.pinned (OpenSpec.ofChange codecSafeSpec)

/-- ITS FALSE NEIGHBOUR: 'it returns false'. Refute it at one input. -/
def codecSafeWrong : ChangeSpec := { name := "codecSafe", fn := fun _ => fun
  | [d1, d2] => { results := [.lit (.bool false)], args := [d1, d2] }
  | _ => none }
def CodecSafeWrongFalsely : Prop := codecSafeRow.holds Tryd.pinned (OpenSpec.ofChange codecSafeWrong)

/- THE SECOND FORM. 'bulk': how many values and letters a reading holds, each counted each time it is reached (what is shared counts as often as it is met; a slice's spare places count too). A statement '..UptoSaid' is the law's where the arguments, and the package variables that the reading takes, are together of bulk at most 1048576: NARROWER than '..Said'. Prove '..Said' where nothing that the law and all that it calls make is longer than what came in: it says more and counts as full. Else prove '..UptoSaid'. A law counts once. -/
mutual
def uptoBulk {H : Type} : DataW H → Nat
  | .lit (.string bytes) => bytes.length + 1
  | .lit _ => 1
  | .nil => 1
  | .ptr d => uptoBulk d + 1
  | .slice elems spare => uptoBulkAll elems + uptoBulkAll spare + 1
  | .agg parts => uptoBulkAll parts + 1
  | .iface _ d => uptoBulk d + 1
  | .map entries => uptoBulkEntries entries + 1
  | .held _ => 1
def uptoBulkAll {H : Type} : List (DataW H) → Nat
  | [] => 0
  | d :: r => uptoBulk d + uptoBulkAll r
def uptoBulkEntries {H : Type} : List (Lit × DataW H) → Nat
  | [] => 0
  | x :: r => uptoBulkEntry x + uptoBulkEntries r
def uptoBulkEntry {H : Type} : Lit × DataW H → Nat
  | (.string bytes, d) => bytes.length + uptoBulk d + 1
  | (_, d) => uptoBulk d + 1
 end
def uptoSmall : (H : Type) → List (DataW H) → Bool := fun _ ds => decide (uptoBulkAll ds ≤ 1048576)
def OpenSpec.upto (s : _root_.Go.ChangeSpec) : _root_.Go.OpenSpec := { _root_.Go.OpenSpec.ofChange s with cond := some uptoSmall }

/-- 'seneschallaw01.CodecHex', WHERE WHAT IT READS IS OF BULK AT MOST 1048576: true; the input reads as it did. -/
def codecHexUptoRow : OpenClaim := { program := "ytdomaggikbmooaadoor", sum := "e8e34a51e3f9f25a9a8eb9b2234c1db61c2ae9365ca3064619f29173a01a56b7", func := "seneschal/seneschallaw01.CodecHex", spec := "codecHex", inPlace := ["internal/bytealg.IndexByteString", "internal/bytealg.IndexString", "internal/abi.NoEscape", "internal/bytealg.MakeNoZero", "internal/bytealg.CountString"], named := ["internal/bytealg.MaxLen", "unicode/utf8.first", "unicode/utf8.acceptRanges"], apart := false, laid := [("unicode/utf8.acceptRanges", laid_unicode_utf8_acceptRanges), ("unicode/utf8.first", laid_unicode_utf8_first)], narrowed := true }
def CodecHexUptoSaid : Prop := codecHexUptoRow.holds Tryd.pinned (OpenSpec.upto codecHexSpec)

/-- 'seneschallaw01.CodecBase', WHERE WHAT IT READS IS OF BULK AT MOST 1048576: true; the input reads as it did. -/
def codecBaseUptoRow : OpenClaim := { program := "ytdomaggikbmooaadoor", sum := "e8e34a51e3f9f25a9a8eb9b2234c1db61c2ae9365ca3064619f29173a01a56b7", func := "seneschal/seneschallaw01.CodecBase", spec := "codecBase", inPlace := ["internal/bytealg.IndexByteString", "internal/bytealg.IndexString", "internal/abi.NoEscape", "internal/bytealg.MakeNoZero", "internal/bytealg.CountString"], named := ["internal/bytealg.MaxLen", "unicode/utf8.first", "unicode/utf8.acceptRanges"], apart := false, laid := [("unicode/utf8.acceptRanges", laid_unicode_utf8_acceptRanges), ("unicode/utf8.first", laid_unicode_utf8_first)], narrowed := true }
def CodecBaseUptoSaid : Prop := codecBaseUptoRow.holds Tryd.pinned (OpenSpec.upto codecBaseSpec)

/-- 'seneschallaw01.CodecPercent', WHERE WHAT IT READS IS OF BULK AT MOST 1048576: true; the input reads as it did. -/
def codecPercentUptoRow : OpenClaim := { program := "ytdomaggikbmooaadoor", sum := "e8e34a51e3f9f25a9a8eb9b2234c1db61c2ae9365ca3064619f29173a01a56b7", func := "seneschal/seneschallaw01.CodecPercent", spec := "codecPercent", inPlace := ["internal/bytealg.IndexByteString", "internal/bytealg.IndexString", "internal/abi.NoEscape", "internal/bytealg.MakeNoZero", "internal/bytealg.CountString"], named := ["internal/bytealg.MaxLen", "unicode/utf8.first", "unicode/utf8.acceptRanges"], apart := false, laid := [("unicode/utf8.acceptRanges", laid_unicode_utf8_acceptRanges), ("unicode/utf8.first", laid_unicode_utf8_first)], narrowed := true }
def CodecPercentUptoSaid : Prop := codecPercentUptoRow.holds Tryd.pinned (OpenSpec.upto codecPercentSpec)

/-- 'seneschallaw01.CodecForm', WHERE WHAT IT READS IS OF BULK AT MOST 1048576: true; the input reads as it did. -/
def codecFormUptoRow : OpenClaim := { program := "ytdomaggikbmooaadoor", sum := "e8e34a51e3f9f25a9a8eb9b2234c1db61c2ae9365ca3064619f29173a01a56b7", func := "seneschal/seneschallaw01.CodecForm", spec := "codecForm", inPlace := ["internal/abi.NoEscape", "internal/bytealg.MakeNoZero", "internal/bytealg.IndexByteString", "internal/bytealg.IndexString", "internal/bytealg.CountString"], named := ["internal/bytealg.MaxLen", "unicode/utf8.first", "unicode/utf8.acceptRanges"], apart := false, laid := [("unicode/utf8.acceptRanges", laid_unicode_utf8_acceptRanges), ("unicode/utf8.first", laid_unicode_utf8_first)], narrowed := true }
def CodecFormUptoSaid : Prop := codecFormUptoRow.holds Tryd.pinned (OpenSpec.upto codecFormSpec)

/-- 'seneschallaw01.CodecGet', WHERE WHAT IT READS IS OF BULK AT MOST 1048576: true; the input reads as it did. -/
def codecGetUptoRow : OpenClaim := { program := "ytdomaggikbmooaadoor", sum := "e8e34a51e3f9f25a9a8eb9b2234c1db61c2ae9365ca3064619f29173a01a56b7", func := "seneschal/seneschallaw01.CodecGet", spec := "codecGet", inPlace := ["internal/bytealg.IndexByteString", "internal/bytealg.IndexString", "internal/abi.NoEscape", "internal/bytealg.MakeNoZero", "internal/bytealg.CountString"], named := ["internal/bytealg.MaxLen", "unicode/utf8.first", "unicode/utf8.acceptRanges"], apart := false, laid := [("unicode/utf8.acceptRanges", laid_unicode_utf8_acceptRanges), ("unicode/utf8.first", laid_unicode_utf8_first)], narrowed := true }
def CodecGetUptoSaid : Prop := codecGetUptoRow.holds Tryd.pinned (OpenSpec.upto codecGetSpec)

/-- 'seneschallaw01.CodecBack', WHERE WHAT IT READS IS OF BULK AT MOST 1048576: true; the input reads as it did. -/
def codecBackUptoRow : OpenClaim := { program := "ytdomaggikbmooaadoor", sum := "e8e34a51e3f9f25a9a8eb9b2234c1db61c2ae9365ca3064619f29173a01a56b7", func := "seneschal/seneschallaw01.CodecBack", spec := "codecBack", inPlace := ["internal/abi.NoEscape", "internal/bytealg.IndexByteString", "internal/bytealg.IndexString", "internal/bytealg.MakeNoZero", "internal/bytealg.CountString"], named := ["internal/bytealg.MaxLen", "unicode/utf8.first", "unicode/utf8.acceptRanges"], apart := false, laid := [("unicode/utf8.acceptRanges", laid_unicode_utf8_acceptRanges), ("unicode/utf8.first", laid_unicode_utf8_first)], narrowed := true }
def CodecBackUptoSaid : Prop := codecBackUptoRow.holds Tryd.pinned (OpenSpec.upto codecBackSpec)

/-- 'seneschallaw01.CodecOnly', WHERE WHAT IT READS IS OF BULK AT MOST 1048576: true; the input reads as it did. -/
def codecOnlyUptoRow : OpenClaim := { program := "ytdomaggikbmooaadoor", sum := "e8e34a51e3f9f25a9a8eb9b2234c1db61c2ae9365ca3064619f29173a01a56b7", func := "seneschal/seneschallaw01.CodecOnly", spec := "codecOnly", inPlace := ["internal/bytealg.IndexByteString", "internal/bytealg.IndexString", "internal/abi.NoEscape", "internal/bytealg.MakeNoZero", "internal/bytealg.CountString"], named := ["internal/bytealg.MaxLen", "unicode/utf8.first", "unicode/utf8.acceptRanges"], apart := false, laid := [("unicode/utf8.acceptRanges", laid_unicode_utf8_acceptRanges), ("unicode/utf8.first", laid_unicode_utf8_first)], narrowed := true }
def CodecOnlyUptoSaid : Prop := codecOnlyUptoRow.holds Tryd.pinned (OpenSpec.upto codecOnlySpec)

/-- 'seneschallaw01.CodecSafe', WHERE WHAT IT READS IS OF BULK AT MOST 1048576: true; the input reads as it did. -/
def codecSafeUptoRow : OpenClaim := { program := "ytdomaggikbmooaadoor", sum := "e8e34a51e3f9f25a9a8eb9b2234c1db61c2ae9365ca3064619f29173a01a56b7", func := "seneschal/seneschallaw01.CodecSafe", spec := "codecSafe", inPlace := ["internal/abi.NoEscape", "internal/bytealg.MakeNoZero", "internal/bytealg.IndexByteString", "internal/bytealg.IndexString", "internal/bytealg.CountString"], named := ["internal/bytealg.MaxLen", "unicode/utf8.first", "unicode/utf8.acceptRanges"], apart := false, laid := [("unicode/utf8.acceptRanges", laid_unicode_utf8_acceptRanges), ("unicode/utf8.first", laid_unicode_utf8_first)], narrowed := true }
def CodecSafeUptoSaid : Prop := codecSafeUptoRow.holds Tryd.pinned (OpenSpec.upto codecSafeSpec)

end Rows
end Go.Proofs.YtdomaggikbmooaaDoor
