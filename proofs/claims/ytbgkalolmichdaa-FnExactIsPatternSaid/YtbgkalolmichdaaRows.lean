/-
  NARROWER THAN 'FOR EVERY INPUT', by the rows' own cells (each row's printed sentence says how): FnExactCountEdits: loops · FnExactSameEdits: loops · FnExactIsForm: loops · FnExactFormatBraces: loops.
  DERIVED. THE GIVEN ROWS OF THIS SEAT. 8 by the template 'for every input the law returns true; each argument reads behind the call as it read before'; 0 by the template 'total and deterministic' (their statements: YtbgkalolmichdaaTotals.lean).
  GIVEN WITH THE SEED: the statements are not yours to turn. If you find one false, say at which input.
  Laid BY PROGRAM, IN A SANDBOX (cutbox-rows.mjs): the forced cells as the released guide's own fill.sh prints them over the translation d1349157d6fd529d… (all of the seat's roots in one cut). By AI agents, Wed Nov 11 2026. No macro, syntax, notation, axiom, sorry.
-/
import Derived.Test.YtbgkalolmichdaaChecked
import GoSem.Claim
import GoSem.ClaimJoined
import GoSem.ClaimMapViews
import Derived.JoinedTies
import Derived.KernelRfl
namespace Go.Proofs.Ytbgkalolmichdaa
/- THE CELL 'sum', in the pinned program and in every row, IS THE sha256 OF THE DUMP (.gsa) THAT YtbgkalolmichdaaProg.lean LOADS. Nothing in Lean hashes anything: it is a label: what it is worth is what the hold of that sum in a sandbox is worth. -/
noncomputable def Try.pinned : Pinned := { name := "ytbgkalolmichdaa", sum := "d1349157d6fd529d6a1a61dda1d63d7e3256ef5798acd91397dc3bfce6db5be2", checked := Try.checked }
namespace Rows
def none {H : Type} : Left H := { results := [], args := [] }

/-- 'laws.FnExactUnescapeText': WHATEVER THE INPUT: true; the input reads as it did. -/
def fnExactUnescapeTextSpec : ChangeSpec := { name := "fnExactUnescapeText", fn := fun _ => fun
  | [d] => { results := [.lit (.bool true)], args := [d] }
  | _ => none }
def fnExactUnescapeTextRow : OpenClaim := { program := "ytbgkalolmichdaa", sum := "d1349157d6fd529d6a1a61dda1d63d7e3256ef5798acd91397dc3bfce6db5be2", func := "loop.example/g03013/laws.FnExactUnescapeText", spec := "fnExactUnescapeText", apart := false }
def FnExactUnescapeTextSaid : Prop := fnExactUnescapeTextRow.holds Try.pinned (OpenSpec.ofChange fnExactUnescapeTextSpec)

/-- ITS FALSE NEIGHBOUR: 'it returns false'. Refute it at one input. -/
def fnExactUnescapeTextWrong : ChangeSpec := { name := "fnExactUnescapeText", fn := fun _ => fun
  | [d] => { results := [.lit (.bool false)], args := [d] }
  | _ => none }
def FnExactUnescapeTextWrongFalsely : Prop := fnExactUnescapeTextRow.holds Try.pinned (OpenSpec.ofChange fnExactUnescapeTextWrong)

/-- 'laws.FnExactCountEdits': WHATEVER THE INPUT: true; the input reads as it did. -/
def fnExactCountEditsSpec : ChangeSpec := { name := "fnExactCountEdits", fn := fun _ => fun
  | [d] => { results := [.lit (.bool true)], args := [d] }
  | _ => none }
def fnExactCountEditsRow : OpenClaim := { program := "ytbgkalolmichdaa", sum := "d1349157d6fd529d6a1a61dda1d63d7e3256ef5798acd91397dc3bfce6db5be2", func := "loop.example/g03013/laws.FnExactCountEdits", spec := "fnExactCountEdits", recurses := true, loops := true, apart := false }
def FnExactCountEditsSaid : Prop := fnExactCountEditsRow.holds Try.pinned (OpenSpec.ofChange fnExactCountEditsSpec)

/-- ITS FALSE NEIGHBOUR: 'it returns false'. Refute it at one input. -/
def fnExactCountEditsWrong : ChangeSpec := { name := "fnExactCountEdits", fn := fun _ => fun
  | [d] => { results := [.lit (.bool false)], args := [d] }
  | _ => none }
def FnExactCountEditsWrongFalsely : Prop := fnExactCountEditsRow.holds Try.pinned (OpenSpec.ofChange fnExactCountEditsWrong)

/-- 'laws.FnExactSameEdits': WHATEVER THE INPUT: true; the input reads as it did. -/
def fnExactSameEditsSpec : ChangeSpec := { name := "fnExactSameEdits", fn := fun _ => fun
  | [d1, d2] => { results := [.lit (.bool true)], args := [d1, d2] }
  | _ => none }
def fnExactSameEditsRow : OpenClaim := { program := "ytbgkalolmichdaa", sum := "d1349157d6fd529d6a1a61dda1d63d7e3256ef5798acd91397dc3bfce6db5be2", func := "loop.example/g03013/laws.FnExactSameEdits", spec := "fnExactSameEdits", recurses := true, loops := true, apart := false }
def FnExactSameEditsSaid : Prop := fnExactSameEditsRow.holds Try.pinned (OpenSpec.ofChange fnExactSameEditsSpec)

/-- ITS FALSE NEIGHBOUR: 'it returns false'. Refute it at one input. -/
def fnExactSameEditsWrong : ChangeSpec := { name := "fnExactSameEdits", fn := fun _ => fun
  | [d1, d2] => { results := [.lit (.bool false)], args := [d1, d2] }
  | _ => none }
def FnExactSameEditsWrongFalsely : Prop := fnExactSameEditsRow.holds Try.pinned (OpenSpec.ofChange fnExactSameEditsWrong)

/-- 'laws.FnExactIsForm': WHATEVER THE INPUT: true; the input reads as it did. -/
def fnExactIsFormSpec : ChangeSpec := { name := "fnExactIsForm", fn := fun _ => fun
  | [d] => { results := [.lit (.bool true)], args := [d] }
  | _ => none }
def fnExactIsFormRow : OpenClaim := { program := "ytbgkalolmichdaa", sum := "d1349157d6fd529d6a1a61dda1d63d7e3256ef5798acd91397dc3bfce6db5be2", func := "loop.example/g03013/laws.FnExactIsForm", spec := "fnExactIsForm", recurses := true, loops := true, apart := false }
def FnExactIsFormSaid : Prop := fnExactIsFormRow.holds Try.pinned (OpenSpec.ofChange fnExactIsFormSpec)

/-- ITS FALSE NEIGHBOUR: 'it returns false'. Refute it at one input. -/
def fnExactIsFormWrong : ChangeSpec := { name := "fnExactIsForm", fn := fun _ => fun
  | [d] => { results := [.lit (.bool false)], args := [d] }
  | _ => none }
def FnExactIsFormWrongFalsely : Prop := fnExactIsFormRow.holds Try.pinned (OpenSpec.ofChange fnExactIsFormWrong)

/-- 'laws.FnExactIsPattern': WHATEVER THE INPUT: true; the input reads as it did. -/
def fnExactIsPatternSpec : ChangeSpec := { name := "fnExactIsPattern", fn := fun _ => fun
  | [d] => { results := [.lit (.bool true)], args := [d] }
  | _ => none }
def fnExactIsPatternRow : OpenClaim := { program := "ytbgkalolmichdaa", sum := "d1349157d6fd529d6a1a61dda1d63d7e3256ef5798acd91397dc3bfce6db5be2", func := "loop.example/g03013/laws.FnExactIsPattern", spec := "fnExactIsPattern", recurses := true, apart := false }
def FnExactIsPatternSaid : Prop := fnExactIsPatternRow.holds Try.pinned (OpenSpec.ofChange fnExactIsPatternSpec)

/-- ITS FALSE NEIGHBOUR: 'it returns false'. Refute it at one input. -/
def fnExactIsPatternWrong : ChangeSpec := { name := "fnExactIsPattern", fn := fun _ => fun
  | [d] => { results := [.lit (.bool false)], args := [d] }
  | _ => none }
def FnExactIsPatternWrongFalsely : Prop := fnExactIsPatternRow.holds Try.pinned (OpenSpec.ofChange fnExactIsPatternWrong)

/-- 'laws.FnExactMatchText': WHATEVER THE INPUT: true; the input reads as it did. -/
def fnExactMatchTextSpec : ChangeSpec := { name := "fnExactMatchText", fn := fun _ => fun
  | [d1, d2] => { results := [.lit (.bool true)], args := [d1, d2] }
  | _ => none }
def fnExactMatchTextRow : OpenClaim := { program := "ytbgkalolmichdaa", sum := "d1349157d6fd529d6a1a61dda1d63d7e3256ef5798acd91397dc3bfce6db5be2", func := "loop.example/g03013/laws.FnExactMatchText", spec := "fnExactMatchText", inPlace := ["internal/bytealg.IndexByteString"], recurses := true, apart := false }
def FnExactMatchTextSaid : Prop := fnExactMatchTextRow.holds Try.pinned (OpenSpec.ofChange fnExactMatchTextSpec)

/-- ITS FALSE NEIGHBOUR: 'it returns false'. Refute it at one input. -/
def fnExactMatchTextWrong : ChangeSpec := { name := "fnExactMatchText", fn := fun _ => fun
  | [d1, d2] => { results := [.lit (.bool false)], args := [d1, d2] }
  | _ => none }
def FnExactMatchTextWrongFalsely : Prop := fnExactMatchTextRow.holds Try.pinned (OpenSpec.ofChange fnExactMatchTextWrong)

/-- 'laws.FnExactFormatBraces': WHATEVER THE INPUT: true; the input reads as it did. -/
def fnExactFormatBracesSpec : ChangeSpec := { name := "fnExactFormatBraces", fn := fun _ => fun
  | [d] => { results := [.lit (.bool true)], args := [d] }
  | _ => none }
def fnExactFormatBracesRow : OpenClaim := { program := "ytbgkalolmichdaa", sum := "d1349157d6fd529d6a1a61dda1d63d7e3256ef5798acd91397dc3bfce6db5be2", func := "loop.example/g03013/laws.FnExactFormatBraces", spec := "fnExactFormatBraces", inPlace := ["internal/abi.NoEscape", "internal/bytealg.MakeNoZero"], recurses := true, loops := true, apart := false }
def FnExactFormatBracesSaid : Prop := fnExactFormatBracesRow.holds Try.pinned (OpenSpec.ofChange fnExactFormatBracesSpec)

/-- ITS FALSE NEIGHBOUR: 'it returns false'. Refute it at one input. -/
def fnExactFormatBracesWrong : ChangeSpec := { name := "fnExactFormatBraces", fn := fun _ => fun
  | [d] => { results := [.lit (.bool false)], args := [d] }
  | _ => none }
def FnExactFormatBracesWrongFalsely : Prop := fnExactFormatBracesRow.holds Try.pinned (OpenSpec.ofChange fnExactFormatBracesWrong)

/-- 'laws.FnExactIsType': WHATEVER THE INPUT: true; the input reads as it did. -/
def fnExactIsTypeSpec : ChangeSpec := { name := "fnExactIsType", fn := fun _ => fun
  | [d] => { results := [.lit (.bool true)], args := [d] }
  | _ => none }
def fnExactIsTypeRow : OpenClaim := { program := "ytbgkalolmichdaa", sum := "d1349157d6fd529d6a1a61dda1d63d7e3256ef5798acd91397dc3bfce6db5be2", func := "loop.example/g03013/laws.FnExactIsType", spec := "fnExactIsType", recurses := true, apart := false }
def FnExactIsTypeSaid : Prop := fnExactIsTypeRow.holds Try.pinned (OpenSpec.ofChange fnExactIsTypeSpec)

/-- ITS FALSE NEIGHBOUR: 'it returns false'. Refute it at one input. -/
def fnExactIsTypeWrong : ChangeSpec := { name := "fnExactIsType", fn := fun _ => fun
  | [d] => { results := [.lit (.bool false)], args := [d] }
  | _ => none }
def FnExactIsTypeWrongFalsely : Prop := fnExactIsTypeRow.holds Try.pinned (OpenSpec.ofChange fnExactIsTypeWrong)

/- THE SECOND FORM. 'bulk': how many values and letters a reading holds, each counted each time it is reached (what is shared counts as often as it is met; a slice's spare places count too). A statement '..UptoSaid' is the law's where the arguments, and the package variables that the reading takes, are together of bulk at most 1048576: NARROWER than '..Said'. Prove '..Said' where nothing that the law and all that it calls make is longer than what came in: it says more and counts as full. Else prove '..UptoSaid'. A law counts once. -/
mutual
def uptoBulk {H : Type} : DataW H → Nat
  | .lit (.string bytes) => bytes.length + 1
  | .lit _ => 1
  | .nil => 1
  | .ptr d => uptoBulk d + 1
  | .slice elems spare => uptoBulkAll elems + uptoBulkAll spare + 1
  | .agg parts => uptoBulkAll parts + 1
  | .iface _ d => uptoBulk d + 1
  | .map entries => uptoBulkEntries entries + 1
  | .held _ => 1
def uptoBulkAll {H : Type} : List (DataW H) → Nat
  | [] => 0
  | d :: r => uptoBulk d + uptoBulkAll r
def uptoBulkEntries {H : Type} : List (Lit × DataW H) → Nat
  | [] => 0
  | x :: r => uptoBulkEntry x + uptoBulkEntries r
def uptoBulkEntry {H : Type} : Lit × DataW H → Nat
  | (.string bytes, d) => bytes.length + uptoBulk d + 1
  | (_, d) => uptoBulk d + 1
 end
def uptoSmall : (H : Type) → List (DataW H) → Bool := fun _ ds => decide (uptoBulkAll ds ≤ 1048576)
def OpenSpec.upto (s : _root_.Go.ChangeSpec) : _root_.Go.OpenSpec := { _root_.Go.OpenSpec.ofChange s with cond := some uptoSmall }

/-- 'laws.FnExactUnescapeText', WHERE WHAT IT READS IS OF BULK AT MOST 1048576: true; the input reads as it did. -/
def fnExactUnescapeTextUptoRow : OpenClaim := { program := "ytbgkalolmichdaa", sum := "d1349157d6fd529d6a1a61dda1d63d7e3256ef5798acd91397dc3bfce6db5be2", func := "loop.example/g03013/laws.FnExactUnescapeText", spec := "fnExactUnescapeText", apart := false, narrowed := true }
def FnExactUnescapeTextUptoSaid : Prop := fnExactUnescapeTextUptoRow.holds Try.pinned (OpenSpec.upto fnExactUnescapeTextSpec)

/-- 'laws.FnExactCountEdits', WHERE WHAT IT READS IS OF BULK AT MOST 1048576: true; the input reads as it did. -/
def fnExactCountEditsUptoRow : OpenClaim := { program := "ytbgkalolmichdaa", sum := "d1349157d6fd529d6a1a61dda1d63d7e3256ef5798acd91397dc3bfce6db5be2", func := "loop.example/g03013/laws.FnExactCountEdits", spec := "fnExactCountEdits", recurses := true, loops := true, apart := false, narrowed := true }
def FnExactCountEditsUptoSaid : Prop := fnExactCountEditsUptoRow.holds Try.pinned (OpenSpec.upto fnExactCountEditsSpec)

/-- 'laws.FnExactSameEdits', WHERE WHAT IT READS IS OF BULK AT MOST 1048576: true; the input reads as it did. -/
def fnExactSameEditsUptoRow : OpenClaim := { program := "ytbgkalolmichdaa", sum := "d1349157d6fd529d6a1a61dda1d63d7e3256ef5798acd91397dc3bfce6db5be2", func := "loop.example/g03013/laws.FnExactSameEdits", spec := "fnExactSameEdits", recurses := true, loops := true, apart := false, narrowed := true }
def FnExactSameEditsUptoSaid : Prop := fnExactSameEditsUptoRow.holds Try.pinned (OpenSpec.upto fnExactSameEditsSpec)

/-- 'laws.FnExactIsForm', WHERE WHAT IT READS IS OF BULK AT MOST 1048576: true; the input reads as it did. -/
def fnExactIsFormUptoRow : OpenClaim := { program := "ytbgkalolmichdaa", sum := "d1349157d6fd529d6a1a61dda1d63d7e3256ef5798acd91397dc3bfce6db5be2", func := "loop.example/g03013/laws.FnExactIsForm", spec := "fnExactIsForm", recurses := true, loops := true, apart := false, narrowed := true }
def FnExactIsFormUptoSaid : Prop := fnExactIsFormUptoRow.holds Try.pinned (OpenSpec.upto fnExactIsFormSpec)

/-- 'laws.FnExactIsPattern', WHERE WHAT IT READS IS OF BULK AT MOST 1048576: true; the input reads as it did. -/
def fnExactIsPatternUptoRow : OpenClaim := { program := "ytbgkalolmichdaa", sum := "d1349157d6fd529d6a1a61dda1d63d7e3256ef5798acd91397dc3bfce6db5be2", func := "loop.example/g03013/laws.FnExactIsPattern", spec := "fnExactIsPattern", recurses := true, apart := false, narrowed := true }
def FnExactIsPatternUptoSaid : Prop := fnExactIsPatternUptoRow.holds Try.pinned (OpenSpec.upto fnExactIsPatternSpec)

/-- 'laws.FnExactMatchText', WHERE WHAT IT READS IS OF BULK AT MOST 1048576: true; the input reads as it did. -/
def fnExactMatchTextUptoRow : OpenClaim := { program := "ytbgkalolmichdaa", sum := "d1349157d6fd529d6a1a61dda1d63d7e3256ef5798acd91397dc3bfce6db5be2", func := "loop.example/g03013/laws.FnExactMatchText", spec := "fnExactMatchText", inPlace := ["internal/bytealg.IndexByteString"], recurses := true, apart := false, narrowed := true }
def FnExactMatchTextUptoSaid : Prop := fnExactMatchTextUptoRow.holds Try.pinned (OpenSpec.upto fnExactMatchTextSpec)

/-- 'laws.FnExactFormatBraces', WHERE WHAT IT READS IS OF BULK AT MOST 1048576: true; the input reads as it did. -/
def fnExactFormatBracesUptoRow : OpenClaim := { program := "ytbgkalolmichdaa", sum := "d1349157d6fd529d6a1a61dda1d63d7e3256ef5798acd91397dc3bfce6db5be2", func := "loop.example/g03013/laws.FnExactFormatBraces", spec := "fnExactFormatBraces", inPlace := ["internal/abi.NoEscape", "internal/bytealg.MakeNoZero"], recurses := true, loops := true, apart := false, narrowed := true }
def FnExactFormatBracesUptoSaid : Prop := fnExactFormatBracesUptoRow.holds Try.pinned (OpenSpec.upto fnExactFormatBracesSpec)

/-- 'laws.FnExactIsType', WHERE WHAT IT READS IS OF BULK AT MOST 1048576: true; the input reads as it did. -/
def fnExactIsTypeUptoRow : OpenClaim := { program := "ytbgkalolmichdaa", sum := "d1349157d6fd529d6a1a61dda1d63d7e3256ef5798acd91397dc3bfce6db5be2", func := "loop.example/g03013/laws.FnExactIsType", spec := "fnExactIsType", recurses := true, apart := false, narrowed := true }
def FnExactIsTypeUptoSaid : Prop := fnExactIsTypeUptoRow.holds Try.pinned (OpenSpec.upto fnExactIsTypeSpec)

end Rows
end Go.Proofs.Ytbgkalolmichdaa
