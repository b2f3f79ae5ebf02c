/-
  NARROWER THAN 'FOR EVERY INPUT', by the rows' own cells (each row's printed sentence says how): RegexParses: laid · RegexMay: loops, laid · RegexAll: laid · RegexBack: laid · RegexSpells: laid · RegexForms: laid · RegexCounts: laid · RegexDeep: laid · RegexGroups: laid · RegexEmpty: laid.
  DERIVED. THE GIVEN ROWS OF THIS SEAT. 10 by the template 'for every input the law returns true; each argument reads behind the call as it read before'; 0 by the template 'total and deterministic' (their statements: YtgjmmgjbfkodiaaDoorTotals.lean).
  GIVEN WITH THE SEED: the statements are not yours to turn. If you find one false, say at which input.
  Laid BY PROGRAM, IN A SANDBOX (cutbox-rows.mjs): the forced cells as the released guide's own fill.sh prints them over the translation bd6ad7c8344349a5… (all of the seat's roots in one cut). By AI agents, Wed Nov 11 2026. No macro, syntax, notation, axiom, sorry.
-/
import Derived.Test.YtgjmmgjbfkodiaaDoorChecked
import GoSem.Claim
import GoSem.ClaimJoined
import GoSem.ClaimMapViews
import Derived.JoinedTies
import Derived.KernelRfl
namespace Go.Proofs.YtgjmmgjbfkodiaaDoor
/- THE CELL 'sum', in the pinned program and in every row, IS THE sha256 OF THE DUMP (.gsa) THAT YtgjmmgjbfkodiaaDoorProg.lean LOADS. Nothing in Lean hashes anything: it is a label: what it is worth is what the hold of that sum in a sandbox is worth. -/
noncomputable def Tryd.pinned : Pinned := { name := "ytgjmmgjbfkodiaadoor", sum := "bd6ad7c8344349a5a87912aaa5297432016665279390293646776265be5eb7a4", checked := Tryd.checked }
namespace Rows
def none {H : Type} : Left H := { results := [], args := [] }

/- WHAT THE LISTED PACKAGE-LEVEL VARIABLES READ AS WHEN THE CALL BEGINS. Each datum BY PROGRAM (the guide's laid-datum.mjs) off the statement by which the dump's own 'gosem.cut.vars' lays the variable. In a bare row this is a premise. The card (YtgjmmgjbfkodiaaDoorCards.lean) ties it to the program's text. -/
def laid_math_bits_deBruijn64tab {H : Type} : DataW H := .agg [.lit (.int .u8 0), .lit (.int .u8 1), .lit (.int .u8 56), .lit (.int .u8 2), .lit (.int .u8 57), .lit (.int .u8 49), .lit (.int .u8 28), .lit (.int .u8 3), .lit (.int .u8 61), .lit (.int .u8 58), .lit (.int .u8 42), .lit (.int .u8 50), .lit (.int .u8 38), .lit (.int .u8 29), .lit (.int .u8 17), .lit (.int .u8 4), .lit (.int .u8 62), .lit (.int .u8 47), .lit (.int .u8 59), .lit (.int .u8 36), .lit (.int .u8 45), .lit (.int .u8 43), .lit (.int .u8 51), .lit (.int .u8 22), .lit (.int .u8 53), .lit (.int .u8 39), .lit (.int .u8 33), .lit (.int .u8 30), .lit (.int .u8 24), .lit (.int .u8 18), .lit (.int .u8 12), .lit (.int .u8 5), .lit (.int .u8 63), .lit (.int .u8 55), .lit (.int .u8 48), .lit (.int .u8 27), .lit (.int .u8 60), .lit (.int .u8 41), .lit (.int .u8 37), .lit (.int .u8 16), .lit (.int .u8 46), .lit (.int .u8 35), .lit (.int .u8 44), .lit (.int .u8 21), .lit (.int .u8 52), .lit (.int .u8 32), .lit (.int .u8 23), .lit (.int .u8 11), .lit (.int .u8 54), .lit (.int .u8 26), .lit (.int .u8 40), .lit (.int .u8 15), .lit (.int .u8 34), .lit (.int .u8 20), .lit (.int .u8 31), .lit (.int .u8 10), .lit (.int .u8 25), .lit (.int .u8 14), .lit (.int .u8 19), .lit (.int .u8 9), .lit (.int .u8 13), .lit (.int .u8 8), .lit (.int .u8 7), .lit (.int .u8 6)]

/-- 'eyotlaw9.RegexParses': WHATEVER THE INPUT: true; the input reads as it did. -/
def regexParsesSpec : ChangeSpec := { name := "regexParses", fn := fun _ => fun
  | [d] => { results := [.lit (.bool true)], args := [d] }
  | _ => none }
def regexParsesRow : OpenClaim := { program := "ytgjmmgjbfkodiaadoor", sum := "bd6ad7c8344349a5a87912aaa5297432016665279390293646776265be5eb7a4", func := "eyot/eyotlaw9.RegexParses", spec := "regexParses", inPlace := ["internal/bytealg.IndexByteString", "internal/abi.NoEscape", "internal/bytealg.MakeNoZero"], unfollowed := true, recurses := true, named := ["math/bits.deBruijn64tab"], apart := false, laid := [("math/bits.deBruijn64tab", laid_math_bits_deBruijn64tab)] }
def RegexParsesSaid : Prop := regexParsesRow.holds Tryd.pinned (OpenSpec.ofChange regexParsesSpec)

/-- ITS FALSE NEIGHBOUR: 'it returns false'. Refute it at one input. -/
def regexParsesWrong : ChangeSpec := { name := "regexParses", fn := fun _ => fun
  | [d] => { results := [.lit (.bool false)], args := [d] }
  | _ => none }
def RegexParsesWrongFalsely : Prop := regexParsesRow.holds Tryd.pinned (OpenSpec.ofChange regexParsesWrong)

/-- 'eyotlaw9.RegexMay': WHATEVER THE INPUT: true; the input reads as it did. -/
def regexMaySpec : ChangeSpec := { name := "regexMay", fn := fun _ => fun
  | [d] => { results := [.lit (.bool true)], args := [d] }
  | _ => none }
def regexMayRow : OpenClaim := { program := "ytgjmmgjbfkodiaadoor", sum := "bd6ad7c8344349a5a87912aaa5297432016665279390293646776265be5eb7a4", func := "eyot/eyotlaw9.RegexMay", spec := "regexMay", inPlace := ["internal/bytealg.IndexByteString", "internal/abi.NoEscape", "internal/bytealg.MakeNoZero"], unfollowed := true, recurses := true, named := ["math/bits.deBruijn64tab"], loops := true, apart := false, laid := [("math/bits.deBruijn64tab", laid_math_bits_deBruijn64tab)] }
def RegexMaySaid : Prop := regexMayRow.holds Tryd.pinned (OpenSpec.ofChange regexMaySpec)

/-- ITS FALSE NEIGHBOUR: 'it returns false'. Refute it at one input. -/
def regexMayWrong : ChangeSpec := { name := "regexMay", fn := fun _ => fun
  | [d] => { results := [.lit (.bool false)], args := [d] }
  | _ => none }
def RegexMayWrongFalsely : Prop := regexMayRow.holds Tryd.pinned (OpenSpec.ofChange regexMayWrong)

/-- 'eyotlaw9.RegexAll': WHATEVER THE INPUT: true; the input reads as it did. -/
def regexAllSpec : ChangeSpec := { name := "regexAll", fn := fun _ => fun
  | [d1, d2] => { results := [.lit (.bool true)], args := [d1, d2] }
  | _ => none }
def regexAllRow : OpenClaim := { program := "ytgjmmgjbfkodiaadoor", sum := "bd6ad7c8344349a5a87912aaa5297432016665279390293646776265be5eb7a4", func := "eyot/eyotlaw9.RegexAll", spec := "regexAll", inPlace := ["internal/bytealg.IndexByteString", "internal/abi.NoEscape", "internal/bytealg.MakeNoZero"], unfollowed := true, recurses := true, named := ["math/bits.deBruijn64tab"], apart := false, laid := [("math/bits.deBruijn64tab", laid_math_bits_deBruijn64tab)] }
def RegexAllSaid : Prop := regexAllRow.holds Tryd.pinned (OpenSpec.ofChange regexAllSpec)

/-- ITS FALSE NEIGHBOUR: 'it returns false'. Refute it at one input. -/
def regexAllWrong : ChangeSpec := { name := "regexAll", fn := fun _ => fun
  | [d1, d2] => { results := [.lit (.bool false)], args := [d1, d2] }
  | _ => none }
def RegexAllWrongFalsely : Prop := regexAllRow.holds Tryd.pinned (OpenSpec.ofChange regexAllWrong)

/-- 'eyotlaw9.RegexBack': WHATEVER THE INPUT: true; the input reads as it did. -/
def regexBackSpec : ChangeSpec := { name := "regexBack", fn := fun _ => fun
  | [d] => { results := [.lit (.bool true)], args := [d] }
  | _ => none }
def regexBackRow : OpenClaim := { program := "ytgjmmgjbfkodiaadoor", sum := "bd6ad7c8344349a5a87912aaa5297432016665279390293646776265be5eb7a4", func := "eyot/eyotlaw9.RegexBack", spec := "regexBack", inPlace := ["internal/bytealg.IndexByteString", "internal/abi.NoEscape", "internal/bytealg.MakeNoZero"], unfollowed := true, recurses := true, named := ["math/bits.deBruijn64tab"], apart := false, laid := [("math/bits.deBruijn64tab", laid_math_bits_deBruijn64tab)] }
def RegexBackSaid : Prop := regexBackRow.holds Tryd.pinned (OpenSpec.ofChange regexBackSpec)

/-- ITS FALSE NEIGHBOUR: 'it returns false'. Refute it at one input. -/
def regexBackWrong : ChangeSpec := { name := "regexBack", fn := fun _ => fun
  | [d] => { results := [.lit (.bool false)], args := [d] }
  | _ => none }
def RegexBackWrongFalsely : Prop := regexBackRow.holds Tryd.pinned (OpenSpec.ofChange regexBackWrong)

/-- 'eyotlaw9.RegexSpells': WHATEVER THE INPUT: true; the input reads as it did. -/
def regexSpellsSpec : ChangeSpec := { name := "regexSpells", fn := fun _ => fun
  | [d1, d2, d3, d4] => { results := [.lit (.bool true)], args := [d1, d2, d3, d4] }
  | _ => none }
def regexSpellsRow : OpenClaim := { program := "ytgjmmgjbfkodiaadoor", sum := "bd6ad7c8344349a5a87912aaa5297432016665279390293646776265be5eb7a4", func := "eyot/eyotlaw9.RegexSpells", spec := "regexSpells", inPlace := ["internal/bytealg.IndexByteString", "internal/abi.NoEscape", "internal/bytealg.MakeNoZero"], unfollowed := true, recurses := true, named := ["math/bits.deBruijn64tab"], apart := false, laid := [("math/bits.deBruijn64tab", laid_math_bits_deBruijn64tab)] }
def RegexSpellsSaid : Prop := regexSpellsRow.holds Tryd.pinned (OpenSpec.ofChange regexSpellsSpec)

/-- ITS FALSE NEIGHBOUR: 'it returns false'. Refute it at one input. -/
def regexSpellsWrong : ChangeSpec := { name := "regexSpells", fn := fun _ => fun
  | [d1, d2, d3, d4] => { results := [.lit (.bool false)], args := [d1, d2, d3, d4] }
  | _ => none }
def RegexSpellsWrongFalsely : Prop := regexSpellsRow.holds Tryd.pinned (OpenSpec.ofChange regexSpellsWrong)

/-- 'eyotlaw9.RegexForms': WHATEVER THE INPUT: true; the input reads as it did. -/
def regexFormsSpec : ChangeSpec := { name := "regexForms", fn := fun _ => fun
  | [] => { results := [.lit (.bool true)], args := [] }
  | _ => none }
def regexFormsRow : OpenClaim := { program := "ytgjmmgjbfkodiaadoor", sum := "bd6ad7c8344349a5a87912aaa5297432016665279390293646776265be5eb7a4", func := "eyot/eyotlaw9.RegexForms", spec := "regexForms", inPlace := ["internal/bytealg.IndexByteString", "internal/abi.NoEscape", "internal/bytealg.MakeNoZero"], unfollowed := true, recurses := true, named := ["math/bits.deBruijn64tab"], apart := false, laid := [("math/bits.deBruijn64tab", laid_math_bits_deBruijn64tab)] }
def RegexFormsSaid : Prop := regexFormsRow.holds Tryd.pinned (OpenSpec.ofChange regexFormsSpec)

/-- ITS FALSE NEIGHBOUR: 'it returns false'. Refute it at one input. -/
def regexFormsWrong : ChangeSpec := { name := "regexForms", fn := fun _ => fun
  | [] => { results := [.lit (.bool false)], args := [] }
  | _ => none }
def RegexFormsWrongFalsely : Prop := regexFormsRow.holds Tryd.pinned (OpenSpec.ofChange regexFormsWrong)

/-- 'eyotlaw9.RegexCounts': WHATEVER THE INPUT: true; the input reads as it did. -/
def regexCountsSpec : ChangeSpec := { name := "regexCounts", fn := fun _ => fun
  | [d1, d2] => { results := [.lit (.bool true)], args := [d1, d2] }
  | _ => none }
def regexCountsRow : OpenClaim := { program := "ytgjmmgjbfkodiaadoor", sum := "bd6ad7c8344349a5a87912aaa5297432016665279390293646776265be5eb7a4", func := "eyot/eyotlaw9.RegexCounts", spec := "regexCounts", inPlace := ["internal/bytealg.IndexByteString", "internal/abi.NoEscape", "internal/bytealg.MakeNoZero"], unfollowed := true, recurses := true, named := ["math/bits.deBruijn64tab"], apart := false, laid := [("math/bits.deBruijn64tab", laid_math_bits_deBruijn64tab)] }
def RegexCountsSaid : Prop := regexCountsRow.holds Tryd.pinned (OpenSpec.ofChange regexCountsSpec)

/-- ITS FALSE NEIGHBOUR: 'it returns false'. Refute it at one input. -/
def regexCountsWrong : ChangeSpec := { name := "regexCounts", fn := fun _ => fun
  | [d1, d2] => { results := [.lit (.bool false)], args := [d1, d2] }
  | _ => none }
def RegexCountsWrongFalsely : Prop := regexCountsRow.holds Tryd.pinned (OpenSpec.ofChange regexCountsWrong)

/-- 'eyotlaw9.RegexDeep': WHATEVER THE INPUT: true; the input reads as it did. -/
def regexDeepSpec : ChangeSpec := { name := "regexDeep", fn := fun _ => fun
  | [d] => { results := [.lit (.bool true)], args := [d] }
  | _ => none }
def regexDeepRow : OpenClaim := { program := "ytgjmmgjbfkodiaadoor", sum := "bd6ad7c8344349a5a87912aaa5297432016665279390293646776265be5eb7a4", func := "eyot/eyotlaw9.RegexDeep", spec := "regexDeep", inPlace := ["internal/bytealg.IndexByteString", "internal/abi.NoEscape", "internal/bytealg.MakeNoZero"], unfollowed := true, recurses := true, named := ["math/bits.deBruijn64tab"], apart := false, laid := [("math/bits.deBruijn64tab", laid_math_bits_deBruijn64tab)] }
def RegexDeepSaid : Prop := regexDeepRow.holds Tryd.pinned (OpenSpec.ofChange regexDeepSpec)

/-- ITS FALSE NEIGHBOUR: 'it returns false'. Refute it at one input. -/
def regexDeepWrong : ChangeSpec := { name := "regexDeep", fn := fun _ => fun
  | [d] => { results := [.lit (.bool false)], args := [d] }
  | _ => none }
def RegexDeepWrongFalsely : Prop := regexDeepRow.holds Tryd.pinned (OpenSpec.ofChange regexDeepWrong)

/-- 'eyotlaw9.RegexGroups': WHATEVER THE INPUT: true; the input reads as it did. -/
def regexGroupsSpec : ChangeSpec := { name := "regexGroups", fn := fun _ => fun
  | [d1, d2] => { results := [.lit (.bool true)], args := [d1, d2] }
  | _ => none }
def regexGroupsRow : OpenClaim := { program := "ytgjmmgjbfkodiaadoor", sum := "bd6ad7c8344349a5a87912aaa5297432016665279390293646776265be5eb7a4", func := "eyot/eyotlaw9.RegexGroups", spec := "regexGroups", inPlace := ["internal/bytealg.IndexByteString", "internal/abi.NoEscape", "internal/bytealg.MakeNoZero"], unfollowed := true, recurses := true, named := ["math/bits.deBruijn64tab"], apart := false, laid := [("math/bits.deBruijn64tab", laid_math_bits_deBruijn64tab)] }
def RegexGroupsSaid : Prop := regexGroupsRow.holds Tryd.pinned (OpenSpec.ofChange regexGroupsSpec)

/-- ITS FALSE NEIGHBOUR: 'it returns false'. Refute it at one input. -/
def regexGroupsWrong : ChangeSpec := { name := "regexGroups", fn := fun _ => fun
  | [d1, d2] => { results := [.lit (.bool false)], args := [d1, d2] }
  | _ => none }
def RegexGroupsWrongFalsely : Prop := regexGroupsRow.holds Tryd.pinned (OpenSpec.ofChange regexGroupsWrong)

/-- 'eyotlaw9.RegexEmpty': WHATEVER THE INPUT: true; the input reads as it did. -/
def regexEmptySpec : ChangeSpec := { name := "regexEmpty", fn := fun _ => fun
  | [d] => { results := [.lit (.bool true)], args := [d] }
  | _ => none }
def regexEmptyRow : OpenClaim := { program := "ytgjmmgjbfkodiaadoor", sum := "bd6ad7c8344349a5a87912aaa5297432016665279390293646776265be5eb7a4", func := "eyot/eyotlaw9.RegexEmpty", spec := "regexEmpty", inPlace := ["internal/bytealg.IndexByteString", "internal/abi.NoEscape", "internal/bytealg.MakeNoZero"], unfollowed := true, recurses := true, named := ["math/bits.deBruijn64tab"], apart := false, laid := [("math/bits.deBruijn64tab", laid_math_bits_deBruijn64tab)] }
def RegexEmptySaid : Prop := regexEmptyRow.holds Tryd.pinned (OpenSpec.ofChange regexEmptySpec)

/-- ITS FALSE NEIGHBOUR: 'it returns false'. Refute it at one input. -/
def regexEmptyWrong : ChangeSpec := { name := "regexEmpty", fn := fun _ => fun
  | [d] => { results := [.lit (.bool false)], args := [d] }
  | _ => none }
def RegexEmptyWrongFalsely : Prop := regexEmptyRow.holds Tryd.pinned (OpenSpec.ofChange regexEmptyWrong)

/- THE SECOND FORM. 'bulk': how many values and letters a reading holds, each counted each time it is reached (what is shared counts as often as it is met; a slice's spare places count too). A statement '..UptoSaid' is the law's where the arguments, and the package variables that the reading takes, are together of bulk at most 1048576: NARROWER than '..Said'. Prove '..Said' where nothing that the law and all that it calls make is longer than what came in: it says more and counts as full. Else prove '..UptoSaid'. A law counts once. -/
mutual
def uptoBulk {H : Type} : DataW H → Nat
  | .lit (.string bytes) => bytes.length + 1
  | .lit _ => 1
  | .nil => 1
  | .ptr d => uptoBulk d + 1
  | .slice elems spare => uptoBulkAll elems + uptoBulkAll spare + 1
  | .agg parts => uptoBulkAll parts + 1
  | .iface _ d => uptoBulk d + 1
  | .map entries => uptoBulkEntries entries + 1
  | .held _ => 1
def uptoBulkAll {H : Type} : List (DataW H) → Nat
  | [] => 0
  | d :: r => uptoBulk d + uptoBulkAll r
def uptoBulkEntries {H : Type} : List (Lit × DataW H) → Nat
  | [] => 0
  | x :: r => uptoBulkEntry x + uptoBulkEntries r
def uptoBulkEntry {H : Type} : Lit × DataW H → Nat
  | (.string bytes, d) => bytes.length + uptoBulk d + 1
  | (_, d) => uptoBulk d + 1
 end
def uptoSmall : (H : Type) → List (DataW H) → Bool := fun _ ds => decide (uptoBulkAll ds ≤ 1048576)
def OpenSpec.upto (s : _root_.Go.ChangeSpec) : _root_.Go.OpenSpec := { _root_.Go.OpenSpec.ofChange s with cond := some uptoSmall }

/-- 'eyotlaw9.RegexParses', WHERE WHAT IT READS IS OF BULK AT MOST 1048576: true; the input reads as it did. -/
def regexParsesUptoRow : OpenClaim := { program := "ytgjmmgjbfkodiaadoor", sum := "bd6ad7c8344349a5a87912aaa5297432016665279390293646776265be5eb7a4", func := "eyot/eyotlaw9.RegexParses", spec := "regexParses", inPlace := ["internal/bytealg.IndexByteString", "internal/abi.NoEscape", "internal/bytealg.MakeNoZero"], unfollowed := true, recurses := true, named := ["math/bits.deBruijn64tab"], apart := false, laid := [("math/bits.deBruijn64tab", laid_math_bits_deBruijn64tab)], narrowed := true }
def RegexParsesUptoSaid : Prop := regexParsesUptoRow.holds Tryd.pinned (OpenSpec.upto regexParsesSpec)

/-- 'eyotlaw9.RegexMay', WHERE WHAT IT READS IS OF BULK AT MOST 1048576: true; the input reads as it did. -/
def regexMayUptoRow : OpenClaim := { program := "ytgjmmgjbfkodiaadoor", sum := "bd6ad7c8344349a5a87912aaa5297432016665279390293646776265be5eb7a4", func := "eyot/eyotlaw9.RegexMay", spec := "regexMay", inPlace := ["internal/bytealg.IndexByteString", "internal/abi.NoEscape", "internal/bytealg.MakeNoZero"], unfollowed := true, recurses := true, named := ["math/bits.deBruijn64tab"], loops := true, apart := false, laid := [("math/bits.deBruijn64tab", laid_math_bits_deBruijn64tab)], narrowed := true }
def RegexMayUptoSaid : Prop := regexMayUptoRow.holds Tryd.pinned (OpenSpec.upto regexMaySpec)

/-- 'eyotlaw9.RegexAll', WHERE WHAT IT READS IS OF BULK AT MOST 1048576: true; the input reads as it did. -/
def regexAllUptoRow : OpenClaim := { program := "ytgjmmgjbfkodiaadoor", sum := "bd6ad7c8344349a5a87912aaa5297432016665279390293646776265be5eb7a4", func := "eyot/eyotlaw9.RegexAll", spec := "regexAll", inPlace := ["internal/bytealg.IndexByteString", "internal/abi.NoEscape", "internal/bytealg.MakeNoZero"], unfollowed := true, recurses := true, named := ["math/bits.deBruijn64tab"], apart := false, laid := [("math/bits.deBruijn64tab", laid_math_bits_deBruijn64tab)], narrowed := true }
def RegexAllUptoSaid : Prop := regexAllUptoRow.holds Tryd.pinned (OpenSpec.upto regexAllSpec)

/-- 'eyotlaw9.RegexBack', WHERE WHAT IT READS IS OF BULK AT MOST 1048576: true; the input reads as it did. -/
def regexBackUptoRow : OpenClaim := { program := "ytgjmmgjbfkodiaadoor", sum := "bd6ad7c8344349a5a87912aaa5297432016665279390293646776265be5eb7a4", func := "eyot/eyotlaw9.RegexBack", spec := "regexBack", inPlace := ["internal/bytealg.IndexByteString", "internal/abi.NoEscape", "internal/bytealg.MakeNoZero"], unfollowed := true, recurses := true, named := ["math/bits.deBruijn64tab"], apart := false, laid := [("math/bits.deBruijn64tab", laid_math_bits_deBruijn64tab)], narrowed := true }
def RegexBackUptoSaid : Prop := regexBackUptoRow.holds Tryd.pinned (OpenSpec.upto regexBackSpec)

/-- 'eyotlaw9.RegexSpells', WHERE WHAT IT READS IS OF BULK AT MOST 1048576: true; the input reads as it did. -/
def regexSpellsUptoRow : OpenClaim := { program := "ytgjmmgjbfkodiaadoor", sum := "bd6ad7c8344349a5a87912aaa5297432016665279390293646776265be5eb7a4", func := "eyot/eyotlaw9.RegexSpells", spec := "regexSpells", inPlace := ["internal/bytealg.IndexByteString", "internal/abi.NoEscape", "internal/bytealg.MakeNoZero"], unfollowed := true, recurses := true, named := ["math/bits.deBruijn64tab"], apart := false, laid := [("math/bits.deBruijn64tab", laid_math_bits_deBruijn64tab)], narrowed := true }
def RegexSpellsUptoSaid : Prop := regexSpellsUptoRow.holds Tryd.pinned (OpenSpec.upto regexSpellsSpec)

/-- 'eyotlaw9.RegexForms', WHERE WHAT IT READS IS OF BULK AT MOST 1048576: true; the input reads as it did. -/
def regexFormsUptoRow : OpenClaim := { program := "ytgjmmgjbfkodiaadoor", sum := "bd6ad7c8344349a5a87912aaa5297432016665279390293646776265be5eb7a4", func := "eyot/eyotlaw9.RegexForms", spec := "regexForms", inPlace := ["internal/bytealg.IndexByteString", "internal/abi.NoEscape", "internal/bytealg.MakeNoZero"], unfollowed := true, recurses := true, named := ["math/bits.deBruijn64tab"], apart := false, laid := [("math/bits.deBruijn64tab", laid_math_bits_deBruijn64tab)], narrowed := true }
def RegexFormsUptoSaid : Prop := regexFormsUptoRow.holds Tryd.pinned (OpenSpec.upto regexFormsSpec)

/-- 'eyotlaw9.RegexCounts', WHERE WHAT IT READS IS OF BULK AT MOST 1048576: true; the input reads as it did. -/
def regexCountsUptoRow : OpenClaim := { program := "ytgjmmgjbfkodiaadoor", sum := "bd6ad7c8344349a5a87912aaa5297432016665279390293646776265be5eb7a4", func := "eyot/eyotlaw9.RegexCounts", spec := "regexCounts", inPlace := ["internal/bytealg.IndexByteString", "internal/abi.NoEscape", "internal/bytealg.MakeNoZero"], unfollowed := true, recurses := true, named := ["math/bits.deBruijn64tab"], apart := false, laid := [("math/bits.deBruijn64tab", laid_math_bits_deBruijn64tab)], narrowed := true }
def RegexCountsUptoSaid : Prop := regexCountsUptoRow.holds Tryd.pinned (OpenSpec.upto regexCountsSpec)

/-- 'eyotlaw9.RegexDeep', WHERE WHAT IT READS IS OF BULK AT MOST 1048576: true; the input reads as it did. -/
def regexDeepUptoRow : OpenClaim := { program := "ytgjmmgjbfkodiaadoor", sum := "bd6ad7c8344349a5a87912aaa5297432016665279390293646776265be5eb7a4", func := "eyot/eyotlaw9.RegexDeep", spec := "regexDeep", inPlace := ["internal/bytealg.IndexByteString", "internal/abi.NoEscape", "internal/bytealg.MakeNoZero"], unfollowed := true, recurses := true, named := ["math/bits.deBruijn64tab"], apart := false, laid := [("math/bits.deBruijn64tab", laid_math_bits_deBruijn64tab)], narrowed := true }
def RegexDeepUptoSaid : Prop := regexDeepUptoRow.holds Tryd.pinned (OpenSpec.upto regexDeepSpec)

/-- 'eyotlaw9.RegexGroups', WHERE WHAT IT READS IS OF BULK AT MOST 1048576: true; the input reads as it did. -/
def regexGroupsUptoRow : OpenClaim := { program := "ytgjmmgjbfkodiaadoor", sum := "bd6ad7c8344349a5a87912aaa5297432016665279390293646776265be5eb7a4", func := "eyot/eyotlaw9.RegexGroups", spec := "regexGroups", inPlace := ["internal/bytealg.IndexByteString", "internal/abi.NoEscape", "internal/bytealg.MakeNoZero"], unfollowed := true, recurses := true, named := ["math/bits.deBruijn64tab"], apart := false, laid := [("math/bits.deBruijn64tab", laid_math_bits_deBruijn64tab)], narrowed := true }
def RegexGroupsUptoSaid : Prop := regexGroupsUptoRow.holds Tryd.pinned (OpenSpec.upto regexGroupsSpec)

/-- 'eyotlaw9.RegexEmpty', WHERE WHAT IT READS IS OF BULK AT MOST 1048576: true; the input reads as it did. -/
def regexEmptyUptoRow : OpenClaim := { program := "ytgjmmgjbfkodiaadoor", sum := "bd6ad7c8344349a5a87912aaa5297432016665279390293646776265be5eb7a4", func := "eyot/eyotlaw9.RegexEmpty", spec := "regexEmpty", inPlace := ["internal/bytealg.IndexByteString", "internal/abi.NoEscape", "internal/bytealg.MakeNoZero"], unfollowed := true, recurses := true, named := ["math/bits.deBruijn64tab"], apart := false, laid := [("math/bits.deBruijn64tab", laid_math_bits_deBruijn64tab)], narrowed := true }
def RegexEmptyUptoSaid : Prop := regexEmptyUptoRow.holds Tryd.pinned (OpenSpec.upto regexEmptySpec)

end Rows
end Go.Proofs.YtgjmmgjbfkodiaaDoor
