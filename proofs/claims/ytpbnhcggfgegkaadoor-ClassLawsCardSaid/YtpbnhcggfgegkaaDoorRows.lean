/-
  NARROWER THAN 'FOR EVERY INPUT', by the rows' own cells (each row's printed sentence says how): ClassParses: laid · ClassBack: laid · ClassJoins: laid · ClassRuns: laid · ClassSigns: laid · ClassAll: laid · ClassLaws: laid.
  DERIVED. THE GIVEN ROWS OF THIS SEAT. 7 by the template 'for every input the law returns true; each argument reads behind the call as it read before'; 0 by the template 'total and deterministic' (their statements: YtpbnhcggfgegkaaDoorTotals.lean).
  GIVEN WITH THE SEED: the statements are not yours to turn. If you find one false, say at which input.
  Laid BY PROGRAM, IN A SANDBOX (cutbox-rows.mjs): the forced cells as the released guide's own fill.sh prints them over the translation 75d6b3b4046ef1ec… (all of the seat's roots in one cut). By AI agents, Wed Nov 11 2026. No macro, syntax, notation, axiom, sorry.
-/
import Derived.Test.YtpbnhcggfgegkaaDoorChecked
import GoSem.Claim
import GoSem.ClaimJoined
import GoSem.ClaimMapViews
import Derived.JoinedTies
import Derived.KernelRfl
namespace Go.Proofs.YtpbnhcggfgegkaaDoor
/- THE CELL 'sum', in the pinned program and in every row, IS THE sha256 OF THE DUMP (.gsa) THAT YtpbnhcggfgegkaaDoorProg.lean LOADS. Nothing in Lean hashes anything: it is a label: what it is worth is what the hold of that sum in a sandbox is worth. -/
noncomputable def Tryd.pinned : Pinned := { name := "ytpbnhcggfgegkaadoor", sum := "75d6b3b4046ef1ec57204951df9c7a9ed733c23c0cc6e8f12aa9d90c0f643ea4", checked := Tryd.checked }
namespace Rows
def none {H : Type} : Left H := { results := [], args := [] }

/- WHAT THE LISTED PACKAGE-LEVEL VARIABLES READ AS WHEN THE CALL BEGINS. Each datum BY PROGRAM (the guide's laid-datum.mjs) off the statement by which the dump's own 'gosem.cut.vars' lays the variable. In a bare row this is a premise. The card (YtpbnhcggfgegkaaDoorCards.lean) ties it to the program's text. -/
def laid_math_bits_deBruijn64tab {H : Type} : DataW H := .agg [.lit (.int .u8 0), .lit (.int .u8 1), .lit (.int .u8 56), .lit (.int .u8 2), .lit (.int .u8 57), .lit (.int .u8 49), .lit (.int .u8 28), .lit (.int .u8 3), .lit (.int .u8 61), .lit (.int .u8 58), .lit (.int .u8 42), .lit (.int .u8 50), .lit (.int .u8 38), .lit (.int .u8 29), .lit (.int .u8 17), .lit (.int .u8 4), .lit (.int .u8 62), .lit (.int .u8 47), .lit (.int .u8 59), .lit (.int .u8 36), .lit (.int .u8 45), .lit (.int .u8 43), .lit (.int .u8 51), .lit (.int .u8 22), .lit (.int .u8 53), .lit (.int .u8 39), .lit (.int .u8 33), .lit (.int .u8 30), .lit (.int .u8 24), .lit (.int .u8 18), .lit (.int .u8 12), .lit (.int .u8 5), .lit (.int .u8 63), .lit (.int .u8 55), .lit (.int .u8 48), .lit (.int .u8 27), .lit (.int .u8 60), .lit (.int .u8 41), .lit (.int .u8 37), .lit (.int .u8 16), .lit (.int .u8 46), .lit (.int .u8 35), .lit (.int .u8 44), .lit (.int .u8 21), .lit (.int .u8 52), .lit (.int .u8 32), .lit (.int .u8 23), .lit (.int .u8 11), .lit (.int .u8 54), .lit (.int .u8 26), .lit (.int .u8 40), .lit (.int .u8 15), .lit (.int .u8 34), .lit (.int .u8 20), .lit (.int .u8 31), .lit (.int .u8 10), .lit (.int .u8 25), .lit (.int .u8 14), .lit (.int .u8 19), .lit (.int .u8 9), .lit (.int .u8 13), .lit (.int .u8 8), .lit (.int .u8 7), .lit (.int .u8 6)]

/-- 'eyotlaw8.ClassParses': WHATEVER THE INPUT: true; the input reads as it did. -/
def classParsesSpec : ChangeSpec := { name := "classParses", fn := fun _ => fun
  | [d] => { results := [.lit (.bool true)], args := [d] }
  | _ => none }
def classParsesRow : OpenClaim := { program := "ytpbnhcggfgegkaadoor", sum := "75d6b3b4046ef1ec57204951df9c7a9ed733c23c0cc6e8f12aa9d90c0f643ea4", func := "eyot/eyotlaw8.ClassParses", spec := "classParses", inPlace := ["internal/bytealg.IndexByteString"], unfollowed := true, recurses := true, named := ["math/bits.deBruijn64tab"], apart := false, laid := [("math/bits.deBruijn64tab", laid_math_bits_deBruijn64tab)] }
def ClassParsesSaid : Prop := classParsesRow.holds Tryd.pinned (OpenSpec.ofChange classParsesSpec)

/-- ITS FALSE NEIGHBOUR: 'it returns false'. Refute it at one input. -/
def classParsesWrong : ChangeSpec := { name := "classParses", fn := fun _ => fun
  | [d] => { results := [.lit (.bool false)], args := [d] }
  | _ => none }
def ClassParsesWrongFalsely : Prop := classParsesRow.holds Tryd.pinned (OpenSpec.ofChange classParsesWrong)

/-- 'eyotlaw8.ClassBack': WHATEVER THE INPUT: true; the input reads as it did. -/
def classBackSpec : ChangeSpec := { name := "classBack", fn := fun _ => fun
  | [d1, d2] => { results := [.lit (.bool true)], args := [d1, d2] }
  | _ => none }
def classBackRow : OpenClaim := { program := "ytpbnhcggfgegkaadoor", sum := "75d6b3b4046ef1ec57204951df9c7a9ed733c23c0cc6e8f12aa9d90c0f643ea4", func := "eyot/eyotlaw8.ClassBack", spec := "classBack", inPlace := ["internal/bytealg.IndexByteString"], unfollowed := true, recurses := true, named := ["math/bits.deBruijn64tab"], apart := false, laid := [("math/bits.deBruijn64tab", laid_math_bits_deBruijn64tab)] }
def ClassBackSaid : Prop := classBackRow.holds Tryd.pinned (OpenSpec.ofChange classBackSpec)

/-- ITS FALSE NEIGHBOUR: 'it returns false'. Refute it at one input. -/
def classBackWrong : ChangeSpec := { name := "classBack", fn := fun _ => fun
  | [d1, d2] => { results := [.lit (.bool false)], args := [d1, d2] }
  | _ => none }
def ClassBackWrongFalsely : Prop := classBackRow.holds Tryd.pinned (OpenSpec.ofChange classBackWrong)

/-- 'eyotlaw8.ClassJoins': WHATEVER THE INPUT: true; the input reads as it did. -/
def classJoinsSpec : ChangeSpec := { name := "classJoins", fn := fun _ => fun
  | [d1, d2] => { results := [.lit (.bool true)], args := [d1, d2] }
  | _ => none }
def classJoinsRow : OpenClaim := { program := "ytpbnhcggfgegkaadoor", sum := "75d6b3b4046ef1ec57204951df9c7a9ed733c23c0cc6e8f12aa9d90c0f643ea4", func := "eyot/eyotlaw8.ClassJoins", spec := "classJoins", inPlace := ["internal/bytealg.IndexByteString"], unfollowed := true, recurses := true, named := ["math/bits.deBruijn64tab"], apart := false, laid := [("math/bits.deBruijn64tab", laid_math_bits_deBruijn64tab)] }
def ClassJoinsSaid : Prop := classJoinsRow.holds Tryd.pinned (OpenSpec.ofChange classJoinsSpec)

/-- ITS FALSE NEIGHBOUR: 'it returns false'. Refute it at one input. -/
def classJoinsWrong : ChangeSpec := { name := "classJoins", fn := fun _ => fun
  | [d1, d2] => { results := [.lit (.bool false)], args := [d1, d2] }
  | _ => none }
def ClassJoinsWrongFalsely : Prop := classJoinsRow.holds Tryd.pinned (OpenSpec.ofChange classJoinsWrong)

/-- 'eyotlaw8.ClassRuns': WHATEVER THE INPUT: true; the input reads as it did. -/
def classRunsSpec : ChangeSpec := { name := "classRuns", fn := fun _ => fun
  | [d1, d2, d3] => { results := [.lit (.bool true)], args := [d1, d2, d3] }
  | _ => none }
def classRunsRow : OpenClaim := { program := "ytpbnhcggfgegkaadoor", sum := "75d6b3b4046ef1ec57204951df9c7a9ed733c23c0cc6e8f12aa9d90c0f643ea4", func := "eyot/eyotlaw8.ClassRuns", spec := "classRuns", inPlace := ["internal/bytealg.IndexByteString"], unfollowed := true, recurses := true, named := ["math/bits.deBruijn64tab"], apart := false, laid := [("math/bits.deBruijn64tab", laid_math_bits_deBruijn64tab)] }
def ClassRunsSaid : Prop := classRunsRow.holds Tryd.pinned (OpenSpec.ofChange classRunsSpec)

/-- ITS FALSE NEIGHBOUR: 'it returns false'. Refute it at one input. -/
def classRunsWrong : ChangeSpec := { name := "classRuns", fn := fun _ => fun
  | [d1, d2, d3] => { results := [.lit (.bool false)], args := [d1, d2, d3] }
  | _ => none }
def ClassRunsWrongFalsely : Prop := classRunsRow.holds Tryd.pinned (OpenSpec.ofChange classRunsWrong)

/-- 'eyotlaw8.ClassSigns': WHATEVER THE INPUT: true; the input reads as it did. -/
def classSignsSpec : ChangeSpec := { name := "classSigns", fn := fun _ => fun
  | [d] => { results := [.lit (.bool true)], args := [d] }
  | _ => none }
def classSignsRow : OpenClaim := { program := "ytpbnhcggfgegkaadoor", sum := "75d6b3b4046ef1ec57204951df9c7a9ed733c23c0cc6e8f12aa9d90c0f643ea4", func := "eyot/eyotlaw8.ClassSigns", spec := "classSigns", inPlace := ["internal/bytealg.IndexByteString"], unfollowed := true, recurses := true, named := ["math/bits.deBruijn64tab"], apart := false, laid := [("math/bits.deBruijn64tab", laid_math_bits_deBruijn64tab)] }
def ClassSignsSaid : Prop := classSignsRow.holds Tryd.pinned (OpenSpec.ofChange classSignsSpec)

/-- ITS FALSE NEIGHBOUR: 'it returns false'. Refute it at one input. -/
def classSignsWrong : ChangeSpec := { name := "classSigns", fn := fun _ => fun
  | [d] => { results := [.lit (.bool false)], args := [d] }
  | _ => none }
def ClassSignsWrongFalsely : Prop := classSignsRow.holds Tryd.pinned (OpenSpec.ofChange classSignsWrong)

/-- 'eyotlaw8.ClassAll': WHATEVER THE INPUT: true; the input reads as it did. -/
def classAllSpec : ChangeSpec := { name := "classAll", fn := fun _ => fun
  | [d1, d2, d3, d4] => { results := [.lit (.bool true)], args := [d1, d2, d3, d4] }
  | _ => none }
def classAllRow : OpenClaim := { program := "ytpbnhcggfgegkaadoor", sum := "75d6b3b4046ef1ec57204951df9c7a9ed733c23c0cc6e8f12aa9d90c0f643ea4", func := "eyot/eyotlaw8.ClassAll", spec := "classAll", inPlace := ["internal/bytealg.IndexByteString"], unfollowed := true, recurses := true, named := ["math/bits.deBruijn64tab"], apart := false, laid := [("math/bits.deBruijn64tab", laid_math_bits_deBruijn64tab)] }
def ClassAllSaid : Prop := classAllRow.holds Tryd.pinned (OpenSpec.ofChange classAllSpec)

/-- ITS FALSE NEIGHBOUR: 'it returns false'. Refute it at one input. -/
def classAllWrong : ChangeSpec := { name := "classAll", fn := fun _ => fun
  | [d1, d2, d3, d4] => { results := [.lit (.bool false)], args := [d1, d2, d3, d4] }
  | _ => none }
def ClassAllWrongFalsely : Prop := classAllRow.holds Tryd.pinned (OpenSpec.ofChange classAllWrong)

/-- 'eyotlaw8.ClassLaws': WHATEVER THE INPUT: true; the input reads as it did. -/
def classLawsSpec : ChangeSpec := { name := "classLaws", fn := fun _ => fun
  | [d1, d2, d3] => { results := [.lit (.bool true)], args := [d1, d2, d3] }
  | _ => none }
def classLawsRow : OpenClaim := { program := "ytpbnhcggfgegkaadoor", sum := "75d6b3b4046ef1ec57204951df9c7a9ed733c23c0cc6e8f12aa9d90c0f643ea4", func := "eyot/eyotlaw8.ClassLaws", spec := "classLaws", inPlace := ["internal/bytealg.IndexByteString"], unfollowed := true, recurses := true, named := ["math/bits.deBruijn64tab"], apart := false, laid := [("math/bits.deBruijn64tab", laid_math_bits_deBruijn64tab)] }
def ClassLawsSaid : Prop := classLawsRow.holds Tryd.pinned (OpenSpec.ofChange classLawsSpec)

/-- ITS FALSE NEIGHBOUR: 'it returns false'. Refute it at one input. -/
def classLawsWrong : ChangeSpec := { name := "classLaws", fn := fun _ => fun
  | [d1, d2, d3] => { results := [.lit (.bool false)], args := [d1, d2, d3] }
  | _ => none }
def ClassLawsWrongFalsely : Prop := classLawsRow.holds Tryd.pinned (OpenSpec.ofChange classLawsWrong)

/- THE SECOND FORM. 'bulk': how many values and letters a reading holds, each counted each time it is reached (what is shared counts as often as it is met; a slice's spare places count too). A statement '..UptoSaid' is the law's where the arguments, and the package variables that the reading takes, are together of bulk at most 1048576: NARROWER than '..Said'. Prove '..Said' where nothing that the law and all that it calls make is longer than what came in: it says more and counts as full. Else prove '..UptoSaid'. A law counts once. -/
mutual
def uptoBulk {H : Type} : DataW H → Nat
  | .lit (.string bytes) => bytes.length + 1
  | .lit _ => 1
  | .nil => 1
  | .ptr d => uptoBulk d + 1
  | .slice elems spare => uptoBulkAll elems + uptoBulkAll spare + 1
  | .agg parts => uptoBulkAll parts + 1
  | .iface _ d => uptoBulk d + 1
  | .map entries => uptoBulkEntries entries + 1
  | .held _ => 1
def uptoBulkAll {H : Type} : List (DataW H) → Nat
  | [] => 0
  | d :: r => uptoBulk d + uptoBulkAll r
def uptoBulkEntries {H : Type} : List (Lit × DataW H) → Nat
  | [] => 0
  | x :: r => uptoBulkEntry x + uptoBulkEntries r
def uptoBulkEntry {H : Type} : Lit × DataW H → Nat
  | (.string bytes, d) => bytes.length + uptoBulk d + 1
  | (_, d) => uptoBulk d + 1
 end
def uptoSmall : (H : Type) → List (DataW H) → Bool := fun _ ds => decide (uptoBulkAll ds ≤ 1048576)
def OpenSpec.upto (s : _root_.Go.ChangeSpec) : _root_.Go.OpenSpec := { _root_.Go.OpenSpec.ofChange s with cond := some uptoSmall }

/-- 'eyotlaw8.ClassParses', WHERE WHAT IT READS IS OF BULK AT MOST 1048576: true; the input reads as it did. -/
def classParsesUptoRow : OpenClaim := { program := "ytpbnhcggfgegkaadoor", sum := "75d6b3b4046ef1ec57204951df9c7a9ed733c23c0cc6e8f12aa9d90c0f643ea4", func := "eyot/eyotlaw8.ClassParses", spec := "classParses", inPlace := ["internal/bytealg.IndexByteString"], unfollowed := true, recurses := true, named := ["math/bits.deBruijn64tab"], apart := false, laid := [("math/bits.deBruijn64tab", laid_math_bits_deBruijn64tab)], narrowed := true }
def ClassParsesUptoSaid : Prop := classParsesUptoRow.holds Tryd.pinned (OpenSpec.upto classParsesSpec)

/-- 'eyotlaw8.ClassBack', WHERE WHAT IT READS IS OF BULK AT MOST 1048576: true; the input reads as it did. -/
def classBackUptoRow : OpenClaim := { program := "ytpbnhcggfgegkaadoor", sum := "75d6b3b4046ef1ec57204951df9c7a9ed733c23c0cc6e8f12aa9d90c0f643ea4", func := "eyot/eyotlaw8.ClassBack", spec := "classBack", inPlace := ["internal/bytealg.IndexByteString"], unfollowed := true, recurses := true, named := ["math/bits.deBruijn64tab"], apart := false, laid := [("math/bits.deBruijn64tab", laid_math_bits_deBruijn64tab)], narrowed := true }
def ClassBackUptoSaid : Prop := classBackUptoRow.holds Tryd.pinned (OpenSpec.upto classBackSpec)

/-- 'eyotlaw8.ClassJoins', WHERE WHAT IT READS IS OF BULK AT MOST 1048576: true; the input reads as it did. -/
def classJoinsUptoRow : OpenClaim := { program := "ytpbnhcggfgegkaadoor", sum := "75d6b3b4046ef1ec57204951df9c7a9ed733c23c0cc6e8f12aa9d90c0f643ea4", func := "eyot/eyotlaw8.ClassJoins", spec := "classJoins", inPlace := ["internal/bytealg.IndexByteString"], unfollowed := true, recurses := true, named := ["math/bits.deBruijn64tab"], apart := false, laid := [("math/bits.deBruijn64tab", laid_math_bits_deBruijn64tab)], narrowed := true }
def ClassJoinsUptoSaid : Prop := classJoinsUptoRow.holds Tryd.pinned (OpenSpec.upto classJoinsSpec)

/-- 'eyotlaw8.ClassRuns', WHERE WHAT IT READS IS OF BULK AT MOST 1048576: true; the input reads as it did. -/
def classRunsUptoRow : OpenClaim := { program := "ytpbnhcggfgegkaadoor", sum := "75d6b3b4046ef1ec57204951df9c7a9ed733c23c0cc6e8f12aa9d90c0f643ea4", func := "eyot/eyotlaw8.ClassRuns", spec := "classRuns", inPlace := ["internal/bytealg.IndexByteString"], unfollowed := true, recurses := true, named := ["math/bits.deBruijn64tab"], apart := false, laid := [("math/bits.deBruijn64tab", laid_math_bits_deBruijn64tab)], narrowed := true }
def ClassRunsUptoSaid : Prop := classRunsUptoRow.holds Tryd.pinned (OpenSpec.upto classRunsSpec)

/-- 'eyotlaw8.ClassSigns', WHERE WHAT IT READS IS OF BULK AT MOST 1048576: true; the input reads as it did. -/
def classSignsUptoRow : OpenClaim := { program := "ytpbnhcggfgegkaadoor", sum := "75d6b3b4046ef1ec57204951df9c7a9ed733c23c0cc6e8f12aa9d90c0f643ea4", func := "eyot/eyotlaw8.ClassSigns", spec := "classSigns", inPlace := ["internal/bytealg.IndexByteString"], unfollowed := true, recurses := true, named := ["math/bits.deBruijn64tab"], apart := false, laid := [("math/bits.deBruijn64tab", laid_math_bits_deBruijn64tab)], narrowed := true }
def ClassSignsUptoSaid : Prop := classSignsUptoRow.holds Tryd.pinned (OpenSpec.upto classSignsSpec)

/-- 'eyotlaw8.ClassAll', WHERE WHAT IT READS IS OF BULK AT MOST 1048576: true; the input reads as it did. -/
def classAllUptoRow : OpenClaim := { program := "ytpbnhcggfgegkaadoor", sum := "75d6b3b4046ef1ec57204951df9c7a9ed733c23c0cc6e8f12aa9d90c0f643ea4", func := "eyot/eyotlaw8.ClassAll", spec := "classAll", inPlace := ["internal/bytealg.IndexByteString"], unfollowed := true, recurses := true, named := ["math/bits.deBruijn64tab"], apart := false, laid := [("math/bits.deBruijn64tab", laid_math_bits_deBruijn64tab)], narrowed := true }
def ClassAllUptoSaid : Prop := classAllUptoRow.holds Tryd.pinned (OpenSpec.upto classAllSpec)

/-- 'eyotlaw8.ClassLaws', WHERE WHAT IT READS IS OF BULK AT MOST 1048576: true; the input reads as it did. -/
def classLawsUptoRow : OpenClaim := { program := "ytpbnhcggfgegkaadoor", sum := "75d6b3b4046ef1ec57204951df9c7a9ed733c23c0cc6e8f12aa9d90c0f643ea4", func := "eyot/eyotlaw8.ClassLaws", spec := "classLaws", inPlace := ["internal/bytealg.IndexByteString"], unfollowed := true, recurses := true, named := ["math/bits.deBruijn64tab"], apart := false, laid := [("math/bits.deBruijn64tab", laid_math_bits_deBruijn64tab)], narrowed := true }
def ClassLawsUptoSaid : Prop := classLawsUptoRow.holds Tryd.pinned (OpenSpec.upto classLawsSpec)

end Rows
end Go.Proofs.YtpbnhcggfgegkaaDoor
