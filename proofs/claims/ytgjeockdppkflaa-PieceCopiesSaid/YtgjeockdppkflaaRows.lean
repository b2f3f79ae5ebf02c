/-
  No cell of these rows narrows 'for every input' (looked for: loops, veiled, ifaces, maps, wideKeys, modest, calm, conditions, laid).
  DERIVED. THE GIVEN ROWS OF THIS SEAT. 6 by the template 'for every input the law returns true; each argument reads behind the call as it read before'; 0 by the template 'total and deterministic' (their statements: YtgjeockdppkflaaTotals.lean).
  GIVEN WITH THE SEED: the statements are not yours to turn. If you find one false, say at which input.
  Laid BY PROGRAM, IN A SANDBOX (cutbox-rows.mjs): the forced cells as the released guide's own fill.sh prints them over the translation 94b044c329b98e0b… (all of the seat's roots in one cut). By AI agents, Wed Nov 11 2026. No macro, syntax, notation, axiom, sorry.
-/
import Derived.Test.YtgjeockdppkflaaChecked
import GoSem.Claim
import GoSem.ClaimJoined
import GoSem.ClaimMapViews
import Derived.JoinedTies
import Derived.KernelRfl
namespace Go.Proofs.Ytgjeockdppkflaa
/- THE CELL 'sum', in the pinned program and in every row, IS THE sha256 OF THE DUMP (.gsa) THAT YtgjeockdppkflaaProg.lean LOADS. Nothing in Lean hashes anything: it is a label: what it is worth is what the hold of that sum in a sandbox is worth. -/
noncomputable def Try.pinned : Pinned := { name := "ytgjeockdppkflaa", sum := "94b044c329b98e0b79ec81af546279daa9eab179d4b977c644c906a5a53151b0", checked := Try.checked }
namespace Rows
def none {H : Type} : Left H := { results := [], args := [] }

/-- 'eyotlaw6.PieceSpells': WHATEVER THE INPUT: true; the input reads as it did. -/
def pieceSpellsSpec : ChangeSpec := { name := "pieceSpells", fn := fun _ => fun
  | [d1, d2] => { results := [.lit (.bool true)], args := [d1, d2] }
  | _ => none }
def pieceSpellsRow : OpenClaim := { program := "ytgjeockdppkflaa", sum := "94b044c329b98e0b79ec81af546279daa9eab179d4b977c644c906a5a53151b0", func := "eyot/eyotlaw6.PieceSpells", spec := "pieceSpells", apart := false }
def PieceSpellsSaid : Prop := pieceSpellsRow.holds Try.pinned (OpenSpec.ofChange pieceSpellsSpec)

/-- ITS FALSE NEIGHBOUR: 'it returns false'. Refute it at one input. -/
def pieceSpellsWrong : ChangeSpec := { name := "pieceSpells", fn := fun _ => fun
  | [d1, d2] => { results := [.lit (.bool false)], args := [d1, d2] }
  | _ => none }
def PieceSpellsWrongFalsely : Prop := pieceSpellsRow.holds Try.pinned (OpenSpec.ofChange pieceSpellsWrong)

/-- 'eyotlaw6.PieceApart': WHATEVER THE INPUT: true; the input reads as it did. -/
def pieceApartSpec : ChangeSpec := { name := "pieceApart", fn := fun _ => fun
  | [d1, d2, d3, d4] => { results := [.lit (.bool true)], args := [d1, d2, d3, d4] }
  | _ => none }
def pieceApartRow : OpenClaim := { program := "ytgjeockdppkflaa", sum := "94b044c329b98e0b79ec81af546279daa9eab179d4b977c644c906a5a53151b0", func := "eyot/eyotlaw6.PieceApart", spec := "pieceApart", apart := false }
def PieceApartSaid : Prop := pieceApartRow.holds Try.pinned (OpenSpec.ofChange pieceApartSpec)

/-- ITS FALSE NEIGHBOUR: 'it returns false'. Refute it at one input. -/
def pieceApartWrong : ChangeSpec := { name := "pieceApart", fn := fun _ => fun
  | [d1, d2, d3, d4] => { results := [.lit (.bool false)], args := [d1, d2, d3, d4] }
  | _ => none }
def PieceApartWrongFalsely : Prop := pieceApartRow.holds Try.pinned (OpenSpec.ofChange pieceApartWrong)

/-- 'eyotlaw6.PieceFinds': WHATEVER THE INPUT: true; the input reads as it did. -/
def pieceFindsSpec : ChangeSpec := { name := "pieceFinds", fn := fun _ => fun
  | [d1, d2] => { results := [.lit (.bool true)], args := [d1, d2] }
  | _ => none }
def pieceFindsRow : OpenClaim := { program := "ytgjeockdppkflaa", sum := "94b044c329b98e0b79ec81af546279daa9eab179d4b977c644c906a5a53151b0", func := "eyot/eyotlaw6.PieceFinds", spec := "pieceFinds", apart := false }
def PieceFindsSaid : Prop := pieceFindsRow.holds Try.pinned (OpenSpec.ofChange pieceFindsSpec)

/-- ITS FALSE NEIGHBOUR: 'it returns false'. Refute it at one input. -/
def pieceFindsWrong : ChangeSpec := { name := "pieceFinds", fn := fun _ => fun
  | [d1, d2] => { results := [.lit (.bool false)], args := [d1, d2] }
  | _ => none }
def PieceFindsWrongFalsely : Prop := pieceFindsRow.holds Try.pinned (OpenSpec.ofChange pieceFindsWrong)

/-- 'eyotlaw6.PieceTypes': WHATEVER THE INPUT: true; the input reads as it did. -/
def pieceTypesSpec : ChangeSpec := { name := "pieceTypes", fn := fun _ => fun
  | [d1, d2, d3] => { results := [.lit (.bool true)], args := [d1, d2, d3] }
  | _ => none }
def pieceTypesRow : OpenClaim := { program := "ytgjeockdppkflaa", sum := "94b044c329b98e0b79ec81af546279daa9eab179d4b977c644c906a5a53151b0", func := "eyot/eyotlaw6.PieceTypes", spec := "pieceTypes", apart := false }
def PieceTypesSaid : Prop := pieceTypesRow.holds Try.pinned (OpenSpec.ofChange pieceTypesSpec)

/-- ITS FALSE NEIGHBOUR: 'it returns false'. Refute it at one input. -/
def pieceTypesWrong : ChangeSpec := { name := "pieceTypes", fn := fun _ => fun
  | [d1, d2, d3] => { results := [.lit (.bool false)], args := [d1, d2, d3] }
  | _ => none }
def PieceTypesWrongFalsely : Prop := pieceTypesRow.holds Try.pinned (OpenSpec.ofChange pieceTypesWrong)

/-- 'eyotlaw6.PieceAll': WHATEVER THE INPUT: true; the input reads as it did. -/
def pieceAllSpec : ChangeSpec := { name := "pieceAll", fn := fun _ => fun
  | [d1, d2, d3] => { results := [.lit (.bool true)], args := [d1, d2, d3] }
  | _ => none }
def pieceAllRow : OpenClaim := { program := "ytgjeockdppkflaa", sum := "94b044c329b98e0b79ec81af546279daa9eab179d4b977c644c906a5a53151b0", func := "eyot/eyotlaw6.PieceAll", spec := "pieceAll", apart := false }
def PieceAllSaid : Prop := pieceAllRow.holds Try.pinned (OpenSpec.ofChange pieceAllSpec)

/-- ITS FALSE NEIGHBOUR: 'it returns false'. Refute it at one input. -/
def pieceAllWrong : ChangeSpec := { name := "pieceAll", fn := fun _ => fun
  | [d1, d2, d3] => { results := [.lit (.bool false)], args := [d1, d2, d3] }
  | _ => none }
def PieceAllWrongFalsely : Prop := pieceAllRow.holds Try.pinned (OpenSpec.ofChange pieceAllWrong)

/-- 'eyotlaw6.PieceCopies': WHATEVER THE INPUT: true; the input reads as it did. -/
def pieceCopiesSpec : ChangeSpec := { name := "pieceCopies", fn := fun _ => fun
  | [d1, d2, d3] => { results := [.lit (.bool true)], args := [d1, d2, d3] }
  | _ => none }
def pieceCopiesRow : OpenClaim := { program := "ytgjeockdppkflaa", sum := "94b044c329b98e0b79ec81af546279daa9eab179d4b977c644c906a5a53151b0", func := "eyot/eyotlaw6.PieceCopies", spec := "pieceCopies", apart := false }
def PieceCopiesSaid : Prop := pieceCopiesRow.holds Try.pinned (OpenSpec.ofChange pieceCopiesSpec)

/-- ITS FALSE NEIGHBOUR: 'it returns false'. Refute it at one input. -/
def pieceCopiesWrong : ChangeSpec := { name := "pieceCopies", fn := fun _ => fun
  | [d1, d2, d3] => { results := [.lit (.bool false)], args := [d1, d2, d3] }
  | _ => none }
def PieceCopiesWrongFalsely : Prop := pieceCopiesRow.holds Try.pinned (OpenSpec.ofChange pieceCopiesWrong)

/- THE SECOND FORM. 'bulk': how many values and letters a reading holds, each counted each time it is reached (what is shared counts as often as it is met; a slice's spare places count too). A statement '..UptoSaid' is the law's where the arguments, and the package variables that the reading takes, are together of bulk at most 1048576: NARROWER than '..Said'. Prove '..Said' where nothing that the law and all that it calls make is longer than what came in: it says more and counts as full. Else prove '..UptoSaid'. A law counts once. -/
mutual
def uptoBulk {H : Type} : DataW H → Nat
  | .lit (.string bytes) => bytes.length + 1
  | .lit _ => 1
  | .nil => 1
  | .ptr d => uptoBulk d + 1
  | .slice elems spare => uptoBulkAll elems + uptoBulkAll spare + 1
  | .agg parts => uptoBulkAll parts + 1
  | .iface _ d => uptoBulk d + 1
  | .map entries => uptoBulkEntries entries + 1
  | .held _ => 1
def uptoBulkAll {H : Type} : List (DataW H) → Nat
  | [] => 0
  | d :: r => uptoBulk d + uptoBulkAll r
def uptoBulkEntries {H : Type} : List (Lit × DataW H) → Nat
  | [] => 0
  | x :: r => uptoBulkEntry x + uptoBulkEntries r
def uptoBulkEntry {H : Type} : Lit × DataW H → Nat
  | (.string bytes, d) => bytes.length + uptoBulk d + 1
  | (_, d) => uptoBulk d + 1
 end
def uptoSmall : (H : Type) → List (DataW H) → Bool := fun _ ds => decide (uptoBulkAll ds ≤ 1048576)
def OpenSpec.upto (s : _root_.Go.ChangeSpec) : _root_.Go.OpenSpec := { _root_.Go.OpenSpec.ofChange s with cond := some uptoSmall }

/-- 'eyotlaw6.PieceSpells', WHERE WHAT IT READS IS OF BULK AT MOST 1048576: true; the input reads as it did. -/
def pieceSpellsUptoRow : OpenClaim := { program := "ytgjeockdppkflaa", sum := "94b044c329b98e0b79ec81af546279daa9eab179d4b977c644c906a5a53151b0", func := "eyot/eyotlaw6.PieceSpells", spec := "pieceSpells", apart := false, narrowed := true }
def PieceSpellsUptoSaid : Prop := pieceSpellsUptoRow.holds Try.pinned (OpenSpec.upto pieceSpellsSpec)

/-- 'eyotlaw6.PieceApart', WHERE WHAT IT READS IS OF BULK AT MOST 1048576: true; the input reads as it did. -/
def pieceApartUptoRow : OpenClaim := { program := "ytgjeockdppkflaa", sum := "94b044c329b98e0b79ec81af546279daa9eab179d4b977c644c906a5a53151b0", func := "eyot/eyotlaw6.PieceApart", spec := "pieceApart", apart := false, narrowed := true }
def PieceApartUptoSaid : Prop := pieceApartUptoRow.holds Try.pinned (OpenSpec.upto pieceApartSpec)

/-- 'eyotlaw6.PieceFinds', WHERE WHAT IT READS IS OF BULK AT MOST 1048576: true; the input reads as it did. -/
def pieceFindsUptoRow : OpenClaim := { program := "ytgjeockdppkflaa", sum := "94b044c329b98e0b79ec81af546279daa9eab179d4b977c644c906a5a53151b0", func := "eyot/eyotlaw6.PieceFinds", spec := "pieceFinds", apart := false, narrowed := true }
def PieceFindsUptoSaid : Prop := pieceFindsUptoRow.holds Try.pinned (OpenSpec.upto pieceFindsSpec)

/-- 'eyotlaw6.PieceTypes', WHERE WHAT IT READS IS OF BULK AT MOST 1048576: true; the input reads as it did. -/
def pieceTypesUptoRow : OpenClaim := { program := "ytgjeockdppkflaa", sum := "94b044c329b98e0b79ec81af546279daa9eab179d4b977c644c906a5a53151b0", func := "eyot/eyotlaw6.PieceTypes", spec := "pieceTypes", apart := false, narrowed := true }
def PieceTypesUptoSaid : Prop := pieceTypesUptoRow.holds Try.pinned (OpenSpec.upto pieceTypesSpec)

/-- 'eyotlaw6.PieceAll', WHERE WHAT IT READS IS OF BULK AT MOST 1048576: true; the input reads as it did. -/
def pieceAllUptoRow : OpenClaim := { program := "ytgjeockdppkflaa", sum := "94b044c329b98e0b79ec81af546279daa9eab179d4b977c644c906a5a53151b0", func := "eyot/eyotlaw6.PieceAll", spec := "pieceAll", apart := false, narrowed := true }
def PieceAllUptoSaid : Prop := pieceAllUptoRow.holds Try.pinned (OpenSpec.upto pieceAllSpec)

/-- 'eyotlaw6.PieceCopies', WHERE WHAT IT READS IS OF BULK AT MOST 1048576: true; the input reads as it did. -/
def pieceCopiesUptoRow : OpenClaim := { program := "ytgjeockdppkflaa", sum := "94b044c329b98e0b79ec81af546279daa9eab179d4b977c644c906a5a53151b0", func := "eyot/eyotlaw6.PieceCopies", spec := "pieceCopies", apart := false, narrowed := true }
def PieceCopiesUptoSaid : Prop := pieceCopiesUptoRow.holds Try.pinned (OpenSpec.upto pieceCopiesSpec)

end Rows
end Go.Proofs.Ytgjeockdppkflaa
