/-
  No cell of these rows narrows 'for every input' (looked for: loops, veiled, ifaces, maps, wideKeys, modest, calm, conditions, laid).
  DERIVED. THE GIVEN ROWS OF THIS SEAT. 4 by the template 'for every input the law returns true; each argument reads behind the call as it read before'; 0 by the template 'total and deterministic' (their statements: YtjdkdeekniephaaTotals.lean).
  GIVEN WITH THE SEED: the statements are not yours to turn. If you find one false, say at which input.
  Laid BY PROGRAM, IN A SANDBOX (cutbox-rows.mjs): the forced cells as the released guide's own fill.sh prints them over the translation 8e9fd90ace120b70… (all of the seat's roots in one cut). By AI agents, Wed Nov 11 2026. No macro, syntax, notation, axiom, sorry.
-/
import Derived.Test.YtjdkdeekniephaaChecked
import GoSem.Claim
import GoSem.ClaimJoined
import GoSem.ClaimMapViews
import Derived.JoinedTies
import Derived.KernelRfl
namespace Go.Proofs.Ytjdkdeekniephaa
/- THE CELL 'sum', in the pinned program and in every row, IS THE sha256 OF THE DUMP (.gsa) THAT YtjdkdeekniephaaProg.lean LOADS. Nothing in Lean hashes anything: it is a label: what it is worth is what the hold of that sum in a sandbox is worth. -/
noncomputable def Try.pinned : Pinned := { name := "ytjdkdeekniephaa", sum := "8e9fd90ace120b7091ea8ace2343c448f7a342b16987a8142743e0580abbf8fe", checked := Try.checked }
namespace Rows
def none {H : Type} : Left H := { results := [], args := [] }

/-- 'eyotlaw7.DocAll': WHATEVER THE INPUT: true; the input reads as it did. -/
def docAllSpec : ChangeSpec := { name := "docAll", fn := fun _ => fun
  | [d1, d2, d3, d4, d5] => { results := [.lit (.bool true)], args := [d1, d2, d3, d4, d5] }
  | _ => none }
def docAllRow : OpenClaim := { program := "ytjdkdeekniephaa", sum := "8e9fd90ace120b7091ea8ace2343c448f7a342b16987a8142743e0580abbf8fe", func := "eyot/eyotlaw7.DocAll", spec := "docAll", inPlace := ["slices.overlaps[eyot/lru.entry[[]byte]]"], unfollowed := true, recurses := true, apart := false }
def DocAllSaid : Prop := docAllRow.holds Try.pinned (OpenSpec.ofChange docAllSpec)

/-- ITS FALSE NEIGHBOUR: 'it returns false'. Refute it at one input. -/
def docAllWrong : ChangeSpec := { name := "docAll", fn := fun _ => fun
  | [d1, d2, d3, d4, d5] => { results := [.lit (.bool false)], args := [d1, d2, d3, d4, d5] }
  | _ => none }
def DocAllWrongFalsely : Prop := docAllRow.holds Try.pinned (OpenSpec.ofChange docAllWrong)

/-- 'eyotlaw7.DocParts': WHATEVER THE INPUT: true; the input reads as it did. -/
def docPartsSpec : ChangeSpec := { name := "docParts", fn := fun _ => fun
  | [d1, d2, d3, d4, d5, d6, d7] => { results := [.lit (.bool true)], args := [d1, d2, d3, d4, d5, d6, d7] }
  | _ => none }
def docPartsRow : OpenClaim := { program := "ytjdkdeekniephaa", sum := "8e9fd90ace120b7091ea8ace2343c448f7a342b16987a8142743e0580abbf8fe", func := "eyot/eyotlaw7.DocParts", spec := "docParts", inPlace := ["slices.overlaps[eyot/lru.entry[[]byte]]"], unfollowed := true, recurses := true, apart := false }
def DocPartsSaid : Prop := docPartsRow.holds Try.pinned (OpenSpec.ofChange docPartsSpec)

/-- ITS FALSE NEIGHBOUR: 'it returns false'. Refute it at one input. -/
def docPartsWrong : ChangeSpec := { name := "docParts", fn := fun _ => fun
  | [d1, d2, d3, d4, d5, d6, d7] => { results := [.lit (.bool false)], args := [d1, d2, d3, d4, d5, d6, d7] }
  | _ => none }
def DocPartsWrongFalsely : Prop := docPartsRow.holds Try.pinned (OpenSpec.ofChange docPartsWrong)

/-- 'eyotlaw7.DocAdded': WHATEVER THE INPUT: true; the input reads as it did. -/
def docAddedSpec : ChangeSpec := { name := "docAdded", fn := fun _ => fun
  | [d1, d2, d3, d4] => { results := [.lit (.bool true)], args := [d1, d2, d3, d4] }
  | _ => none }
def docAddedRow : OpenClaim := { program := "ytjdkdeekniephaa", sum := "8e9fd90ace120b7091ea8ace2343c448f7a342b16987a8142743e0580abbf8fe", func := "eyot/eyotlaw7.DocAdded", spec := "docAdded", inPlace := ["slices.overlaps[eyot/lru.entry[[]byte]]"], unfollowed := true, recurses := true, apart := false }
def DocAddedSaid : Prop := docAddedRow.holds Try.pinned (OpenSpec.ofChange docAddedSpec)

/-- ITS FALSE NEIGHBOUR: 'it returns false'. Refute it at one input. -/
def docAddedWrong : ChangeSpec := { name := "docAdded", fn := fun _ => fun
  | [d1, d2, d3, d4] => { results := [.lit (.bool false)], args := [d1, d2, d3, d4] }
  | _ => none }
def DocAddedWrongFalsely : Prop := docAddedRow.holds Try.pinned (OpenSpec.ofChange docAddedWrong)

/-- 'eyotlaw7.DocReads': WHATEVER THE INPUT: true; the input reads as it did. -/
def docReadsSpec : ChangeSpec := { name := "docReads", fn := fun _ => fun
  | [d1, d2, d3, d4, d5, d6] => { results := [.lit (.bool true)], args := [d1, d2, d3, d4, d5, d6] }
  | _ => none }
def docReadsRow : OpenClaim := { program := "ytjdkdeekniephaa", sum := "8e9fd90ace120b7091ea8ace2343c448f7a342b16987a8142743e0580abbf8fe", func := "eyot/eyotlaw7.DocReads", spec := "docReads", inPlace := ["slices.overlaps[eyot/lru.entry[[]byte]]"], unfollowed := true, recurses := true, apart := false }
def DocReadsSaid : Prop := docReadsRow.holds Try.pinned (OpenSpec.ofChange docReadsSpec)

/-- ITS FALSE NEIGHBOUR: 'it returns false'. Refute it at one input. -/
def docReadsWrong : ChangeSpec := { name := "docReads", fn := fun _ => fun
  | [d1, d2, d3, d4, d5, d6] => { results := [.lit (.bool false)], args := [d1, d2, d3, d4, d5, d6] }
  | _ => none }
def DocReadsWrongFalsely : Prop := docReadsRow.holds Try.pinned (OpenSpec.ofChange docReadsWrong)

/- THE SECOND FORM. 'bulk': how many values and letters a reading holds, each counted each time it is reached (what is shared counts as often as it is met; a slice's spare places count too). A statement '..UptoSaid' is the law's where the arguments, and the package variables that the reading takes, are together of bulk at most 1048576: NARROWER than '..Said'. Prove '..Said' where nothing that the law and all that it calls make is longer than what came in: it says more and counts as full. Else prove '..UptoSaid'. A law counts once. -/
mutual
def uptoBulk {H : Type} : DataW H → Nat
  | .lit (.string bytes) => bytes.length + 1
  | .lit _ => 1
  | .nil => 1
  | .ptr d => uptoBulk d + 1
  | .slice elems spare => uptoBulkAll elems + uptoBulkAll spare + 1
  | .agg parts => uptoBulkAll parts + 1
  | .iface _ d => uptoBulk d + 1
  | .map entries => uptoBulkEntries entries + 1
  | .held _ => 1
def uptoBulkAll {H : Type} : List (DataW H) → Nat
  | [] => 0
  | d :: r => uptoBulk d + uptoBulkAll r
def uptoBulkEntries {H : Type} : List (Lit × DataW H) → Nat
  | [] => 0
  | x :: r => uptoBulkEntry x + uptoBulkEntries r
def uptoBulkEntry {H : Type} : Lit × DataW H → Nat
  | (.string bytes, d) => bytes.length + uptoBulk d + 1
  | (_, d) => uptoBulk d + 1
 end
def uptoSmall : (H : Type) → List (DataW H) → Bool := fun _ ds => decide (uptoBulkAll ds ≤ 1048576)
def OpenSpec.upto (s : _root_.Go.ChangeSpec) : _root_.Go.OpenSpec := { _root_.Go.OpenSpec.ofChange s with cond := some uptoSmall }

/-- 'eyotlaw7.DocAll', WHERE WHAT IT READS IS OF BULK AT MOST 1048576: true; the input reads as it did. -/
def docAllUptoRow : OpenClaim := { program := "ytjdkdeekniephaa", sum := "8e9fd90ace120b7091ea8ace2343c448f7a342b16987a8142743e0580abbf8fe", func := "eyot/eyotlaw7.DocAll", spec := "docAll", inPlace := ["slices.overlaps[eyot/lru.entry[[]byte]]"], unfollowed := true, recurses := true, apart := false, narrowed := true }
def DocAllUptoSaid : Prop := docAllUptoRow.holds Try.pinned (OpenSpec.upto docAllSpec)

/-- 'eyotlaw7.DocParts', WHERE WHAT IT READS IS OF BULK AT MOST 1048576: true; the input reads as it did. -/
def docPartsUptoRow : OpenClaim := { program := "ytjdkdeekniephaa", sum := "8e9fd90ace120b7091ea8ace2343c448f7a342b16987a8142743e0580abbf8fe", func := "eyot/eyotlaw7.DocParts", spec := "docParts", inPlace := ["slices.overlaps[eyot/lru.entry[[]byte]]"], unfollowed := true, recurses := true, apart := false, narrowed := true }
def DocPartsUptoSaid : Prop := docPartsUptoRow.holds Try.pinned (OpenSpec.upto docPartsSpec)

/-- 'eyotlaw7.DocAdded', WHERE WHAT IT READS IS OF BULK AT MOST 1048576: true; the input reads as it did. -/
def docAddedUptoRow : OpenClaim := { program := "ytjdkdeekniephaa", sum := "8e9fd90ace120b7091ea8ace2343c448f7a342b16987a8142743e0580abbf8fe", func := "eyot/eyotlaw7.DocAdded", spec := "docAdded", inPlace := ["slices.overlaps[eyot/lru.entry[[]byte]]"], unfollowed := true, recurses := true, apart := false, narrowed := true }
def DocAddedUptoSaid : Prop := docAddedUptoRow.holds Try.pinned (OpenSpec.upto docAddedSpec)

/-- 'eyotlaw7.DocReads', WHERE WHAT IT READS IS OF BULK AT MOST 1048576: true; the input reads as it did. -/
def docReadsUptoRow : OpenClaim := { program := "ytjdkdeekniephaa", sum := "8e9fd90ace120b7091ea8ace2343c448f7a342b16987a8142743e0580abbf8fe", func := "eyot/eyotlaw7.DocReads", spec := "docReads", inPlace := ["slices.overlaps[eyot/lru.entry[[]byte]]"], unfollowed := true, recurses := true, apart := false, narrowed := true }
def DocReadsUptoSaid : Prop := docReadsUptoRow.holds Try.pinned (OpenSpec.upto docReadsSpec)

end Rows
end Go.Proofs.Ytjdkdeekniephaa
