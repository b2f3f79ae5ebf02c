/-
  No cell of these rows narrows 'for every input' (looked for: loops, veiled, ifaces, maps, wideKeys, modest, calm, conditions, laid).
  DERIVED. THE GIVEN ROWS OF THIS SEAT. 5 by the template 'for every input the law returns true; each argument reads behind the call as it read before'; 0 by the template 'total and deterministic' (their statements: YteljlgelgkijlaaTotals.lean).
  GIVEN WITH THE SEED: the statements are not yours to turn. If you find one false, say at which input.
  Laid BY PROGRAM, IN A SANDBOX (cutbox-rows.mjs): the forced cells as the released guide's own fill.sh prints them over the translation 17d26ac2c647b729… (all of the seat's roots in one cut). By AI agents, Wed Nov 11 2026. No macro, syntax, notation, axiom, sorry.
-/
import Derived.Test.YteljlgelgkijlaaChecked
import GoSem.Claim
import GoSem.ClaimJoined
import GoSem.ClaimMapViews
import Derived.JoinedTies
import Derived.KernelRfl
namespace Go.Proofs.Yteljlgelgkijlaa
/- THE CELL 'sum', in the pinned program and in every row, IS THE sha256 OF THE DUMP (.gsa) THAT YteljlgelgkijlaaProg.lean LOADS. Nothing in Lean hashes anything: it is a label: what it is worth is what the hold of that sum in a sandbox is worth. -/
noncomputable def Try.pinned : Pinned := { name := "yteljlgelgkijlaa", sum := "17d26ac2c647b729ed59cbb72d49a1c4547de639538f0ed774811770149b8bff", checked := Try.checked }
namespace Rows
def none {H : Type} : Left H := { results := [], args := [] }

/-- 'eyotlaw5.FileParts': WHATEVER THE INPUT: true; the input reads as it did. -/
def filePartsSpec : ChangeSpec := { name := "fileParts", fn := fun _ => fun
  | [d1, d2, d3, d4, d5, d6] => { results := [.lit (.bool true)], args := [d1, d2, d3, d4, d5, d6] }
  | _ => none }
def filePartsRow : OpenClaim := { program := "yteljlgelgkijlaa", sum := "17d26ac2c647b729ed59cbb72d49a1c4547de639538f0ed774811770149b8bff", func := "eyot/eyotlaw5.FileParts", spec := "fileParts", inPlace := ["slices.overlaps[eyot/lru.entry[[]byte]]"], unfollowed := true, recurses := true, apart := false }
def FilePartsSaid : Prop := filePartsRow.holds Try.pinned (OpenSpec.ofChange filePartsSpec)

/-- ITS FALSE NEIGHBOUR: 'it returns false'. Refute it at one input. -/
def filePartsWrong : ChangeSpec := { name := "fileParts", fn := fun _ => fun
  | [d1, d2, d3, d4, d5, d6] => { results := [.lit (.bool false)], args := [d1, d2, d3, d4, d5, d6] }
  | _ => none }
def FilePartsWrongFalsely : Prop := filePartsRow.holds Try.pinned (OpenSpec.ofChange filePartsWrong)

/-- 'eyotlaw5.FileNew': WHATEVER THE INPUT: true; the input reads as it did. -/
def fileNewSpec : ChangeSpec := { name := "fileNew", fn := fun _ => fun
  | [d1, d2, d3] => { results := [.lit (.bool true)], args := [d1, d2, d3] }
  | _ => none }
def fileNewRow : OpenClaim := { program := "yteljlgelgkijlaa", sum := "17d26ac2c647b729ed59cbb72d49a1c4547de639538f0ed774811770149b8bff", func := "eyot/eyotlaw5.FileNew", spec := "fileNew", inPlace := ["slices.overlaps[eyot/lru.entry[[]byte]]"], unfollowed := true, recurses := true, apart := false }
def FileNewSaid : Prop := fileNewRow.holds Try.pinned (OpenSpec.ofChange fileNewSpec)

/-- ITS FALSE NEIGHBOUR: 'it returns false'. Refute it at one input. -/
def fileNewWrong : ChangeSpec := { name := "fileNew", fn := fun _ => fun
  | [d1, d2, d3] => { results := [.lit (.bool false)], args := [d1, d2, d3] }
  | _ => none }
def FileNewWrongFalsely : Prop := fileNewRow.holds Try.pinned (OpenSpec.ofChange fileNewWrong)

/-- 'eyotlaw5.FileSame': WHATEVER THE INPUT: true; the input reads as it did. -/
def fileSameSpec : ChangeSpec := { name := "fileSame", fn := fun _ => fun
  | [d1, d2, d3, d4, d5, d6] => { results := [.lit (.bool true)], args := [d1, d2, d3, d4, d5, d6] }
  | _ => none }
def fileSameRow : OpenClaim := { program := "yteljlgelgkijlaa", sum := "17d26ac2c647b729ed59cbb72d49a1c4547de639538f0ed774811770149b8bff", func := "eyot/eyotlaw5.FileSame", spec := "fileSame", inPlace := ["slices.overlaps[eyot/lru.entry[[]byte]]"], unfollowed := true, recurses := true, apart := false }
def FileSameSaid : Prop := fileSameRow.holds Try.pinned (OpenSpec.ofChange fileSameSpec)

/-- ITS FALSE NEIGHBOUR: 'it returns false'. Refute it at one input. -/
def fileSameWrong : ChangeSpec := { name := "fileSame", fn := fun _ => fun
  | [d1, d2, d3, d4, d5, d6] => { results := [.lit (.bool false)], args := [d1, d2, d3, d4, d5, d6] }
  | _ => none }
def FileSameWrongFalsely : Prop := fileSameRow.holds Try.pinned (OpenSpec.ofChange fileSameWrong)

/-- 'eyotlaw5.FileAll': WHATEVER THE INPUT: true; the input reads as it did. -/
def fileAllSpec : ChangeSpec := { name := "fileAll", fn := fun _ => fun
  | [d1, d2, d3, d4] => { results := [.lit (.bool true)], args := [d1, d2, d3, d4] }
  | _ => none }
def fileAllRow : OpenClaim := { program := "yteljlgelgkijlaa", sum := "17d26ac2c647b729ed59cbb72d49a1c4547de639538f0ed774811770149b8bff", func := "eyot/eyotlaw5.FileAll", spec := "fileAll", inPlace := ["slices.overlaps[eyot/lru.entry[[]byte]]"], unfollowed := true, recurses := true, apart := false }
def FileAllSaid : Prop := fileAllRow.holds Try.pinned (OpenSpec.ofChange fileAllSpec)

/-- ITS FALSE NEIGHBOUR: 'it returns false'. Refute it at one input. -/
def fileAllWrong : ChangeSpec := { name := "fileAll", fn := fun _ => fun
  | [d1, d2, d3, d4] => { results := [.lit (.bool false)], args := [d1, d2, d3, d4] }
  | _ => none }
def FileAllWrongFalsely : Prop := fileAllRow.holds Try.pinned (OpenSpec.ofChange fileAllWrong)

/-- 'eyotlaw5.FileKeeps': WHATEVER THE INPUT: true; the input reads as it did. -/
def fileKeepsSpec : ChangeSpec := { name := "fileKeeps", fn := fun _ => fun
  | [d1, d2, d3, d4] => { results := [.lit (.bool true)], args := [d1, d2, d3, d4] }
  | _ => none }
def fileKeepsRow : OpenClaim := { program := "yteljlgelgkijlaa", sum := "17d26ac2c647b729ed59cbb72d49a1c4547de639538f0ed774811770149b8bff", func := "eyot/eyotlaw5.FileKeeps", spec := "fileKeeps", inPlace := ["slices.overlaps[eyot/lru.entry[[]byte]]"], unfollowed := true, recurses := true, apart := false }
def FileKeepsSaid : Prop := fileKeepsRow.holds Try.pinned (OpenSpec.ofChange fileKeepsSpec)

/-- ITS FALSE NEIGHBOUR: 'it returns false'. Refute it at one input. -/
def fileKeepsWrong : ChangeSpec := { name := "fileKeeps", fn := fun _ => fun
  | [d1, d2, d3, d4] => { results := [.lit (.bool false)], args := [d1, d2, d3, d4] }
  | _ => none }
def FileKeepsWrongFalsely : Prop := fileKeepsRow.holds Try.pinned (OpenSpec.ofChange fileKeepsWrong)

/- THE SECOND FORM. 'bulk': how many values and letters a reading holds, each counted each time it is reached (what is shared counts as often as it is met; a slice's spare places count too). A statement '..UptoSaid' is the law's where the arguments, and the package variables that the reading takes, are together of bulk at most 1048576: NARROWER than '..Said'. Prove '..Said' where nothing that the law and all that it calls make is longer than what came in: it says more and counts as full. Else prove '..UptoSaid'. A law counts once. -/
mutual
def uptoBulk {H : Type} : DataW H → Nat
  | .lit (.string bytes) => bytes.length + 1
  | .lit _ => 1
  | .nil => 1
  | .ptr d => uptoBulk d + 1
  | .slice elems spare => uptoBulkAll elems + uptoBulkAll spare + 1
  | .agg parts => uptoBulkAll parts + 1
  | .iface _ d => uptoBulk d + 1
  | .map entries => uptoBulkEntries entries + 1
  | .held _ => 1
def uptoBulkAll {H : Type} : List (DataW H) → Nat
  | [] => 0
  | d :: r => uptoBulk d + uptoBulkAll r
def uptoBulkEntries {H : Type} : List (Lit × DataW H) → Nat
  | [] => 0
  | x :: r => uptoBulkEntry x + uptoBulkEntries r
def uptoBulkEntry {H : Type} : Lit × DataW H → Nat
  | (.string bytes, d) => bytes.length + uptoBulk d + 1
  | (_, d) => uptoBulk d + 1
 end
def uptoSmall : (H : Type) → List (DataW H) → Bool := fun _ ds => decide (uptoBulkAll ds ≤ 1048576)
def OpenSpec.upto (s : _root_.Go.ChangeSpec) : _root_.Go.OpenSpec := { _root_.Go.OpenSpec.ofChange s with cond := some uptoSmall }

/-- 'eyotlaw5.FileParts', WHERE WHAT IT READS IS OF BULK AT MOST 1048576: true; the input reads as it did. -/
def filePartsUptoRow : OpenClaim := { program := "yteljlgelgkijlaa", sum := "17d26ac2c647b729ed59cbb72d49a1c4547de639538f0ed774811770149b8bff", func := "eyot/eyotlaw5.FileParts", spec := "fileParts", inPlace := ["slices.overlaps[eyot/lru.entry[[]byte]]"], unfollowed := true, recurses := true, apart := false, narrowed := true }
def FilePartsUptoSaid : Prop := filePartsUptoRow.holds Try.pinned (OpenSpec.upto filePartsSpec)

/-- 'eyotlaw5.FileNew', WHERE WHAT IT READS IS OF BULK AT MOST 1048576: true; the input reads as it did. -/
def fileNewUptoRow : OpenClaim := { program := "yteljlgelgkijlaa", sum := "17d26ac2c647b729ed59cbb72d49a1c4547de639538f0ed774811770149b8bff", func := "eyot/eyotlaw5.FileNew", spec := "fileNew", inPlace := ["slices.overlaps[eyot/lru.entry[[]byte]]"], unfollowed := true, recurses := true, apart := false, narrowed := true }
def FileNewUptoSaid : Prop := fileNewUptoRow.holds Try.pinned (OpenSpec.upto fileNewSpec)

/-- 'eyotlaw5.FileSame', WHERE WHAT IT READS IS OF BULK AT MOST 1048576: true; the input reads as it did. -/
def fileSameUptoRow : OpenClaim := { program := "yteljlgelgkijlaa", sum := "17d26ac2c647b729ed59cbb72d49a1c4547de639538f0ed774811770149b8bff", func := "eyot/eyotlaw5.FileSame", spec := "fileSame", inPlace := ["slices.overlaps[eyot/lru.entry[[]byte]]"], unfollowed := true, recurses := true, apart := false, narrowed := true }
def FileSameUptoSaid : Prop := fileSameUptoRow.holds Try.pinned (OpenSpec.upto fileSameSpec)

/-- 'eyotlaw5.FileAll', WHERE WHAT IT READS IS OF BULK AT MOST 1048576: true; the input reads as it did. -/
def fileAllUptoRow : OpenClaim := { program := "yteljlgelgkijlaa", sum := "17d26ac2c647b729ed59cbb72d49a1c4547de639538f0ed774811770149b8bff", func := "eyot/eyotlaw5.FileAll", spec := "fileAll", inPlace := ["slices.overlaps[eyot/lru.entry[[]byte]]"], unfollowed := true, recurses := true, apart := false, narrowed := true }
def FileAllUptoSaid : Prop := fileAllUptoRow.holds Try.pinned (OpenSpec.upto fileAllSpec)

/-- 'eyotlaw5.FileKeeps', WHERE WHAT IT READS IS OF BULK AT MOST 1048576: true; the input reads as it did. -/
def fileKeepsUptoRow : OpenClaim := { program := "yteljlgelgkijlaa", sum := "17d26ac2c647b729ed59cbb72d49a1c4547de639538f0ed774811770149b8bff", func := "eyot/eyotlaw5.FileKeeps", spec := "fileKeeps", inPlace := ["slices.overlaps[eyot/lru.entry[[]byte]]"], unfollowed := true, recurses := true, apart := false, narrowed := true }
def FileKeepsUptoSaid : Prop := fileKeepsUptoRow.holds Try.pinned (OpenSpec.upto fileKeepsSpec)

end Rows
end Go.Proofs.Yteljlgelgkijlaa
