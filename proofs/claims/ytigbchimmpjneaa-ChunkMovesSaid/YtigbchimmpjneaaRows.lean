/-
  No cell of these rows narrows 'for every input' (looked for: loops, veiled, ifaces, maps, wideKeys, modest, calm, conditions, laid).
  DERIVED. THE GIVEN ROWS OF THIS SEAT. 2 by the template 'for every input the law returns true; each argument reads behind the call as it read before'; 0 by the template 'total and deterministic' (their statements: YtigbchimmpjneaaTotals.lean).
  GIVEN WITH THE SEED: the statements are not yours to turn. If you find one false, say at which input.
  Laid BY PROGRAM, IN A SANDBOX (cutbox-rows.mjs): the forced cells as the released guide's own fill.sh prints them over the translation 4a03b6c9513ceadf… (all of the seat's roots in one cut). By AI agents, Wed Nov 11 2026. No macro, syntax, notation, axiom, sorry.
-/
import Derived.Test.YtigbchimmpjneaaChecked
import GoSem.Claim
import GoSem.ClaimJoined
import GoSem.ClaimMapViews
import Derived.JoinedTies
import Derived.KernelRfl
namespace Go.Proofs.Ytigbchimmpjneaa
/- THE CELL 'sum', in the pinned program and in every row, IS THE sha256 OF THE DUMP (.gsa) THAT YtigbchimmpjneaaProg.lean LOADS. Nothing in Lean hashes anything: it is a label: what it is worth is what the hold of that sum in a sandbox is worth. -/
noncomputable def Try.pinned : Pinned := { name := "ytigbchimmpjneaa", sum := "4a03b6c9513ceadfbf0e620b014d9bb48e1150209b9dfbfdb7331853754a05a7", checked := Try.checked }
namespace Rows
def none {H : Type} : Left H := { results := [], args := [] }

/-- 'eyotlaw28.ChunkNear': WHATEVER THE INPUT: true; the input reads as it did. -/
def chunkNearSpec : ChangeSpec := { name := "chunkNear", fn := fun _ => fun
  | [d1, d2, d3, d4] => { results := [.lit (.bool true)], args := [d1, d2, d3, d4] }
  | _ => none }
def chunkNearRow : OpenClaim := { program := "ytigbchimmpjneaa", sum := "4a03b6c9513ceadfbf0e620b014d9bb48e1150209b9dfbfdb7331853754a05a7", func := "eyot/eyotlaw28.ChunkNear", spec := "chunkNear", inPlace := ["slices.overlaps[eyot/lru.entry[eyot/chunk.Chunk]]"], unfollowed := true, recurses := true, apart := false }
def ChunkNearSaid : Prop := chunkNearRow.holds Try.pinned (OpenSpec.ofChange chunkNearSpec)

/-- ITS FALSE NEIGHBOUR: 'it returns false'. Refute it at one input. -/
def chunkNearWrong : ChangeSpec := { name := "chunkNear", fn := fun _ => fun
  | [d1, d2, d3, d4] => { results := [.lit (.bool false)], args := [d1, d2, d3, d4] }
  | _ => none }
def ChunkNearWrongFalsely : Prop := chunkNearRow.holds Try.pinned (OpenSpec.ofChange chunkNearWrong)

/-- 'eyotlaw28.ChunkMoves': WHATEVER THE INPUT: true; the input reads as it did. -/
def chunkMovesSpec : ChangeSpec := { name := "chunkMoves", fn := fun _ => fun
  | [d1, d2, d3] => { results := [.lit (.bool true)], args := [d1, d2, d3] }
  | _ => none }
def chunkMovesRow : OpenClaim := { program := "ytigbchimmpjneaa", sum := "4a03b6c9513ceadfbf0e620b014d9bb48e1150209b9dfbfdb7331853754a05a7", func := "eyot/eyotlaw28.ChunkMoves", spec := "chunkMoves", inPlace := ["slices.overlaps[eyot/lru.entry[eyot/chunk.Chunk]]"], unfollowed := true, recurses := true, apart := false }
def ChunkMovesSaid : Prop := chunkMovesRow.holds Try.pinned (OpenSpec.ofChange chunkMovesSpec)

/-- ITS FALSE NEIGHBOUR: 'it returns false'. Refute it at one input. -/
def chunkMovesWrong : ChangeSpec := { name := "chunkMoves", fn := fun _ => fun
  | [d1, d2, d3] => { results := [.lit (.bool false)], args := [d1, d2, d3] }
  | _ => none }
def ChunkMovesWrongFalsely : Prop := chunkMovesRow.holds Try.pinned (OpenSpec.ofChange chunkMovesWrong)

/- THE SECOND FORM. 'bulk': how many values and letters a reading holds, each counted each time it is reached (what is shared counts as often as it is met; a slice's spare places count too). A statement '..UptoSaid' is the law's where the arguments, and the package variables that the reading takes, are together of bulk at most 1048576: NARROWER than '..Said'. Prove '..Said' where nothing that the law and all that it calls make is longer than what came in: it says more and counts as full. Else prove '..UptoSaid'. A law counts once. -/
mutual
def uptoBulk {H : Type} : DataW H → Nat
  | .lit (.string bytes) => bytes.length + 1
  | .lit _ => 1
  | .nil => 1
  | .ptr d => uptoBulk d + 1
  | .slice elems spare => uptoBulkAll elems + uptoBulkAll spare + 1
  | .agg parts => uptoBulkAll parts + 1
  | .iface _ d => uptoBulk d + 1
  | .map entries => uptoBulkEntries entries + 1
  | .held _ => 1
def uptoBulkAll {H : Type} : List (DataW H) → Nat
  | [] => 0
  | d :: r => uptoBulk d + uptoBulkAll r
def uptoBulkEntries {H : Type} : List (Lit × DataW H) → Nat
  | [] => 0
  | x :: r => uptoBulkEntry x + uptoBulkEntries r
def uptoBulkEntry {H : Type} : Lit × DataW H → Nat
  | (.string bytes, d) => bytes.length + uptoBulk d + 1
  | (_, d) => uptoBulk d + 1
 end
def uptoSmall : (H : Type) → List (DataW H) → Bool := fun _ ds => decide (uptoBulkAll ds ≤ 1048576)
def OpenSpec.upto (s : _root_.Go.ChangeSpec) : _root_.Go.OpenSpec := { _root_.Go.OpenSpec.ofChange s with cond := some uptoSmall }

/-- 'eyotlaw28.ChunkNear', WHERE WHAT IT READS IS OF BULK AT MOST 1048576: true; the input reads as it did. -/
def chunkNearUptoRow : OpenClaim := { program := "ytigbchimmpjneaa", sum := "4a03b6c9513ceadfbf0e620b014d9bb48e1150209b9dfbfdb7331853754a05a7", func := "eyot/eyotlaw28.ChunkNear", spec := "chunkNear", inPlace := ["slices.overlaps[eyot/lru.entry[eyot/chunk.Chunk]]"], unfollowed := true, recurses := true, apart := false, narrowed := true }
def ChunkNearUptoSaid : Prop := chunkNearUptoRow.holds Try.pinned (OpenSpec.upto chunkNearSpec)

/-- 'eyotlaw28.ChunkMoves', WHERE WHAT IT READS IS OF BULK AT MOST 1048576: true; the input reads as it did. -/
def chunkMovesUptoRow : OpenClaim := { program := "ytigbchimmpjneaa", sum := "4a03b6c9513ceadfbf0e620b014d9bb48e1150209b9dfbfdb7331853754a05a7", func := "eyot/eyotlaw28.ChunkMoves", spec := "chunkMoves", inPlace := ["slices.overlaps[eyot/lru.entry[eyot/chunk.Chunk]]"], unfollowed := true, recurses := true, apart := false, narrowed := true }
def ChunkMovesUptoSaid : Prop := chunkMovesUptoRow.holds Try.pinned (OpenSpec.upto chunkMovesSpec)

end Rows
end Go.Proofs.Ytigbchimmpjneaa
