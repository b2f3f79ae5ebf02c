/-
  No cell of these rows narrows 'for every input' (looked for: loops, veiled, ifaces, maps, wideKeys, modest, calm, conditions, laid).
  DERIVED. THE GIVEN ROWS OF THIS SEAT. 5 by the template 'for every input the law returns true; each argument reads behind the call as it read before'; 0 by the template 'total and deterministic' (their statements: YtjicfgageihahaaTotals.lean).
  GIVEN WITH THE SEED: the statements are not yours to turn. If you find one false, say at which input.
  Laid BY PROGRAM, IN A SANDBOX (cutbox-rows.mjs): the forced cells as the released guide's own fill.sh prints them over the translation 662eb0747312be24… (all of the seat's roots in one cut). By AI agents, Wed Nov 11 2026. No macro, syntax, notation, axiom, sorry.
-/
import Derived.Test.YtjicfgageihahaaChecked
import GoSem.Claim
import GoSem.ClaimJoined
import GoSem.ClaimMapViews
import Derived.JoinedTies
import Derived.KernelRfl
namespace Go.Proofs.Ytjicfgageihahaa
/- THE CELL 'sum', in the pinned program and in every row, IS THE sha256 OF THE DUMP (.gsa) THAT YtjicfgageihahaaProg.lean LOADS. Nothing in Lean hashes anything: it is a label: what it is worth is what the hold of that sum in a sandbox is worth. -/
noncomputable def Try.pinned : Pinned := { name := "ytjicfgageihahaa", sum := "662eb0747312be244a4acc5528ce6bff557e2aefabc96499723638d55d5e1e8f", checked := Try.checked }
namespace Rows
def none {H : Type} : Left H := { results := [], args := [] }

/-- 'eyotlaw4.CacheLast': WHATEVER THE INPUT: true; the input reads as it did. -/
def cacheLastSpec : ChangeSpec := { name := "cacheLast", fn := fun _ => fun
  | [d1, d2] => { results := [.lit (.bool true)], args := [d1, d2] }
  | _ => none }
def cacheLastRow : OpenClaim := { program := "ytjicfgageihahaa", sum := "662eb0747312be244a4acc5528ce6bff557e2aefabc96499723638d55d5e1e8f", func := "eyot/eyotlaw4.CacheLast", spec := "cacheLast", inPlace := ["slices.overlaps[eyot/lru.entry[int]]"], unfollowed := true, recurses := true, apart := false }
def CacheLastSaid : Prop := cacheLastRow.holds Try.pinned (OpenSpec.ofChange cacheLastSpec)

/-- ITS FALSE NEIGHBOUR: 'it returns false'. Refute it at one input. -/
def cacheLastWrong : ChangeSpec := { name := "cacheLast", fn := fun _ => fun
  | [d1, d2] => { results := [.lit (.bool false)], args := [d1, d2] }
  | _ => none }
def CacheLastWrongFalsely : Prop := cacheLastRow.holds Try.pinned (OpenSpec.ofChange cacheLastWrong)

/-- 'eyotlaw4.CacheValues': WHATEVER THE INPUT: true; the input reads as it did. -/
def cacheValuesSpec : ChangeSpec := { name := "cacheValues", fn := fun _ => fun
  | [d] => { results := [.lit (.bool true)], args := [d] }
  | _ => none }
def cacheValuesRow : OpenClaim := { program := "ytjicfgageihahaa", sum := "662eb0747312be244a4acc5528ce6bff557e2aefabc96499723638d55d5e1e8f", func := "eyot/eyotlaw4.CacheValues", spec := "cacheValues", inPlace := ["slices.overlaps[eyot/lru.entry[int]]", "slices.overlaps[eyot/lru.entry[[2]int]]"], unfollowed := true, recurses := true, apart := false }
def CacheValuesSaid : Prop := cacheValuesRow.holds Try.pinned (OpenSpec.ofChange cacheValuesSpec)

/-- ITS FALSE NEIGHBOUR: 'it returns false'. Refute it at one input. -/
def cacheValuesWrong : ChangeSpec := { name := "cacheValues", fn := fun _ => fun
  | [d] => { results := [.lit (.bool false)], args := [d] }
  | _ => none }
def CacheValuesWrongFalsely : Prop := cacheValuesRow.holds Try.pinned (OpenSpec.ofChange cacheValuesWrong)

/-- 'eyotlaw4.CacheFull': WHATEVER THE INPUT: true; the input reads as it did. -/
def cacheFullSpec : ChangeSpec := { name := "cacheFull", fn := fun _ => fun
  | [d1, d2, d3] => { results := [.lit (.bool true)], args := [d1, d2, d3] }
  | _ => none }
def cacheFullRow : OpenClaim := { program := "ytjicfgageihahaa", sum := "662eb0747312be244a4acc5528ce6bff557e2aefabc96499723638d55d5e1e8f", func := "eyot/eyotlaw4.CacheFull", spec := "cacheFull", inPlace := ["slices.overlaps[eyot/lru.entry[int]]", "slices.overlaps[eyot/lru.entry[string]]"], unfollowed := true, recurses := true, apart := false }
def CacheFullSaid : Prop := cacheFullRow.holds Try.pinned (OpenSpec.ofChange cacheFullSpec)

/-- ITS FALSE NEIGHBOUR: 'it returns false'. Refute it at one input. -/
def cacheFullWrong : ChangeSpec := { name := "cacheFull", fn := fun _ => fun
  | [d1, d2, d3] => { results := [.lit (.bool false)], args := [d1, d2, d3] }
  | _ => none }
def CacheFullWrongFalsely : Prop := cacheFullRow.holds Try.pinned (OpenSpec.ofChange cacheFullWrong)

/-- 'eyotlaw4.CacheAll': WHATEVER THE INPUT: true; the input reads as it did. -/
def cacheAllSpec : ChangeSpec := { name := "cacheAll", fn := fun _ => fun
  | [d1, d2] => { results := [.lit (.bool true)], args := [d1, d2] }
  | _ => none }
def cacheAllRow : OpenClaim := { program := "ytjicfgageihahaa", sum := "662eb0747312be244a4acc5528ce6bff557e2aefabc96499723638d55d5e1e8f", func := "eyot/eyotlaw4.CacheAll", spec := "cacheAll", inPlace := ["slices.overlaps[eyot/lru.entry[int]]", "slices.overlaps[eyot/lru.entry[string]]"], unfollowed := true, recurses := true, apart := false }
def CacheAllSaid : Prop := cacheAllRow.holds Try.pinned (OpenSpec.ofChange cacheAllSpec)

/-- ITS FALSE NEIGHBOUR: 'it returns false'. Refute it at one input. -/
def cacheAllWrong : ChangeSpec := { name := "cacheAll", fn := fun _ => fun
  | [d1, d2] => { results := [.lit (.bool false)], args := [d1, d2] }
  | _ => none }
def CacheAllWrongFalsely : Prop := cacheAllRow.holds Try.pinned (OpenSpec.ofChange cacheAllWrong)

/-- 'eyotlaw4.CacheDrops': WHATEVER THE INPUT: true; the input reads as it did. -/
def cacheDropsSpec : ChangeSpec := { name := "cacheDrops", fn := fun _ => fun
  | [d1, d2] => { results := [.lit (.bool true)], args := [d1, d2] }
  | _ => none }
def cacheDropsRow : OpenClaim := { program := "ytjicfgageihahaa", sum := "662eb0747312be244a4acc5528ce6bff557e2aefabc96499723638d55d5e1e8f", func := "eyot/eyotlaw4.CacheDrops", spec := "cacheDrops", inPlace := ["slices.overlaps[eyot/lru.entry[int]]"], unfollowed := true, recurses := true, apart := false }
def CacheDropsSaid : Prop := cacheDropsRow.holds Try.pinned (OpenSpec.ofChange cacheDropsSpec)

/-- ITS FALSE NEIGHBOUR: 'it returns false'. Refute it at one input. -/
def cacheDropsWrong : ChangeSpec := { name := "cacheDrops", fn := fun _ => fun
  | [d1, d2] => { results := [.lit (.bool false)], args := [d1, d2] }
  | _ => none }
def CacheDropsWrongFalsely : Prop := cacheDropsRow.holds Try.pinned (OpenSpec.ofChange cacheDropsWrong)

/- THE SECOND FORM. 'bulk': how many values and letters a reading holds, each counted each time it is reached (what is shared counts as often as it is met; a slice's spare places count too). A statement '..UptoSaid' is the law's where the arguments, and the package variables that the reading takes, are together of bulk at most 1048576: NARROWER than '..Said'. Prove '..Said' where nothing that the law and all that it calls make is longer than what came in: it says more and counts as full. Else prove '..UptoSaid'. A law counts once. -/
mutual
def uptoBulk {H : Type} : DataW H → Nat
  | .lit (.string bytes) => bytes.length + 1
  | .lit _ => 1
  | .nil => 1
  | .ptr d => uptoBulk d + 1
  | .slice elems spare => uptoBulkAll elems + uptoBulkAll spare + 1
  | .agg parts => uptoBulkAll parts + 1
  | .iface _ d => uptoBulk d + 1
  | .map entries => uptoBulkEntries entries + 1
  | .held _ => 1
def uptoBulkAll {H : Type} : List (DataW H) → Nat
  | [] => 0
  | d :: r => uptoBulk d + uptoBulkAll r
def uptoBulkEntries {H : Type} : List (Lit × DataW H) → Nat
  | [] => 0
  | x :: r => uptoBulkEntry x + uptoBulkEntries r
def uptoBulkEntry {H : Type} : Lit × DataW H → Nat
  | (.string bytes, d) => bytes.length + uptoBulk d + 1
  | (_, d) => uptoBulk d + 1
 end
def uptoSmall : (H : Type) → List (DataW H) → Bool := fun _ ds => decide (uptoBulkAll ds ≤ 1048576)
def OpenSpec.upto (s : _root_.Go.ChangeSpec) : _root_.Go.OpenSpec := { _root_.Go.OpenSpec.ofChange s with cond := some uptoSmall }

/-- 'eyotlaw4.CacheLast', WHERE WHAT IT READS IS OF BULK AT MOST 1048576: true; the input reads as it did. -/
def cacheLastUptoRow : OpenClaim := { program := "ytjicfgageihahaa", sum := "662eb0747312be244a4acc5528ce6bff557e2aefabc96499723638d55d5e1e8f", func := "eyot/eyotlaw4.CacheLast", spec := "cacheLast", inPlace := ["slices.overlaps[eyot/lru.entry[int]]"], unfollowed := true, recurses := true, apart := false, narrowed := true }
def CacheLastUptoSaid : Prop := cacheLastUptoRow.holds Try.pinned (OpenSpec.upto cacheLastSpec)

/-- 'eyotlaw4.CacheValues', WHERE WHAT IT READS IS OF BULK AT MOST 1048576: true; the input reads as it did. -/
def cacheValuesUptoRow : OpenClaim := { program := "ytjicfgageihahaa", sum := "662eb0747312be244a4acc5528ce6bff557e2aefabc96499723638d55d5e1e8f", func := "eyot/eyotlaw4.CacheValues", spec := "cacheValues", inPlace := ["slices.overlaps[eyot/lru.entry[int]]", "slices.overlaps[eyot/lru.entry[[2]int]]"], unfollowed := true, recurses := true, apart := false, narrowed := true }
def CacheValuesUptoSaid : Prop := cacheValuesUptoRow.holds Try.pinned (OpenSpec.upto cacheValuesSpec)

/-- 'eyotlaw4.CacheFull', WHERE WHAT IT READS IS OF BULK AT MOST 1048576: true; the input reads as it did. -/
def cacheFullUptoRow : OpenClaim := { program := "ytjicfgageihahaa", sum := "662eb0747312be244a4acc5528ce6bff557e2aefabc96499723638d55d5e1e8f", func := "eyot/eyotlaw4.CacheFull", spec := "cacheFull", inPlace := ["slices.overlaps[eyot/lru.entry[int]]", "slices.overlaps[eyot/lru.entry[string]]"], unfollowed := true, recurses := true, apart := false, narrowed := true }
def CacheFullUptoSaid : Prop := cacheFullUptoRow.holds Try.pinned (OpenSpec.upto cacheFullSpec)

/-- 'eyotlaw4.CacheAll', WHERE WHAT IT READS IS OF BULK AT MOST 1048576: true; the input reads as it did. -/
def cacheAllUptoRow : OpenClaim := { program := "ytjicfgageihahaa", sum := "662eb0747312be244a4acc5528ce6bff557e2aefabc96499723638d55d5e1e8f", func := "eyot/eyotlaw4.CacheAll", spec := "cacheAll", inPlace := ["slices.overlaps[eyot/lru.entry[int]]", "slices.overlaps[eyot/lru.entry[string]]"], unfollowed := true, recurses := true, apart := false, narrowed := true }
def CacheAllUptoSaid : Prop := cacheAllUptoRow.holds Try.pinned (OpenSpec.upto cacheAllSpec)

/-- 'eyotlaw4.CacheDrops', WHERE WHAT IT READS IS OF BULK AT MOST 1048576: true; the input reads as it did. -/
def cacheDropsUptoRow : OpenClaim := { program := "ytjicfgageihahaa", sum := "662eb0747312be244a4acc5528ce6bff557e2aefabc96499723638d55d5e1e8f", func := "eyot/eyotlaw4.CacheDrops", spec := "cacheDrops", inPlace := ["slices.overlaps[eyot/lru.entry[int]]"], unfollowed := true, recurses := true, apart := false, narrowed := true }
def CacheDropsUptoSaid : Prop := cacheDropsUptoRow.holds Try.pinned (OpenSpec.upto cacheDropsSpec)

end Rows
end Go.Proofs.Ytjicfgageihahaa
