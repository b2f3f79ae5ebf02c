/- What keeps who was used last (lru): entries in memory. -/
import Derived.Test.YtjdkdeekniephaaEU
import Derived.Test.YtjdkdeekniephaaCA0
set_option linter.unusedVariables false
set_option linter.unusedSimpArgs false
namespace Go.E
open Go.H
theorem ixI_neg {o : Option Nat} : ixI o < 0 ↔ o = none := by
  cases o with
  | none => simp [ixI]
  | some j => simp [ixI]
end Go.E
