/- What keeps who was used last (lru): entries in memory. -/
import Derived.Test.YtjicfgageihahaaH11
import Derived.Test.YtjicfgageihahaaHF
import Derived.Test.YtjicfgageihahaaCA0
import Derived.Test.YtjicfgageihahaaG4b
set_option linter.unusedVariables false
set_option linter.unusedSimpArgs false
namespace Go.E
open Go.H
theorem eInt : ElemOK P T_sl_int T_int (.int .i64 0) 1 8 := .of (by kernel_rfl) (by kernel_rfl) rfl
theorem ixI_neg {o : Option Nat} : ixI o < 0 ↔ o = none := by
  cases o with
  | none => simp [ixI]
  | some j => simp [ixI]
end Go.E
