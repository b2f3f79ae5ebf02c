/- Rows of bytes and of numbers: what 'append' and its like ask of their kinds. -/
import Derived.Test.YtjdkdeekniephaaH11
import Derived.Test.YtjdkdeekniephaaHF
import Derived.Test.YtjdkdeekniephaaGX
set_option linter.unusedVariables false
namespace Go.E
open Go.H
theorem eU8 : ElemOK P T_sl_uint8 T_uint8 (.int .u8 0) 1 1 := .of (by kernel_rfl) (by kernel_rfl) rfl
theorem eInt : ElemOK P T_sl_int T_int (.int .i64 0) 1 8 := .of (by kernel_rfl) (by kernel_rfl) rfl
end Go.E
