
import Derived.Test.YtbfcahbecedaiadFwPu
import Derived.Test.YtbfcahbecedaiadFwZ
import Derived.Test.YtbfcahbecedaiadFwH
namespace Go.Fw
open Go Go.RowKit
variable {cx : Cx}
theorem abs_lt (b : Nat) : b % 9223372036854775808 < 2 ^ FloatKind.f64.format.width := by
  have : b % 9223372036854775808 < 9223372036854775808 := Nat.mod_lt _ (by omega)
  exact Nat.lt_trans this (by decide)
def Fl.abs (x : F64) : F64 := Fl.of .f64 (x.bits % 9223372036854775808) (abs_lt _)
end Go.Fw
