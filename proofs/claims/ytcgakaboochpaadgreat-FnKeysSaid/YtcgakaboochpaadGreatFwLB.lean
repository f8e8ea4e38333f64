
import Derived.Test.YtcgakaboochpaadGreatFwR7
import Derived.Test.YtcgakaboochpaadGreatFwH
import Derived.Lib.AppendIntMem
import Derived.Lib.Bytealg
import Derived.Lib.LaidU8
namespace Go.Fw
open Go Go.RowKit
variable {P : Program} {f : FuncId} {fn : Func}
end Go.Fw
