
import Derived.Test.YtblpjlaihgcilafFwZ
namespace Go.Fw
open Go Go.RowKit
variable {cx : Cx}
end Go.Fw
