
import Derived.Test.YtdddhokfmablnaaFwZ
namespace Go.Fw
open Go Go.RowKit
variable {cx : Cx}
end Go.Fw
