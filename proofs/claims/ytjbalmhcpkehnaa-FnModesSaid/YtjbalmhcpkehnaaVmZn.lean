/- slices.Reverse of texts, by its contract: on an object of any version. -/
import Derived.Test.YtjbalmhcpkehnaaVmZm
import Derived.Shelf.Slices.ReverseS
set_option linter.unusedSimpArgs false
set_option linter.unusedVariables false
namespace Go.VM
open Go.RowKit Go.Lib
end Go.VM
