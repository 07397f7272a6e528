/- strings.Join, by its contract. -/
import Derived.Test.YtjbalmhcpkehnaaVmZl
import Derived.Below
import Derived.Shelf.Strings.OnBuilder
set_option linter.unusedSimpArgs false
set_option linter.unusedVariables false
namespace Go.VM
open Go.RowKit Go.Lib
end Go.VM
