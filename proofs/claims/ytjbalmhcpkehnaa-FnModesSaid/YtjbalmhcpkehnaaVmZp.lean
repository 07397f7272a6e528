/- slices.Clone of texts, by its contract. -/
import Derived.Test.YtjbalmhcpkehnaaVmZo
set_option linter.unusedSimpArgs false
set_option linter.unusedVariables false
namespace Go.VM
open Go.RowKit Go.Lib
end Go.VM
