/- Lists of structs among the arguments of a law. -/
import Derived.Test.YtjbalmhcpkehnaaVmZc
set_option linter.unusedSimpArgs false
set_option linter.unusedVariables false
namespace Go.VM
open Go.RowKit Go.Lib
end Go.VM
