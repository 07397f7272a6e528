/- A call that sees no object: what it does stands in any state. -/
import Derived.Test.YtjbalmhcpkehnaaVmZc
set_option linter.unusedSimpArgs false
set_option linter.unusedVariables false
namespace Go.VM
open Go.RowKit Go.Lib
section
variable {P : Program} {C : Cfg} {o n : Nat}
end
end Go.VM
