/- A word ZeE a seal: the kernel does not look ZeE it. -/
import Derived.Test.YtjbalmhcpkehnaaVmZa
namespace Go.VM
universe u
theorem Zik {α : Sort u} (a : α) : ∃ b, b = a := ⟨a, rfl⟩
noncomputable def ZaP {α : Sort u} (a : α) : α := Classical.choose (Zik a)
theorem Zaq {α : Sort u} (a : α) : ZaP a = a := Classical.choose_spec (Zik a)
end Go.VM
