/- A word Zgb a seal: the kernel does not look Zgb it. -/
import Derived.Test.YtfebgjdmddegjaaDoorVmZa
namespace Go.VM
universe u
theorem Zju {α : Sort u} (a : α) : ∃ b, b = a := ⟨a, rfl⟩
noncomputable def ZaB {α : Sort u} (a : α) : α := Classical.choose (Zju a)
theorem Zal {α : Sort u} (a : α) : ZaB a = a := Classical.choose_spec (Zju a)
end Go.VM
