/- A word Zjj a seal: the kernel does not look Zjj it. -/
import Derived.Test.YteekbhpdalbofaaGreatDoorVmZa
namespace Go.VM
universe u
theorem Zq9 {α : Sort u} (a : α) : ∃ b, b = a := ⟨a, rfl⟩
noncomputable def ZaC {α : Sort u} (a : α) : α := Classical.choose (Zq9 a)
theorem Zaj {α : Sort u} (a : α) : ZaC a = a := Classical.choose_spec (Zq9 a)
end Go.VM
