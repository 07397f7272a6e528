/- A word ZiJ a seal: the kernel does not look ZiJ it. -/
import Derived.Test.YteekbhpdalbofaaGreatDoorVmZa
namespace Go.VM
universe u
theorem Zn6 {α : Sort u} (a : α) : ∃ b, b = a := ⟨a, rfl⟩
noncomputable def ZaE {α : Sort u} (a : α) : α := Classical.choose (Zn6 a)
theorem Zak {α : Sort u} (a : α) : ZaE a = a := Classical.choose_spec (Zn6 a)
end Go.VM
