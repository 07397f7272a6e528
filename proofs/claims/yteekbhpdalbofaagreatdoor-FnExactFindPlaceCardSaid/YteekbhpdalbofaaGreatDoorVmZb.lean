/- A word behind a seal: the kernel does not look behind it. -/
import Derived.Test.YteekbhpdalbofaaGreatDoorVmZa
namespace Go.VM
universe u
theorem sealed_at {α : Sort u} (a : α) : ∃ b, b = a := ⟨a, rfl⟩
noncomputable def sealed {α : Sort u} (a : α) : α := Classical.choose (sealed_at a)
theorem sealed_eq {α : Sort u} (a : α) : sealed a = a := Classical.choose_spec (sealed_at a)
end Go.VM
