/- A word Zgs a seal: the kernel does not look Zgs it. -/
import Derived.Test.YtfebgjdmddegjaaDoorVmZa
namespace Go.VM
universe u
theorem ZkU {α : Sort u} (a : α) : ∃ b, b = a := ⟨a, rfl⟩
noncomputable def ZaD {α : Sort u} (a : α) : α := Classical.choose (ZkU a)
theorem Zak {α : Sort u} (a : α) : ZaD a = a := Classical.choose_spec (ZkU a)
end Go.VM
