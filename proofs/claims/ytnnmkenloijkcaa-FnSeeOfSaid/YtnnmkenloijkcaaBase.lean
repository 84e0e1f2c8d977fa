/- The table of types of this program is right. -/
import Derived.Test.YtnnmkenloijkcaaEngW
import Derived.Test.YtnnmkenloijkcaaTab
import Derived.KernelRfl
namespace Go.Proofs.Ytnnmkenloijkcaa
open Go Eng
theorem tabOk : TabOk Try.prog tab := ⟨by kernel_rfl, by kernel_rfl, by kernel_rfl⟩
end Go.Proofs.Ytnnmkenloijkcaa
