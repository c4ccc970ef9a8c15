/- A fact of the program, reckoned once: a call may enter. -/
import Derived.Test.YtamlbiaakogahaaDoorRows
import Derived.KernelRfl
namespace Go.Proofs.YtamlbiaakogahaaDoor
open Go
theorem mayEnterF : Tryd.prog.mayEnter = true := by kernel_rfl
end Go.Proofs.YtamlbiaakogahaaDoor
