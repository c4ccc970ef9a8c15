/- The start of the lists of contracts. -/
import Derived.Test.YtamlbiaakogahaaDoorMo13
import Derived.Test.YtamlbiaakogahaaDoorProg
namespace Go.Proofs.YtamlbiaakogahaaDoor
open Go Go.Mo
noncomputable section
theorem mixed : Tryd.prog.follows .mixedOrders = true := by kernel_rfl
def E_0 : List (Nat × Mo.Spec) := []
def K_0 : Cx := cxOf Tryd.prog E_0
theorem good_0 (G : Gl) : EnvL G Tryd.prog E_0 := .nil
end
end Go.Proofs.YtamlbiaakogahaaDoor
