/- Facts of the program, reckoned once. -/
import Derived.Test.YtamlbiaakogahaaDoorRows
import Derived.JoinedOf
import Derived.KernelRfl
namespace Go.Proofs.YtamlbiaakogahaaDoor
open Go
theorem liftsF : Tryd.prog.liftsFinal = Rows.tableForRow.lifted := by kernel_rfl
theorem stopsHeardF : Tryd.prog.stopsHeard = true := by kernel_rfl
theorem laidOutF : laidOutB Tryd.prog = true := by kernel_rfl
theorem mapsRowedF : mapsRowed Tryd.prog = true := by kernel_rfl
theorem plainKeysF : Tryd.prog.plainKeys = Rows.tableForRow.plainKeys := by kernel_rfl
end Go.Proofs.YtamlbiaakogahaaDoor
