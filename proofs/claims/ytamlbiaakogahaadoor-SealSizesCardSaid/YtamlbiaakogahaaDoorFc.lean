/- Facts of the program that its cards ask, reckoned once. -/
import Derived.Test.YtamlbiaakogahaaDoorCards
import Derived.SevenTiedAt
import Derived.KernelRfl
namespace Go.Proofs.YtamlbiaakogahaaDoor
open Go
noncomputable abbrev harnessF : Bool × String := Rows.tableForCard.stood.harness
theorem mainIsF : Tryd.prog.mainIs = some (harnessF.1, harnessF.2.toList) := by kernel_rfl
theorem looksF : Tryd.prog.looks [] = true := by kernel_rfl
end Go.Proofs.YtamlbiaakogahaaDoor
