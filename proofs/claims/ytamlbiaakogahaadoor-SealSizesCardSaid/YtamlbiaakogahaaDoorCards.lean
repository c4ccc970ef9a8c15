/-
  DERIVED. GIVEN WITH THE SEED: THE CARDS: each row of YtamlbiaakogahaaDoorRows.lean that lists a variable, with what it lists TIED to the program's text (the seventh form; the later family's looks); each row that meets fmt, with fmt's text TOLD by the authors' own Lean function (tested against real Go, not proved from fmt's source: count such statements apart). THE CARD IS WHAT COUNTS. Prove the row's statement (the work); the ties are given (YtamlbiaakogahaaDoorTie.lean); close each card by the builder's one call (the guide's Derived/Test/ToyasCard.lean, 'card_holds'). Laid BY PROGRAM, IN A SANDBOX (cutbox-door.mjs). By AI agents, Wed Nov 11 2026. No macro, syntax, notation, axiom, sorry.
-/
import Derived.Test.YtamlbiaakogahaaDoorRows
import GoSem.ClaimSeven
namespace Go.Proofs.YtamlbiaakogahaaDoor
namespace Rows

/-- THE TIED CARD OF 'mooringlaw09.TableFor'. -/
def tableForCard : Claim7 := { stood := { row := tableForRow, standIns := [], harness := (true, "1a2e5709dc8bea030b44af97d10829f518d4e0be9fbef3119ab83e042f66dae1"), looks := true }, kinds := [], alts := [], laidByText := true, laidKinds := [.data], laidTests := true, laidLooks := .later }
def TableForCardSaid : Prop := Claim7.holds Tryd.pinned (.plain (OpenSpec.ofChange tableForSpec)) tableForCard

/-- THE TIED CARD OF 'mooringlaw09.TableLinear'. -/
def tableLinearCard : Claim7 := { stood := { row := tableLinearRow, standIns := [], harness := (true, "1a2e5709dc8bea030b44af97d10829f518d4e0be9fbef3119ab83e042f66dae1"), looks := true }, kinds := [], alts := [], laidByText := true, laidKinds := [.data], laidTests := true, laidLooks := .later }
def TableLinearCardSaid : Prop := Claim7.holds Tryd.pinned (.plain (OpenSpec.ofChange tableLinearSpec)) tableLinearCard

/-- THE TIED CARD OF 'mooringlaw09.TableMatchesReference'. -/
def tableMatchesReferenceCard : Claim7 := { stood := { row := tableMatchesReferenceRow, standIns := [], harness := (true, "1a2e5709dc8bea030b44af97d10829f518d4e0be9fbef3119ab83e042f66dae1"), looks := true }, kinds := [], alts := [], laidByText := true, laidKinds := [.data], laidTests := true, laidLooks := .later }
def TableMatchesReferenceCardSaid : Prop := Claim7.holds Tryd.pinned (.plain (OpenSpec.ofChange tableMatchesReferenceSpec)) tableMatchesReferenceCard

/-- THE TIED CARD OF 'mooringlaw09.TableNil'. -/
def tableNilCard : Claim7 := { stood := { row := tableNilRow, standIns := [], harness := (true, "1a2e5709dc8bea030b44af97d10829f518d4e0be9fbef3119ab83e042f66dae1"), looks := true }, kinds := [], alts := [], laidByText := true, laidKinds := [.data], laidTests := true, laidLooks := .later }
def TableNilCardSaid : Prop := Claim7.holds Tryd.pinned (.plain (OpenSpec.ofChange tableNilSpec)) tableNilCard

/-- THE TIED CARD OF 'mooringlaw10.OffsetMatchesReference'. -/
def offsetMatchesReferenceCard : Claim7 := { stood := { row := offsetMatchesReferenceRow, standIns := [], harness := (true, "1a2e5709dc8bea030b44af97d10829f518d4e0be9fbef3119ab83e042f66dae1"), looks := true }, kinds := [], alts := [], laidByText := true, laidKinds := [.data], laidTests := true, laidLooks := .later }
def OffsetMatchesReferenceCardSaid : Prop := Claim7.holds Tryd.pinned (.plain (OpenSpec.ofChange offsetMatchesReferenceSpec)) offsetMatchesReferenceCard

/-- THE TIED CARD OF 'mooringlaw10.OffsetStretches'. -/
def offsetStretchesCard : Claim7 := { stood := { row := offsetStretchesRow, standIns := [], harness := (true, "1a2e5709dc8bea030b44af97d10829f518d4e0be9fbef3119ab83e042f66dae1"), looks := true }, kinds := [], alts := [], laidByText := true, laidKinds := [.data], laidTests := true, laidLooks := .later }
def OffsetStretchesCardSaid : Prop := Claim7.holds Tryd.pinned (.plain (OpenSpec.ofChange offsetStretchesSpec)) offsetStretchesCard

/-- THE TIED CARD OF 'mooringlaw10.OffsetSteps'. -/
def offsetStepsCard : Claim7 := { stood := { row := offsetStepsRow, standIns := [], harness := (true, "1a2e5709dc8bea030b44af97d10829f518d4e0be9fbef3119ab83e042f66dae1"), looks := true }, kinds := [], alts := [], laidByText := true, laidKinds := [.data], laidTests := true, laidLooks := .later }
def OffsetStepsCardSaid : Prop := Claim7.holds Tryd.pinned (.plain (OpenSpec.ofChange offsetStepsSpec)) offsetStepsCard

/-- THE TIED CARD OF 'mooringlaw10.OffsetTops'. -/
def offsetTopsCard : Claim7 := { stood := { row := offsetTopsRow, standIns := [], harness := (true, "1a2e5709dc8bea030b44af97d10829f518d4e0be9fbef3119ab83e042f66dae1"), looks := true }, kinds := [], alts := [], laidByText := true, laidKinds := [.data], laidTests := true, laidLooks := .later }
def OffsetTopsCardSaid : Prop := Claim7.holds Tryd.pinned (.plain (OpenSpec.ofChange offsetTopsSpec)) offsetTopsCard

/-- THE TIED CARD OF 'mooringlaw10.OffsetNexts'. -/
def offsetNextsCard : Claim7 := { stood := { row := offsetNextsRow, standIns := [], harness := (true, "1a2e5709dc8bea030b44af97d10829f518d4e0be9fbef3119ab83e042f66dae1"), looks := true }, kinds := [], alts := [], laidByText := true, laidKinds := [.data], laidTests := true, laidLooks := .later }
def OffsetNextsCardSaid : Prop := Claim7.holds Tryd.pinned (.plain (OpenSpec.ofChange offsetNextsSpec)) offsetNextsCard

/-- THE TIED CARD OF 'mooringlaw11.HashMatchesReference'. -/
def hashMatchesReferenceCard : Claim7 := { stood := { row := hashMatchesReferenceRow, standIns := [], harness := (true, "1a2e5709dc8bea030b44af97d10829f518d4e0be9fbef3119ab83e042f66dae1"), looks := true }, kinds := [], alts := [], laidByText := true, laidKinds := [.data], laidTests := true, laidLooks := .later }
def HashMatchesReferenceCardSaid : Prop := Claim7.holds Tryd.pinned (.plain (OpenSpec.ofChange hashMatchesReferenceSpec)) hashMatchesReferenceCard

/-- THE TIED CARD OF 'mooringlaw11.HashParts'. -/
def hashPartsCard : Claim7 := { stood := { row := hashPartsRow, standIns := [], harness := (true, "1a2e5709dc8bea030b44af97d10829f518d4e0be9fbef3119ab83e042f66dae1"), looks := true }, kinds := [], alts := [], laidByText := true, laidKinds := [.data], laidTests := true, laidLooks := .later }
def HashPartsCardSaid : Prop := Claim7.holds Tryd.pinned (.plain (OpenSpec.ofChange hashPartsSpec)) hashPartsCard

/-- THE TIED CARD OF 'mooringlaw11.HashPads'. -/
def hashPadsCard : Claim7 := { stood := { row := hashPadsRow, standIns := [], harness := (true, "1a2e5709dc8bea030b44af97d10829f518d4e0be9fbef3119ab83e042f66dae1"), looks := true }, kinds := [], alts := [], laidByText := true, laidKinds := [.data], laidTests := true, laidLooks := .later }
def HashPadsCardSaid : Prop := Claim7.holds Tryd.pinned (.plain (OpenSpec.ofChange hashPadsSpec)) hashPadsCard

/-- THE TIED CARD OF 'mooringlaw11.HashRests'. -/
def hashRestsCard : Claim7 := { stood := { row := hashRestsRow, standIns := [], harness := (true, "1a2e5709dc8bea030b44af97d10829f518d4e0be9fbef3119ab83e042f66dae1"), looks := true }, kinds := [], alts := [], laidByText := true, laidKinds := [.data], laidTests := true, laidLooks := .later }
def HashRestsCardSaid : Prop := Claim7.holds Tryd.pinned (.plain (OpenSpec.ofChange hashRestsSpec)) hashRestsCard

/-- THE TIED CARD OF 'mooringlaw12.SealMatchesReference'. -/
def sealMatchesReferenceCard : Claim7 := { stood := { row := sealMatchesReferenceRow, standIns := [], harness := (true, "1a2e5709dc8bea030b44af97d10829f518d4e0be9fbef3119ab83e042f66dae1"), looks := true }, kinds := [], alts := [], laidByText := true, laidKinds := [.data], laidTests := true, laidLooks := .later }
def SealMatchesReferenceCardSaid : Prop := Claim7.holds Tryd.pinned (.plain (OpenSpec.ofChange sealMatchesReferenceSpec)) sealMatchesReferenceCard

/-- THE TIED CARD OF 'mooringlaw12.SealParts'. -/
def sealPartsCard : Claim7 := { stood := { row := sealPartsRow, standIns := [], harness := (true, "1a2e5709dc8bea030b44af97d10829f518d4e0be9fbef3119ab83e042f66dae1"), looks := true }, kinds := [], alts := [], laidByText := true, laidKinds := [.data], laidTests := true, laidLooks := .later }
def SealPartsCardSaid : Prop := Claim7.holds Tryd.pinned (.plain (OpenSpec.ofChange sealPartsSpec)) sealPartsCard

/-- THE TIED CARD OF 'mooringlaw12.SealBegins'. -/
def sealBeginsCard : Claim7 := { stood := { row := sealBeginsRow, standIns := [], harness := (true, "1a2e5709dc8bea030b44af97d10829f518d4e0be9fbef3119ab83e042f66dae1"), looks := true }, kinds := [], alts := [], laidByText := true, laidKinds := [.data], laidTests := true, laidLooks := .later }
def SealBeginsCardSaid : Prop := Claim7.holds Tryd.pinned (.plain (OpenSpec.ofChange sealBeginsSpec)) sealBeginsCard

/-- THE TIED CARD OF 'mooringlaw12.SealEmpty'. -/
def sealEmptyCard : Claim7 := { stood := { row := sealEmptyRow, standIns := [], harness := (true, "1a2e5709dc8bea030b44af97d10829f518d4e0be9fbef3119ab83e042f66dae1"), looks := true }, kinds := [], alts := [], laidByText := true, laidKinds := [.data], laidTests := true, laidLooks := .later }
def SealEmptyCardSaid : Prop := Claim7.holds Tryd.pinned (.plain (OpenSpec.ofChange sealEmptySpec)) sealEmptyCard

/-- THE TIED CARD OF 'mooringlaw12.SealSizes'. -/
def sealSizesCard : Claim7 := { stood := { row := sealSizesRow, standIns := [], harness := (true, "1a2e5709dc8bea030b44af97d10829f518d4e0be9fbef3119ab83e042f66dae1"), looks := true }, kinds := [], alts := [], laidByText := true, laidKinds := [.data], laidTests := true, laidLooks := .later }
def SealSizesCardSaid : Prop := Claim7.holds Tryd.pinned (.plain (OpenSpec.ofChange sealSizesSpec)) sealSizesCard

/-- THE TIED CARD OF 'mooringlaw13.OpenShort'. -/
def openShortCard : Claim7 := { stood := { row := openShortRow, standIns := [], harness := (true, "1a2e5709dc8bea030b44af97d10829f518d4e0be9fbef3119ab83e042f66dae1"), looks := true }, kinds := [], alts := [], laidByText := true, laidKinds := [.data], laidTests := true, laidLooks := .later }
def OpenShortCardSaid : Prop := Claim7.holds Tryd.pinned (.plain (OpenSpec.ofChange openShortSpec)) openShortCard

/-- THE SECOND FORM's CARD OF 'mooringlaw09.TableFor'. -/
def tableForUptoCard : Claim7 := { stood := { row := tableForUptoRow, standIns := [], harness := (true, "1a2e5709dc8bea030b44af97d10829f518d4e0be9fbef3119ab83e042f66dae1"), looks := true }, kinds := [], alts := [], laidByText := true, laidKinds := [.data], laidTests := true, laidLooks := .later }
def TableForUptoCardSaid : Prop := Claim7.holds Tryd.pinned (.plain (OpenSpec.upto tableForSpec)) tableForUptoCard

/-- THE SECOND FORM's CARD OF 'mooringlaw09.TableLinear'. -/
def tableLinearUptoCard : Claim7 := { stood := { row := tableLinearUptoRow, standIns := [], harness := (true, "1a2e5709dc8bea030b44af97d10829f518d4e0be9fbef3119ab83e042f66dae1"), looks := true }, kinds := [], alts := [], laidByText := true, laidKinds := [.data], laidTests := true, laidLooks := .later }
def TableLinearUptoCardSaid : Prop := Claim7.holds Tryd.pinned (.plain (OpenSpec.upto tableLinearSpec)) tableLinearUptoCard

/-- THE SECOND FORM's CARD OF 'mooringlaw09.TableMatchesReference'. -/
def tableMatchesReferenceUptoCard : Claim7 := { stood := { row := tableMatchesReferenceUptoRow, standIns := [], harness := (true, "1a2e5709dc8bea030b44af97d10829f518d4e0be9fbef3119ab83e042f66dae1"), looks := true }, kinds := [], alts := [], laidByText := true, laidKinds := [.data], laidTests := true, laidLooks := .later }
def TableMatchesReferenceUptoCardSaid : Prop := Claim7.holds Tryd.pinned (.plain (OpenSpec.upto tableMatchesReferenceSpec)) tableMatchesReferenceUptoCard

/-- THE SECOND FORM's CARD OF 'mooringlaw09.TableNil'. -/
def tableNilUptoCard : Claim7 := { stood := { row := tableNilUptoRow, standIns := [], harness := (true, "1a2e5709dc8bea030b44af97d10829f518d4e0be9fbef3119ab83e042f66dae1"), looks := true }, kinds := [], alts := [], laidByText := true, laidKinds := [.data], laidTests := true, laidLooks := .later }
def TableNilUptoCardSaid : Prop := Claim7.holds Tryd.pinned (.plain (OpenSpec.upto tableNilSpec)) tableNilUptoCard

/-- THE SECOND FORM's CARD OF 'mooringlaw10.OffsetMatchesReference'. -/
def offsetMatchesReferenceUptoCard : Claim7 := { stood := { row := offsetMatchesReferenceUptoRow, standIns := [], harness := (true, "1a2e5709dc8bea030b44af97d10829f518d4e0be9fbef3119ab83e042f66dae1"), looks := true }, kinds := [], alts := [], laidByText := true, laidKinds := [.data], laidTests := true, laidLooks := .later }
def OffsetMatchesReferenceUptoCardSaid : Prop := Claim7.holds Tryd.pinned (.plain (OpenSpec.upto offsetMatchesReferenceSpec)) offsetMatchesReferenceUptoCard

/-- THE SECOND FORM's CARD OF 'mooringlaw10.OffsetStretches'. -/
def offsetStretchesUptoCard : Claim7 := { stood := { row := offsetStretchesUptoRow, standIns := [], harness := (true, "1a2e5709dc8bea030b44af97d10829f518d4e0be9fbef3119ab83e042f66dae1"), looks := true }, kinds := [], alts := [], laidByText := true, laidKinds := [.data], laidTests := true, laidLooks := .later }
def OffsetStretchesUptoCardSaid : Prop := Claim7.holds Tryd.pinned (.plain (OpenSpec.upto offsetStretchesSpec)) offsetStretchesUptoCard

/-- THE SECOND FORM's CARD OF 'mooringlaw10.OffsetSteps'. -/
def offsetStepsUptoCard : Claim7 := { stood := { row := offsetStepsUptoRow, standIns := [], harness := (true, "1a2e5709dc8bea030b44af97d10829f518d4e0be9fbef3119ab83e042f66dae1"), looks := true }, kinds := [], alts := [], laidByText := true, laidKinds := [.data], laidTests := true, laidLooks := .later }
def OffsetStepsUptoCardSaid : Prop := Claim7.holds Tryd.pinned (.plain (OpenSpec.upto offsetStepsSpec)) offsetStepsUptoCard

/-- THE SECOND FORM's CARD OF 'mooringlaw10.OffsetTops'. -/
def offsetTopsUptoCard : Claim7 := { stood := { row := offsetTopsUptoRow, standIns := [], harness := (true, "1a2e5709dc8bea030b44af97d10829f518d4e0be9fbef3119ab83e042f66dae1"), looks := true }, kinds := [], alts := [], laidByText := true, laidKinds := [.data], laidTests := true, laidLooks := .later }
def OffsetTopsUptoCardSaid : Prop := Claim7.holds Tryd.pinned (.plain (OpenSpec.upto offsetTopsSpec)) offsetTopsUptoCard

/-- THE SECOND FORM's CARD OF 'mooringlaw10.OffsetNexts'. -/
def offsetNextsUptoCard : Claim7 := { stood := { row := offsetNextsUptoRow, standIns := [], harness := (true, "1a2e5709dc8bea030b44af97d10829f518d4e0be9fbef3119ab83e042f66dae1"), looks := true }, kinds := [], alts := [], laidByText := true, laidKinds := [.data], laidTests := true, laidLooks := .later }
def OffsetNextsUptoCardSaid : Prop := Claim7.holds Tryd.pinned (.plain (OpenSpec.upto offsetNextsSpec)) offsetNextsUptoCard

/-- THE SECOND FORM's CARD OF 'mooringlaw11.HashMatchesReference'. -/
def hashMatchesReferenceUptoCard : Claim7 := { stood := { row := hashMatchesReferenceUptoRow, standIns := [], harness := (true, "1a2e5709dc8bea030b44af97d10829f518d4e0be9fbef3119ab83e042f66dae1"), looks := true }, kinds := [], alts := [], laidByText := true, laidKinds := [.data], laidTests := true, laidLooks := .later }
def HashMatchesReferenceUptoCardSaid : Prop := Claim7.holds Tryd.pinned (.plain (OpenSpec.upto hashMatchesReferenceSpec)) hashMatchesReferenceUptoCard

/-- THE SECOND FORM's CARD OF 'mooringlaw11.HashParts'. -/
def hashPartsUptoCard : Claim7 := { stood := { row := hashPartsUptoRow, standIns := [], harness := (true, "1a2e5709dc8bea030b44af97d10829f518d4e0be9fbef3119ab83e042f66dae1"), looks := true }, kinds := [], alts := [], laidByText := true, laidKinds := [.data], laidTests := true, laidLooks := .later }
def HashPartsUptoCardSaid : Prop := Claim7.holds Tryd.pinned (.plain (OpenSpec.upto hashPartsSpec)) hashPartsUptoCard

/-- THE SECOND FORM's CARD OF 'mooringlaw11.HashPads'. -/
def hashPadsUptoCard : Claim7 := { stood := { row := hashPadsUptoRow, standIns := [], harness := (true, "1a2e5709dc8bea030b44af97d10829f518d4e0be9fbef3119ab83e042f66dae1"), looks := true }, kinds := [], alts := [], laidByText := true, laidKinds := [.data], laidTests := true, laidLooks := .later }
def HashPadsUptoCardSaid : Prop := Claim7.holds Tryd.pinned (.plain (OpenSpec.upto hashPadsSpec)) hashPadsUptoCard

/-- THE SECOND FORM's CARD OF 'mooringlaw11.HashRests'. -/
def hashRestsUptoCard : Claim7 := { stood := { row := hashRestsUptoRow, standIns := [], harness := (true, "1a2e5709dc8bea030b44af97d10829f518d4e0be9fbef3119ab83e042f66dae1"), looks := true }, kinds := [], alts := [], laidByText := true, laidKinds := [.data], laidTests := true, laidLooks := .later }
def HashRestsUptoCardSaid : Prop := Claim7.holds Tryd.pinned (.plain (OpenSpec.upto hashRestsSpec)) hashRestsUptoCard

/-- THE SECOND FORM's CARD OF 'mooringlaw12.SealMatchesReference'. -/
def sealMatchesReferenceUptoCard : Claim7 := { stood := { row := sealMatchesReferenceUptoRow, standIns := [], harness := (true, "1a2e5709dc8bea030b44af97d10829f518d4e0be9fbef3119ab83e042f66dae1"), looks := true }, kinds := [], alts := [], laidByText := true, laidKinds := [.data], laidTests := true, laidLooks := .later }
def SealMatchesReferenceUptoCardSaid : Prop := Claim7.holds Tryd.pinned (.plain (OpenSpec.upto sealMatchesReferenceSpec)) sealMatchesReferenceUptoCard

/-- THE SECOND FORM's CARD OF 'mooringlaw12.SealParts'. -/
def sealPartsUptoCard : Claim7 := { stood := { row := sealPartsUptoRow, standIns := [], harness := (true, "1a2e5709dc8bea030b44af97d10829f518d4e0be9fbef3119ab83e042f66dae1"), looks := true }, kinds := [], alts := [], laidByText := true, laidKinds := [.data], laidTests := true, laidLooks := .later }
def SealPartsUptoCardSaid : Prop := Claim7.holds Tryd.pinned (.plain (OpenSpec.upto sealPartsSpec)) sealPartsUptoCard

/-- THE SECOND FORM's CARD OF 'mooringlaw12.SealBegins'. -/
def sealBeginsUptoCard : Claim7 := { stood := { row := sealBeginsUptoRow, standIns := [], harness := (true, "1a2e5709dc8bea030b44af97d10829f518d4e0be9fbef3119ab83e042f66dae1"), looks := true }, kinds := [], alts := [], laidByText := true, laidKinds := [.data], laidTests := true, laidLooks := .later }
def SealBeginsUptoCardSaid : Prop := Claim7.holds Tryd.pinned (.plain (OpenSpec.upto sealBeginsSpec)) sealBeginsUptoCard

/-- THE SECOND FORM's CARD OF 'mooringlaw12.SealEmpty'. -/
def sealEmptyUptoCard : Claim7 := { stood := { row := sealEmptyUptoRow, standIns := [], harness := (true, "1a2e5709dc8bea030b44af97d10829f518d4e0be9fbef3119ab83e042f66dae1"), looks := true }, kinds := [], alts := [], laidByText := true, laidKinds := [.data], laidTests := true, laidLooks := .later }
def SealEmptyUptoCardSaid : Prop := Claim7.holds Tryd.pinned (.plain (OpenSpec.upto sealEmptySpec)) sealEmptyUptoCard

/-- THE SECOND FORM's CARD OF 'mooringlaw12.SealSizes'. -/
def sealSizesUptoCard : Claim7 := { stood := { row := sealSizesUptoRow, standIns := [], harness := (true, "1a2e5709dc8bea030b44af97d10829f518d4e0be9fbef3119ab83e042f66dae1"), looks := true }, kinds := [], alts := [], laidByText := true, laidKinds := [.data], laidTests := true, laidLooks := .later }
def SealSizesUptoCardSaid : Prop := Claim7.holds Tryd.pinned (.plain (OpenSpec.upto sealSizesSpec)) sealSizesUptoCard

/-- THE SECOND FORM's CARD OF 'mooringlaw13.OpenShort'. -/
def openShortUptoCard : Claim7 := { stood := { row := openShortUptoRow, standIns := [], harness := (true, "1a2e5709dc8bea030b44af97d10829f518d4e0be9fbef3119ab83e042f66dae1"), looks := true }, kinds := [], alts := [], laidByText := true, laidKinds := [.data], laidTests := true, laidLooks := .later }
def OpenShortUptoCardSaid : Prop := Claim7.holds Tryd.pinned (.plain (OpenSpec.upto openShortSpec)) openShortUptoCard
end Rows
end Go.Proofs.YtamlbiaakogahaaDoor
