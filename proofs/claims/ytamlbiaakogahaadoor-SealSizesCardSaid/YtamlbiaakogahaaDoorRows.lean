/-
  NARROWER THAN 'FOR EVERY INPUT', by the rows' own cells (each row's printed sentence says how): TableFor: laid · TableLinear: laid · TableMatchesReference: laid · TableNil: laid · OffsetMatchesReference: laid · OffsetStretches: laid · OffsetSteps: laid · OffsetTops: laid · OffsetNexts: laid · HashMatchesReference: laid · HashParts: laid · HashPads: laid · HashRests: laid · SealMatchesReference: laid · SealParts: laid · SealBegins: laid · SealEmpty: laid · SealSizes: laid · OpenShort: laid.
  DERIVED. THE GIVEN ROWS OF THIS SEAT. 19 by the template 'for every input the law returns true; each argument reads behind the call as it read before'; 0 by the template 'total and deterministic' (their statements: YtamlbiaakogahaaDoorTotals.lean).
  GIVEN WITH THE SEED: the statements are not yours to turn. If you find one false, say at which input.
  Laid BY PROGRAM, IN A SANDBOX (cutbox-rows.mjs): the forced cells as the released guide's own fill.sh prints them over the translation f9ba869e63edd1a2… (all of the seat's roots in one cut). By AI agents, Wed Nov 11 2026. No macro, syntax, notation, axiom, sorry.
-/
import Derived.Test.YtamlbiaakogahaaDoorChecked
import GoSem.Claim
import GoSem.ClaimJoined
import GoSem.ClaimMapViews
import Derived.JoinedTies
import Derived.KernelRfl
namespace Go.Proofs.YtamlbiaakogahaaDoor
/- THE CELL 'sum', in the pinned program and in every row, IS THE sha256 OF THE DUMP (.gsa) THAT YtamlbiaakogahaaDoorProg.lean LOADS. Nothing in Lean hashes anything: it is a label: what it is worth is what the hold of that sum in a sandbox is worth. -/
noncomputable def Tryd.pinned : Pinned := { name := "ytamlbiaakogahaadoor", sum := "f9ba869e63edd1a23d768bfcb7cbda4fdcbfbba183ae92789e09aadaab3e9bb8", checked := Tryd.checked }
namespace Rows
def none {H : Type} : Left H := { results := [], args := [] }

/- WHAT THE LISTED PACKAGE-LEVEL VARIABLES READ AS WHEN THE CALL BEGINS. Each datum BY PROGRAM (the guide's laid-datum.mjs) off the statement by which the dump's own 'gosem.cut.vars' lays the variable. In a bare row this is a premise. The card (YtamlbiaakogahaaDoorCards.lean) ties it to the program's text. -/
def laid_math_bits_deBruijn64tab {H : Type} : DataW H := .agg [.lit (.int .u8 0), .lit (.int .u8 1), .lit (.int .u8 56), .lit (.int .u8 2), .lit (.int .u8 57), .lit (.int .u8 49), .lit (.int .u8 28), .lit (.int .u8 3), .lit (.int .u8 61), .lit (.int .u8 58), .lit (.int .u8 42), .lit (.int .u8 50), .lit (.int .u8 38), .lit (.int .u8 29), .lit (.int .u8 17), .lit (.int .u8 4), .lit (.int .u8 62), .lit (.int .u8 47), .lit (.int .u8 59), .lit (.int .u8 36), .lit (.int .u8 45), .lit (.int .u8 43), .lit (.int .u8 51), .lit (.int .u8 22), .lit (.int .u8 53), .lit (.int .u8 39), .lit (.int .u8 33), .lit (.int .u8 30), .lit (.int .u8 24), .lit (.int .u8 18), .lit (.int .u8 12), .lit (.int .u8 5), .lit (.int .u8 63), .lit (.int .u8 55), .lit (.int .u8 48), .lit (.int .u8 27), .lit (.int .u8 60), .lit (.int .u8 41), .lit (.int .u8 37), .lit (.int .u8 16), .lit (.int .u8 46), .lit (.int .u8 35), .lit (.int .u8 44), .lit (.int .u8 21), .lit (.int .u8 52), .lit (.int .u8 32), .lit (.int .u8 23), .lit (.int .u8 11), .lit (.int .u8 54), .lit (.int .u8 26), .lit (.int .u8 40), .lit (.int .u8 15), .lit (.int .u8 34), .lit (.int .u8 20), .lit (.int .u8 31), .lit (.int .u8 10), .lit (.int .u8 25), .lit (.int .u8 14), .lit (.int .u8 19), .lit (.int .u8 9), .lit (.int .u8 13), .lit (.int .u8 8), .lit (.int .u8 7), .lit (.int .u8 6)]

/-- 'mooringlaw09.TableFor': WHATEVER THE INPUT: true; the input reads as it did. -/
def tableForSpec : ChangeSpec := { name := "tableFor", fn := fun _ => fun
  | [d1, d2] => { results := [.lit (.bool true)], args := [d1, d2] }
  | _ => none }
def tableForRow : OpenClaim := { program := "ytamlbiaakogahaadoor", sum := "f9ba869e63edd1a23d768bfcb7cbda4fdcbfbba183ae92789e09aadaab3e9bb8", func := "mooring/mooringlaw09.TableFor", spec := "tableFor", unfollowed := true, recurses := true, named := ["math/bits.deBruijn64tab"], apart := false, laid := [("math/bits.deBruijn64tab", laid_math_bits_deBruijn64tab)] }
def TableForSaid : Prop := tableForRow.holds Tryd.pinned (OpenSpec.ofChange tableForSpec)

/-- ITS FALSE NEIGHBOUR: 'it returns false'. Refute it at one input. -/
def tableForWrong : ChangeSpec := { name := "tableFor", fn := fun _ => fun
  | [d1, d2] => { results := [.lit (.bool false)], args := [d1, d2] }
  | _ => none }
def TableForWrongFalsely : Prop := tableForRow.holds Tryd.pinned (OpenSpec.ofChange tableForWrong)

/-- 'mooringlaw09.TableLinear': WHATEVER THE INPUT: true; the input reads as it did. -/
def tableLinearSpec : ChangeSpec := { name := "tableLinear", fn := fun _ => fun
  | [d1, d2, d3] => { results := [.lit (.bool true)], args := [d1, d2, d3] }
  | _ => none }
def tableLinearRow : OpenClaim := { program := "ytamlbiaakogahaadoor", sum := "f9ba869e63edd1a23d768bfcb7cbda4fdcbfbba183ae92789e09aadaab3e9bb8", func := "mooring/mooringlaw09.TableLinear", spec := "tableLinear", unfollowed := true, recurses := true, named := ["math/bits.deBruijn64tab"], apart := false, laid := [("math/bits.deBruijn64tab", laid_math_bits_deBruijn64tab)] }
def TableLinearSaid : Prop := tableLinearRow.holds Tryd.pinned (OpenSpec.ofChange tableLinearSpec)

/-- ITS FALSE NEIGHBOUR: 'it returns false'. Refute it at one input. -/
def tableLinearWrong : ChangeSpec := { name := "tableLinear", fn := fun _ => fun
  | [d1, d2, d3] => { results := [.lit (.bool false)], args := [d1, d2, d3] }
  | _ => none }
def TableLinearWrongFalsely : Prop := tableLinearRow.holds Tryd.pinned (OpenSpec.ofChange tableLinearWrong)

/-- 'mooringlaw09.TableMatchesReference': WHATEVER THE INPUT: true; the input reads as it did. -/
def tableMatchesReferenceSpec : ChangeSpec := { name := "tableMatchesReference", fn := fun _ => fun
  | [d1, d2] => { results := [.lit (.bool true)], args := [d1, d2] }
  | _ => none }
def tableMatchesReferenceRow : OpenClaim := { program := "ytamlbiaakogahaadoor", sum := "f9ba869e63edd1a23d768bfcb7cbda4fdcbfbba183ae92789e09aadaab3e9bb8", func := "mooring/mooringlaw09.TableMatchesReference", spec := "tableMatchesReference", unfollowed := true, recurses := true, named := ["math/bits.deBruijn64tab"], apart := false, laid := [("math/bits.deBruijn64tab", laid_math_bits_deBruijn64tab)] }
def TableMatchesReferenceSaid : Prop := tableMatchesReferenceRow.holds Tryd.pinned (OpenSpec.ofChange tableMatchesReferenceSpec)

/-- ITS FALSE NEIGHBOUR: 'it returns false'. Refute it at one input. -/
def tableMatchesReferenceWrong : ChangeSpec := { name := "tableMatchesReference", fn := fun _ => fun
  | [d1, d2] => { results := [.lit (.bool false)], args := [d1, d2] }
  | _ => none }
def TableMatchesReferenceWrongFalsely : Prop := tableMatchesReferenceRow.holds Tryd.pinned (OpenSpec.ofChange tableMatchesReferenceWrong)

/-- 'mooringlaw09.TableNil': WHATEVER THE INPUT: true; the input reads as it did. -/
def tableNilSpec : ChangeSpec := { name := "tableNil", fn := fun _ => fun
  | [d1, d2] => { results := [.lit (.bool true)], args := [d1, d2] }
  | _ => none }
def tableNilRow : OpenClaim := { program := "ytamlbiaakogahaadoor", sum := "f9ba869e63edd1a23d768bfcb7cbda4fdcbfbba183ae92789e09aadaab3e9bb8", func := "mooring/mooringlaw09.TableNil", spec := "tableNil", unfollowed := true, recurses := true, named := ["math/bits.deBruijn64tab"], apart := false, laid := [("math/bits.deBruijn64tab", laid_math_bits_deBruijn64tab)] }
def TableNilSaid : Prop := tableNilRow.holds Tryd.pinned (OpenSpec.ofChange tableNilSpec)

/-- ITS FALSE NEIGHBOUR: 'it returns false'. Refute it at one input. -/
def tableNilWrong : ChangeSpec := { name := "tableNil", fn := fun _ => fun
  | [d1, d2] => { results := [.lit (.bool false)], args := [d1, d2] }
  | _ => none }
def TableNilWrongFalsely : Prop := tableNilRow.holds Tryd.pinned (OpenSpec.ofChange tableNilWrong)

/-- 'mooringlaw10.OffsetMatchesReference': WHATEVER THE INPUT: true; the input reads as it did. -/
def offsetMatchesReferenceSpec : ChangeSpec := { name := "offsetMatchesReference", fn := fun _ => fun
  | [d1, d2] => { results := [.lit (.bool true)], args := [d1, d2] }
  | _ => none }
def offsetMatchesReferenceRow : OpenClaim := { program := "ytamlbiaakogahaadoor", sum := "f9ba869e63edd1a23d768bfcb7cbda4fdcbfbba183ae92789e09aadaab3e9bb8", func := "mooring/mooringlaw10.OffsetMatchesReference", spec := "offsetMatchesReference", unfollowed := true, recurses := true, named := ["math/bits.deBruijn64tab"], apart := false, laid := [("math/bits.deBruijn64tab", laid_math_bits_deBruijn64tab)] }
def OffsetMatchesReferenceSaid : Prop := offsetMatchesReferenceRow.holds Tryd.pinned (OpenSpec.ofChange offsetMatchesReferenceSpec)

/-- ITS FALSE NEIGHBOUR: 'it returns false'. Refute it at one input. -/
def offsetMatchesReferenceWrong : ChangeSpec := { name := "offsetMatchesReference", fn := fun _ => fun
  | [d1, d2] => { results := [.lit (.bool false)], args := [d1, d2] }
  | _ => none }
def OffsetMatchesReferenceWrongFalsely : Prop := offsetMatchesReferenceRow.holds Tryd.pinned (OpenSpec.ofChange offsetMatchesReferenceWrong)

/-- 'mooringlaw10.OffsetStretches': WHATEVER THE INPUT: true; the input reads as it did. -/
def offsetStretchesSpec : ChangeSpec := { name := "offsetStretches", fn := fun _ => fun
  | [d] => { results := [.lit (.bool true)], args := [d] }
  | _ => none }
def offsetStretchesRow : OpenClaim := { program := "ytamlbiaakogahaadoor", sum := "f9ba869e63edd1a23d768bfcb7cbda4fdcbfbba183ae92789e09aadaab3e9bb8", func := "mooring/mooringlaw10.OffsetStretches", spec := "offsetStretches", unfollowed := true, recurses := true, named := ["math/bits.deBruijn64tab"], apart := false, laid := [("math/bits.deBruijn64tab", laid_math_bits_deBruijn64tab)] }
def OffsetStretchesSaid : Prop := offsetStretchesRow.holds Tryd.pinned (OpenSpec.ofChange offsetStretchesSpec)

/-- ITS FALSE NEIGHBOUR: 'it returns false'. Refute it at one input. -/
def offsetStretchesWrong : ChangeSpec := { name := "offsetStretches", fn := fun _ => fun
  | [d] => { results := [.lit (.bool false)], args := [d] }
  | _ => none }
def OffsetStretchesWrongFalsely : Prop := offsetStretchesRow.holds Tryd.pinned (OpenSpec.ofChange offsetStretchesWrong)

/-- 'mooringlaw10.OffsetSteps': WHATEVER THE INPUT: true; the input reads as it did. -/
def offsetStepsSpec : ChangeSpec := { name := "offsetSteps", fn := fun _ => fun
  | [d1, d2, d3] => { results := [.lit (.bool true)], args := [d1, d2, d3] }
  | _ => none }
def offsetStepsRow : OpenClaim := { program := "ytamlbiaakogahaadoor", sum := "f9ba869e63edd1a23d768bfcb7cbda4fdcbfbba183ae92789e09aadaab3e9bb8", func := "mooring/mooringlaw10.OffsetSteps", spec := "offsetSteps", unfollowed := true, recurses := true, named := ["math/bits.deBruijn64tab"], apart := false, laid := [("math/bits.deBruijn64tab", laid_math_bits_deBruijn64tab)] }
def OffsetStepsSaid : Prop := offsetStepsRow.holds Tryd.pinned (OpenSpec.ofChange offsetStepsSpec)

/-- ITS FALSE NEIGHBOUR: 'it returns false'. Refute it at one input. -/
def offsetStepsWrong : ChangeSpec := { name := "offsetSteps", fn := fun _ => fun
  | [d1, d2, d3] => { results := [.lit (.bool false)], args := [d1, d2, d3] }
  | _ => none }
def OffsetStepsWrongFalsely : Prop := offsetStepsRow.holds Tryd.pinned (OpenSpec.ofChange offsetStepsWrong)

/-- 'mooringlaw10.OffsetTops': WHATEVER THE INPUT: true; the input reads as it did. -/
def offsetTopsSpec : ChangeSpec := { name := "offsetTops", fn := fun _ => fun
  | [d1, d2, d3] => { results := [.lit (.bool true)], args := [d1, d2, d3] }
  | _ => none }
def offsetTopsRow : OpenClaim := { program := "ytamlbiaakogahaadoor", sum := "f9ba869e63edd1a23d768bfcb7cbda4fdcbfbba183ae92789e09aadaab3e9bb8", func := "mooring/mooringlaw10.OffsetTops", spec := "offsetTops", unfollowed := true, recurses := true, named := ["math/bits.deBruijn64tab"], apart := false, laid := [("math/bits.deBruijn64tab", laid_math_bits_deBruijn64tab)] }
def OffsetTopsSaid : Prop := offsetTopsRow.holds Tryd.pinned (OpenSpec.ofChange offsetTopsSpec)

/-- ITS FALSE NEIGHBOUR: 'it returns false'. Refute it at one input. -/
def offsetTopsWrong : ChangeSpec := { name := "offsetTops", fn := fun _ => fun
  | [d1, d2, d3] => { results := [.lit (.bool false)], args := [d1, d2, d3] }
  | _ => none }
def OffsetTopsWrongFalsely : Prop := offsetTopsRow.holds Tryd.pinned (OpenSpec.ofChange offsetTopsWrong)

/-- 'mooringlaw10.OffsetNexts': WHATEVER THE INPUT: true; the input reads as it did. -/
def offsetNextsSpec : ChangeSpec := { name := "offsetNexts", fn := fun _ => fun
  | [d1, d2, d3] => { results := [.lit (.bool true)], args := [d1, d2, d3] }
  | _ => none }
def offsetNextsRow : OpenClaim := { program := "ytamlbiaakogahaadoor", sum := "f9ba869e63edd1a23d768bfcb7cbda4fdcbfbba183ae92789e09aadaab3e9bb8", func := "mooring/mooringlaw10.OffsetNexts", spec := "offsetNexts", unfollowed := true, recurses := true, named := ["math/bits.deBruijn64tab"], apart := false, laid := [("math/bits.deBruijn64tab", laid_math_bits_deBruijn64tab)] }
def OffsetNextsSaid : Prop := offsetNextsRow.holds Tryd.pinned (OpenSpec.ofChange offsetNextsSpec)

/-- ITS FALSE NEIGHBOUR: 'it returns false'. Refute it at one input. -/
def offsetNextsWrong : ChangeSpec := { name := "offsetNexts", fn := fun _ => fun
  | [d1, d2, d3] => { results := [.lit (.bool false)], args := [d1, d2, d3] }
  | _ => none }
def OffsetNextsWrongFalsely : Prop := offsetNextsRow.holds Tryd.pinned (OpenSpec.ofChange offsetNextsWrong)

/-- 'mooringlaw11.HashMatchesReference': WHATEVER THE INPUT: true; the input reads as it did. -/
def hashMatchesReferenceSpec : ChangeSpec := { name := "hashMatchesReference", fn := fun _ => fun
  | [d1, d2] => { results := [.lit (.bool true)], args := [d1, d2] }
  | _ => none }
def hashMatchesReferenceRow : OpenClaim := { program := "ytamlbiaakogahaadoor", sum := "f9ba869e63edd1a23d768bfcb7cbda4fdcbfbba183ae92789e09aadaab3e9bb8", func := "mooring/mooringlaw11.HashMatchesReference", spec := "hashMatchesReference", unfollowed := true, recurses := true, named := ["math/bits.deBruijn64tab"], apart := false, laid := [("math/bits.deBruijn64tab", laid_math_bits_deBruijn64tab)] }
def HashMatchesReferenceSaid : Prop := hashMatchesReferenceRow.holds Tryd.pinned (OpenSpec.ofChange hashMatchesReferenceSpec)

/-- ITS FALSE NEIGHBOUR: 'it returns false'. Refute it at one input. -/
def hashMatchesReferenceWrong : ChangeSpec := { name := "hashMatchesReference", fn := fun _ => fun
  | [d1, d2] => { results := [.lit (.bool false)], args := [d1, d2] }
  | _ => none }
def HashMatchesReferenceWrongFalsely : Prop := hashMatchesReferenceRow.holds Tryd.pinned (OpenSpec.ofChange hashMatchesReferenceWrong)

/-- 'mooringlaw11.HashParts': WHATEVER THE INPUT: true; the input reads as it did. -/
def hashPartsSpec : ChangeSpec := { name := "hashParts", fn := fun _ => fun
  | [d1, d2] => { results := [.lit (.bool true)], args := [d1, d2] }
  | _ => none }
def hashPartsRow : OpenClaim := { program := "ytamlbiaakogahaadoor", sum := "f9ba869e63edd1a23d768bfcb7cbda4fdcbfbba183ae92789e09aadaab3e9bb8", func := "mooring/mooringlaw11.HashParts", spec := "hashParts", unfollowed := true, recurses := true, named := ["math/bits.deBruijn64tab"], apart := false, laid := [("math/bits.deBruijn64tab", laid_math_bits_deBruijn64tab)] }
def HashPartsSaid : Prop := hashPartsRow.holds Tryd.pinned (OpenSpec.ofChange hashPartsSpec)

/-- ITS FALSE NEIGHBOUR: 'it returns false'. Refute it at one input. -/
def hashPartsWrong : ChangeSpec := { name := "hashParts", fn := fun _ => fun
  | [d1, d2] => { results := [.lit (.bool false)], args := [d1, d2] }
  | _ => none }
def HashPartsWrongFalsely : Prop := hashPartsRow.holds Tryd.pinned (OpenSpec.ofChange hashPartsWrong)

/-- 'mooringlaw11.HashPads': WHATEVER THE INPUT: true; the input reads as it did. -/
def hashPadsSpec : ChangeSpec := { name := "hashPads", fn := fun _ => fun
  | [d1, d2] => { results := [.lit (.bool true)], args := [d1, d2] }
  | _ => none }
def hashPadsRow : OpenClaim := { program := "ytamlbiaakogahaadoor", sum := "f9ba869e63edd1a23d768bfcb7cbda4fdcbfbba183ae92789e09aadaab3e9bb8", func := "mooring/mooringlaw11.HashPads", spec := "hashPads", unfollowed := true, recurses := true, named := ["math/bits.deBruijn64tab"], apart := false, laid := [("math/bits.deBruijn64tab", laid_math_bits_deBruijn64tab)] }
def HashPadsSaid : Prop := hashPadsRow.holds Tryd.pinned (OpenSpec.ofChange hashPadsSpec)

/-- ITS FALSE NEIGHBOUR: 'it returns false'. Refute it at one input. -/
def hashPadsWrong : ChangeSpec := { name := "hashPads", fn := fun _ => fun
  | [d1, d2] => { results := [.lit (.bool false)], args := [d1, d2] }
  | _ => none }
def HashPadsWrongFalsely : Prop := hashPadsRow.holds Tryd.pinned (OpenSpec.ofChange hashPadsWrong)

/-- 'mooringlaw11.HashRests': WHATEVER THE INPUT: true; the input reads as it did. -/
def hashRestsSpec : ChangeSpec := { name := "hashRests", fn := fun _ => fun
  | [d1, d2, d3] => { results := [.lit (.bool true)], args := [d1, d2, d3] }
  | _ => none }
def hashRestsRow : OpenClaim := { program := "ytamlbiaakogahaadoor", sum := "f9ba869e63edd1a23d768bfcb7cbda4fdcbfbba183ae92789e09aadaab3e9bb8", func := "mooring/mooringlaw11.HashRests", spec := "hashRests", unfollowed := true, recurses := true, named := ["math/bits.deBruijn64tab"], apart := false, laid := [("math/bits.deBruijn64tab", laid_math_bits_deBruijn64tab)] }
def HashRestsSaid : Prop := hashRestsRow.holds Tryd.pinned (OpenSpec.ofChange hashRestsSpec)

/-- ITS FALSE NEIGHBOUR: 'it returns false'. Refute it at one input. -/
def hashRestsWrong : ChangeSpec := { name := "hashRests", fn := fun _ => fun
  | [d1, d2, d3] => { results := [.lit (.bool false)], args := [d1, d2, d3] }
  | _ => none }
def HashRestsWrongFalsely : Prop := hashRestsRow.holds Tryd.pinned (OpenSpec.ofChange hashRestsWrong)

/-- 'mooringlaw12.SealMatchesReference': WHATEVER THE INPUT: true; the input reads as it did. -/
def sealMatchesReferenceSpec : ChangeSpec := { name := "sealMatchesReference", fn := fun _ => fun
  | [d1, d2, d3, d4] => { results := [.lit (.bool true)], args := [d1, d2, d3, d4] }
  | _ => none }
def sealMatchesReferenceRow : OpenClaim := { program := "ytamlbiaakogahaadoor", sum := "f9ba869e63edd1a23d768bfcb7cbda4fdcbfbba183ae92789e09aadaab3e9bb8", func := "mooring/mooringlaw12.SealMatchesReference", spec := "sealMatchesReference", unfollowed := true, recurses := true, named := ["math/bits.deBruijn64tab"], apart := false, laid := [("math/bits.deBruijn64tab", laid_math_bits_deBruijn64tab)] }
def SealMatchesReferenceSaid : Prop := sealMatchesReferenceRow.holds Tryd.pinned (OpenSpec.ofChange sealMatchesReferenceSpec)

/-- ITS FALSE NEIGHBOUR: 'it returns false'. Refute it at one input. -/
def sealMatchesReferenceWrong : ChangeSpec := { name := "sealMatchesReference", fn := fun _ => fun
  | [d1, d2, d3, d4] => { results := [.lit (.bool false)], args := [d1, d2, d3, d4] }
  | _ => none }
def SealMatchesReferenceWrongFalsely : Prop := sealMatchesReferenceRow.holds Tryd.pinned (OpenSpec.ofChange sealMatchesReferenceWrong)

/-- 'mooringlaw12.SealParts': WHATEVER THE INPUT: true; the input reads as it did. -/
def sealPartsSpec : ChangeSpec := { name := "sealParts", fn := fun _ => fun
  | [d1, d2, d3, d4] => { results := [.lit (.bool true)], args := [d1, d2, d3, d4] }
  | _ => none }
def sealPartsRow : OpenClaim := { program := "ytamlbiaakogahaadoor", sum := "f9ba869e63edd1a23d768bfcb7cbda4fdcbfbba183ae92789e09aadaab3e9bb8", func := "mooring/mooringlaw12.SealParts", spec := "sealParts", unfollowed := true, recurses := true, named := ["math/bits.deBruijn64tab"], apart := false, laid := [("math/bits.deBruijn64tab", laid_math_bits_deBruijn64tab)] }
def SealPartsSaid : Prop := sealPartsRow.holds Tryd.pinned (OpenSpec.ofChange sealPartsSpec)

/-- ITS FALSE NEIGHBOUR: 'it returns false'. Refute it at one input. -/
def sealPartsWrong : ChangeSpec := { name := "sealParts", fn := fun _ => fun
  | [d1, d2, d3, d4] => { results := [.lit (.bool false)], args := [d1, d2, d3, d4] }
  | _ => none }
def SealPartsWrongFalsely : Prop := sealPartsRow.holds Tryd.pinned (OpenSpec.ofChange sealPartsWrong)

/-- 'mooringlaw12.SealBegins': WHATEVER THE INPUT: true; the input reads as it did. -/
def sealBeginsSpec : ChangeSpec := { name := "sealBegins", fn := fun _ => fun
  | [d1, d2, d3, d4] => { results := [.lit (.bool true)], args := [d1, d2, d3, d4] }
  | _ => none }
def sealBeginsRow : OpenClaim := { program := "ytamlbiaakogahaadoor", sum := "f9ba869e63edd1a23d768bfcb7cbda4fdcbfbba183ae92789e09aadaab3e9bb8", func := "mooring/mooringlaw12.SealBegins", spec := "sealBegins", unfollowed := true, recurses := true, named := ["math/bits.deBruijn64tab"], apart := false, laid := [("math/bits.deBruijn64tab", laid_math_bits_deBruijn64tab)] }
def SealBeginsSaid : Prop := sealBeginsRow.holds Tryd.pinned (OpenSpec.ofChange sealBeginsSpec)

/-- ITS FALSE NEIGHBOUR: 'it returns false'. Refute it at one input. -/
def sealBeginsWrong : ChangeSpec := { name := "sealBegins", fn := fun _ => fun
  | [d1, d2, d3, d4] => { results := [.lit (.bool false)], args := [d1, d2, d3, d4] }
  | _ => none }
def SealBeginsWrongFalsely : Prop := sealBeginsRow.holds Tryd.pinned (OpenSpec.ofChange sealBeginsWrong)

/-- 'mooringlaw12.SealEmpty': WHATEVER THE INPUT: true; the input reads as it did. -/
def sealEmptySpec : ChangeSpec := { name := "sealEmpty", fn := fun _ => fun
  | [d1, d2] => { results := [.lit (.bool true)], args := [d1, d2] }
  | _ => none }
def sealEmptyRow : OpenClaim := { program := "ytamlbiaakogahaadoor", sum := "f9ba869e63edd1a23d768bfcb7cbda4fdcbfbba183ae92789e09aadaab3e9bb8", func := "mooring/mooringlaw12.SealEmpty", spec := "sealEmpty", unfollowed := true, recurses := true, named := ["math/bits.deBruijn64tab"], apart := false, laid := [("math/bits.deBruijn64tab", laid_math_bits_deBruijn64tab)] }
def SealEmptySaid : Prop := sealEmptyRow.holds Tryd.pinned (OpenSpec.ofChange sealEmptySpec)

/-- ITS FALSE NEIGHBOUR: 'it returns false'. Refute it at one input. -/
def sealEmptyWrong : ChangeSpec := { name := "sealEmpty", fn := fun _ => fun
  | [d1, d2] => { results := [.lit (.bool false)], args := [d1, d2] }
  | _ => none }
def SealEmptyWrongFalsely : Prop := sealEmptyRow.holds Tryd.pinned (OpenSpec.ofChange sealEmptyWrong)

/-- 'mooringlaw12.SealSizes': WHATEVER THE INPUT: true; the input reads as it did. -/
def sealSizesSpec : ChangeSpec := { name := "sealSizes", fn := fun _ => fun
  | [d] => { results := [.lit (.bool true)], args := [d] }
  | _ => none }
def sealSizesRow : OpenClaim := { program := "ytamlbiaakogahaadoor", sum := "f9ba869e63edd1a23d768bfcb7cbda4fdcbfbba183ae92789e09aadaab3e9bb8", func := "mooring/mooringlaw12.SealSizes", spec := "sealSizes", unfollowed := true, recurses := true, named := ["math/bits.deBruijn64tab"], apart := false, laid := [("math/bits.deBruijn64tab", laid_math_bits_deBruijn64tab)] }
def SealSizesSaid : Prop := sealSizesRow.holds Tryd.pinned (OpenSpec.ofChange sealSizesSpec)

/-- ITS FALSE NEIGHBOUR: 'it returns false'. Refute it at one input. -/
def sealSizesWrong : ChangeSpec := { name := "sealSizes", fn := fun _ => fun
  | [d] => { results := [.lit (.bool false)], args := [d] }
  | _ => none }
def SealSizesWrongFalsely : Prop := sealSizesRow.holds Tryd.pinned (OpenSpec.ofChange sealSizesWrong)

/-- 'mooringlaw13.OpenShort': WHATEVER THE INPUT: true; the input reads as it did. -/
def openShortSpec : ChangeSpec := { name := "openShort", fn := fun _ => fun
  | [d1, d2, d3, d4] => { results := [.lit (.bool true)], args := [d1, d2, d3, d4] }
  | _ => none }
def openShortRow : OpenClaim := { program := "ytamlbiaakogahaadoor", sum := "f9ba869e63edd1a23d768bfcb7cbda4fdcbfbba183ae92789e09aadaab3e9bb8", func := "mooring/mooringlaw13.OpenShort", spec := "openShort", unfollowed := true, recurses := true, named := ["math/bits.deBruijn64tab"], apart := false, laid := [("math/bits.deBruijn64tab", laid_math_bits_deBruijn64tab)] }
def OpenShortSaid : Prop := openShortRow.holds Tryd.pinned (OpenSpec.ofChange openShortSpec)

/-- ITS FALSE NEIGHBOUR: 'it returns false'. Refute it at one input. -/
def openShortWrong : ChangeSpec := { name := "openShort", fn := fun _ => fun
  | [d1, d2, d3, d4] => { results := [.lit (.bool false)], args := [d1, d2, d3, d4] }
  | _ => none }
def OpenShortWrongFalsely : Prop := openShortRow.holds Tryd.pinned (OpenSpec.ofChange openShortWrong)

/- THE SECOND FORM. 'bulk': how many values and letters a reading holds, each counted each time it is reached (what is shared counts as often as it is met; a slice's spare places count too). A statement '..UptoSaid' is the law's where the arguments, and the package variables that the reading takes, are together of bulk at most 1048576: NARROWER than '..Said'. Prove '..Said' where nothing that the law and all that it calls make is longer than what came in: it says more and counts as full. Else prove '..UptoSaid'. A law counts once. -/
mutual
def uptoBulk {H : Type} : DataW H → Nat
  | .lit (.string bytes) => bytes.length + 1
  | .lit _ => 1
  | .nil => 1
  | .ptr d => uptoBulk d + 1
  | .slice elems spare => uptoBulkAll elems + uptoBulkAll spare + 1
  | .agg parts => uptoBulkAll parts + 1
  | .iface _ d => uptoBulk d + 1
  | .map entries => uptoBulkEntries entries + 1
  | .held _ => 1
def uptoBulkAll {H : Type} : List (DataW H) → Nat
  | [] => 0
  | d :: r => uptoBulk d + uptoBulkAll r
def uptoBulkEntries {H : Type} : List (Lit × DataW H) → Nat
  | [] => 0
  | x :: r => uptoBulkEntry x + uptoBulkEntries r
def uptoBulkEntry {H : Type} : Lit × DataW H → Nat
  | (.string bytes, d) => bytes.length + uptoBulk d + 1
  | (_, d) => uptoBulk d + 1
 end
def uptoSmall : (H : Type) → List (DataW H) → Bool := fun _ ds => decide (uptoBulkAll ds ≤ 1048576)
def OpenSpec.upto (s : _root_.Go.ChangeSpec) : _root_.Go.OpenSpec := { _root_.Go.OpenSpec.ofChange s with cond := some uptoSmall }

/-- 'mooringlaw09.TableFor', WHERE WHAT IT READS IS OF BULK AT MOST 1048576: true; the input reads as it did. -/
def tableForUptoRow : OpenClaim := { program := "ytamlbiaakogahaadoor", sum := "f9ba869e63edd1a23d768bfcb7cbda4fdcbfbba183ae92789e09aadaab3e9bb8", func := "mooring/mooringlaw09.TableFor", spec := "tableFor", unfollowed := true, recurses := true, named := ["math/bits.deBruijn64tab"], apart := false, laid := [("math/bits.deBruijn64tab", laid_math_bits_deBruijn64tab)], narrowed := true }
def TableForUptoSaid : Prop := tableForUptoRow.holds Tryd.pinned (OpenSpec.upto tableForSpec)

/-- 'mooringlaw09.TableLinear', WHERE WHAT IT READS IS OF BULK AT MOST 1048576: true; the input reads as it did. -/
def tableLinearUptoRow : OpenClaim := { program := "ytamlbiaakogahaadoor", sum := "f9ba869e63edd1a23d768bfcb7cbda4fdcbfbba183ae92789e09aadaab3e9bb8", func := "mooring/mooringlaw09.TableLinear", spec := "tableLinear", unfollowed := true, recurses := true, named := ["math/bits.deBruijn64tab"], apart := false, laid := [("math/bits.deBruijn64tab", laid_math_bits_deBruijn64tab)], narrowed := true }
def TableLinearUptoSaid : Prop := tableLinearUptoRow.holds Tryd.pinned (OpenSpec.upto tableLinearSpec)

/-- 'mooringlaw09.TableMatchesReference', WHERE WHAT IT READS IS OF BULK AT MOST 1048576: true; the input reads as it did. -/
def tableMatchesReferenceUptoRow : OpenClaim := { program := "ytamlbiaakogahaadoor", sum := "f9ba869e63edd1a23d768bfcb7cbda4fdcbfbba183ae92789e09aadaab3e9bb8", func := "mooring/mooringlaw09.TableMatchesReference", spec := "tableMatchesReference", unfollowed := true, recurses := true, named := ["math/bits.deBruijn64tab"], apart := false, laid := [("math/bits.deBruijn64tab", laid_math_bits_deBruijn64tab)], narrowed := true }
def TableMatchesReferenceUptoSaid : Prop := tableMatchesReferenceUptoRow.holds Tryd.pinned (OpenSpec.upto tableMatchesReferenceSpec)

/-- 'mooringlaw09.TableNil', WHERE WHAT IT READS IS OF BULK AT MOST 1048576: true; the input reads as it did. -/
def tableNilUptoRow : OpenClaim := { program := "ytamlbiaakogahaadoor", sum := "f9ba869e63edd1a23d768bfcb7cbda4fdcbfbba183ae92789e09aadaab3e9bb8", func := "mooring/mooringlaw09.TableNil", spec := "tableNil", unfollowed := true, recurses := true, named := ["math/bits.deBruijn64tab"], apart := false, laid := [("math/bits.deBruijn64tab", laid_math_bits_deBruijn64tab)], narrowed := true }
def TableNilUptoSaid : Prop := tableNilUptoRow.holds Tryd.pinned (OpenSpec.upto tableNilSpec)

/-- 'mooringlaw10.OffsetMatchesReference', WHERE WHAT IT READS IS OF BULK AT MOST 1048576: true; the input reads as it did. -/
def offsetMatchesReferenceUptoRow : OpenClaim := { program := "ytamlbiaakogahaadoor", sum := "f9ba869e63edd1a23d768bfcb7cbda4fdcbfbba183ae92789e09aadaab3e9bb8", func := "mooring/mooringlaw10.OffsetMatchesReference", spec := "offsetMatchesReference", unfollowed := true, recurses := true, named := ["math/bits.deBruijn64tab"], apart := false, laid := [("math/bits.deBruijn64tab", laid_math_bits_deBruijn64tab)], narrowed := true }
def OffsetMatchesReferenceUptoSaid : Prop := offsetMatchesReferenceUptoRow.holds Tryd.pinned (OpenSpec.upto offsetMatchesReferenceSpec)

/-- 'mooringlaw10.OffsetStretches', WHERE WHAT IT READS IS OF BULK AT MOST 1048576: true; the input reads as it did. -/
def offsetStretchesUptoRow : OpenClaim := { program := "ytamlbiaakogahaadoor", sum := "f9ba869e63edd1a23d768bfcb7cbda4fdcbfbba183ae92789e09aadaab3e9bb8", func := "mooring/mooringlaw10.OffsetStretches", spec := "offsetStretches", unfollowed := true, recurses := true, named := ["math/bits.deBruijn64tab"], apart := false, laid := [("math/bits.deBruijn64tab", laid_math_bits_deBruijn64tab)], narrowed := true }
def OffsetStretchesUptoSaid : Prop := offsetStretchesUptoRow.holds Tryd.pinned (OpenSpec.upto offsetStretchesSpec)

/-- 'mooringlaw10.OffsetSteps', WHERE WHAT IT READS IS OF BULK AT MOST 1048576: true; the input reads as it did. -/
def offsetStepsUptoRow : OpenClaim := { program := "ytamlbiaakogahaadoor", sum := "f9ba869e63edd1a23d768bfcb7cbda4fdcbfbba183ae92789e09aadaab3e9bb8", func := "mooring/mooringlaw10.OffsetSteps", spec := "offsetSteps", unfollowed := true, recurses := true, named := ["math/bits.deBruijn64tab"], apart := false, laid := [("math/bits.deBruijn64tab", laid_math_bits_deBruijn64tab)], narrowed := true }
def OffsetStepsUptoSaid : Prop := offsetStepsUptoRow.holds Tryd.pinned (OpenSpec.upto offsetStepsSpec)

/-- 'mooringlaw10.OffsetTops', WHERE WHAT IT READS IS OF BULK AT MOST 1048576: true; the input reads as it did. -/
def offsetTopsUptoRow : OpenClaim := { program := "ytamlbiaakogahaadoor", sum := "f9ba869e63edd1a23d768bfcb7cbda4fdcbfbba183ae92789e09aadaab3e9bb8", func := "mooring/mooringlaw10.OffsetTops", spec := "offsetTops", unfollowed := true, recurses := true, named := ["math/bits.deBruijn64tab"], apart := false, laid := [("math/bits.deBruijn64tab", laid_math_bits_deBruijn64tab)], narrowed := true }
def OffsetTopsUptoSaid : Prop := offsetTopsUptoRow.holds Tryd.pinned (OpenSpec.upto offsetTopsSpec)

/-- 'mooringlaw10.OffsetNexts', WHERE WHAT IT READS IS OF BULK AT MOST 1048576: true; the input reads as it did. -/
def offsetNextsUptoRow : OpenClaim := { program := "ytamlbiaakogahaadoor", sum := "f9ba869e63edd1a23d768bfcb7cbda4fdcbfbba183ae92789e09aadaab3e9bb8", func := "mooring/mooringlaw10.OffsetNexts", spec := "offsetNexts", unfollowed := true, recurses := true, named := ["math/bits.deBruijn64tab"], apart := false, laid := [("math/bits.deBruijn64tab", laid_math_bits_deBruijn64tab)], narrowed := true }
def OffsetNextsUptoSaid : Prop := offsetNextsUptoRow.holds Tryd.pinned (OpenSpec.upto offsetNextsSpec)

/-- 'mooringlaw11.HashMatchesReference', WHERE WHAT IT READS IS OF BULK AT MOST 1048576: true; the input reads as it did. -/
def hashMatchesReferenceUptoRow : OpenClaim := { program := "ytamlbiaakogahaadoor", sum := "f9ba869e63edd1a23d768bfcb7cbda4fdcbfbba183ae92789e09aadaab3e9bb8", func := "mooring/mooringlaw11.HashMatchesReference", spec := "hashMatchesReference", unfollowed := true, recurses := true, named := ["math/bits.deBruijn64tab"], apart := false, laid := [("math/bits.deBruijn64tab", laid_math_bits_deBruijn64tab)], narrowed := true }
def HashMatchesReferenceUptoSaid : Prop := hashMatchesReferenceUptoRow.holds Tryd.pinned (OpenSpec.upto hashMatchesReferenceSpec)

/-- 'mooringlaw11.HashParts', WHERE WHAT IT READS IS OF BULK AT MOST 1048576: true; the input reads as it did. -/
def hashPartsUptoRow : OpenClaim := { program := "ytamlbiaakogahaadoor", sum := "f9ba869e63edd1a23d768bfcb7cbda4fdcbfbba183ae92789e09aadaab3e9bb8", func := "mooring/mooringlaw11.HashParts", spec := "hashParts", unfollowed := true, recurses := true, named := ["math/bits.deBruijn64tab"], apart := false, laid := [("math/bits.deBruijn64tab", laid_math_bits_deBruijn64tab)], narrowed := true }
def HashPartsUptoSaid : Prop := hashPartsUptoRow.holds Tryd.pinned (OpenSpec.upto hashPartsSpec)

/-- 'mooringlaw11.HashPads', WHERE WHAT IT READS IS OF BULK AT MOST 1048576: true; the input reads as it did. -/
def hashPadsUptoRow : OpenClaim := { program := "ytamlbiaakogahaadoor", sum := "f9ba869e63edd1a23d768bfcb7cbda4fdcbfbba183ae92789e09aadaab3e9bb8", func := "mooring/mooringlaw11.HashPads", spec := "hashPads", unfollowed := true, recurses := true, named := ["math/bits.deBruijn64tab"], apart := false, laid := [("math/bits.deBruijn64tab", laid_math_bits_deBruijn64tab)], narrowed := true }
def HashPadsUptoSaid : Prop := hashPadsUptoRow.holds Tryd.pinned (OpenSpec.upto hashPadsSpec)

/-- 'mooringlaw11.HashRests', WHERE WHAT IT READS IS OF BULK AT MOST 1048576: true; the input reads as it did. -/
def hashRestsUptoRow : OpenClaim := { program := "ytamlbiaakogahaadoor", sum := "f9ba869e63edd1a23d768bfcb7cbda4fdcbfbba183ae92789e09aadaab3e9bb8", func := "mooring/mooringlaw11.HashRests", spec := "hashRests", unfollowed := true, recurses := true, named := ["math/bits.deBruijn64tab"], apart := false, laid := [("math/bits.deBruijn64tab", laid_math_bits_deBruijn64tab)], narrowed := true }
def HashRestsUptoSaid : Prop := hashRestsUptoRow.holds Tryd.pinned (OpenSpec.upto hashRestsSpec)

/-- 'mooringlaw12.SealMatchesReference', WHERE WHAT IT READS IS OF BULK AT MOST 1048576: true; the input reads as it did. -/
def sealMatchesReferenceUptoRow : OpenClaim := { program := "ytamlbiaakogahaadoor", sum := "f9ba869e63edd1a23d768bfcb7cbda4fdcbfbba183ae92789e09aadaab3e9bb8", func := "mooring/mooringlaw12.SealMatchesReference", spec := "sealMatchesReference", unfollowed := true, recurses := true, named := ["math/bits.deBruijn64tab"], apart := false, laid := [("math/bits.deBruijn64tab", laid_math_bits_deBruijn64tab)], narrowed := true }
def SealMatchesReferenceUptoSaid : Prop := sealMatchesReferenceUptoRow.holds Tryd.pinned (OpenSpec.upto sealMatchesReferenceSpec)

/-- 'mooringlaw12.SealParts', WHERE WHAT IT READS IS OF BULK AT MOST 1048576: true; the input reads as it did. -/
def sealPartsUptoRow : OpenClaim := { program := "ytamlbiaakogahaadoor", sum := "f9ba869e63edd1a23d768bfcb7cbda4fdcbfbba183ae92789e09aadaab3e9bb8", func := "mooring/mooringlaw12.SealParts", spec := "sealParts", unfollowed := true, recurses := true, named := ["math/bits.deBruijn64tab"], apart := false, laid := [("math/bits.deBruijn64tab", laid_math_bits_deBruijn64tab)], narrowed := true }
def SealPartsUptoSaid : Prop := sealPartsUptoRow.holds Tryd.pinned (OpenSpec.upto sealPartsSpec)

/-- 'mooringlaw12.SealBegins', WHERE WHAT IT READS IS OF BULK AT MOST 1048576: true; the input reads as it did. -/
def sealBeginsUptoRow : OpenClaim := { program := "ytamlbiaakogahaadoor", sum := "f9ba869e63edd1a23d768bfcb7cbda4fdcbfbba183ae92789e09aadaab3e9bb8", func := "mooring/mooringlaw12.SealBegins", spec := "sealBegins", unfollowed := true, recurses := true, named := ["math/bits.deBruijn64tab"], apart := false, laid := [("math/bits.deBruijn64tab", laid_math_bits_deBruijn64tab)], narrowed := true }
def SealBeginsUptoSaid : Prop := sealBeginsUptoRow.holds Tryd.pinned (OpenSpec.upto sealBeginsSpec)

/-- 'mooringlaw12.SealEmpty', WHERE WHAT IT READS IS OF BULK AT MOST 1048576: true; the input reads as it did. -/
def sealEmptyUptoRow : OpenClaim := { program := "ytamlbiaakogahaadoor", sum := "f9ba869e63edd1a23d768bfcb7cbda4fdcbfbba183ae92789e09aadaab3e9bb8", func := "mooring/mooringlaw12.SealEmpty", spec := "sealEmpty", unfollowed := true, recurses := true, named := ["math/bits.deBruijn64tab"], apart := false, laid := [("math/bits.deBruijn64tab", laid_math_bits_deBruijn64tab)], narrowed := true }
def SealEmptyUptoSaid : Prop := sealEmptyUptoRow.holds Tryd.pinned (OpenSpec.upto sealEmptySpec)

/-- 'mooringlaw12.SealSizes', WHERE WHAT IT READS IS OF BULK AT MOST 1048576: true; the input reads as it did. -/
def sealSizesUptoRow : OpenClaim := { program := "ytamlbiaakogahaadoor", sum := "f9ba869e63edd1a23d768bfcb7cbda4fdcbfbba183ae92789e09aadaab3e9bb8", func := "mooring/mooringlaw12.SealSizes", spec := "sealSizes", unfollowed := true, recurses := true, named := ["math/bits.deBruijn64tab"], apart := false, laid := [("math/bits.deBruijn64tab", laid_math_bits_deBruijn64tab)], narrowed := true }
def SealSizesUptoSaid : Prop := sealSizesUptoRow.holds Tryd.pinned (OpenSpec.upto sealSizesSpec)

/-- 'mooringlaw13.OpenShort', WHERE WHAT IT READS IS OF BULK AT MOST 1048576: true; the input reads as it did. -/
def openShortUptoRow : OpenClaim := { program := "ytamlbiaakogahaadoor", sum := "f9ba869e63edd1a23d768bfcb7cbda4fdcbfbba183ae92789e09aadaab3e9bb8", func := "mooring/mooringlaw13.OpenShort", spec := "openShort", unfollowed := true, recurses := true, named := ["math/bits.deBruijn64tab"], apart := false, laid := [("math/bits.deBruijn64tab", laid_math_bits_deBruijn64tab)], narrowed := true }
def OpenShortUptoSaid : Prop := openShortUptoRow.holds Tryd.pinned (OpenSpec.upto openShortSpec)

end Rows
end Go.Proofs.YtamlbiaakogahaaDoor
