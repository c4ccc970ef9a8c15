/-
  The card of SealSizes, proved: whatever the input, the law returns true and each argument reads as it read before. Under the condition of its row: the table of math/bits (deBruijn64tab) lies as its initialiser lays it; the card ties that to the program's text.
-/
import Derived.Test.YtamlbiaakogahaaDoorLSealSizes
import Derived.Test.YtamlbiaakogahaaDoorFc
namespace Go.Proofs.YtamlbiaakogahaaDoor
open Go
theorem sealSizes_goes : Rows.sealSizesRow.goesBy Tryd.prog = false := by kernel_rfl
theorem sealSizes_card : Rows.SealSizesCardSaid :=
  Claim7.holds_tied_plain_at .later [] [.data] true (true, "1a2e5709dc8bea030b44af97d10829f518d4e0be9fbef3119ab83e042f66dae1") true
    sealSizes.row_holds (fun _ h => by cases h) (by kernel_rfl) (fun _ h => by cases h) sealSizes_row_tie rfl ⟨rfl, rfl⟩ mainIsF rfl
    (fun f fn hf hfn => by
      obtain rfl : f = 20 := Option.some.inj ((show Tryd.prog.funcNamed "mooring/mooringlaw12.SealSizes" = some 20 by kernel_rfl).symm.trans hf) |>.symm
      obtain rfl : fn = Tryd.f20 := (Option.some.inj (Tryd.func20.symm.trans hfn)).symm
      exact ⟨looksF.symm, fun j t ht => by
        rw [Tryd.params20] at ht
        have hm := Array.mem_of_getElem? ht
        simp only [List.mem_toArray, List.mem_cons, List.not_mem_nil, or_false] at hm
        rcases hm with rfl
        · exact (show Tryd.prog.wantsStandIn 87 = false by kernel_rfl)⟩)
    sealSizes_goes.symm
#print axioms sealSizes_card
end Go.Proofs.YtamlbiaakogahaaDoor
