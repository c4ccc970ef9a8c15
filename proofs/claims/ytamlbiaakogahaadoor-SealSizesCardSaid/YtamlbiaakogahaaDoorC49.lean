/- Contracts of functions by the evaluator (C49): mooringref12.Crypt. -/
import Derived.Test.YtamlbiaakogahaaDoorC42
namespace Go.Proofs.YtamlbiaakogahaaDoor
open Go Go.Mo
noncomputable section
theorem l_Rc5 (δ : LD) (e T nc l : List B8) : (List.range 20).map (fun i => rcEv δ e T nc l (100 + i)) = (List.range 20).map (fun i => rcSh δ e T nc l (100 + i)) := by kernel_rfl
theorem l_Rc6 (δ : LD) (e T nc l : List B8) : (List.range 20).map (fun i => rcEv δ e T nc l (120 + i)) = (List.range 20).map (fun i => rcSh δ e T nc l (120 + i)) := by kernel_rfl
theorem l_Rc7 (δ : LD) (e T nc l : List B8) : (List.range 11).map (fun i => rcEv δ e T nc l (140 + i)) = (List.range 11).map (fun i => rcSh δ e T nc l (140 + i)) := by kernel_rfl
end
end Go.Proofs.YtamlbiaakogahaaDoor
