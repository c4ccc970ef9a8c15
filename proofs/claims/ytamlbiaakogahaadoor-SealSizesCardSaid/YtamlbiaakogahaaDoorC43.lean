/- Contracts of functions by the evaluator (C43): mooringref12.Crypt. -/
import Derived.Test.YtamlbiaakogahaaDoorC42
namespace Go.Proofs.YtamlbiaakogahaaDoor
open Go Go.Mo
noncomputable section
theorem l_RcZ (δ : LD) (e T nc : List B8) : rcEv δ e T nc [] 0 = rcSh δ e T nc [] 0 := by kernel_rfl
theorem l_Rc0 (δ : LD) (e T nc l : List B8) : (List.range 19).map (fun i => rcEv δ e T nc l (1 + i)) = (List.range 19).map (fun i => rcSh δ e T nc l (1 + i)) := by kernel_rfl
theorem l_Rc1 (δ : LD) (e T nc l : List B8) : (List.range 20).map (fun i => rcEv δ e T nc l (20 + i)) = (List.range 20).map (fun i => rcSh δ e T nc l (20 + i)) := by kernel_rfl
theorem l_Rc2 (δ : LD) (e T nc l : List B8) : (List.range 20).map (fun i => rcEv δ e T nc l (40 + i)) = (List.range 20).map (fun i => rcSh δ e T nc l (40 + i)) := by kernel_rfl
theorem l_Rc3 (δ : LD) (e T nc l : List B8) : (List.range 20).map (fun i => rcEv δ e T nc l (60 + i)) = (List.range 20).map (fun i => rcSh δ e T nc l (60 + i)) := by kernel_rfl
theorem l_Rc4 (δ : LD) (e T nc l : List B8) : (List.range 20).map (fun i => rcEv δ e T nc l (80 + i)) = (List.range 20).map (fun i => rcSh δ e T nc l (80 + i)) := by kernel_rfl
end
end Go.Proofs.YtamlbiaakogahaaDoor
