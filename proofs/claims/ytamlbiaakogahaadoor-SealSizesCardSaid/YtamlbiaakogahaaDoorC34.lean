/- Contracts of functions by the evaluator (C34): the reference's hash, reckoned. -/
import Derived.Test.YtamlbiaakogahaaDoorC31
namespace Go.Proofs.YtamlbiaakogahaaDoor
open Go Go.Mo
noncomputable section
noncomputable def rsEv (ρ : LR) (e T l : List B8) (n : Nat) := ev2 (K_R ρ) noInl 60 Tryd.f52 ([.a [.b8 176 e, .b8 256 T]] ++ (argB 0 n :: [])) [memBy n l, none] [] [] (.a [.b8 16 (rsumF ρ e T n l)]) []
def rsSh (ρ : LR) (e T l : List B8) (n : Nat) : Option (V × List (Bool × Bool) × List (Option Blk)) × Bool := (some (.a [.b8 16 (rsumF ρ e T n l)], [], newBlks []), true)
theorem l_RSum0 (ρ : LR) (e T l : List B8) : (List.range 20).map (fun i => rsEv ρ e T l (0 + i)) = (List.range 20).map (fun i => rsSh ρ e T l (0 + i)) := by kernel_rfl
theorem l_RSum1 (ρ : LR) (e T l : List B8) : (List.range 20).map (fun i => rsEv ρ e T l (20 + i)) = (List.range 20).map (fun i => rsSh ρ e T l (20 + i)) := by kernel_rfl
theorem l_RSum2 (ρ : LR) (e T l : List B8) : (List.range 20).map (fun i => rsEv ρ e T l (40 + i)) = (List.range 20).map (fun i => rsSh ρ e T l (40 + i)) := by kernel_rfl
theorem l_RSum3 (ρ : LR) (e T l : List B8) : (List.range 20).map (fun i => rsEv ρ e T l (60 + i)) = (List.range 20).map (fun i => rsSh ρ e T l (60 + i)) := by kernel_rfl
theorem l_RSum4 (ρ : LR) (e T l : List B8) : (List.range 20).map (fun i => rsEv ρ e T l (80 + i)) = (List.range 20).map (fun i => rsSh ρ e T l (80 + i)) := by kernel_rfl
theorem l_RSum5 (ρ : LR) (e T l : List B8) : (List.range 20).map (fun i => rsEv ρ e T l (100 + i)) = (List.range 20).map (fun i => rsSh ρ e T l (100 + i)) := by kernel_rfl
theorem l_RSum6 (ρ : LR) (e T l : List B8) : (List.range 20).map (fun i => rsEv ρ e T l (120 + i)) = (List.range 20).map (fun i => rsSh ρ e T l (120 + i)) := by kernel_rfl
end
end Go.Proofs.YtamlbiaakogahaaDoor
