/- The contract of fast.fill: its loop in runs of passes. -/
import Derived.Test.YtamlbiaakogahaaDoorMo13
import Derived.Test.YtamlbiaakogahaaDoorCB
namespace Go.Proofs.YtamlbiaakogahaaDoor
open Go Go.Mo
noncomputable abbrev fF := Tryd.f71
noncomputable abbrev KF := K_Back
theorem fBody : fF.body = some (.seq (lpA fF) (.seq (.seq (lpB fF) (.block 0 (.loop (lpL fF)))) (lpT fF))) := by kernel_rfl
noncomputable def fE (i : Nat) : B32 := fwdE (sb (BitVec.ofNat 8 i))
noncomputable def bE (i : Nat) : B32 := bckE (back (BitVec.ofNat 8 i))
noncomputable def memF (i : Nat) : List (Option Blk) := [some ⟨[.b32 256 (upL fE i 0 ++ List.replicate (256 - i) 0), .b32 256 (upL bE i 0 ++ List.replicate (256 - i) 0)], true⟩]
noncomputable def sFI : St := ⟨(Fr.full 12 fF.ntmps).ofArgs 0 [], fF.ntmps, given [], [], []⟩
noncomputable def sFA : St := stOf (acode KF 300 (lpA fF) sFI)
noncomputable def frF0 : Fr := frAfter KF 300 (lpB fF) sFA
noncomputable def sF : Nat → St
  | 0 => ⟨frF0, fF.ntmps, memF 0, [], []⟩
  | j + 1 => ⟨frAfter KF 300 (lpL fF) ⟨frF0.set 4 (.s (.i .i64 (.ofNat (j * 8 + 7)))), fF.ntmps, memF (j * 8 + 7), [], []⟩, fF.ntmps, memF (j * 8 + 8), [], []⟩
theorem fill_step (j : Nat) (h : j < 32) : runK (acode KF 300 (lpL fF)) 8 (sF j) = some (sF (j + 1)) :=
  tab_all (f := fun j => runK (acode KF 300 (lpL fF)) 8 (sF j)) (g := fun j => some (sF (j + 1))) (N := 32) (by kernel_rfl) j h
noncomputable def sFE : St := stOf (acode KF 300 (lpL fF) (sF 32))
noncomputable def sFT : Ex × St := match acode KF 300 (lpT fF) sFE with | some x => x | none => (.normal, sFI)
theorem fill_eval : evalE KF 300 fF [] [] [] [] = some (.a [.b32 256 fwdT, .b32 256 bckT], [], []) :=
  evalE_loop (S := sF) (k := 8) (J := 32) (n := 43) (sA := sFA) (sE := sFE) (x := sFT) fBody (by kernel_rfl) (by kernel_rfl) fill_step rfl (by kernel_rfl) (by kernel_rfl) (by kernel_rfl)

noncomputable def sp_fill : List V → Option V
  | [] => some (.a [.b32 256 fwdT, .b32 256 bckT])
  | _ => none
theorem e_fill (G : Gl) : EntryOk G Tryd.prog 71 (pureSp sp_fill) := by
  refine entry_pure (enters_of Tryd.func71 (by kernel_rfl)) ?_
  intro args v h π vargs ha fresh m
  unfold sp_fill at h
  split at h
  · cases h
    exact fitsP (K := KF) (obs := []) ((good_Back G).good mixed) 300 _ [] Tryd.func71 fill_eval (by intro p hp; cases hp) (by kernel_rfl) rfl rfl fresh m
  · cases h
noncomputable def E_fill : List (Nat × Mo.Spec) := (71, pureSp sp_fill) :: E_Back
noncomputable def K_fill : Cx := cxOf Tryd.prog E_fill
theorem good_fill (G : Gl) : EnvL G Tryd.prog E_fill := .cons (e_fill G) (good_Back G)
end Go.Proofs.YtamlbiaakogahaaDoor
