/- Contracts of functions by the evaluator (C0). -/
import Derived.Test.YtamlbiaakogahaaDoorSp1
import Derived.Test.YtamlbiaakogahaaDoorCS
import Derived.Test.YtamlbiaakogahaaDoorProg
namespace Go.Proofs.YtamlbiaakogahaaDoor
open Go Go.Mo
noncomputable section
def sp_double : List V → Option V
  | [.s (.b8 x)] => some (.s (.b8 (dbl x)))
  | _ => none
theorem l_double  (x : B8) : evalE K_0 60 Tryd.f116 [.s (.b8 x)] [] [] [] = some (.s (.b8 (dbl x)), [], []) :=
  byte_all (f := fun x => evalE K_0 60 Tryd.f116 [.s (.b8 x)] [] [] []) (g := fun x => some (.s (.b8 (dbl x)), [], [])) (by kernel_rfl) x
theorem e_double (G : Gl) : EntryOk G Tryd.prog 116 (pureSp sp_double) := by
  refine entry_pure (Go.Mo.enters_of Tryd.func116 (by kernel_rfl)) ?_
  intro args v h π vargs ha fresh m
  unfold sp_double at h
  split at h
  · rename_i x
    cases h
    exact fitsP (K := K_0) (obs := []) ((good_0 G).good mixed) 60 _ [] Tryd.func116 (l_double _) (by intro p hp; cases hp) (by kernel_rfl) rfl rfl fresh m
  · cases h
def E_double : List (Nat × Mo.Spec) := (116, pureSp sp_double) :: E_0
def K_double : Cx := cxOf Tryd.prog E_double
theorem good_double (G : Gl) : EnvL G Tryd.prog E_double := .cons (e_double G) (good_0 G)
def sp_mul : List V → Option V
  | [.s (.b8 a), .s (.b8 x)] => some (.s (.b8 (mul a x)))
  | _ => none
theorem l_mul (a : B8) (x : B8) : evalE K_double 60 Tryd.f102 [.s (.b8 a), .s (.b8 x)] [] [] [] = some (.s (.b8 (mul a x)), [], []) :=
  byte_all (f := fun x => evalE K_double 60 Tryd.f102 [.s (.b8 a), .s (.b8 x)] [] [] []) (g := fun x => some (.s (.b8 (mul a x)), [], [])) (by kernel_rfl) x
theorem e_mul (G : Gl) : EntryOk G Tryd.prog 102 (pureSp sp_mul) := by
  refine entry_pure (Go.Mo.enters_of Tryd.func102 (by kernel_rfl)) ?_
  intro args v h π vargs ha fresh m
  unfold sp_mul at h
  split at h
  · rename_i a x
    cases h
    exact fitsP (K := K_double) (obs := []) ((good_double G).good mixed) 60 _ [] Tryd.func102 (l_mul _ _) (by intro p hp; cases hp) (by kernel_rfl) rfl rfl fresh m
  · cases h
def E_mul : List (Nat × Mo.Spec) := (102, pureSp sp_mul) :: E_double
def K_mul : Cx := cxOf Tryd.prog E_mul
theorem good_mul (G : Gl) : EnvL G Tryd.prog E_mul := .cons (e_mul G) (good_double G)
end
end Go.Proofs.YtamlbiaakogahaaDoor
