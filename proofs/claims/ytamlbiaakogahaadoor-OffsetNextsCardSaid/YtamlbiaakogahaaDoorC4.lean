/- Contracts of functions by the evaluator (C4). -/
import Derived.Test.YtamlbiaakogahaaDoorSp1
import Derived.Test.YtamlbiaakogahaaDoorCF
import Derived.Test.YtamlbiaakogahaaDoorProg
namespace Go.Proofs.YtamlbiaakogahaaDoor
open Go Go.Mo
noncomputable section
def sp_rotate : List V → Option V
  | [.s (.b32 w), .s (.i .i64 (.ofNat n))] => bif Nat.blt n 4 then some (.s (.b32 (rot8 w n))) else none
  | _ => none
theorem l_rotate (w : B32) (n : Nat) (h : n < 4) : evalE K_fill 60 Tryd.f114 [.s (.b32 w), .s (.i .i64 (.ofNat n))] [] [] [] = some (.s (.b32 (rot8 w n)), [], []) :=
  tab_all (f := fun n => evalE K_fill 60 Tryd.f114 [.s (.b32 w), .s (.i .i64 (.ofNat n))] [] [] []) (g := fun n => some (.s (.b32 (rot8 w n)), [], [])) (N := 4) (by kernel_rfl) n h
theorem e_rotate (G : Gl) : EntryOk G Tryd.prog 114 (pureSp sp_rotate) := by
  refine entry_pure (Go.Mo.enters_of Tryd.func114 (by kernel_rfl)) ?_
  intro args v h π vargs ha fresh m
  unfold sp_rotate at h
  split at h
  · rename_i w n
    cases hc : Nat.blt n 4 <;> simp only [hc, cond_true, cond_false] at h
    · cases h
    cases h
    exact fitsP (K := K_fill) (obs := []) ((good_fill G).good mixed) 60 _ [] Tryd.func114 (l_rotate _ _ (Nat.le_of_ble_eq_true hc)) (by intro p hp; cases hp) (by kernel_rfl) rfl rfl fresh m
  · cases h
def E_rotate : List (Nat × Mo.Spec) := (114, pureSp sp_rotate) :: E_fill
def K_rotate : Cx := cxOf Tryd.prog E_rotate
theorem good_rotate (G : Gl) : EnvL G Tryd.prog E_rotate := .cons (e_rotate G) (good_fill G)

/-! fast.New: what it calls is kept as a name, so that the kernel does not look into it. -/
def spA_Expand (E : List B8 → List B8) : List V → Option V
  | [.a [.b8 16 l]] => some (.a [.b8 176 (E l)])
  | _ => none
def spA_Unmix (U : List B8 → List B8) : List V → Option V
  | [.a [.b8 16 l]] => some (.a [.b8 16 (U l)])
  | _ => none
def spA_fill (F B : List B32) : List V → Option V
  | [] => some (.a [.b32 256 F, .b32 256 B])
  | _ => none
def E_N (E U : List B8 → List B8) (F B : List B32) : List (Nat × Mo.Spec) :=
  (72, pureSp (spA_Expand E)) :: (74, pureSp (spA_Unmix U)) :: (71, pureSp (spA_fill F B)) :: E_rotate
def K_N (E U : List B8 → List B8) (F B : List B32) : Cx := cxOf Tryd.prog (E_N E U F B)
theorem spA_Expand_eq : spA_Expand expandL = sp_Expand := rfl
theorem spA_Unmix_eq : spA_Unmix unmixL = sp_Unmix := rfl
theorem spA_fill_eq : spA_fill fwdT bckT = sp_fill := rfl
theorem good_N (G : Gl) : EnvL G Tryd.prog (E_N expandL unmixL fwdT bckT) :=
  .cons (by rw [spA_Expand_eq]; exact e_Expand G) (.cons (by rw [spA_Unmix_eq]; exact e_Unmix G) (.cons (by rw [spA_fill_eq]; exact e_fill G) (good_rotate G)))
def put2 (F B : List B32) : List B32 := spliceN (spliceN (List.replicate 512 0) 0 256 F) 256 256 B
theorem put2_of {F B : List B32} (hF : F.length = 256) (hB : B.length = 256) : put2 F B = F ++ B := by
  unfold put2
  rw [spliceN_eq hF, spliceN_eq hB]
  have e1 : splice (List.replicate 512 (0 : B32)) 0 F = F ++ List.replicate 256 0 := by
    unfold splice
    rw [List.take_zero, List.nil_append, hF, Nat.zero_add, List.drop_replicate]
  rw [e1]
  unfold splice
  rw [List.take_left' hF, List.drop_eq_nil_of_le (by rw [List.length_append, List.length_replicate, hF, hB]; exact Nat.le_refl _), List.append_nil]
theorem put2_eq : put2 fwdT bckT = tab2 := put2_of fwdT_length bckT_length
theorem New_eval (E U : List B8 → List B8) (F B : List B32) (k : List B8) :
    evalE (K_N E U F B) 100 Tryd.f24 [.a [.b8 16 k]] [] [] [1] = some (.s (.ptr 1 0), [], newBlks [cipE E U (put2 F B) k]) := by kernel_rfl

def sp_New : Mo.Spec := fun args fresh =>
  match args with
  | [.a [.b8 16 k]] => .pure (.s (.ptr fresh 0), [cipherSegs k])
  | _ => .fail
theorem e_New (G : Gl) : EntryOk G Tryd.prog 24 sp_New := by
  intro args fresh m v news fp hx
  unfold sp_New at hx
  split at hx
  · rename_i k
    cases hx
    refine Fits.intro (Go.Mo.enters_of Tryd.func24 (by kernel_rfl)) fun π vargs ha => ?_
    exact fitsM (K := (K_N expandL unmixL fwdT bckT)) (obs := []) (v := .s (.ptr 1 0)) (gsl := [cipherSegs k]) ((good_N G).good mixed) 100 [.a [.b8 16 k]] [] [] [1] Tryd.func24 (by rw [New_eval, put2_eq]; rfl) (by intro p hp; cases hp) (by kernel_rfl) (fun i => i) sees0 fresh (by kernel_rfl) (by kernel_rfl) (by kernel_rfl)
  · cases hx
def E_New : List (Nat × Mo.Spec) := (24, sp_New) :: E_rotate
def K_New : Cx := cxOf Tryd.prog E_New
theorem good_New (G : Gl) : EnvL G Tryd.prog E_New := .cons (e_New G) (good_rotate G)
end
end Go.Proofs.YtamlbiaakogahaaDoor
