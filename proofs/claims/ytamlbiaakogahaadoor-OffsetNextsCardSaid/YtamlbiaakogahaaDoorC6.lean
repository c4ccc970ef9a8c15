/- Contracts of functions by the evaluator (C6). -/
import Derived.Test.YtamlbiaakogahaaDoorCZ
import Derived.Test.YtamlbiaakogahaaDoorMo13
import Derived.Test.YtamlbiaakogahaaDoorProg
namespace Go.Proofs.YtamlbiaakogahaaDoor
open Go Go.Mo
noncomputable section
def sp_Zeros : List V → Option V
  | [.s (.b64 x)] => some (.s (.si (tzI x)))
  | _ => none
theorem e_Zeros (G : Gl) (hG : DB G) : EntryOk G Tryd.prog 75 (pureSp sp_Zeros) := by
  refine entry_pure (Go.Mo.enters_of Tryd.func75 (by kernel_rfl)) ?_
  intro args v h π vargs ha fresh m
  unfold sp_Zeros at h
  split at h
  · rename_i x
    cases h
    exact fitsP (K := K_TZ) (obs := []) ((good_TZ G hG).good mixed) 60 _ [] Tryd.func75 (by kernel_rfl) (by intro p hp; cases hp) (by kernel_rfl) rfl rfl fresh m
  · cases h
def E_Zeros : List (Nat × Mo.Spec) := (75, pureSp sp_Zeros) :: E_TZ
def K_Zeros : Cx := cxOf Tryd.prog E_Zeros
theorem good_Zeros (G : Gl) (hG : DB G) : EnvL G Tryd.prog E_Zeros := .cons (e_Zeros G hG) (good_TZ G hG)
def sp_Dbl : List V → Option V
  | [.a [.b8 16 l]] => some (.a [.b8 16 (dblL l)])
  | _ => none
theorem e_Dbl (G : Gl) (hG : DB G) : EntryOk G Tryd.prog 70 (pureSp sp_Dbl) := by
  refine entry_pure (Go.Mo.enters_of Tryd.func70 (by kernel_rfl)) ?_
  intro args v h π vargs ha fresh m
  unfold sp_Dbl at h
  split at h
  · rename_i l
    cases h
    obtain ⟨k0, k1, k2, k3, k4, k5, k6, k7, k8, k9, k10, k11, k12, k13, k14, k15, rfl⟩ := list16 (args_b8 ha)
    exact fitsP (K := K_Zeros) (obs := []) ((good_Zeros G hG).good mixed) 60 _ [] Tryd.func70 (by kernel_rfl) (by intro p hp; cases hp) (by kernel_rfl) rfl rfl fresh m
  · cases h
def E_Dbl : List (Nat × Mo.Spec) := (70, pureSp sp_Dbl) :: E_Zeros
def K_Dbl : Cx := cxOf Tryd.prog E_Dbl
theorem good_Dbl (G : Gl) (hG : DB G) : EnvL G Tryd.prog E_Dbl := .cons (e_Dbl G hG) (good_Zeros G hG)
def sp_Xor : List V → Option V
  | [.a [.b8 16 a], .a [.b8 16 b]] => some (.a [.b8 16 (xorL a b)])
  | _ => none
theorem e_Xor (G : Gl) (hG : DB G) : EntryOk G Tryd.prog 85 (pureSp sp_Xor) := by
  refine entry_pure (Go.Mo.enters_of Tryd.func85 (by kernel_rfl)) ?_
  intro args v h π vargs ha fresh m
  unfold sp_Xor at h
  split at h
  · rename_i a b
    cases h
    obtain ⟨k0, k1, k2, k3, k4, k5, k6, k7, k8, k9, k10, k11, k12, k13, k14, k15, rfl⟩ := list16 (args_b8 ha)
    obtain ⟨_, hb⟩ := args_tail ha
    obtain ⟨q0, q1, q2, q3, q4, q5, q6, q7, q8, q9, q10, q11, q12, q13, q14, q15, rfl⟩ := list16 (args_b8 hb)
    exact fitsP (K := K_Dbl) (obs := []) ((good_Dbl G hG).good mixed) 60 _ [] Tryd.func85 (by kernel_rfl) (by intro p hp; cases hp) (by kernel_rfl) rfl rfl fresh m
  · cases h
def E_Xor : List (Nat × Mo.Spec) := (85, pureSp sp_Xor) :: E_Dbl
def K_Xor : Cx := cxOf Tryd.prog E_Xor
theorem good_Xor (G : Gl) (hG : DB G) : EnvL G Tryd.prog E_Xor := .cons (e_Xor G hG) (good_Dbl G hG)

def spA_Enc (R : List B32 → List B32 → List B8 → List B8) : Mo.Spec := fun args _fresh =>
  match args with
  | [.s (.ptr b 0), .a [.b8 16 x]] => rd1 b fun g0 => match g0 with | [.s (.bool true), .b32 44 kf, .b32 44 _, .b8 16 _, .b32 512 T] => some (.a [.b8 16 (R T kf x)], []) | _ => none
  | _ => .fail
def spA_Dbl (D : List B8 → List B8) : List V → Option V
  | [.a [.b8 16 l]] => some (.a [.b8 16 (D l)])
  | _ => none
def spA_EncN (z : List B8) : Mo.Spec := fun args _fresh =>
  match args with
  | [.s .nil, .a [.b8 16 _]] => .pure (.a [.b8 16 z], [])
  | _ => .fail
def E_T (R : List B32 → List B32 → List B8 → List B8) (D : List B8 → List B8) : List (Nat × Mo.Spec) := (69, spA_Enc R) :: (70, pureSp (spA_Dbl D)) :: E_Xor
def K_T (R : List B32 → List B32 → List B8 → List B8) (D : List B8 → List B8) : Cx := cxOf Tryd.prog (E_T R D)
theorem good_T (G : Gl) (hG : DB G) : EnvL G Tryd.prog (E_T (runF 0 1 sb) dblL) := .cons (e_EncP G) (.cons (e_Dbl G hG) (good_Xor G hG))
theorem l_NewP (R : List B32 → List B32 → List B8 → List B8) (D : List B8 → List B8) (kf kb : List B32) (k : List B8) (T : List B32) :
    evalE (K_T R D) 100 Tryd.f23 [.s (.ptr 0 0)] [[.s (.bool true), .b32 44 kf, .b32 44 kb, .b8 16 k, .b32 512 T]] [] [1] = some (.s (.ptr 1 0), [], newBlks [tabE D (.ptr 0 0) (R T kf z16)]) := by kernel_rfl

def sp_TNewP : Mo.Spec := fun args fresh =>
  match args with
  | [.s (.ptr b 0)] => rd1 b fun g0 => match g0 with | [.s (.bool true), .b32 44 kf, .b32 44 _, .b8 16 _, .b32 512 T] => some (.s (.ptr fresh 0), [tabE dblL (.ptr b 0) (runF 0 1 sb T kf z16)]) | _ => none
  | _ => .fail
theorem e_TNewP (G : Gl) (hG : DB G) : EntryOk G Tryd.prog 23 sp_TNewP := by
  intro args fresh m v news fp hx
  unfold sp_TNewP at hx
  split at hx
  · rename_i b
    obtain ⟨x0, hb0, hk⟩ := rd1_run hx
    split at hk
    · rename_i kf kb k T hg0
      cases hk
      refine Fits.intro (Go.Mo.enters_of Tryd.func23 (by kernel_rfl)) fun π vargs ha => ?_
      exact fitsM (K := (K_T (runF 0 1 sb) dblL)) (obs := []) (v := .s (.ptr 1 0)) (gsl := [tabE dblL (.ptr 0 0) (runF 0 1 sb T kf z16)]) ((good_T G hG).good mixed) 100 [.s (.ptr 0 0)] [[.s (.bool true), .b32 44 kf, .b32 44 kb, .b8 16 k, .b32 512 T]] [] [1] Tryd.func23 (l_NewP _ _ _ _ _ _) (by intro p hp; cases hp) (by kernel_rfl) (at1 b) (sees1 hb0 hg0) fresh (by kernel_rfl) (by kernel_rfl) (by kernel_rfl)
    · cases hk
  · cases hx
def spB_EncN (z : List B8 → List B8) : Mo.Spec := fun args _fresh =>
  match args with
  | [.s .nil, .a [.b8 16 x]] => .pure (.a [.b8 16 (z x)], [])
  | _ => .fail
def E_T' (z : List B8 → List B8) (D : List B8 → List B8) : List (Nat × Mo.Spec) := (69, spB_EncN z) :: (70, pureSp (spA_Dbl D)) :: E_Xor
def K_T' (z : List B8 → List B8) (D : List B8 → List B8) : Cx := cxOf Tryd.prog (E_T' z D)
theorem good_T' (G : Gl) (hG : DB G) : EnvL G Tryd.prog (E_T' (encF z16) dblL) := .cons (e_EncN G) (.cons (e_Dbl G hG) (good_Xor G hG))
theorem l_NewN (z D : List B8 → List B8) :
    evalE (K_T' z D) 100 Tryd.f23 [.s .nil] [] [] [0] = some (.s (.ptr 0 0), [], newBlks [tabE D .nil (z z16)]) := by kernel_rfl
/-- The star of a table without a cipher. -/
def star0 : List B8 := encF z16 z16

def sp_TNewN : Mo.Spec := fun args fresh =>
  match args with
  | [.s .nil] => .pure (.s (.ptr fresh 0), [tabE dblL .nil star0])
  | _ => .fail
theorem e_TNewN (G : Gl) (hG : DB G) : EntryOk G Tryd.prog 23 sp_TNewN := by
  intro args fresh m v news fp hx
  unfold sp_TNewN at hx
  split at hx
  · skip
    cases hx
    refine Fits.intro (Go.Mo.enters_of Tryd.func23 (by kernel_rfl)) fun π vargs ha => ?_
    exact fitsM (K := (K_T' (encF z16) dblL)) (obs := []) (v := .s (.ptr 0 0)) (gsl := [tabE dblL .nil star0]) ((good_T' G hG).good mixed) 100 [.s .nil] [] [] [0] Tryd.func23 (l_NewN _ _) (by intro p hp; cases hp) (by kernel_rfl) (fun i => i) sees0 fresh (by kernel_rfl) (by kernel_rfl) (by kernel_rfl)
  · cases hx
def sp_TNew : Mo.Spec := altSp firstNil sp_TNewN sp_TNewP
theorem e_TNew (G : Gl) (hG : DB G) : EntryOk G Tryd.prog 23 sp_TNew := EntryOk.alt firstNil (e_TNewN G hG) (e_TNewP G hG)
def E_TNew : List (Nat × Mo.Spec) := (23, sp_TNew) :: E_Xor
def K_TNew : Cx := cxOf Tryd.prog E_TNew
theorem good_TNew (G : Gl) (hG : DB G) : EnvL G Tryd.prog E_TNew := .cons (e_TNew G hG) (good_Xor G hG)
def sp_TrightN : Mo.Spec := fun args fresh =>
  match args with
  | [.s .nil] => .pure (.s (.ptr fresh 0), [tabE dblL .nil star0])
  | _ => .fail
theorem e_TrightN (G : Gl) (hG : DB G) : EntryOk G Tryd.prog 81 sp_TrightN := by
  intro args fresh m v news fp hx
  unfold sp_TrightN at hx
  split at hx
  · skip
    cases hx
    refine Fits.intro (Go.Mo.enters_of Tryd.func81 (by kernel_rfl)) fun π vargs ha => ?_
    exact fitsM (K := K_TNew) (obs := []) (v := .s (.ptr 0 0)) (gsl := [tabE dblL .nil star0]) ((good_TNew G hG).good mixed) 100 [.s .nil] [] [] [0] Tryd.func81 (by kernel_rfl) (by intro p hp; cases hp) (by kernel_rfl) (fun i => i) sees0 fresh (by kernel_rfl) (by kernel_rfl) (by kernel_rfl)
  · cases hx
def sp_TrightU : Mo.Spec := fun args _fresh =>
  match args with
  | [.s (.ptr b 0)] => rd1 b fun g0 => match g0 with | [.s .nil, .b8 16 _, .b8 16 _, .b8 1024 _] => some (.s (.ptr b 0), []) | _ => none
  | _ => .fail
theorem e_TrightU (G : Gl) (hG : DB G) : EntryOk G Tryd.prog 81 sp_TrightU := by
  intro args fresh m v news fp hx
  unfold sp_TrightU at hx
  split at hx
  · rename_i b
    obtain ⟨x0, hb0, hk⟩ := rd1_run hx
    split at hk
    · rename_i st dl bl hg0
      cases hk
      refine Fits.intro (Go.Mo.enters_of Tryd.func81 (by kernel_rfl)) fun π vargs ha => ?_
      exact fitsM (K := K_TNew) (obs := []) (v := .s (.ptr 0 0)) (gsl := []) ((good_TNew G hG).good mixed) 60 [.s (.ptr 0 0)] [[.s .nil, .b8 16 st, .b8 16 dl, .b8 1024 bl]] [] [] Tryd.func81 (by kernel_rfl) (by intro p hp; cases hp) (by kernel_rfl) (at1 b) (sees1 hb0 hg0) fresh rfl rfl rfl
    · cases hk
  · cases hx
def sp_TrightT : Mo.Spec := fun args _fresh =>
  match args with
  | [.s (.ptr t 0)] => rdT t fun _c _p => some (.s (.ptr t 0), [])
  | _ => .fail
theorem e_TrightT (G : Gl) (hG : DB G) : EntryOk G Tryd.prog 81 sp_TrightT := by
  intro args fresh m v news fp hx
  unfold sp_TrightT at hx
  split at hx
  · rename_i t
    obtain ⟨c, p, x, y, h1, h2, h3, h4, hk⟩ := rdT_run hx
    cases hk
    refine Fits.intro (Go.Mo.enters_of Tryd.func81 (by kernel_rfl)) fun π vargs ha => ?_
    exact fitsM (K := K_TNew) (obs := []) (v := .s (.ptr 0 0)) (gsl := []) ((good_TNew G hG).good mixed) 60 [.s (.ptr 0 0)] [tabC (.ptr 1 0) p.st p.dl p.bl, ciphC p.kf p.kb p.k p.T] [] [] Tryd.func81 (by kernel_rfl) (by intro p hp; cases hp) (by kernel_rfl) (at2 t c) (seesT h1 h2 h3 h4) fresh rfl rfl rfl
  · cases hx
def sp_Tright : Mo.Spec := altSp firstNil sp_TrightN (orU sp_TrightU sp_TrightT)
theorem e_Tright (G : Gl) (hG : DB G) : EntryOk G Tryd.prog 81 sp_Tright := EntryOk.alt firstNil (e_TrightN G hG) (EntryOk.orU (e_TrightU G hG) (e_TrightT G hG))
def E_Tright : List (Nat × Mo.Spec) := (81, sp_Tright) :: E_TNew
def K_Tright : Cx := cxOf Tryd.prog E_Tright
theorem good_Tright (G : Gl) (hG : DB G) : EnvL G Tryd.prog E_Tright := .cons (e_Tright G hG) (good_TNew G hG)
def sp_StarN : Mo.Spec := fun args _fresh =>
  match args with
  | [.s .nil] => .pure (.a [.b8 16 star0], [])
  | _ => .fail
theorem e_StarN (G : Gl) (hG : DB G) : EntryOk G Tryd.prog 32 sp_StarN := by
  intro args fresh m v news fp hx
  unfold sp_StarN at hx
  split at hx
  · skip
    cases hx
    refine Fits.intro (Go.Mo.enters_of Tryd.func32 (by kernel_rfl)) fun π vargs ha => ?_
    exact fitsM (K := K_Tright) (obs := []) (v := .a [.b8 16 star0]) (gsl := []) ((good_Tright G hG).good mixed) 100 [.s .nil] [] [] [] Tryd.func32 (by kernel_rfl) (by intro p hp; cases hp) (by kernel_rfl) (fun i => i) sees0 fresh (by kernel_rfl) (by kernel_rfl) (by kernel_rfl)
  · cases hx
def sp_StarU : Mo.Spec := fun args _fresh =>
  match args with
  | [.s (.ptr b 0)] => rd1 b fun g0 => match g0 with | [.s .nil, .b8 16 st, .b8 16 _, .b8 1024 _] => some (.a [.b8 16 st], []) | _ => none
  | _ => .fail
theorem e_StarU (G : Gl) (hG : DB G) : EntryOk G Tryd.prog 32 sp_StarU := by
  intro args fresh m v news fp hx
  unfold sp_StarU at hx
  split at hx
  · rename_i b
    obtain ⟨x0, hb0, hk⟩ := rd1_run hx
    split at hk
    · rename_i st dl bl hg0
      cases hk
      refine Fits.intro (Go.Mo.enters_of Tryd.func32 (by kernel_rfl)) fun π vargs ha => ?_
      exact fitsM (K := K_Tright) (obs := []) (v := .a [.b8 16 st]) (gsl := []) ((good_Tright G hG).good mixed) 60 [.s (.ptr 0 0)] [[.s .nil, .b8 16 st, .b8 16 dl, .b8 1024 bl]] [] [] Tryd.func32 (by kernel_rfl) (by intro p hp; cases hp) (by kernel_rfl) (at1 b) (sees1 hb0 hg0) fresh rfl rfl rfl
    · cases hk
  · cases hx
def sp_StarT : Mo.Spec := fun args _fresh =>
  match args with
  | [.s (.ptr t 0)] => rdT t fun _c p => some (.a [.b8 16 p.st], [])
  | _ => .fail
theorem e_StarT (G : Gl) (hG : DB G) : EntryOk G Tryd.prog 32 sp_StarT := by
  intro args fresh m v news fp hx
  unfold sp_StarT at hx
  split at hx
  · rename_i t
    obtain ⟨c, p, x, y, h1, h2, h3, h4, hk⟩ := rdT_run hx
    cases hk
    refine Fits.intro (Go.Mo.enters_of Tryd.func32 (by kernel_rfl)) fun π vargs ha => ?_
    exact fitsM (K := K_Tright) (obs := []) (v := .a [.b8 16 p.st]) (gsl := []) ((good_Tright G hG).good mixed) 60 [.s (.ptr 0 0)] [tabC (.ptr 1 0) p.st p.dl p.bl, ciphC p.kf p.kb p.k p.T] [] [] Tryd.func32 (by kernel_rfl) (by intro p hp; cases hp) (by kernel_rfl) (at2 t c) (seesT h1 h2 h3 h4) fresh rfl rfl rfl
  · cases hx
def sp_Star : Mo.Spec := altSp firstNil sp_StarN (orU sp_StarU sp_StarT)
theorem e_Star (G : Gl) (hG : DB G) : EntryOk G Tryd.prog 32 sp_Star := EntryOk.alt firstNil (e_StarN G hG) (EntryOk.orU (e_StarU G hG) (e_StarT G hG))
def E_Star : List (Nat × Mo.Spec) := (32, sp_Star) :: E_Tright
def K_Star : Cx := cxOf Tryd.prog E_Star
theorem good_Star (G : Gl) (hG : DB G) : EnvL G Tryd.prog E_Star := .cons (e_Star G hG) (good_Tright G hG)
def sp_DollarN : Mo.Spec := fun args _fresh =>
  match args with
  | [.s .nil] => .pure (.a [.b8 16 (dblL star0)], [])
  | _ => .fail
theorem e_DollarN (G : Gl) (hG : DB G) : EntryOk G Tryd.prog 33 sp_DollarN := by
  intro args fresh m v news fp hx
  unfold sp_DollarN at hx
  split at hx
  · skip
    cases hx
    refine Fits.intro (Go.Mo.enters_of Tryd.func33 (by kernel_rfl)) fun π vargs ha => ?_
    exact fitsM (K := K_Star) (obs := []) (v := .a [.b8 16 (dblL star0)]) (gsl := []) ((good_Star G hG).good mixed) 100 [.s .nil] [] [] [] Tryd.func33 (by kernel_rfl) (by intro p hp; cases hp) (by kernel_rfl) (fun i => i) sees0 fresh (by kernel_rfl) (by kernel_rfl) (by kernel_rfl)
  · cases hx
def sp_DollarT : Mo.Spec := fun args _fresh =>
  match args with
  | [.s (.ptr t 0)] => rdT t fun _c p => some (.a [.b8 16 p.dl], [])
  | _ => .fail
theorem e_DollarT (G : Gl) (hG : DB G) : EntryOk G Tryd.prog 33 sp_DollarT := by
  intro args fresh m v news fp hx
  unfold sp_DollarT at hx
  split at hx
  · rename_i t
    obtain ⟨c, p, x, y, h1, h2, h3, h4, hk⟩ := rdT_run hx
    cases hk
    refine Fits.intro (Go.Mo.enters_of Tryd.func33 (by kernel_rfl)) fun π vargs ha => ?_
    exact fitsM (K := K_Star) (obs := []) (v := .a [.b8 16 p.dl]) (gsl := []) ((good_Star G hG).good mixed) 60 [.s (.ptr 0 0)] [tabC (.ptr 1 0) p.st p.dl p.bl, ciphC p.kf p.kb p.k p.T] [] [] Tryd.func33 (by kernel_rfl) (by intro p hp; cases hp) (by kernel_rfl) (at2 t c) (seesT h1 h2 h3 h4) fresh rfl rfl rfl
  · cases hx
def sp_Dollar : Mo.Spec := altSp firstNil sp_DollarN sp_DollarT
theorem e_Dollar (G : Gl) (hG : DB G) : EntryOk G Tryd.prog 33 sp_Dollar := EntryOk.alt firstNil (e_DollarN G hG) (e_DollarT G hG)
def E_Dollar : List (Nat × Mo.Spec) := (33, sp_Dollar) :: E_Star
def K_Dollar : Cx := cxOf Tryd.prog E_Dollar
theorem good_Dollar (G : Gl) (hG : DB G) : EnvL G Tryd.prog E_Dollar := .cons (e_Dollar G hG) (good_Star G hG)
def sp_CipherN : Mo.Spec := fun args _fresh =>
  match args with
  | [.s .nil] => .pure (.s .nil, [])
  | _ => .fail
theorem e_CipherN (G : Gl) (hG : DB G) : EntryOk G Tryd.prog 34 sp_CipherN := by
  intro args fresh m v news fp hx
  unfold sp_CipherN at hx
  split at hx
  · skip
    cases hx
    refine Fits.intro (Go.Mo.enters_of Tryd.func34 (by kernel_rfl)) fun π vargs ha => ?_
    exact fitsM (K := K_Dollar) (obs := []) (v := .s .nil) (gsl := []) ((good_Dollar G hG).good mixed) 100 [.s .nil] [] [] [] Tryd.func34 (by kernel_rfl) (by intro p hp; cases hp) (by kernel_rfl) (fun i => i) sees0 fresh (by kernel_rfl) (by kernel_rfl) (by kernel_rfl)
  · cases hx
def sp_CipherT : Mo.Spec := fun args _fresh =>
  match args with
  | [.s (.ptr t 0)] => rdT t fun c _p => some (.s (.ptr c 0), [])
  | _ => .fail
theorem e_CipherT (G : Gl) (hG : DB G) : EntryOk G Tryd.prog 34 sp_CipherT := by
  intro args fresh m v news fp hx
  unfold sp_CipherT at hx
  split at hx
  · rename_i t
    obtain ⟨c, p, x, y, h1, h2, h3, h4, hk⟩ := rdT_run hx
    cases hk
    refine Fits.intro (Go.Mo.enters_of Tryd.func34 (by kernel_rfl)) fun π vargs ha => ?_
    exact fitsM (K := K_Dollar) (obs := []) (v := .s (.ptr 1 0)) (gsl := []) ((good_Dollar G hG).good mixed) 60 [.s (.ptr 0 0)] [tabC (.ptr 1 0) p.st p.dl p.bl, ciphC p.kf p.kb p.k p.T] [] [] Tryd.func34 (by kernel_rfl) (by intro p hp; cases hp) (by kernel_rfl) (at2 t c) (seesT h1 h2 h3 h4) fresh rfl rfl rfl
  · cases hx
def sp_TCipher : Mo.Spec := altSp firstNil sp_CipherN sp_CipherT
theorem e_TCipher (G : Gl) (hG : DB G) : EntryOk G Tryd.prog 34 sp_TCipher := EntryOk.alt firstNil (e_CipherN G hG) (e_CipherT G hG)
def E_TCipher : List (Nat × Mo.Spec) := (34, sp_TCipher) :: E_Dollar
def K_TCipher : Cx := cxOf Tryd.prog E_TCipher
theorem good_TCipher (G : Gl) (hG : DB G) : EnvL G Tryd.prog E_TCipher := .cons (e_TCipher G hG) (good_Dollar G hG)
end
end Go.Proofs.YtamlbiaakogahaaDoor
