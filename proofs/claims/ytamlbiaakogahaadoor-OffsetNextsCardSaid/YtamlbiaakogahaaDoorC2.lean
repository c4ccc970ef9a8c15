/- Contracts of functions by the evaluator (C2). -/
import Derived.Test.YtamlbiaakogahaaDoorSp1
import Derived.Test.YtamlbiaakogahaaDoorC1
import Derived.Test.YtamlbiaakogahaaDoorProg
namespace Go.Proofs.YtamlbiaakogahaaDoor
open Go Go.Mo
noncomputable section
def sp_Next : List V → Option V
  | [.s (.i .i64 (.ofNat n)), .a [.b8 16 l]] => bif Nat.blt n 10 then some (.t [(false, [.b8 16 (nextL n l)]), (true, [.s (.bool true)])]) else none
  | _ => none
theorem l_Next (l : List B8) (n : Nat) (h : n < 10) : evalE K_forward 60 Tryd.f103 [.s (.i .i64 (.ofNat n)), .a [.b8 16 l]] [] [] [] = some (.t [(false, [.b8 16 (nextL n l)]), (true, [.s (.bool true)])], [], []) :=
  tab_all (f := fun n => evalE K_forward 60 Tryd.f103 [.s (.i .i64 (.ofNat n)), .a [.b8 16 l]] [] [] []) (g := fun n => some (.t [(false, [.b8 16 (nextL n l)]), (true, [.s (.bool true)])], [], [])) (N := 10) (by kernel_rfl) n h
theorem e_Next (G : Gl) : EntryOk G Tryd.prog 103 (pureSp sp_Next) := by
  refine entry_pure (Go.Mo.enters_of Tryd.func103 (by kernel_rfl)) ?_
  intro args v h π vargs ha fresh m
  unfold sp_Next at h
  split at h
  · rename_i n l
    cases hc : Nat.blt n 10 <;> simp only [hc, cond_true, cond_false] at h
    · cases h
    cases h
    exact fitsP (K := K_forward) (obs := []) ((good_forward G).good mixed) 60 _ [] Tryd.func103 (l_Next _ _ (Nat.le_of_ble_eq_true hc)) (by intro p hp; cases hp) (by kernel_rfl) rfl rfl fresh m
  · cases h
def E_Next : List (Nat × Mo.Spec) := (103, pureSp sp_Next) :: E_forward
def K_Next : Cx := cxOf Tryd.prog E_Next
theorem good_Next (G : Gl) : EnvL G Tryd.prog E_Next := .cons (e_Next G) (good_forward G)
def sp_Expand : List V → Option V
  | [.a [.b8 16 l]] => some (.a [.b8 176 (expandL l)])
  | _ => none
theorem e_Expand (G : Gl) : EntryOk G Tryd.prog 72 (pureSp sp_Expand) := by
  refine entry_pure (Go.Mo.enters_of Tryd.func72 (by kernel_rfl)) ?_
  intro args v h π vargs ha fresh m
  unfold sp_Expand at h
  split at h
  · rename_i l
    cases h
    obtain ⟨k0, k1, k2, k3, k4, k5, k6, k7, k8, k9, k10, k11, k12, k13, k14, k15, rfl⟩ := list16 (args_b8 ha)
    exact fitsP (K := K_Next) (obs := []) ((good_Next G).good mixed) 60 _ [] Tryd.func72 (by kernel_rfl) (by intro p hp; cases hp) (by kernel_rfl) rfl rfl fresh m
  · cases h
def E_Expand : List (Nat × Mo.Spec) := (72, pureSp sp_Expand) :: E_Next
def K_Expand : Cx := cxOf Tryd.prog E_Expand
theorem good_Expand (G : Gl) : EnvL G Tryd.prog E_Expand := .cons (e_Expand G) (good_Next G)
def sp_Sum : Mo.Spec := fun args _fresh =>
  match args with
  | [.s (.slice b 0 4 4)] => rd1 b fun g0 => match g0 with | [.b8 4 l] => some (.s (.b8 ((((0 ^^^ nth 0 l 0) ^^^ nth 0 l 1) ^^^ nth 0 l 2) ^^^ nth 0 l 3)), []) | _ => none
  | _ => .fail
theorem e_Sum (G : Gl) : EntryOk G Tryd.prog 126 sp_Sum := by
  intro args fresh m v news fp hx
  unfold sp_Sum at hx
  split at hx
  · rename_i b
    obtain ⟨x0, hb0, hk⟩ := rd1_run hx
    split at hk
    · rename_i l hg0
      cases hk
      refine Fits.intro (Go.Mo.enters_of Tryd.func126 (by kernel_rfl)) fun π vargs ha => ?_
      exact fitsM (K := K_Expand) (obs := []) (v := .s (.b8 ((((0 ^^^ nth 0 l 0) ^^^ nth 0 l 1) ^^^ nth 0 l 2) ^^^ nth 0 l 3))) (gsl := []) ((good_Expand G).good mixed) 60 [.s (.slice 0 0 4 4)] [[.b8 4 l]] [] [] Tryd.func126 (by kernel_rfl) (by intro p hp; cases hp) (by kernel_rfl) (at1 b) (sees1 hb0 hg0) fresh rfl rfl rfl
    · cases hk
  · cases hx
def E_Sum : List (Nat × Mo.Spec) := (126, sp_Sum) :: E_Expand
def K_Sum : Cx := cxOf Tryd.prog E_Sum
theorem good_Sum (G : Gl) : EnvL G Tryd.prog E_Sum := .cons (e_Sum G) (good_Expand G)
def sp_Dot : List V → Option V
  | [.a [.b8 4 x], .a [.b8 4 y]] => some (.s (.b8 (dotL x y)))
  | _ => none
theorem e_Dot (G : Gl) : EntryOk G Tryd.prog 122 (pureSp sp_Dot) := by
  refine entry_pure (Go.Mo.enters_of Tryd.func122 (by kernel_rfl)) ?_
  intro args v h π vargs ha fresh m
  unfold sp_Dot at h
  split at h
  · rename_i x y
    cases h
    exact fitsP (K := K_Sum) (obs := []) ((good_Sum G).good mixed) 60 _ [] Tryd.func122 (by kernel_rfl) (by intro p hp; cases hp) (by kernel_rfl) rfl rfl fresh m
  · cases h
def E_Dot : List (Nat × Mo.Spec) := (122, pureSp sp_Dot) :: E_Sum
def K_Dot : Cx := cxOf Tryd.prog E_Dot
theorem good_Dot (G : Gl) : EnvL G Tryd.prog E_Dot := .cons (e_Dot G) (good_Sum G)
def sp_columns1 : Mo.Spec := fun args _fresh =>
  match args with
  | [.s (.i .i64 (.ofNat n)), .s (.ptr r 0), .s (.ptr b 0)] => rd2 r b fun g0 g1 => match g0, g1 with | [.b8 4 row], [.b8 16 l] => bif Nat.blt n 16 then some (.s (.b8 (colDot row l n)), []) else none | _, _ => none
  | _ => .fail
theorem l_columns1 (row l : List B8) (n : Nat) (h : n < 16) : evalE K_Dot 60 Tryd.f121 [.s (.i .i64 (.ofNat n)), .s (.ptr 0 0), .s (.ptr 1 0)] [[.b8 4 row], [.b8 16 l]] [] [] = some (.s (.b8 (colDot row l n)), [], []) :=
  tab_all (f := fun n => evalE K_Dot 60 Tryd.f121 [.s (.i .i64 (.ofNat n)), .s (.ptr 0 0), .s (.ptr 1 0)] [[.b8 4 row], [.b8 16 l]] [] []) (g := fun n => some (.s (.b8 (colDot row l n)), [], [])) (N := 16) (by kernel_rfl) n h
theorem e_columns1 (G : Gl) : EntryOk G Tryd.prog 121 sp_columns1 := by
  intro args fresh m v news fp hx
  unfold sp_columns1 at hx
  split at hx
  · rename_i n r b
    obtain ⟨x0, x1, hb0, hb1, hk⟩ := rd2_run hx
    split at hk
    · rename_i row l hg0 hg1
      cases hc : Nat.blt n 16 <;> simp only [hc, cond_true, cond_false] at hk
      · cases hk
      cases hk
      refine Fits.intro (Go.Mo.enters_of Tryd.func121 (by kernel_rfl)) fun π vargs ha => ?_
      exact fitsM (K := K_Dot) (obs := []) (v := .s (.b8 (colDot row l n))) (gsl := []) ((good_Dot G).good mixed) 60 [.s (.i .i64 (.ofNat n)), .s (.ptr 0 0), .s (.ptr 1 0)] [[.b8 4 row], [.b8 16 l]] [] [] Tryd.func121 (l_columns1 _ _ _ (Nat.le_of_ble_eq_true hc)) (by intro p hp; cases hp) (by kernel_rfl) (at2 r b) (sees2 hb0 hg0 hb1 hg1) fresh rfl rfl rfl
    · cases hk
  · cases hx
def E_columns1 : List (Nat × Mo.Spec) := (121, sp_columns1) :: E_Dot
def K_columns1 : Cx := cxOf Tryd.prog E_columns1
theorem good_columns1 (G : Gl) : EnvL G Tryd.prog E_columns1 := .cons (e_columns1 G) (good_Dot G)
def sp_each_cols : Mo.Spec := fun args _fresh =>
  match args with
  | [.s (.fn 121 [(r, 0), (b, 0)])] => rd2 r b fun g0 g1 => match g0, g1 with | [.b8 4 row], [.b8 16 l] => some (.a [.b8 16 (columnsL row l)], []) | _, _ => none
  | _ => .fail
theorem e_each_cols (G : Gl) : EntryOk G Tryd.prog 120 sp_each_cols := by
  intro args fresh m v news fp hx
  unfold sp_each_cols at hx
  split at hx
  · rename_i r b
    obtain ⟨x0, x1, hb0, hb1, hk⟩ := rd2_run hx
    split at hk
    · rename_i row l hg0 hg1
      cases hk
      refine Fits.intro (Go.Mo.enters_of Tryd.func120 (by kernel_rfl)) fun π vargs ha => ?_
      exact fitsM (K := K_columns1) (obs := []) (v := .a [.b8 16 (columnsL row l)]) (gsl := []) ((good_columns1 G).good mixed) 60 [.s (.fn 121 [(0, 0), (1, 0)])] [[.b8 4 row], [.b8 16 l]] [] [] Tryd.func120 (by kernel_rfl) (by intro p hp; cases hp) (by kernel_rfl) (at2 r b) (sees2 hb0 hg0 hb1 hg1) fresh rfl rfl rfl
    · cases hk
  · cases hx
def E_each_cols : List (Nat × Mo.Spec) := (120, sp_each_cols) :: E_columns1
def K_each_cols : Cx := cxOf Tryd.prog E_each_cols
theorem good_each_cols (G : Gl) : EnvL G Tryd.prog E_each_cols := .cons (e_each_cols G) (good_columns1 G)
def sp_columns : List V → Option V
  | [.a [.b8 16 l], .a [.b8 4 row]] => some (.a [.b8 16 (columnsL row l)])
  | _ => none
theorem e_columns (G : Gl) : EntryOk G Tryd.prog 104 (pureSp sp_columns) := by
  refine entry_pure (Go.Mo.enters_of Tryd.func104 (by kernel_rfl)) ?_
  intro args v h π vargs ha fresh m
  unfold sp_columns at h
  split at h
  · rename_i l row
    cases h
    exact fitsP (K := K_each_cols) (obs := []) ((good_each_cols G).good mixed) 60 _ [] Tryd.func104 (by kernel_rfl) (by intro p hp; cases hp) (by kernel_rfl) rfl rfl fresh m
  · cases h
def E_columns : List (Nat × Mo.Spec) := (104, pureSp sp_columns) :: E_each_cols
def K_columns : Cx := cxOf Tryd.prog E_columns
theorem good_columns (G : Gl) : EnvL G Tryd.prog E_columns := .cons (e_columns G) (good_each_cols G)
def sp_Unmix : List V → Option V
  | [.a [.b8 16 l]] => some (.a [.b8 16 (unmixL l)])
  | _ => none
theorem e_Unmix (G : Gl) : EntryOk G Tryd.prog 74 (pureSp sp_Unmix) := by
  refine entry_pure (Go.Mo.enters_of Tryd.func74 (by kernel_rfl)) ?_
  intro args v h π vargs ha fresh m
  unfold sp_Unmix at h
  split at h
  · rename_i l
    cases h
    exact fitsP (K := K_columns) (obs := []) ((good_columns G).good mixed) 60 _ [] Tryd.func74 (by kernel_rfl) (by intro p hp; cases hp) (by kernel_rfl) rfl rfl fresh m
  · cases h
def E_Unmix : List (Nat × Mo.Spec) := (74, pureSp sp_Unmix) :: E_columns
def K_Unmix : Cx := cxOf Tryd.prog E_Unmix
theorem good_Unmix (G : Gl) : EnvL G Tryd.prog E_Unmix := .cons (e_Unmix G) (good_columns G)
end
end Go.Proofs.YtamlbiaakogahaaDoor
