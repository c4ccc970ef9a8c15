/- Contracts of functions by the evaluator (C0). -/
import Derived.Test.YtamlbiaakogahaaDoorSp1
import Derived.Test.YtamlbiaakogahaaDoorCS
import Derived.Test.YtamlbiaakogahaaDoorProg
import Derived.Test.YtamlbiaakogahaaDoorMo13

namespace Go.Proofs.YtamlbiaakogahaaDoor
open Go Go.Mo
noncomputable section
def sp_double : List V → Option V
  | [.s (.b8 x)] => some (.s (.b8 (dbl x)))
  | _ => none
theorem l_double  (x : B8) : evalE K_0 60 Tryd.f116 [.s (.b8 x)] [] [] [] = some (.s (.b8 (dbl x)), [], []) :=
  byte_all (f := fun x => evalE K_0 60 Tryd.f116 [.s (.b8 x)] [] [] []) (g := fun x => some (.s (.b8 (dbl x)), [], [])) (by kernel_rfl) x
theorem e_double (G : Gl) : EntryOk G Tryd.prog 116 (pureSp sp_double) := by
  refine entry_pure (Go.Mo.enters_of Tryd.func116 (by kernel_rfl)) ?_
  intro args v h π vargs ha fresh m
  unfold sp_double at h
  split at h
  · rename_i x
    cases h
    exact fitsP (K := K_0) (obs := []) ((good_0 G).good mixed) 60 _ [] Tryd.func116 (l_double _) (by intro p hp; cases hp) (by kernel_rfl) rfl rfl fresh m
  · cases h
def E_double : List (Nat × Mo.Spec) := (116, pureSp sp_double) :: E_0
def K_double : Cx := cxOf Tryd.prog E_double
theorem good_double (G : Gl) : EnvL G Tryd.prog E_double := .cons (e_double G) (good_0 G)
def sp_mul : List V → Option V
  | [.s (.b8 a), .s (.b8 x)] => some (.s (.b8 (mul a x)))
  | _ => none
theorem l_mul (a : B8) (x : B8) : evalE K_double 60 Tryd.f102 [.s (.b8 a), .s (.b8 x)] [] [] [] = some (.s (.b8 (mul a x)), [], []) :=
  byte_all (f := fun x => evalE K_double 60 Tryd.f102 [.s (.b8 a), .s (.b8 x)] [] [] []) (g := fun x => some (.s (.b8 (mul a x)), [], [])) (by kernel_rfl) x
theorem e_mul (G : Gl) : EntryOk G Tryd.prog 102 (pureSp sp_mul) := by
  refine entry_pure (Go.Mo.enters_of Tryd.func102 (by kernel_rfl)) ?_
  intro args v h π vargs ha fresh m
  unfold sp_mul at h
  split at h
  · rename_i a x
    cases h
    exact fitsP (K := K_double) (obs := []) ((good_double G).good mixed) 60 _ [] Tryd.func102 (l_mul _ _) (by intro p hp; cases hp) (by kernel_rfl) rfl rfl fresh m
  · cases h
def E_mul : List (Nat × Mo.Spec) := (102, pureSp sp_mul) :: E_double
def K_mul : Cx := cxOf Tryd.prog E_mul
theorem good_mul (G : Gl) : EnvL G Tryd.prog E_mul := .cons (e_mul G) (good_double G)
end
end Go.Proofs.YtamlbiaakogahaaDoor


namespace Go.Proofs.YtamlbiaakogahaaDoor
open Go Go.Mo
noncomputable section
def sp_table : List V → Option V
  | [] => some (.a [.b8 256 sboxL])
  | _ => none
theorem e_table (G : Gl) : EntryOk G Tryd.prog 115 (pureSp sp_table) := by
  refine entry_pure (Go.Mo.enters_of Tryd.func115 (by kernel_rfl)) ?_
  intro args v h π vargs ha fresh m
  unfold sp_table at h
  split at h
  · skip
    cases h
    exact fitsP (K := K_mul) (obs := []) ((good_mul G).good mixed) 60 _ [] Tryd.func115 (by kernel_rfl) (by intro p hp; cases hp) (by kernel_rfl) rfl rfl fresh m
  · cases h
def E_table : List (Nat × Mo.Spec) := (115, pureSp sp_table) :: E_mul
def K_table : Cx := cxOf Tryd.prog E_table
theorem good_table (G : Gl) : EnvL G Tryd.prog E_table := .cons (e_table G) (good_mul G)
def sp_S : List V → Option V
  | [.s (.b8 x)] => some (.s (.b8 (sb x)))
  | _ => none
theorem e_S (G : Gl) : EntryOk G Tryd.prog 99 (pureSp sp_S) := by
  refine entry_pure (Go.Mo.enters_of Tryd.func99 (by kernel_rfl)) ?_
  intro args v h π vargs ha fresh m
  unfold sp_S at h
  split at h
  · rename_i x
    cases h
    exact fitsP (K := K_table) (obs := []) ((good_table G).good mixed) 60 _ [] Tryd.func99 (by kernel_rfl) (by intro p hp; cases hp) (by kernel_rfl) rfl rfl fresh m
  · cases h
def E_S : List (Nat × Mo.Spec) := (99, pureSp sp_S) :: E_table
def K_S : Cx := cxOf Tryd.prog E_S
theorem good_S (G : Gl) : EnvL G Tryd.prog E_S := .cons (e_S G) (good_table G)
def sp_column : List V → Option V
  | [.s (.b8 a), .s (.b8 b), .s (.b8 d), .s (.b8 e)] => some (.s (.b32 (col a b d e)))
  | _ => none
theorem e_column (G : Gl) : EntryOk G Tryd.prog 101 (pureSp sp_column) := by
  refine entry_pure (Go.Mo.enters_of Tryd.func101 (by kernel_rfl)) ?_
  intro args v h π vargs ha fresh m
  unfold sp_column at h
  split at h
  · rename_i a b d e
    cases h
    exact fitsP (K := K_S) (obs := []) ((good_S G).good mixed) 60 _ [] Tryd.func101 (by kernel_rfl) (by intro p hp; cases hp) (by kernel_rfl) rfl rfl fresh m
  · cases h
def E_column : List (Nat × Mo.Spec) := (101, pureSp sp_column) :: E_S
def K_column : Cx := cxOf Tryd.prog E_column
theorem good_column (G : Gl) : EnvL G Tryd.prog E_column := .cons (e_column G) (good_S G)
def sp_words : List V → Option V
  | [.a [.b8 16 l]] => some (.a [.b32 4 (wordsL l)])
  | _ => none
theorem e_words (G : Gl) : EntryOk G Tryd.prog 73 (pureSp sp_words) := by
  refine entry_pure (Go.Mo.enters_of Tryd.func73 (by kernel_rfl)) ?_
  intro args v h π vargs ha fresh m
  unfold sp_words at h
  split at h
  · rename_i l
    cases h
    exact fitsP (K := K_column) (obs := []) ((good_column G).good mixed) 60 _ [] Tryd.func73 (by kernel_rfl) (by intro p hp; cases hp) (by kernel_rfl) rfl rfl fresh m
  · cases h
def E_words : List (Nat × Mo.Spec) := (73, pureSp sp_words) :: E_column
def K_words : Cx := cxOf Tryd.prog E_words
theorem good_words (G : Gl) : EnvL G Tryd.prog E_words := .cons (e_words G) (good_column G)
def sp_Power2 : List V → Option V
  | [.s (.b8 2), .s (.i .i64 (.ofNat n))] => bif Nat.blt n 10 then some (.s (.b8 (nth 0 rcL n))) else none
  | _ => none
theorem l_Power2 (n : Nat) (h : n < 10) : evalE K_words 60 Tryd.f130 [.s (.b8 2), .s (.i .i64 (.ofNat n))] [] [] [] = some (.s (.b8 (nth 0 rcL n)), [], []) :=
  tab_all (f := fun n => evalE K_words 60 Tryd.f130 [.s (.b8 2), .s (.i .i64 (.ofNat n))] [] [] []) (g := fun n => some (.s (.b8 (nth 0 rcL n)), [], [])) (N := 10) (by kernel_rfl) n h
theorem e_Power2 (G : Gl) : EntryOk G Tryd.prog 130 (pureSp sp_Power2) := by
  refine entry_pure (Go.Mo.enters_of Tryd.func130 (by kernel_rfl)) ?_
  intro args v h π vargs ha fresh m
  unfold sp_Power2 at h
  split at h
  · rename_i n
    cases hc : Nat.blt n 10 <;> simp only [hc, cond_true, cond_false] at h
    · cases h
    cases h
    exact fitsP (K := K_words) (obs := []) ((good_words G).good mixed) 60 _ [] Tryd.func130 (l_Power2 _ (Nat.le_of_ble_eq_true hc)) (by intro p hp; cases hp) (by kernel_rfl) rfl rfl fresh m
  · cases h
def E_Power2 : List (Nat × Mo.Spec) := (130, pureSp sp_Power2) :: E_words
def K_Power2 : Cx := cxOf Tryd.prog E_Power2
theorem good_Power2 (G : Gl) : EnvL G Tryd.prog E_Power2 := .cons (e_Power2 G) (good_words G)
def sp_Constant : List V → Option V
  | [.s (.i .i64 (.ofNat (n + 1)))] => bif Nat.blt n 10 then some (.s (.b8 (nth 0 rcL n))) else none
  | _ => none
theorem l_Constant (n : Nat) (h : n < 10) : evalE K_Power2 60 Tryd.f129 [.s (.i .i64 (.ofNat (n + 1)))] [] [] [] = some (.s (.b8 (nth 0 rcL n)), [], []) :=
  tab_all (f := fun n => evalE K_Power2 60 Tryd.f129 [.s (.i .i64 (.ofNat (n + 1)))] [] [] []) (g := fun n => some (.s (.b8 (nth 0 rcL n)), [], [])) (N := 10) (by kernel_rfl) n h
theorem e_Constant (G : Gl) : EntryOk G Tryd.prog 129 (pureSp sp_Constant) := by
  refine entry_pure (Go.Mo.enters_of Tryd.func129 (by kernel_rfl)) ?_
  intro args v h π vargs ha fresh m
  unfold sp_Constant at h
  split at h
  · rename_i n
    cases hc : Nat.blt n 10 <;> simp only [hc, cond_true, cond_false] at h
    · cases h
    cases h
    exact fitsP (K := K_Power2) (obs := []) ((good_Power2 G).good mixed) 60 _ [] Tryd.func129 (l_Constant _ (Nat.le_of_ble_eq_true hc)) (by intro p hp; cases hp) (by kernel_rfl) rfl rfl fresh m
  · cases h
def E_Constant : List (Nat × Mo.Spec) := (129, pureSp sp_Constant) :: E_Power2
def K_Constant : Cx := cxOf Tryd.prog E_Constant
theorem good_Constant (G : Gl) : EnvL G Tryd.prog E_Constant := .cons (e_Constant G) (good_Power2 G)
def sp_RotateLeft32 : List V → Option V
  | [.s (.b32 w), .s (.i .i64 8)] => some (.s (.b32 (rotL w)))
  | _ => none
theorem e_RotateLeft32 (G : Gl) : EntryOk G Tryd.prog 128 (pureSp sp_RotateLeft32) := by
  refine entry_pure (Go.Mo.enters_of Tryd.func128 (by kernel_rfl)) ?_
  intro args v h π vargs ha fresh m
  unfold sp_RotateLeft32 at h
  split at h
  · rename_i w
    cases h
    exact fitsP (K := K_Constant) (obs := []) ((good_Constant G).good mixed) 60 _ [] Tryd.func128 (by kernel_rfl) (by intro p hp; cases hp) (by kernel_rfl) rfl rfl fresh m
  · cases h
def E_RotateLeft32 : List (Nat × Mo.Spec) := (128, pureSp sp_RotateLeft32) :: E_Constant
def K_RotateLeft32 : Cx := cxOf Tryd.prog E_RotateLeft32
theorem good_RotateLeft32 (G : Gl) : EnvL G Tryd.prog E_RotateLeft32 := .cons (e_RotateLeft32 G) (good_Constant G)
def sp_Word : List V → Option V
  | [.s (.b32 w)] => some (.s (.b32 (subW w)))
  | _ => none
theorem e_Word (G : Gl) : EntryOk G Tryd.prog 127 (pureSp sp_Word) := by
  refine entry_pure (Go.Mo.enters_of Tryd.func127 (by kernel_rfl)) ?_
  intro args v h π vargs ha fresh m
  unfold sp_Word at h
  split at h
  · rename_i w
    cases h
    exact fitsP (K := K_RotateLeft32) (obs := []) ((good_RotateLeft32 G).good mixed) 60 _ [] Tryd.func127 (by kernel_rfl) (by intro p hp; cases hp) (by kernel_rfl) rfl rfl fresh m
  · cases h
def E_Word : List (Nat × Mo.Spec) := (127, pureSp sp_Word) :: E_RotateLeft32
def K_Word : Cx := cxOf Tryd.prog E_Word
theorem good_Word (G : Gl) : EnvL G Tryd.prog E_Word := .cons (e_Word G) (good_RotateLeft32 G)
def sp_turned : List V → Option V
  | [.s (.b32 w), .s (.i .i64 (.ofNat (n + 1)))] => bif Nat.blt n 10 then some (.s (.b32 (turned w n))) else none
  | _ => none
theorem l_turned (w : B32) (n : Nat) (h : n < 10) : evalE K_Word 60 Tryd.f124 [.s (.b32 w), .s (.i .i64 (.ofNat (n + 1)))] [] [] [] = some (.s (.b32 (turned w n)), [], []) :=
  tab_all (f := fun n => evalE K_Word 60 Tryd.f124 [.s (.b32 w), .s (.i .i64 (.ofNat (n + 1)))] [] [] []) (g := fun n => some (.s (.b32 (turned w n)), [], [])) (N := 10) (by kernel_rfl) n h
theorem e_turned (G : Gl) : EntryOk G Tryd.prog 124 (pureSp sp_turned) := by
  refine entry_pure (Go.Mo.enters_of Tryd.func124 (by kernel_rfl)) ?_
  intro args v h π vargs ha fresh m
  unfold sp_turned at h
  split at h
  · rename_i w n
    cases hc : Nat.blt n 10 <;> simp only [hc, cond_true, cond_false] at h
    · cases h
    cases h
    exact fitsP (K := K_Word) (obs := []) ((good_Word G).good mixed) 60 _ [] Tryd.func124 (l_turned _ _ (Nat.le_of_ble_eq_true hc)) (by intro p hp; cases hp) (by kernel_rfl) rfl rfl fresh m
  · cases h
def E_turned : List (Nat × Mo.Spec) := (124, pureSp sp_turned) :: E_Word
def K_turned : Cx := cxOf Tryd.prog E_turned
theorem good_turned (G : Gl) : EnvL G Tryd.prog E_turned := .cons (e_turned G) (good_Word G)
def sp_load1 : Mo.Spec := fun args _fresh =>
  match args with
  | [.s (.i .i64 (.ofNat n)), .s (.ptr b 0)] => rd1 b fun g0 => match g0 with | [.b8 16 l] => bif Nat.blt n 13 then some (.s (.b32 (col4 l n)), []) else none | _ => none
  | _ => .fail
theorem l_load1 (l : List B8) (n : Nat) (h : n < 13) : evalE K_turned 60 Tryd.f125 [.s (.i .i64 (.ofNat n)), .s (.ptr 0 0)] [[.b8 16 l]] [] [] = some (.s (.b32 (col4 l n)), [], []) :=
  tab_all (f := fun n => evalE K_turned 60 Tryd.f125 [.s (.i .i64 (.ofNat n)), .s (.ptr 0 0)] [[.b8 16 l]] [] []) (g := fun n => some (.s (.b32 (col4 l n)), [], [])) (N := 13) (by kernel_rfl) n h
theorem e_load1 (G : Gl) : EntryOk G Tryd.prog 125 sp_load1 := by
  intro args fresh m v news fp hx
  unfold sp_load1 at hx
  split at hx
  · rename_i n b
    obtain ⟨x0, hb0, hk⟩ := rd1_run hx
    split at hk
    · rename_i l hg0
      cases hc : Nat.blt n 13 <;> simp only [hc, cond_true, cond_false] at hk
      · cases hk
      cases hk
      refine Fits.intro (Go.Mo.enters_of Tryd.func125 (by kernel_rfl)) fun π vargs ha => ?_
      exact fitsM (K := K_turned) (obs := []) (v := .s (.b32 (col4 l n))) (gsl := []) ((good_turned G).good mixed) 60 [.s (.i .i64 (.ofNat n)), .s (.ptr 0 0)] [[.b8 16 l]] [] [] Tryd.func125 (l_load1 _ _ (Nat.le_of_ble_eq_true hc)) (by intro p hp; cases hp) (by kernel_rfl) (at1 b) (sees1 hb0 hg0) fresh rfl rfl rfl
    · cases hk
  · cases hx
def E_load1 : List (Nat × Mo.Spec) := (125, sp_load1) :: E_turned
def K_load1 : Cx := cxOf Tryd.prog E_load1
theorem good_load1 (G : Gl) : EnvL G Tryd.prog E_load1 := .cons (e_load1 G) (good_turned G)
def sp_load : List V → Option V
  | [.a [.b8 16 l]] => some (.a [.b32 4 (wordsL l)])
  | _ => none
theorem e_load (G : Gl) : EntryOk G Tryd.prog 119 (pureSp sp_load) := by
  refine entry_pure (Go.Mo.enters_of Tryd.func119 (by kernel_rfl)) ?_
  intro args v h π vargs ha fresh m
  unfold sp_load at h
  split at h
  · rename_i l
    cases h
    exact fitsP (K := K_load1) (obs := []) ((good_load1 G).good mixed) 60 _ [] Tryd.func119 (by kernel_rfl) (by intro p hp; cases hp) (by kernel_rfl) rfl rfl fresh m
  · cases h
def E_load : List (Nat × Mo.Spec) := (119, pureSp sp_load) :: E_load1
def K_load : Cx := cxOf Tryd.prog E_load
theorem good_load (G : Gl) : EnvL G Tryd.prog E_load := .cons (e_load G) (good_load1 G)
def sp_store : List V → Option V
  | [.a [.b32 4 l]] => some (.a [.b8 16 (storeL l)])
  | _ => none
theorem e_store (G : Gl) : EntryOk G Tryd.prog 117 (pureSp sp_store) := by
  refine entry_pure (Go.Mo.enters_of Tryd.func117 (by kernel_rfl)) ?_
  intro args v h π vargs ha fresh m
  unfold sp_store at h
  split at h
  · rename_i l
    cases h
    exact fitsP (K := K_load) (obs := []) ((good_load G).good mixed) 60 _ [] Tryd.func117 (by kernel_rfl) (by intro p hp; cases hp) (by kernel_rfl) rfl rfl fresh m
  · cases h
def E_store : List (Nat × Mo.Spec) := (117, pureSp sp_store) :: E_load
def K_store : Cx := cxOf Tryd.prog E_store
theorem good_store (G : Gl) : EnvL G Tryd.prog E_store := .cons (e_store G) (good_load G)
def sp_forward : List V → Option V
  | [.a [.b32 4 [a, b, c, d]], .s (.i .i64 (.ofNat n))] => bif Nat.blt n 10 then some (.a [.b32 4 (forwardL n [a, b, c, d])]) else none
  | _ => none
theorem l_forward (a b c d : B32) (n : Nat) (h : n < 10) : evalE K_store 60 Tryd.f118 [.a [.b32 4 [a, b, c, d]], .s (.i .i64 (.ofNat n))] [] [] [] = some (.a [.b32 4 (forwardL n [a, b, c, d])], [], []) :=
  tab_all (f := fun n => evalE K_store 60 Tryd.f118 [.a [.b32 4 [a, b, c, d]], .s (.i .i64 (.ofNat n))] [] [] []) (g := fun n => some (.a [.b32 4 (forwardL n [a, b, c, d])], [], [])) (N := 10) (by kernel_rfl) n h
theorem e_forward (G : Gl) : EntryOk G Tryd.prog 118 (pureSp sp_forward) := by
  refine entry_pure (Go.Mo.enters_of Tryd.func118 (by kernel_rfl)) ?_
  intro args v h π vargs ha fresh m
  unfold sp_forward at h
  split at h
  · rename_i a b c d n
    cases hc : Nat.blt n 10 <;> simp only [hc, cond_true, cond_false] at h
    · cases h
    cases h
    exact fitsP (K := K_store) (obs := []) ((good_store G).good mixed) 60 _ [] Tryd.func118 (l_forward _ _ _ _ _ (Nat.le_of_ble_eq_true hc)) (by intro p hp; cases hp) (by kernel_rfl) rfl rfl fresh m
  · cases h
def E_forward : List (Nat × Mo.Spec) := (118, pureSp sp_forward) :: E_store
def K_forward : Cx := cxOf Tryd.prog E_forward
theorem good_forward (G : Gl) : EnvL G Tryd.prog E_forward := .cons (e_forward G) (good_store G)
end
end Go.Proofs.YtamlbiaakogahaaDoor


namespace Go.Proofs.YtamlbiaakogahaaDoor
open Go Go.Mo
noncomputable section
def sp_Next : List V → Option V
  | [.s (.i .i64 (.ofNat n)), .a [.b8 16 l]] => bif Nat.blt n 10 then some (.t [(false, [.b8 16 (nextL n l)]), (true, [.s (.bool true)])]) else none
  | _ => none
theorem l_Next (l : List B8) (n : Nat) (h : n < 10) : evalE K_forward 60 Tryd.f103 [.s (.i .i64 (.ofNat n)), .a [.b8 16 l]] [] [] [] = some (.t [(false, [.b8 16 (nextL n l)]), (true, [.s (.bool true)])], [], []) :=
  tab_all (f := fun n => evalE K_forward 60 Tryd.f103 [.s (.i .i64 (.ofNat n)), .a [.b8 16 l]] [] [] []) (g := fun n => some (.t [(false, [.b8 16 (nextL n l)]), (true, [.s (.bool true)])], [], [])) (N := 10) (by kernel_rfl) n h
theorem e_Next (G : Gl) : EntryOk G Tryd.prog 103 (pureSp sp_Next) := by
  refine entry_pure (Go.Mo.enters_of Tryd.func103 (by kernel_rfl)) ?_
  intro args v h π vargs ha fresh m
  unfold sp_Next at h
  split at h
  · rename_i n l
    cases hc : Nat.blt n 10 <;> simp only [hc, cond_true, cond_false] at h
    · cases h
    cases h
    exact fitsP (K := K_forward) (obs := []) ((good_forward G).good mixed) 60 _ [] Tryd.func103 (l_Next _ _ (Nat.le_of_ble_eq_true hc)) (by intro p hp; cases hp) (by kernel_rfl) rfl rfl fresh m
  · cases h
def E_Next : List (Nat × Mo.Spec) := (103, pureSp sp_Next) :: E_forward
def K_Next : Cx := cxOf Tryd.prog E_Next
theorem good_Next (G : Gl) : EnvL G Tryd.prog E_Next := .cons (e_Next G) (good_forward G)
def sp_Expand : List V → Option V
  | [.a [.b8 16 l]] => some (.a [.b8 176 (expandL l)])
  | _ => none
theorem e_Expand (G : Gl) : EntryOk G Tryd.prog 72 (pureSp sp_Expand) := by
  refine entry_pure (Go.Mo.enters_of Tryd.func72 (by kernel_rfl)) ?_
  intro args v h π vargs ha fresh m
  unfold sp_Expand at h
  split at h
  · rename_i l
    cases h
    obtain ⟨k0, k1, k2, k3, k4, k5, k6, k7, k8, k9, k10, k11, k12, k13, k14, k15, rfl⟩ := list16 (args_b8 ha)
    exact fitsP (K := K_Next) (obs := []) ((good_Next G).good mixed) 60 _ [] Tryd.func72 (by kernel_rfl) (by intro p hp; cases hp) (by kernel_rfl) rfl rfl fresh m
  · cases h
def E_Expand : List (Nat × Mo.Spec) := (72, pureSp sp_Expand) :: E_Next
def K_Expand : Cx := cxOf Tryd.prog E_Expand
theorem good_Expand (G : Gl) : EnvL G Tryd.prog E_Expand := .cons (e_Expand G) (good_Next G)
def sp_Sum : Mo.Spec := fun args _fresh =>
  match args with
  | [.s (.slice b 0 4 4)] => rd1 b fun g0 => match g0 with | [.b8 4 l] => some (.s (.b8 ((((0 ^^^ nth 0 l 0) ^^^ nth 0 l 1) ^^^ nth 0 l 2) ^^^ nth 0 l 3)), []) | _ => none
  | _ => .fail
theorem e_Sum (G : Gl) : EntryOk G Tryd.prog 126 sp_Sum := by
  intro args fresh m v news fp hx
  unfold sp_Sum at hx
  split at hx
  · rename_i b
    obtain ⟨x0, hb0, hk⟩ := rd1_run hx
    split at hk
    · rename_i l hg0
      cases hk
      refine Fits.intro (Go.Mo.enters_of Tryd.func126 (by kernel_rfl)) fun π vargs ha => ?_
      exact fitsM (K := K_Expand) (obs := []) (v := .s (.b8 ((((0 ^^^ nth 0 l 0) ^^^ nth 0 l 1) ^^^ nth 0 l 2) ^^^ nth 0 l 3))) (gsl := []) ((good_Expand G).good mixed) 60 [.s (.slice 0 0 4 4)] [[.b8 4 l]] [] [] Tryd.func126 (by kernel_rfl) (by intro p hp; cases hp) (by kernel_rfl) (at1 b) (sees1 hb0 hg0) fresh rfl rfl rfl
    · cases hk
  · cases hx
def E_Sum : List (Nat × Mo.Spec) := (126, sp_Sum) :: E_Expand
def K_Sum : Cx := cxOf Tryd.prog E_Sum
theorem good_Sum (G : Gl) : EnvL G Tryd.prog E_Sum := .cons (e_Sum G) (good_Expand G)
def sp_Dot : List V → Option V
  | [.a [.b8 4 x], .a [.b8 4 y]] => some (.s (.b8 (dotL x y)))
  | _ => none
theorem e_Dot (G : Gl) : EntryOk G Tryd.prog 122 (pureSp sp_Dot) := by
  refine entry_pure (Go.Mo.enters_of Tryd.func122 (by kernel_rfl)) ?_
  intro args v h π vargs ha fresh m
  unfold sp_Dot at h
  split at h
  · rename_i x y
    cases h
    exact fitsP (K := K_Sum) (obs := []) ((good_Sum G).good mixed) 60 _ [] Tryd.func122 (by kernel_rfl) (by intro p hp; cases hp) (by kernel_rfl) rfl rfl fresh m
  · cases h
def E_Dot : List (Nat × Mo.Spec) := (122, pureSp sp_Dot) :: E_Sum
def K_Dot : Cx := cxOf Tryd.prog E_Dot
theorem good_Dot (G : Gl) : EnvL G Tryd.prog E_Dot := .cons (e_Dot G) (good_Sum G)
def sp_columns1 : Mo.Spec := fun args _fresh =>
  match args with
  | [.s (.i .i64 (.ofNat n)), .s (.ptr r 0), .s (.ptr b 0)] => rd2 r b fun g0 g1 => match g0, g1 with | [.b8 4 row], [.b8 16 l] => bif Nat.blt n 16 then some (.s (.b8 (colDot row l n)), []) else none | _, _ => none
  | _ => .fail
theorem l_columns1 (row l : List B8) (n : Nat) (h : n < 16) : evalE K_Dot 60 Tryd.f121 [.s (.i .i64 (.ofNat n)), .s (.ptr 0 0), .s (.ptr 1 0)] [[.b8 4 row], [.b8 16 l]] [] [] = some (.s (.b8 (colDot row l n)), [], []) :=
  tab_all (f := fun n => evalE K_Dot 60 Tryd.f121 [.s (.i .i64 (.ofNat n)), .s (.ptr 0 0), .s (.ptr 1 0)] [[.b8 4 row], [.b8 16 l]] [] []) (g := fun n => some (.s (.b8 (colDot row l n)), [], [])) (N := 16) (by kernel_rfl) n h
theorem e_columns1 (G : Gl) : EntryOk G Tryd.prog 121 sp_columns1 := by
  intro args fresh m v news fp hx
  unfold sp_columns1 at hx
  split at hx
  · rename_i n r b
    obtain ⟨x0, x1, hb0, hb1, hk⟩ := rd2_run hx
    split at hk
    · rename_i row l hg0 hg1
      cases hc : Nat.blt n 16 <;> simp only [hc, cond_true, cond_false] at hk
      · cases hk
      cases hk
      refine Fits.intro (Go.Mo.enters_of Tryd.func121 (by kernel_rfl)) fun π vargs ha => ?_
      exact fitsM (K := K_Dot) (obs := []) (v := .s (.b8 (colDot row l n))) (gsl := []) ((good_Dot G).good mixed) 60 [.s (.i .i64 (.ofNat n)), .s (.ptr 0 0), .s (.ptr 1 0)] [[.b8 4 row], [.b8 16 l]] [] [] Tryd.func121 (l_columns1 _ _ _ (Nat.le_of_ble_eq_true hc)) (by intro p hp; cases hp) (by kernel_rfl) (at2 r b) (sees2 hb0 hg0 hb1 hg1) fresh rfl rfl rfl
    · cases hk
  · cases hx
def E_columns1 : List (Nat × Mo.Spec) := (121, sp_columns1) :: E_Dot
def K_columns1 : Cx := cxOf Tryd.prog E_columns1
theorem good_columns1 (G : Gl) : EnvL G Tryd.prog E_columns1 := .cons (e_columns1 G) (good_Dot G)
def sp_each_cols : Mo.Spec := fun args _fresh =>
  match args with
  | [.s (.fn 121 [(r, 0), (b, 0)])] => rd2 r b fun g0 g1 => match g0, g1 with | [.b8 4 row], [.b8 16 l] => some (.a [.b8 16 (columnsL row l)], []) | _, _ => none
  | _ => .fail
theorem e_each_cols (G : Gl) : EntryOk G Tryd.prog 120 sp_each_cols := by
  intro args fresh m v news fp hx
  unfold sp_each_cols at hx
  split at hx
  · rename_i r b
    obtain ⟨x0, x1, hb0, hb1, hk⟩ := rd2_run hx
    split at hk
    · rename_i row l hg0 hg1
      cases hk
      refine Fits.intro (Go.Mo.enters_of Tryd.func120 (by kernel_rfl)) fun π vargs ha => ?_
      exact fitsM (K := K_columns1) (obs := []) (v := .a [.b8 16 (columnsL row l)]) (gsl := []) ((good_columns1 G).good mixed) 60 [.s (.fn 121 [(0, 0), (1, 0)])] [[.b8 4 row], [.b8 16 l]] [] [] Tryd.func120 (by kernel_rfl) (by intro p hp; cases hp) (by kernel_rfl) (at2 r b) (sees2 hb0 hg0 hb1 hg1) fresh rfl rfl rfl
    · cases hk
  · cases hx
def E_each_cols : List (Nat × Mo.Spec) := (120, sp_each_cols) :: E_columns1
def K_each_cols : Cx := cxOf Tryd.prog E_each_cols
theorem good_each_cols (G : Gl) : EnvL G Tryd.prog E_each_cols := .cons (e_each_cols G) (good_columns1 G)
def sp_columns : List V → Option V
  | [.a [.b8 16 l], .a [.b8 4 row]] => some (.a [.b8 16 (columnsL row l)])
  | _ => none
theorem e_columns (G : Gl) : EntryOk G Tryd.prog 104 (pureSp sp_columns) := by
  refine entry_pure (Go.Mo.enters_of Tryd.func104 (by kernel_rfl)) ?_
  intro args v h π vargs ha fresh m
  unfold sp_columns at h
  split at h
  · rename_i l row
    cases h
    exact fitsP (K := K_each_cols) (obs := []) ((good_each_cols G).good mixed) 60 _ [] Tryd.func104 (by kernel_rfl) (by intro p hp; cases hp) (by kernel_rfl) rfl rfl fresh m
  · cases h
def E_columns : List (Nat × Mo.Spec) := (104, pureSp sp_columns) :: E_each_cols
def K_columns : Cx := cxOf Tryd.prog E_columns
theorem good_columns (G : Gl) : EnvL G Tryd.prog E_columns := .cons (e_columns G) (good_each_cols G)
def sp_Unmix : List V → Option V
  | [.a [.b8 16 l]] => some (.a [.b8 16 (unmixL l)])
  | _ => none
theorem e_Unmix (G : Gl) : EntryOk G Tryd.prog 74 (pureSp sp_Unmix) := by
  refine entry_pure (Go.Mo.enters_of Tryd.func74 (by kernel_rfl)) ?_
  intro args v h π vargs ha fresh m
  unfold sp_Unmix at h
  split at h
  · rename_i l
    cases h
    exact fitsP (K := K_columns) (obs := []) ((good_columns G).good mixed) 60 _ [] Tryd.func74 (by kernel_rfl) (by intro p hp; cases hp) (by kernel_rfl) rfl rfl fresh m
  · cases h
def E_Unmix : List (Nat × Mo.Spec) := (74, pureSp sp_Unmix) :: E_columns
def K_Unmix : Cx := cxOf Tryd.prog E_Unmix
theorem good_Unmix (G : Gl) : EnvL G Tryd.prog E_Unmix := .cons (e_Unmix G) (good_columns G)
end
end Go.Proofs.YtamlbiaakogahaaDoor


namespace Go.Proofs.YtamlbiaakogahaaDoor
open Go Go.Mo
noncomputable abbrev fB := Tryd.f100
noncomputable def bA : Code := match fB.body with | some (.seq a (.seq (.seq _ (.block _ (.loop _))) _)) => a | _ => .skip
noncomputable def bB : Code := match fB.body with | some (.seq _ (.seq (.seq b (.block _ (.loop _))) _)) => b | _ => .skip
noncomputable def bL : Code := match fB.body with | some (.seq _ (.seq (.seq _ (.block _ (.loop l))) _)) => l | _ => .skip
noncomputable def bT : Code := match fB.body with | some (.seq _ (.seq (.seq _ (.block _ (.loop _))) t)) => t | _ => .skip
theorem bBody : fB.body = some (.seq bA (.seq (.seq bB (.block 0 (.loop bL))) bT)) := by kernel_rfl
noncomputable def cI (i : Nat) : B8 := nth 0 sboxL i
noncomputable def tB (b : B8) (i : Nat) : Bool := decide (((cI i).toNat : Int) = (b.toNat : Int))
noncomputable def frI (b : B8) : Fr := (Fr.full 12 fB.ntmps).ofArgs 0 [.s (.b8 b)]
noncomputable def frA (b : B8) : Fr := (frI b).set 2 (.s (.b8 0))
noncomputable def frB0 (b : B8) : Fr := ((frA b).set 5 (.a [.b8 256 sboxL])).set 6 (.s (.i .i64 0))
noncomputable def iv (i : Nat) : V := .s (.i .i64 (.ofNat i))
noncomputable def frB (b : B8) (i : Nat) : Fr :=
  ((((((((((frB0 b).set 3 (iv i)).set 4 (.s (.b8 (cI i)))).set 6 (iv (i + 1))).set 7 (.s (.bool true))).set 8 (iv i)).set 9 (.s (.b8 (cI i)))).set 10 (.s (.b8 (cI i)))).set 11 (.s (.b8 b))).set 12 (.s (.bool false))).set 15 (iv (i + 1))
noncomputable def stB (fr : Fr) (o : List (Option Bool)) (obs : List (Bool × Bool)) : St := ⟨fr, fB.ntmps, [], o, obs⟩
noncomputable abbrev KB := K_Unmix
theorem b_pre1 (b : B8) (o : List (Option Bool)) : acode KB 300 bA (stB (frI b) o []) = some (.normal, stB (frA b) o []) := by kernel_rfl
theorem b_pre2 (b : B8) (o : List (Option Bool)) : acode KB 300 bB (stB (frA b) o []) = some (.normal, stB (frB0 b) o []) := by kernel_rfl
theorem b_first (b : B8) (o : List (Option Bool)) (obs : List (Bool × Bool)) :
    acode KB 300 bL (stB (frB0 b) (some false :: o) obs) = some (.normal, stB (frB b 0) o ((tB b 0, false) :: obs)) := by kernel_rfl
theorem b_first' (b : B8) (o : List (Option Bool)) (obs : List (Bool × Bool)) :
    retOf KB fB (acode KB 300 bL (stB (frB0 b) (some true :: o) obs)) = some (.s (.b8 0), (tB b 0, true) :: obs) := by kernel_rfl
theorem b_step (b : B8) (o : List (Option Bool)) (obs : List (Bool × Bool)) (n : Nat) (h : n < 255) :
    acode KB 300 bL (stB (frB b n) (some false :: o) obs) = some (.normal, stB (frB b (n + 1)) o ((tB b (n + 1), false) :: obs)) :=
  tab_all (f := fun n => acode KB 300 bL (stB (frB b n) (some false :: o) obs)) (g := fun n => some (.normal, stB (frB b (n + 1)) o ((tB b (n + 1), false) :: obs))) (N := 255) (by kernel_rfl) n h
theorem b_step' (b : B8) (o : List (Option Bool)) (obs : List (Bool × Bool)) (n : Nat) (h : n < 255) :
    retOf KB fB (acode KB 300 bL (stB (frB b n) (some true :: o) obs)) = some (.s (.b8 (BitVec.ofNat 8 (n + 1))), (tB b (n + 1), true) :: obs) :=
  tab_all (f := fun n => retOf KB fB (acode KB 300 bL (stB (frB b n) (some true :: o) obs))) (g := fun n => some (.s (.b8 (BitVec.ofNat 8 (n + 1))), (tB b (n + 1), true) :: obs)) (N := 255) (by kernel_rfl) n h

theorem tB_iff (b : B8) (i : Nat) : tB b i = Nat.beq (cI i).toNat b.toNat := by
  unfold tB
  cases h : Nat.beq (cI i).toNat b.toNat
  · simp only [decide_eq_false_iff_not]
    intro e
    have : (cI i).toNat = b.toNat := by omega
    rw [this] at h
    simp at h
  · have := Nat.eq_of_beq_eq_true h
    simp [this]

theorem scan (b : B8) : ∀ (l : List B8) (i : Nat), (∀ j, j < l.length → nth 0 l j = cI (i + j)) → (l.any fun c => Nat.beq c.toNat b.toNat) = true →
    ∃ k, k < l.length ∧ backGo i l b = BitVec.ofNat 8 (i + k) ∧ tB b (i + k) = true ∧ ∀ j, j < k → tB b (i + j) = false
  | [], _, _, h => by simp at h
  | c :: r, i, hc, h => by
    have h0 : c = cI i := hc 0 (by simp)
    unfold backGo
    cases hq : Nat.beq c.toNat b.toNat
    · simp only [List.any_cons, hq, Bool.false_or] at h
      obtain ⟨k, h1, h2, h3, h4⟩ := scan b r (i + 1) (fun j hj => by
        have := hc (j + 1) (by simpa using hj)
        rw [show i + 1 + j = i + (j + 1) by omega, ← this]; simp [nth_eq]) h
      refine ⟨k + 1, by simpa using h1, ?_, by rwa [show i + (k + 1) = i + 1 + k by omega], ?_⟩
      · simp only [cond_false, h2]; rw [show i + 1 + k = i + (k + 1) by omega]
      · intro j hj
        cases j with
        | zero => rw [tB_iff, Nat.add_zero, ← h0]; exact hq
        | succ j => rw [show i + (j + 1) = i + 1 + j by omega]; exact h4 j (by omega)
    · exact ⟨0, by simp, rfl, by rw [tB_iff, Nat.add_zero, ← h0]; exact hq, fun j hj => by omega⟩

theorem sbox_len : sboxL.length = 256 := by kernel_rfl
theorem sbox_onto (b : B8) : (sboxL.any fun c => Nat.beq c.toNat b.toNat) = true :=
  byte_all (f := fun b => sboxL.any fun c => Nat.beq c.toNat b.toNat) (g := fun _ => true) (by kernel_rfl) b

theorem back_ix (b : B8) : ∃ k, k < 256 ∧ back b = BitVec.ofNat 8 k ∧ tB b k = true ∧ ∀ j, j < k → tB b j = false := by
  obtain ⟨k, h1, h2, h3, h4⟩ := scan b sboxL 0 (fun j _ => by rw [Nat.zero_add]; rfl) (sbox_onto b)
  simp only [Nat.zero_add, sbox_len] at h1 h2 h3 h4
  exact ⟨k, h1, h2, h3, h4⟩

theorem ret_step {x : Option (Ex × St)} {y : V × List (Bool × Bool)} {body : St → Option (Ex × St)} {s : St} {n : Nat} (hx : body s = x) (h : retOf KB fB x = some y) :
    retOf KB fB (aloop body (n + 1) s) = some y := by
  obtain ⟨v, obs⟩ := y
  obtain ⟨s', e1, e2, e3⟩ := retOf_some h
  rw [aloop_ret (hx.trans e1), ← e1]; exact h

theorem b_loop (b : B8) : ∀ (k n i : Nat) (obs : List (Bool × Bool)), i + k < 255 → (∀ j, j < k → tB b (i + 1 + j) = false) → tB b (i + 1 + k) = true → ObsOk obs →
    ∃ obs', retOf KB fB (aloop (acode KB 300 bL) (k + 1 + n) (stB (frB b i) (List.replicate k (some false) ++ [some true]) obs)) = some (.s (.b8 (BitVec.ofNat 8 (i + 1 + k))), obs') ∧ ObsOk obs'
  | 0, n, i, obs, h, _, h2, ho => by
    refine ⟨(tB b (i + 1), true) :: obs, ?_, ?_⟩
    · rw [Nat.zero_add, Nat.add_comm 1 n]
      exact ret_step rfl (b_step' b [] obs i (by omega))
    · intro p hp
      rcases List.mem_cons.1 hp with rfl | hp
      · exact h2
      · exact ho p hp
  | k + 1, n, i, obs, h, h1, h2, ho => by
    obtain ⟨obs', e1, e2⟩ := b_loop b k n (i + 1) ((tB b (i + 1), false) :: obs) (by omega) (fun j hj => by
      rw [show i + 1 + 1 + j = i + 1 + (j + 1) by omega]; exact h1 (j + 1) (by omega)) (by rw [show i + 1 + 1 + k = i + 1 + (k + 1) by omega]; exact h2) (by
      intro p hp
      rcases List.mem_cons.1 hp with rfl | hp
      · exact h1 0 (by omega)
      · exact ho p hp)
    refine ⟨obs', ?_, e2⟩
    rw [show k + 1 + 1 + n = (k + 1 + n) + 1 by omega, List.replicate_succ, List.cons_append, aloop_normal (b_step b _ obs i (by omega))]
    rw [show i + 1 + (k + 1) = i + 1 + 1 + k by omega]; exact e1

theorem b_all (b : B8) : ∃ orc obs, evalE KB 300 fB [.s (.b8 b)] [] orc [] = some (.s (.b8 (back b)), obs, []) ∧ ObsOk obs := by
  obtain ⟨k, h1, h2, h3, h4⟩ := back_ix b
  have key : ∃ orc obs, retOf KB fB (aloop (acode KB 300 bL) 300 (stB (frB0 b) orc [])) = some (.s (.b8 (back b)), obs) ∧ ObsOk obs := by
    rw [h2]
    cases k with
    | zero =>
      refine ⟨[some true], _, ret_step (n := 299) rfl (b_first' b [] []), ?_⟩
      intro p hp
      simp only [List.mem_singleton] at hp
      subst hp; exact h3
    | succ k =>
      obtain ⟨obs', e1, e2⟩ := b_loop b k (298 - k) 0 [(tB b 0, false)] (by omega) (fun j hj => by rw [show 0 + 1 + j = j + 1 by omega]; exact h4 _ (by omega))
        (by rw [show 0 + 1 + k = k + 1 by omega]; exact h3) (by
          intro p hp
          simp only [List.mem_singleton] at hp
          subst hp; exact h4 0 (by omega))
      refine ⟨some false :: (List.replicate k (some false) ++ [some true]), obs', ?_, e2⟩
      rw [show (300 : Nat) = 299 + 1 by rfl, aloop_normal (b_first b _ [])]
      rw [show k + 1 + (298 - k) = 299 by omega, show 0 + 1 + k = k + 1 by omega] at e1
      exact e1
  obtain ⟨orc, obs, e1, e2⟩ := key
  obtain ⟨s', f1, f2, f3⟩ := retOf_some e1
  refine ⟨orc, obs, ?_, e2⟩
  rw [← f3]
  refine evalE_ret bBody ?_ f2
  rw [show (⟨(Fr.full 12 fB.ntmps).ofArgs 0 [.s (.b8 b)], fB.ntmps, given [], orc, []⟩ : St) = stB (frI b) orc [] from rfl]
  rw [acode_seq_normal (b_pre1 b orc)]
  refine acode_seq_ret ?_
  rw [acode_seq_normal (b_pre2 b orc)]
  exact acode_block_ret f1

noncomputable def sp_Back : List V → Option V
  | [.s (.b8 x)] => some (.s (.b8 (back x)))
  | _ => none
theorem e_Back (G : Gl) : EntryOk G Tryd.prog 100 (pureSp sp_Back) := by
  refine entry_pure (enters_of Tryd.func100 (by kernel_rfl)) ?_
  intro args v h π vargs ha fresh m
  unfold sp_Back at h
  split at h
  · rename_i x
    cases h
    obtain ⟨orc, obs, e1, e2⟩ := b_all x
    exact fitsP (K := KB) (obs := obs) ((good_Unmix G).good mixed) 300 _ orc Tryd.func100 e1 e2 (by kernel_rfl) rfl rfl fresh m
  · cases h
noncomputable def E_Back : List (Nat × Mo.Spec) := (100, pureSp sp_Back) :: E_Unmix
noncomputable def K_Back : Cx := cxOf Tryd.prog E_Back
theorem good_Back (G : Gl) : EnvL G Tryd.prog E_Back := .cons (e_Back G) (good_Unmix G)
end Go.Proofs.YtamlbiaakogahaaDoor


namespace Go.Proofs.YtamlbiaakogahaaDoor
open Go Go.Mo
noncomputable abbrev fF := Tryd.f71
noncomputable abbrev KF := K_Back
theorem fBody : fF.body = some (.seq (lpA fF) (.seq (.seq (lpB fF) (.block 0 (.loop (lpL fF)))) (lpT fF))) := by kernel_rfl
noncomputable def fE (i : Nat) : B32 := fwdE (sb (BitVec.ofNat 8 i))
noncomputable def bE (i : Nat) : B32 := bckE (back (BitVec.ofNat 8 i))
noncomputable def memF (i : Nat) : List (Option Blk) := [some ⟨[.b32 256 (upL fE i 0 ++ List.replicate (256 - i) 0), .b32 256 (upL bE i 0 ++ List.replicate (256 - i) 0)], true⟩]
noncomputable def sFI : St := ⟨(Fr.full 12 fF.ntmps).ofArgs 0 [], fF.ntmps, given [], [], []⟩
noncomputable def sFA : St := stOf (acode KF 300 (lpA fF) sFI)
noncomputable def frF0 : Fr := frAfter KF 300 (lpB fF) sFA
noncomputable def sF : Nat → St
  | 0 => ⟨frF0, fF.ntmps, memF 0, [], []⟩
  | j + 1 => ⟨frAfter KF 300 (lpL fF) ⟨frF0.set 4 (.s (.i .i64 (.ofNat (j * 8 + 7)))), fF.ntmps, memF (j * 8 + 7), [], []⟩, fF.ntmps, memF (j * 8 + 8), [], []⟩
theorem fill_step (j : Nat) (h : j < 32) : runK (acode KF 300 (lpL fF)) 8 (sF j) = some (sF (j + 1)) :=
  tab_all (f := fun j => runK (acode KF 300 (lpL fF)) 8 (sF j)) (g := fun j => some (sF (j + 1))) (N := 32) (by kernel_rfl) j h
noncomputable def sFE : St := stOf (acode KF 300 (lpL fF) (sF 32))
noncomputable def sFT : Ex × St := match acode KF 300 (lpT fF) sFE with | some x => x | none => (.normal, sFI)
theorem fill_eval : evalE KF 300 fF [] [] [] [] = some (.a [.b32 256 fwdT, .b32 256 bckT], [], []) :=
  evalE_loop (S := sF) (k := 8) (J := 32) (n := 43) (sA := sFA) (sE := sFE) (x := sFT) fBody (by kernel_rfl) (by kernel_rfl) fill_step rfl (by kernel_rfl) (by kernel_rfl) (by kernel_rfl)

noncomputable def sp_fill : List V → Option V
  | [] => some (.a [.b32 256 fwdT, .b32 256 bckT])
  | _ => none
theorem e_fill (G : Gl) : EntryOk G Tryd.prog 71 (pureSp sp_fill) := by
  refine entry_pure (enters_of Tryd.func71 (by kernel_rfl)) ?_
  intro args v h π vargs ha fresh m
  unfold sp_fill at h
  split at h
  · cases h
    exact fitsP (K := KF) (obs := []) ((good_Back G).good mixed) 300 _ [] Tryd.func71 fill_eval (by intro p hp; cases hp) (by kernel_rfl) rfl rfl fresh m
  · cases h
noncomputable def E_fill : List (Nat × Mo.Spec) := (71, pureSp sp_fill) :: E_Back
noncomputable def K_fill : Cx := cxOf Tryd.prog E_fill
theorem good_fill (G : Gl) : EnvL G Tryd.prog E_fill := .cons (e_fill G) (good_Back G)
end Go.Proofs.YtamlbiaakogahaaDoor


namespace Go.Proofs.YtamlbiaakogahaaDoor
open Go Go.Mo
noncomputable section
def sp_rotate : List V → Option V
  | [.s (.b32 w), .s (.i .i64 (.ofNat n))] => bif Nat.blt n 4 then some (.s (.b32 (rot8 w n))) else none
  | _ => none
theorem l_rotate (w : B32) (n : Nat) (h : n < 4) : evalE K_fill 60 Tryd.f114 [.s (.b32 w), .s (.i .i64 (.ofNat n))] [] [] [] = some (.s (.b32 (rot8 w n)), [], []) :=
  tab_all (f := fun n => evalE K_fill 60 Tryd.f114 [.s (.b32 w), .s (.i .i64 (.ofNat n))] [] [] []) (g := fun n => some (.s (.b32 (rot8 w n)), [], [])) (N := 4) (by kernel_rfl) n h
theorem e_rotate (G : Gl) : EntryOk G Tryd.prog 114 (pureSp sp_rotate) := by
  refine entry_pure (Go.Mo.enters_of Tryd.func114 (by kernel_rfl)) ?_
  intro args v h π vargs ha fresh m
  unfold sp_rotate at h
  split at h
  · rename_i w n
    cases hc : Nat.blt n 4 <;> simp only [hc, cond_true, cond_false] at h
    · cases h
    cases h
    exact fitsP (K := K_fill) (obs := []) ((good_fill G).good mixed) 60 _ [] Tryd.func114 (l_rotate _ _ (Nat.le_of_ble_eq_true hc)) (by intro p hp; cases hp) (by kernel_rfl) rfl rfl fresh m
  · cases h
def E_rotate : List (Nat × Mo.Spec) := (114, pureSp sp_rotate) :: E_fill
def K_rotate : Cx := cxOf Tryd.prog E_rotate
theorem good_rotate (G : Gl) : EnvL G Tryd.prog E_rotate := .cons (e_rotate G) (good_fill G)

/-! fast.New: what it calls is kept as a name, so that the kernel does not look into it. -/
def spA_Expand (E : List B8 → List B8) : List V → Option V
  | [.a [.b8 16 l]] => some (.a [.b8 176 (E l)])
  | _ => none
def spA_Unmix (U : List B8 → List B8) : List V → Option V
  | [.a [.b8 16 l]] => some (.a [.b8 16 (U l)])
  | _ => none
def spA_fill (F B : List B32) : List V → Option V
  | [] => some (.a [.b32 256 F, .b32 256 B])
  | _ => none
def E_N (E U : List B8 → List B8) (F B : List B32) : List (Nat × Mo.Spec) :=
  (72, pureSp (spA_Expand E)) :: (74, pureSp (spA_Unmix U)) :: (71, pureSp (spA_fill F B)) :: E_rotate
def K_N (E U : List B8 → List B8) (F B : List B32) : Cx := cxOf Tryd.prog (E_N E U F B)
theorem spA_Expand_eq : spA_Expand expandL = sp_Expand := rfl
theorem spA_Unmix_eq : spA_Unmix unmixL = sp_Unmix := rfl
theorem spA_fill_eq : spA_fill fwdT bckT = sp_fill := rfl
theorem good_N (G : Gl) : EnvL G Tryd.prog (E_N expandL unmixL fwdT bckT) :=
  .cons (by rw [spA_Expand_eq]; exact e_Expand G) (.cons (by rw [spA_Unmix_eq]; exact e_Unmix G) (.cons (by rw [spA_fill_eq]; exact e_fill G) (good_rotate G)))
def put2 (F B : List B32) : List B32 := spliceN (spliceN (List.replicate 512 0) 0 256 F) 256 256 B
theorem put2_of {F B : List B32} (hF : F.length = 256) (hB : B.length = 256) : put2 F B = F ++ B := by
  unfold put2
  rw [spliceN_eq hF, spliceN_eq hB]
  have e1 : splice (List.replicate 512 (0 : B32)) 0 F = F ++ List.replicate 256 0 := by
    unfold splice
    rw [List.take_zero, List.nil_append, hF, Nat.zero_add, List.drop_replicate]
  rw [e1]
  unfold splice
  rw [List.take_left' hF, List.drop_eq_nil_of_le (by rw [List.length_append, List.length_replicate, hF, hB]; exact Nat.le_refl _), List.append_nil]
theorem put2_eq : put2 fwdT bckT = tab2 := put2_of fwdT_length bckT_length
theorem New_eval (E U : List B8 → List B8) (F B : List B32) (k : List B8) :
    evalE (K_N E U F B) 100 Tryd.f24 [.a [.b8 16 k]] [] [] [1] = some (.s (.ptr 1 0), [], newBlks [cipE E U (put2 F B) k]) := by kernel_rfl

def sp_New : Mo.Spec := fun args fresh =>
  match args with
  | [.a [.b8 16 k]] => .pure (.s (.ptr fresh 0), [cipherSegs k])
  | _ => .fail
theorem e_New (G : Gl) : EntryOk G Tryd.prog 24 sp_New := by
  intro args fresh m v news fp hx
  unfold sp_New at hx
  split at hx
  · rename_i k
    cases hx
    refine Fits.intro (Go.Mo.enters_of Tryd.func24 (by kernel_rfl)) fun π vargs ha => ?_
    exact fitsM (K := (K_N expandL unmixL fwdT bckT)) (obs := []) (v := .s (.ptr 1 0)) (gsl := [cipherSegs k]) ((good_N G).good mixed) 100 [.a [.b8 16 k]] [] [] [1] Tryd.func24 (by rw [New_eval, put2_eq]; rfl) (by intro p hp; cases hp) (by kernel_rfl) (fun i => i) sees0 fresh (by kernel_rfl) (by kernel_rfl) (by kernel_rfl)
  · cases hx
def E_New : List (Nat × Mo.Spec) := (24, sp_New) :: E_rotate
def K_New : Cx := cxOf Tryd.prog E_New
theorem good_New (G : Gl) : EnvL G Tryd.prog E_New := .cons (e_New G) (good_rotate G)
end
end Go.Proofs.YtamlbiaakogahaaDoor

