/- Contracts of functions by the evaluator (C1). -/
import Derived.Test.YtamlbiaakogahaaDoorC0
import Derived.Test.YtamlbiaakogahaaDoorProg
namespace Go.Proofs.YtamlbiaakogahaaDoor
open Go Go.Mo
noncomputable section
def sp_table : List V → Option V
  | [] => some (.a [.b8 256 sboxL])
  | _ => none
theorem e_table (G : Gl) : EntryOk G Tryd.prog 115 (pureSp sp_table) := by
  refine entry_pure (Go.Mo.enters_of Tryd.func115 (by kernel_rfl)) ?_
  intro args v h π vargs ha fresh m
  unfold sp_table at h
  split at h
  · skip
    cases h
    exact fitsP (K := K_mul) (obs := []) ((good_mul G).good mixed) 60 _ [] Tryd.func115 (by kernel_rfl) (by intro p hp; cases hp) (by kernel_rfl) rfl rfl fresh m
  · cases h
def E_table : List (Nat × Mo.Spec) := (115, pureSp sp_table) :: E_mul
def K_table : Cx := cxOf Tryd.prog E_table
theorem good_table (G : Gl) : EnvL G Tryd.prog E_table := .cons (e_table G) (good_mul G)
def sp_S : List V → Option V
  | [.s (.b8 x)] => some (.s (.b8 (sb x)))
  | _ => none
theorem e_S (G : Gl) : EntryOk G Tryd.prog 99 (pureSp sp_S) := by
  refine entry_pure (Go.Mo.enters_of Tryd.func99 (by kernel_rfl)) ?_
  intro args v h π vargs ha fresh m
  unfold sp_S at h
  split at h
  · rename_i x
    cases h
    exact fitsP (K := K_table) (obs := []) ((good_table G).good mixed) 60 _ [] Tryd.func99 (by kernel_rfl) (by intro p hp; cases hp) (by kernel_rfl) rfl rfl fresh m
  · cases h
def E_S : List (Nat × Mo.Spec) := (99, pureSp sp_S) :: E_table
def K_S : Cx := cxOf Tryd.prog E_S
theorem good_S (G : Gl) : EnvL G Tryd.prog E_S := .cons (e_S G) (good_table G)
def sp_column : List V → Option V
  | [.s (.b8 a), .s (.b8 b), .s (.b8 d), .s (.b8 e)] => some (.s (.b32 (col a b d e)))
  | _ => none
theorem e_column (G : Gl) : EntryOk G Tryd.prog 101 (pureSp sp_column) := by
  refine entry_pure (Go.Mo.enters_of Tryd.func101 (by kernel_rfl)) ?_
  intro args v h π vargs ha fresh m
  unfold sp_column at h
  split at h
  · rename_i a b d e
    cases h
    exact fitsP (K := K_S) (obs := []) ((good_S G).good mixed) 60 _ [] Tryd.func101 (by kernel_rfl) (by intro p hp; cases hp) (by kernel_rfl) rfl rfl fresh m
  · cases h
def E_column : List (Nat × Mo.Spec) := (101, pureSp sp_column) :: E_S
def K_column : Cx := cxOf Tryd.prog E_column
theorem good_column (G : Gl) : EnvL G Tryd.prog E_column := .cons (e_column G) (good_S G)
def sp_words : List V → Option V
  | [.a [.b8 16 l]] => some (.a [.b32 4 (wordsL l)])
  | _ => none
theorem e_words (G : Gl) : EntryOk G Tryd.prog 73 (pureSp sp_words) := by
  refine entry_pure (Go.Mo.enters_of Tryd.func73 (by kernel_rfl)) ?_
  intro args v h π vargs ha fresh m
  unfold sp_words at h
  split at h
  · rename_i l
    cases h
    exact fitsP (K := K_column) (obs := []) ((good_column G).good mixed) 60 _ [] Tryd.func73 (by kernel_rfl) (by intro p hp; cases hp) (by kernel_rfl) rfl rfl fresh m
  · cases h
def E_words : List (Nat × Mo.Spec) := (73, pureSp sp_words) :: E_column
def K_words : Cx := cxOf Tryd.prog E_words
theorem good_words (G : Gl) : EnvL G Tryd.prog E_words := .cons (e_words G) (good_column G)
def sp_Power2 : List V → Option V
  | [.s (.b8 2), .s (.i .i64 (.ofNat n))] => bif Nat.blt n 10 then some (.s (.b8 (nth 0 rcL n))) else none
  | _ => none
theorem l_Power2 (n : Nat) (h : n < 10) : evalE K_words 60 Tryd.f130 [.s (.b8 2), .s (.i .i64 (.ofNat n))] [] [] [] = some (.s (.b8 (nth 0 rcL n)), [], []) :=
  tab_all (f := fun n => evalE K_words 60 Tryd.f130 [.s (.b8 2), .s (.i .i64 (.ofNat n))] [] [] []) (g := fun n => some (.s (.b8 (nth 0 rcL n)), [], [])) (N := 10) (by kernel_rfl) n h
theorem e_Power2 (G : Gl) : EntryOk G Tryd.prog 130 (pureSp sp_Power2) := by
  refine entry_pure (Go.Mo.enters_of Tryd.func130 (by kernel_rfl)) ?_
  intro args v h π vargs ha fresh m
  unfold sp_Power2 at h
  split at h
  · rename_i n
    cases hc : Nat.blt n 10 <;> simp only [hc, cond_true, cond_false] at h
    · cases h
    cases h
    exact fitsP (K := K_words) (obs := []) ((good_words G).good mixed) 60 _ [] Tryd.func130 (l_Power2 _ (Nat.le_of_ble_eq_true hc)) (by intro p hp; cases hp) (by kernel_rfl) rfl rfl fresh m
  · cases h
def E_Power2 : List (Nat × Mo.Spec) := (130, pureSp sp_Power2) :: E_words
def K_Power2 : Cx := cxOf Tryd.prog E_Power2
theorem good_Power2 (G : Gl) : EnvL G Tryd.prog E_Power2 := .cons (e_Power2 G) (good_words G)
def sp_Constant : List V → Option V
  | [.s (.i .i64 (.ofNat (n + 1)))] => bif Nat.blt n 10 then some (.s (.b8 (nth 0 rcL n))) else none
  | _ => none
theorem l_Constant (n : Nat) (h : n < 10) : evalE K_Power2 60 Tryd.f129 [.s (.i .i64 (.ofNat (n + 1)))] [] [] [] = some (.s (.b8 (nth 0 rcL n)), [], []) :=
  tab_all (f := fun n => evalE K_Power2 60 Tryd.f129 [.s (.i .i64 (.ofNat (n + 1)))] [] [] []) (g := fun n => some (.s (.b8 (nth 0 rcL n)), [], [])) (N := 10) (by kernel_rfl) n h
theorem e_Constant (G : Gl) : EntryOk G Tryd.prog 129 (pureSp sp_Constant) := by
  refine entry_pure (Go.Mo.enters_of Tryd.func129 (by kernel_rfl)) ?_
  intro args v h π vargs ha fresh m
  unfold sp_Constant at h
  split at h
  · rename_i n
    cases hc : Nat.blt n 10 <;> simp only [hc, cond_true, cond_false] at h
    · cases h
    cases h
    exact fitsP (K := K_Power2) (obs := []) ((good_Power2 G).good mixed) 60 _ [] Tryd.func129 (l_Constant _ (Nat.le_of_ble_eq_true hc)) (by intro p hp; cases hp) (by kernel_rfl) rfl rfl fresh m
  · cases h
def E_Constant : List (Nat × Mo.Spec) := (129, pureSp sp_Constant) :: E_Power2
def K_Constant : Cx := cxOf Tryd.prog E_Constant
theorem good_Constant (G : Gl) : EnvL G Tryd.prog E_Constant := .cons (e_Constant G) (good_Power2 G)
def sp_RotateLeft32 : List V → Option V
  | [.s (.b32 w), .s (.i .i64 8)] => some (.s (.b32 (rotL w)))
  | _ => none
theorem e_RotateLeft32 (G : Gl) : EntryOk G Tryd.prog 128 (pureSp sp_RotateLeft32) := by
  refine entry_pure (Go.Mo.enters_of Tryd.func128 (by kernel_rfl)) ?_
  intro args v h π vargs ha fresh m
  unfold sp_RotateLeft32 at h
  split at h
  · rename_i w
    cases h
    exact fitsP (K := K_Constant) (obs := []) ((good_Constant G).good mixed) 60 _ [] Tryd.func128 (by kernel_rfl) (by intro p hp; cases hp) (by kernel_rfl) rfl rfl fresh m
  · cases h
def E_RotateLeft32 : List (Nat × Mo.Spec) := (128, pureSp sp_RotateLeft32) :: E_Constant
def K_RotateLeft32 : Cx := cxOf Tryd.prog E_RotateLeft32
theorem good_RotateLeft32 (G : Gl) : EnvL G Tryd.prog E_RotateLeft32 := .cons (e_RotateLeft32 G) (good_Constant G)
def sp_Word : List V → Option V
  | [.s (.b32 w)] => some (.s (.b32 (subW w)))
  | _ => none
theorem e_Word (G : Gl) : EntryOk G Tryd.prog 127 (pureSp sp_Word) := by
  refine entry_pure (Go.Mo.enters_of Tryd.func127 (by kernel_rfl)) ?_
  intro args v h π vargs ha fresh m
  unfold sp_Word at h
  split at h
  · rename_i w
    cases h
    exact fitsP (K := K_RotateLeft32) (obs := []) ((good_RotateLeft32 G).good mixed) 60 _ [] Tryd.func127 (by kernel_rfl) (by intro p hp; cases hp) (by kernel_rfl) rfl rfl fresh m
  · cases h
def E_Word : List (Nat × Mo.Spec) := (127, pureSp sp_Word) :: E_RotateLeft32
def K_Word : Cx := cxOf Tryd.prog E_Word
theorem good_Word (G : Gl) : EnvL G Tryd.prog E_Word := .cons (e_Word G) (good_RotateLeft32 G)
def sp_turned : List V → Option V
  | [.s (.b32 w), .s (.i .i64 (.ofNat (n + 1)))] => bif Nat.blt n 10 then some (.s (.b32 (turned w n))) else none
  | _ => none
theorem l_turned (w : B32) (n : Nat) (h : n < 10) : evalE K_Word 60 Tryd.f124 [.s (.b32 w), .s (.i .i64 (.ofNat (n + 1)))] [] [] [] = some (.s (.b32 (turned w n)), [], []) :=
  tab_all (f := fun n => evalE K_Word 60 Tryd.f124 [.s (.b32 w), .s (.i .i64 (.ofNat (n + 1)))] [] [] []) (g := fun n => some (.s (.b32 (turned w n)), [], [])) (N := 10) (by kernel_rfl) n h
theorem e_turned (G : Gl) : EntryOk G Tryd.prog 124 (pureSp sp_turned) := by
  refine entry_pure (Go.Mo.enters_of Tryd.func124 (by kernel_rfl)) ?_
  intro args v h π vargs ha fresh m
  unfold sp_turned at h
  split at h
  · rename_i w n
    cases hc : Nat.blt n 10 <;> simp only [hc, cond_true, cond_false] at h
    · cases h
    cases h
    exact fitsP (K := K_Word) (obs := []) ((good_Word G).good mixed) 60 _ [] Tryd.func124 (l_turned _ _ (Nat.le_of_ble_eq_true hc)) (by intro p hp; cases hp) (by kernel_rfl) rfl rfl fresh m
  · cases h
def E_turned : List (Nat × Mo.Spec) := (124, pureSp sp_turned) :: E_Word
def K_turned : Cx := cxOf Tryd.prog E_turned
theorem good_turned (G : Gl) : EnvL G Tryd.prog E_turned := .cons (e_turned G) (good_Word G)
def sp_load1 : Mo.Spec := fun args _fresh =>
  match args with
  | [.s (.i .i64 (.ofNat n)), .s (.ptr b 0)] => rd1 b fun g0 => match g0 with | [.b8 16 l] => bif Nat.blt n 13 then some (.s (.b32 (col4 l n)), []) else none | _ => none
  | _ => .fail
theorem l_load1 (l : List B8) (n : Nat) (h : n < 13) : evalE K_turned 60 Tryd.f125 [.s (.i .i64 (.ofNat n)), .s (.ptr 0 0)] [[.b8 16 l]] [] [] = some (.s (.b32 (col4 l n)), [], []) :=
  tab_all (f := fun n => evalE K_turned 60 Tryd.f125 [.s (.i .i64 (.ofNat n)), .s (.ptr 0 0)] [[.b8 16 l]] [] []) (g := fun n => some (.s (.b32 (col4 l n)), [], [])) (N := 13) (by kernel_rfl) n h
theorem e_load1 (G : Gl) : EntryOk G Tryd.prog 125 sp_load1 := by
  intro args fresh m v news fp hx
  unfold sp_load1 at hx
  split at hx
  · rename_i n b
    obtain ⟨x0, hb0, hk⟩ := rd1_run hx
    split at hk
    · rename_i l hg0
      cases hc : Nat.blt n 13 <;> simp only [hc, cond_true, cond_false] at hk
      · cases hk
      cases hk
      refine Fits.intro (Go.Mo.enters_of Tryd.func125 (by kernel_rfl)) fun π vargs ha => ?_
      exact fitsM (K := K_turned) (obs := []) (v := .s (.b32 (col4 l n))) (gsl := []) ((good_turned G).good mixed) 60 [.s (.i .i64 (.ofNat n)), .s (.ptr 0 0)] [[.b8 16 l]] [] [] Tryd.func125 (l_load1 _ _ (Nat.le_of_ble_eq_true hc)) (by intro p hp; cases hp) (by kernel_rfl) (at1 b) (sees1 hb0 hg0) fresh rfl rfl rfl
    · cases hk
  · cases hx
def E_load1 : List (Nat × Mo.Spec) := (125, sp_load1) :: E_turned
def K_load1 : Cx := cxOf Tryd.prog E_load1
theorem good_load1 (G : Gl) : EnvL G Tryd.prog E_load1 := .cons (e_load1 G) (good_turned G)
def sp_load : List V → Option V
  | [.a [.b8 16 l]] => some (.a [.b32 4 (wordsL l)])
  | _ => none
theorem e_load (G : Gl) : EntryOk G Tryd.prog 119 (pureSp sp_load) := by
  refine entry_pure (Go.Mo.enters_of Tryd.func119 (by kernel_rfl)) ?_
  intro args v h π vargs ha fresh m
  unfold sp_load at h
  split at h
  · rename_i l
    cases h
    exact fitsP (K := K_load1) (obs := []) ((good_load1 G).good mixed) 60 _ [] Tryd.func119 (by kernel_rfl) (by intro p hp; cases hp) (by kernel_rfl) rfl rfl fresh m
  · cases h
def E_load : List (Nat × Mo.Spec) := (119, pureSp sp_load) :: E_load1
def K_load : Cx := cxOf Tryd.prog E_load
theorem good_load (G : Gl) : EnvL G Tryd.prog E_load := .cons (e_load G) (good_load1 G)
def sp_store : List V → Option V
  | [.a [.b32 4 l]] => some (.a [.b8 16 (storeL l)])
  | _ => none
theorem e_store (G : Gl) : EntryOk G Tryd.prog 117 (pureSp sp_store) := by
  refine entry_pure (Go.Mo.enters_of Tryd.func117 (by kernel_rfl)) ?_
  intro args v h π vargs ha fresh m
  unfold sp_store at h
  split at h
  · rename_i l
    cases h
    exact fitsP (K := K_load) (obs := []) ((good_load G).good mixed) 60 _ [] Tryd.func117 (by kernel_rfl) (by intro p hp; cases hp) (by kernel_rfl) rfl rfl fresh m
  · cases h
def E_store : List (Nat × Mo.Spec) := (117, pureSp sp_store) :: E_load
def K_store : Cx := cxOf Tryd.prog E_store
theorem good_store (G : Gl) : EnvL G Tryd.prog E_store := .cons (e_store G) (good_load G)
def sp_forward : List V → Option V
  | [.a [.b32 4 [a, b, c, d]], .s (.i .i64 (.ofNat n))] => bif Nat.blt n 10 then some (.a [.b32 4 (forwardL n [a, b, c, d])]) else none
  | _ => none
theorem l_forward (a b c d : B32) (n : Nat) (h : n < 10) : evalE K_store 60 Tryd.f118 [.a [.b32 4 [a, b, c, d]], .s (.i .i64 (.ofNat n))] [] [] [] = some (.a [.b32 4 (forwardL n [a, b, c, d])], [], []) :=
  tab_all (f := fun n => evalE K_store 60 Tryd.f118 [.a [.b32 4 [a, b, c, d]], .s (.i .i64 (.ofNat n))] [] [] []) (g := fun n => some (.a [.b32 4 (forwardL n [a, b, c, d])], [], [])) (N := 10) (by kernel_rfl) n h
theorem e_forward (G : Gl) : EntryOk G Tryd.prog 118 (pureSp sp_forward) := by
  refine entry_pure (Go.Mo.enters_of Tryd.func118 (by kernel_rfl)) ?_
  intro args v h π vargs ha fresh m
  unfold sp_forward at h
  split at h
  · rename_i a b c d n
    cases hc : Nat.blt n 10 <;> simp only [hc, cond_true, cond_false] at h
    · cases h
    cases h
    exact fitsP (K := K_store) (obs := []) ((good_store G).good mixed) 60 _ [] Tryd.func118 (l_forward _ _ _ _ _ (Nat.le_of_ble_eq_true hc)) (by intro p hp; cases hp) (by kernel_rfl) rfl rfl fresh m
  · cases h
def E_forward : List (Nat × Mo.Spec) := (118, pureSp sp_forward) :: E_store
def K_forward : Cx := cxOf Tryd.prog E_forward
theorem good_forward (G : Gl) : EnvL G Tryd.prog E_forward := .cons (e_forward G) (good_store G)
end
end Go.Proofs.YtamlbiaakogahaaDoor
