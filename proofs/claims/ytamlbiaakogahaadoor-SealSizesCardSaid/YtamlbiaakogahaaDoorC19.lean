/- Contracts of functions by the evaluator (C19). -/
import Derived.Test.YtamlbiaakogahaaDoorC15
import Derived.Test.YtamlbiaakogahaaDoorSp1
import Derived.Test.YtamlbiaakogahaaDoorProg
namespace Go.Proofs.YtamlbiaakogahaaDoor
open Go Go.Mo
noncomputable section
def sp_RBottom : List V → Option V
  | [.a [.b8 12 n]] => some (.s (.si (rbotI n)))
  | _ => none
theorem e_RBottom (G : Gl) : EntryOk G Tryd.prog 38 (pureSp sp_RBottom) := by
  refine entry_pure (Go.Mo.enters_of Tryd.func38 (by kernel_rfl)) ?_
  intro args v h π vargs ha fresh m
  unfold sp_RBottom at h
  split at h
  · rename_i n
    cases h
    exact fitsP (K := K_RFor) (obs := []) ((good_RFor G).good mixed) 60 _ [] Tryd.func38 (by kernel_rfl) (by intro p hp; cases hp) (by kernel_rfl) rfl rfl fresh m
  · cases h
def E_RBottom : List (Nat × Mo.Spec) := (38, pureSp sp_RBottom) :: E_RFor
def K_RBottom : Cx := cxOf Tryd.prog E_RBottom
theorem good_RBottom (G : Gl) : EnvL G Tryd.prog E_RBottom := .cons (e_RBottom G) (good_RFor G)
def sp_RStretch : List V → Option V
  | [.a [.b8 16 b]] => some (.a [.b8 24 (strL b)])
  | _ => none
theorem e_RStretch (G : Gl) : EntryOk G Tryd.prog 44 (pureSp sp_RStretch) := by
  refine entry_pure (Go.Mo.enters_of Tryd.func44 (by kernel_rfl)) ?_
  intro args v h π vargs ha fresh m
  unfold sp_RStretch at h
  split at h
  · rename_i b
    cases h
    obtain ⟨k0, k1, k2, k3, k4, k5, k6, k7, k8, k9, k10, k11, k12, k13, k14, k15, rfl⟩ := list16 (args_b8 ha)
    exact fitsP (K := K_RBottom) (obs := []) ((good_RBottom G).good mixed) 60 _ [] Tryd.func44 (by kernel_rfl) (by intro p hp; cases hp) (by kernel_rfl) rfl rfl fresh m
  · cases h
def E_RStretch : List (Nat × Mo.Spec) := (44, pureSp sp_RStretch) :: E_RBottom
def K_RStretch : Cx := cxOf Tryd.prog E_RStretch
theorem good_RStretch (G : Gl) : EnvL G Tryd.prog E_RStretch := .cons (e_RStretch G) (good_RBottom G)

/-! Top: the cipher kept as a name. -/
def spR_Enc (RE : List B8 → List B8 → List B8 → List B8) : Mo.Spec := fun args _fresh =>
  match args with
  | [.a [.b8 176 e, .b8 256 T], .a [.b8 16 b]] => .pure (.a [.b8 16 (RE e T b)], [])
  | _ => .fail
def E_RT (RE : List B8 → List B8 → List B8 → List B8) : List (Nat × Mo.Spec) := (57, spR_Enc RE) :: E_RStretch
def K_RT (RE : List B8 → List B8 → List B8 → List B8) : Cx := cxOf Tryd.prog (E_RT RE)
theorem good_RT (G : Gl) : EnvL G Tryd.prog (E_RT refEnc) := .cons (show EntryOk G Tryd.prog _ sp_REnc from e_REnc G) (good_RStretch G)
theorem l_RTop (RE : List B8 → List B8 → List B8 → List B8) (e T : List B8) (m0 m1 m2 m3 m4 m5 m6 m7 m8 m9 m10 m11 : B8) : evalE (K_RT RE) 60 Tryd.f40 [.a [.b8 176 e, .b8 256 T], .a [.b8 12 [m0, m1, m2, m3, m4, m5, m6, m7, m8, m9, m10, m11]]] [] [] [] =
    some (.a [.b8 16 (RE e T (rtopL [m0, m1, m2, m3, m4, m5, m6, m7, m8, m9, m10, m11]))], [], []) := by kernel_rfl

def sp_RTop : Mo.Spec := fun args _fresh =>
  match args with
  | [.a [.b8 176 e, .b8 256 T], .a [.b8 12 n]] => .pure (.a [.b8 16 (refEnc e T (rtopL n))], [])
  | _ => .fail
theorem e_RTop (G : Gl) : EntryOk G Tryd.prog 40 sp_RTop := by
  intro args fresh m v news fp hx
  unfold sp_RTop at hx
  split at hx
  · rename_i e T n
    cases hx
    refine Fits.intro (Go.Mo.enters_of Tryd.func40 (by kernel_rfl)) fun π vargs ha => ?_
    obtain ⟨_, hb⟩ := args_tail ha
    obtain ⟨m0, m1, m2, m3, m4, m5, m6, m7, m8, m9, m10, m11, rfl⟩ := list12 (args_b8 hb)
    exact fitsM (K := (K_RT refEnc)) (obs := []) (v := .a [.b8 16 (refEnc e T (rtopL [m0, m1, m2, m3, m4, m5, m6, m7, m8, m9, m10, m11]))]) (gsl := []) ((good_RT G).good mixed) 60 [.a [.b8 176 e, .b8 256 T], .a [.b8 12 [m0, m1, m2, m3, m4, m5, m6, m7, m8, m9, m10, m11]]] [] [] [] Tryd.func40 (l_RTop _ _ _ _ _ _ _ _ _ _ _ _ _ _ _) (by intro p hp; cases hp) (by kernel_rfl) (fun i => i) sees0 fresh (by kernel_rfl) (by kernel_rfl) (by kernel_rfl)
  · cases hx
def E_RTop : List (Nat × Mo.Spec) := (40, sp_RTop) :: E_RStretch
def K_RTop : Cx := cxOf Tryd.prog E_RTop
theorem good_RTop (G : Gl) : EnvL G Tryd.prog E_RTop := .cons (e_RTop G) (good_RStretch G)

/-! Start. -/
def spQ_Top (RE : List B8 → List B8 → List B8 → List B8) (To : List B8 → List B8) : Mo.Spec := fun args _fresh =>
  match args with
  | [.a [.b8 176 e, .b8 256 T], .a [.b8 12 n]] => .pure (.a [.b8 16 (RE e T (To n))], [])
  | _ => .fail
def spQ_Str (S : List B8 → List B8) : List V → Option V
  | [.a [.b8 16 b]] => some (.a [.b8 24 (S b)])
  | _ => none
def spQ_Bot (B : List B8 → Int) : List V → Option V
  | [.a [.b8 12 n]] => some (.s (.si (B n)))
  | _ => none
def spQ_Sh (H : List B8 → Int → List B8) : Mo.Spec := fun args _fresh =>
  match args with
  | [.a [.b8 24 l], .s ix] => (match ixI ix with | some n => .pure (.a [.b8 16 (H l n)], []) | none => .fail)
  | _ => .fail
section
variable (RE : List B8 → List B8 → List B8 → List B8) (To S : List B8 → List B8) (B : List B8 → Int) (H : List B8 → Int → List B8)
def E_RSt : List (Nat × Mo.Spec) := (40, spQ_Top RE To) :: (44, pureSp (spQ_Str S)) :: (38, pureSp (spQ_Bot B)) :: E_RTop
def K_RSt : Cx := cxC Tryd.prog [(48, spQ_Sh H, ob_RSh)] (E_RSt RE To S B)
theorem l_RStart (e T n : List B8) : evalE (K_RSt RE To S B H) 60 Tryd.f42 [.a [.b8 176 e, .b8 256 T], .a [.b8 12 n]] [] [] [] =
    some (.a [.b8 16 (H (S (RE e T (To n))) (B n))], [(decide (0 ≤ B n), true), (decide (B n ≤ 64), true)], []) := by kernel_rfl
end
theorem good_RSt (G : Gl) : Mo.Good G (K_RSt refEnc rtopL strL rbotI shiftR) :=
  (CondL.cons (show EntryOkO G Tryd.prog _ sp_RSh ob_RSh from e_RSh G) .nil).good
    (.cons (show EntryOk G Tryd.prog _ sp_RTop from e_RTop G) (.cons (show EntryOk G Tryd.prog _ (pureSp sp_RStretch) from e_RStretch G) (.cons (show EntryOk G Tryd.prog _ (pureSp sp_RBottom) from e_RBottom G) (good_RTop G)))) mixed
theorem rbotI_range (n : List B8) : 0 ≤ rbotI n ∧ rbotI n ≤ 63 := by
  unfold rbotI
  rw [Int.tmod_eq_emod_of_nonneg (by omega)]
  omega
theorem rbot_ok (n : List B8) : ObsOk [(decide (0 ≤ rbotI n), true), (decide (rbotI n ≤ 64), true)] := by
  have := rbotI_range n
  intro q hq
  simp only [List.mem_cons, List.not_mem_nil, or_false] at hq
  rcases hq with rfl | rfl
  · exact decide_eq_true this.1
  · exact decide_eq_true (Int.le_trans this.2 (by omega))
def sp_RStart : List V → Option V
  | [.a [.b8 176 e, .b8 256 T], .a [.b8 12 n]] => some (.a [.b8 16 (shiftR (strL (refEnc e T (rtopL n))) (rbotI n))])
  | _ => none
theorem e_RStart (G : Gl) : EntryOk G Tryd.prog 42 (pureSp sp_RStart) := by
  refine entry_pure (Go.Mo.enters_of Tryd.func42 (by kernel_rfl)) ?_
  intro args v h π vargs ha fresh m
  unfold sp_RStart at h
  split at h
  · rename_i e T n
    cases h
    exact fitsP (K := K_RSt refEnc rtopL strL rbotI shiftR) (obs := [(decide (0 ≤ rbotI n), true), (decide (rbotI n ≤ 64), true)]) (good_RSt G) 60 _ [] Tryd.func42 (l_RStart _ _ _ _ _ _ _ _) (rbot_ok n) (by kernel_rfl) rfl rfl fresh m
  · cases h

def E_RStart : List (Nat × Mo.Spec) := (42, pureSp sp_RStart) :: E_RTop
def K_RStart : Cx := cxOf Tryd.prog E_RStart
theorem good_RStart (G : Gl) : EnvL G Tryd.prog E_RStart := .cons (e_RStart G) (good_RTop G)
end
end Go.Proofs.YtamlbiaakogahaaDoor
