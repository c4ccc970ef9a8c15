/- Contracts of functions by the evaluator (C16). -/
import Derived.Test.YtamlbiaakogahaaDoorC7
import Derived.Test.YtamlbiaakogahaaDoorC15
import Derived.Test.YtamlbiaakogahaaDoorBr1
import Derived.Test.YtamlbiaakogahaaDoorProg
namespace Go.Proofs.YtamlbiaakogahaaDoor
open Go Go.Mo
noncomputable section
/-! The laws' contracts: the functions kept as names. -/
structure LF where
  R : List B32 → List B32 → List B8 → List B8
  KF : List B8 → List B32
  KB : List B8 → List B32
  T : List B32
  D : List B8 → List B8
  D' : List B8 → List B8
  S0 : List B8
  W : List B8 → List B8
  SB : List B8
  RE : List B8 → List B8 → List B8 → List B8
  TZ : BitVec 64 → Int
  TZ' : BitVec 64 → Int
  X : List B8 → List B8 → List B8
def φ0 : LF := ⟨runF 0 1 sb, fun k => keysF (expandL k), fun k => keysB unmixL (expandL k), tab2, dblL, dblR, star0, wordsR, sboxL, refEnc, tzI, zerR, xorL⟩
section
variable (φ : LF)
def sL_New : Mo.Spec := fun args fresh =>
  match args with
  | [.a [.b8 16 k]] => .pure (.s (.ptr fresh 0), [[.s (.bool true), .b32 44 (φ.KF k), .b32 44 (φ.KB k), .b8 16 k, .b32 512 φ.T]])
  | _ => .fail
def sL_TNewP : Mo.Spec := fun args fresh =>
  match args with
  | [.s (.ptr b 0)] => rd1 b fun g0 => match g0 with | [.s (.bool true), .b32 44 kf, .b32 44 _, .b8 16 _, .b32 512 T] => some (.s (.ptr fresh 0), [tabE φ.D (.ptr b 0) (φ.R T kf z16)]) | _ => none
  | _ => .fail
def sL_TNewN : Mo.Spec := fun args fresh =>
  match args with
  | [.s .nil] => .pure (.s (.ptr fresh 0), [tabE φ.D .nil φ.S0])
  | _ => .fail
def sL_StarN : Mo.Spec := fun args _fresh =>
  match args with
  | [.s .nil] => .pure (.a [.b8 16 φ.S0], [])
  | _ => .fail
def sL_DollarN : Mo.Spec := fun args _fresh =>
  match args with
  | [.s .nil] => .pure (.a [.b8 16 (φ.D φ.S0)], [])
  | _ => .fail
def sL_AtN : Mo.Spec := fun args _fresh =>
  match args with
  | [.s .nil, .s ix] => (match ixI ix with | some n => .pure (.a [.b8 16 (atL (splD φ.D φ.S0 64) n)], []) | none => .fail)
  | _ => .fail
def sL_ForN : Mo.Spec := fun args _fresh =>
  match args with
  | [.s .nil, .s (.b64 n)] => .pure (.a [.b8 16 (atL (splD φ.D φ.S0 64) (φ.TZ n))], [])
  | _ => .fail
def sL_ForT : Mo.Spec := fun args _fresh =>
  match args with
  | [.s (.ptr t 0), .s (.b64 n)] => rdT t fun _c p => some (.a [.b8 16 (atL p.bl (φ.TZ n))], [])
  | _ => .fail
def sL_1 (F : List B8 → List B8) : List V → Option V
  | [.a [.b8 16 l]] => some (.a [.b8 16 (F l)])
  | _ => none
def sL_2 (F : List B8 → List B8 → List B8) : List V → Option V
  | [.a [.b8 16 a], .a [.b8 16 b]] => some (.a [.b8 16 (F a b)])
  | _ => none
def sL_Prep : List V → Option V
  | [.a [.b8 16 l]] => some (.a [.b8 176 (φ.W l), .b8 256 φ.SB])
  | _ => none
def sL_REnc : Mo.Spec := fun args _fresh =>
  match args with
  | [.a [.b8 176 e, .b8 256 T], .a [.b8 16 b]] => .pure (.a [.b8 16 (φ.RE e T b)], [])
  | _ => .fail
def sL_RStar : Mo.Spec := fun args _fresh =>
  match args with
  | [.a [.b8 176 e, .b8 256 T]] => .pure (.a [.b8 16 (φ.RE e T z16)], [])
  | _ => .fail
def sL_RFor : List V → Option V
  | [.a [.b8 16 s], .s (.b64 n)] => some (.a [.b8 16 (refAt φ.D' s (φ.TZ' n))])
  | _ => none
def sL_RAt : Mo.Spec := fun args _fresh =>
  match args with
  | [.a [.b8 16 s], .s ix] => (match ixI ix with | some n => .pure (.a [.b8 16 (refAt φ.D' s n)], []) | none => .fail)
  | _ => .fail
def E_L : List (Nat × Mo.Spec) :=
  (24, sL_New φ) :: (23, altSp firstNil (sL_TNewN φ) (sL_TNewP φ)) :: (32, altSp firstNil (sL_StarN φ) (orU sp_StarU sp_StarT)) ::
  (33, altSp firstNil (sL_DollarN φ) sp_DollarT) :: (30, altSp firstNil (sL_AtN φ) sp_AtT) :: (25, altSp firstNil (sL_ForN φ) (sL_ForT φ)) ::
  (29, pureSp (sL_1 φ.D')) :: (27, pureSp (sL_Prep φ)) :: (57, sL_REnc φ) :: (26, sL_RStar φ) ::
  (28, pureSp (sL_RFor φ)) :: (49, pureSp (sL_2 φ.X)) :: (85, pureSp (sL_2 φ.X)) :: (E_For ++ E_RFor)
def C_L : List (Nat × Mo.Spec × Ob) := [(48, sp_RSh, ob_RSh), (31, sL_RAt φ, ob_RAt)]
def K_L : Cx := cxC Tryd.prog (C_L φ) (E_L φ)
end
theorem eL_0 (G : Gl) : EntryOk G Tryd.prog 24 (sL_New φ0) := by
  have h : (sL_New φ0) = (sp_New : Mo.Spec) := by kernel_rfl
  rw [h]
  exact e_New G
theorem eL_1 (G : Gl) (hG : DB G) : EntryOk G Tryd.prog 23 (altSp firstNil (sL_TNewN φ0) (sL_TNewP φ0)) := by
  have h : (altSp firstNil (sL_TNewN φ0) (sL_TNewP φ0)) = (sp_TNew : Mo.Spec) := by kernel_rfl
  rw [h]
  exact e_TNew G hG
theorem eL_2 (G : Gl) (hG : DB G) : EntryOk G Tryd.prog 32 (altSp firstNil (sL_StarN φ0) (orU sp_StarU sp_StarT)) := by
  have h : (altSp firstNil (sL_StarN φ0) (orU sp_StarU sp_StarT)) = (sp_Star : Mo.Spec) := by kernel_rfl
  rw [h]
  exact e_Star G hG
theorem eL_3 (G : Gl) (hG : DB G) : EntryOk G Tryd.prog 33 (altSp firstNil (sL_DollarN φ0) sp_DollarT) := by
  have h : (altSp firstNil (sL_DollarN φ0) sp_DollarT) = (sp_Dollar : Mo.Spec) := by kernel_rfl
  rw [h]
  exact e_Dollar G hG
theorem eL_4 (G : Gl) (hG : DB G) : EntryOk G Tryd.prog 30 (altSp firstNil (sL_AtN φ0) sp_AtT) := by
  have h : (altSp firstNil (sL_AtN φ0) sp_AtT) = (sp_At : Mo.Spec) := by kernel_rfl
  rw [h]
  exact e_At G hG
theorem eL_5 (G : Gl) (hG : DB G) : EntryOk G Tryd.prog 25 (altSp firstNil (sL_ForN φ0) (sL_ForT φ0)) := by
  have h : (altSp firstNil (sL_ForN φ0) (sL_ForT φ0)) = (sp_For : Mo.Spec) := by kernel_rfl
  rw [h]
  exact e_For G hG
theorem eL_6 (G : Gl) : EntryOk G Tryd.prog 29 (pureSp (sL_1 φ0.D')) := by
  have h : (pureSp (sL_1 φ0.D')) = (pureSp sp_RDbl : Mo.Spec) := by kernel_rfl
  rw [h]
  exact e_RDbl G
theorem eL_7 (G : Gl) : EntryOk G Tryd.prog 27 (pureSp (sL_Prep φ0)) := by
  have h : (pureSp (sL_Prep φ0)) = (pureSp sp_Prep : Mo.Spec) := by kernel_rfl
  rw [h]
  exact e_Prep G
theorem eL_8 (G : Gl) : EntryOk G Tryd.prog 57 (sL_REnc φ0) := by
  have h : (sL_REnc φ0) = (sp_REnc : Mo.Spec) := by kernel_rfl
  rw [h]
  exact e_REnc G
theorem eL_9 (G : Gl) : EntryOk G Tryd.prog 26 (sL_RStar φ0) := by
  have h : (sL_RStar φ0) = (sp_RStar : Mo.Spec) := by kernel_rfl
  rw [h]
  exact e_RStar G
theorem eL_10 (G : Gl) : EntryOk G Tryd.prog 28 (pureSp (sL_RFor φ0)) := by
  have h : (pureSp (sL_RFor φ0)) = (pureSp sp_RFor : Mo.Spec) := by kernel_rfl
  rw [h]
  exact e_RFor G
theorem eL_11 (G : Gl) : EntryOk G Tryd.prog 49 (pureSp (sL_2 φ0.X)) := by
  have h : (pureSp (sL_2 φ0.X)) = (pureSp sp_RXor : Mo.Spec) := by kernel_rfl
  rw [h]
  exact e_RXor G
theorem eL_12 (G : Gl) (hG : DB G) : EntryOk G Tryd.prog 85 (pureSp (sL_2 φ0.X)) := by
  have h : (pureSp (sL_2 φ0.X)) = (pureSp sp_Xor : Mo.Spec) := by kernel_rfl
  rw [h]
  exact e_Xor G hG
theorem list_L (G : Gl) (hG : DB G) : EnvL G Tryd.prog (E_L φ0) :=
  .cons (eL_0 G) <| .cons (eL_1 G hG) <| .cons (eL_2 G hG) <| .cons (eL_3 G hG) <| .cons (eL_4 G hG) <| .cons (eL_5 G hG) <| .cons (eL_6 G) <| .cons (eL_7 G) <| .cons (eL_8 G) <| .cons (eL_9 G) <| .cons (eL_10 G) <| .cons (eL_11 G) <| .cons (eL_12 G hG) <| (good_For G hG).append (good_RFor G)
theorem eL_RAt (G : Gl) : EntryOkO G Tryd.prog 31 (sL_RAt φ0) ob_RAt := by
  have h : sL_RAt φ0 = sp_RAt := by kernel_rfl
  rw [h]
  exact e_RAt G
theorem cond_L (G : Gl) : CondL G Tryd.prog (C_L φ0) := .cons (e_RSh G) <| .cons (eL_RAt G) .nil
theorem good_L (G : Gl) (hG : DB G) : Mo.Good G (K_L φ0) := (cond_L G).good (list_L G hG) mixed
/-- The star of a key. -/
def starK (k : List B8) : List B8 := runF 0 1 sb tab2 (keysF (expandL k)) z16
theorem starK_ref (k : List B8) : refEnc (wordsR k) sboxL z16 = starK k := enc_eq k z16
theorem starK_len (k : List B8) : (starK k).length = 16 := rfl
def blk (s : List B8) (n : Int) : List B8 := atL (splD dblL s 64) n
theorem tzI_eq (x : BitVec 64) : tzI x = zerR x := tz_eq x
theorem blk_neg (s : List B8) (n : Int) (h : n < 0) : blk s n = z16 := by
  cases n with
  | ofNat i => exact absurd h (by show ¬ ((i : Int) < 0); omega)
  | negSucc i => rfl
theorem blk_big (s : List B8) (n : Int) (h : 64 ≤ n) : blk s n = z16 := by
  cases n with
  | ofNat i =>
    have : (64 : Int) ≤ (i : Int) := h
    unfold blk atL
    cases hb : Nat.blt i 64
    · simp only [hb, cond_false]
    · have := Nat.le_of_ble_eq_true hb; omega
  | negSucc i => exact absurd h (by have := Int.negSucc_lt_zero i; omega)
theorem blk_ref {s : List B8} (h : s.length = 16) {n : Int} (h0 : 0 ≤ n) (h1 : n < 64) : blk s n = refAt dblR s n := at_eq h h0 h1

/-! awake -/
def tr (p : Prop) [Decidable p] : Bool × Bool := (decide p, true)
def fa (p : Prop) [Decidable p] : Bool × Bool := (decide p, false)
theorem obs_nil : ObsOk [] := by intro q hq; cases hq
theorem obs_tr {p : Prop} [Decidable p] {l : List (Bool × Bool)} (h : p) (hl : ObsOk l) : ObsOk (tr p :: l) := by
  intro q hq
  rcases List.mem_cons.1 hq with rfl | hq
  · exact decide_eq_true h
  · exact hl q hq
theorem obs_fa {p : Prop} [Decidable p] {l : List (Bool × Bool)} (h : ¬ p) (hl : ObsOk l) : ObsOk (fa p :: l) := by
  intro q hq
  rcases List.mem_cons.1 hq with rfl | hq
  · exact decide_eq_false h
  · exact hl q hq
def sK (φ : LF) (k : List B8) : List B8 := φ.R φ.T (φ.KF k) z16
def bK (φ : LF) (k : List B8) (n : Int) : List B8 := atL (splD φ.D (sK φ k) 64) n
def obs_awake (φ : LF) : List (Bool × Bool) :=
  [tr (bK φ z16 0 = φ.D' (φ.D (sK φ z16))), tr (bK φ z16 (φ.TZ (BitVec.ofNat 64 1)) = bK φ z16 0), tr (bK φ z16 (φ.TZ (BitVec.ofNat 64 0)) = z16), tr (bK φ z16 (-1) = z16), tr (φ.D (sK φ z16) = φ.D' (sK φ z16)),
   tr (((nth 0 (sK φ z16) 2).toNat : Int) = ((BitVec.ofNat 8 75).toNat : Int)), tr (((nth 0 (sK φ z16) 1).toNat : Int) = ((BitVec.ofNat 8 233).toNat : Int)), tr (((nth 0 (sK φ z16) 0).toNat : Int) = ((BitVec.ofNat 8 102).toNat : Int))]
theorem l_awake9 (φ : LF) : evalE (K_L φ) 60 Tryd.f22 [] [] [some true, some true, some true, some true, some true, some true, some true, some true] [] = some (.s (.bool true), obs_awake φ, []) := by kernel_rfl
theorem star0_a : (nth 0 (starK z16) 0).toNat = 102 := by rw [← starK_ref, z_out]; kernel_rfl
theorem star0_b : (nth 0 (starK z16) 1).toNat = 233 := by rw [← starK_ref, z_out]; kernel_rfl
theorem star0_c : (nth 0 (starK z16) 2).toNat = 75 := by rw [← starK_ref, z_out]; kernel_rfl
theorem tz0 : tzI (BitVec.ofNat 64 0) = 64 := by rw [tzI_eq]; kernel_rfl
theorem tz1 : tzI (BitVec.ofNat 64 1) = 0 := by rw [tzI_eq]; kernel_rfl
theorem blk0 {s : List B8} (h : s.length = 16) : blk s 0 = dblL (dblL s) := by
  rw [blk_ref h (by omega) (by omega)]
  unfold refAt
  rw [itD_eq h]
  rfl
theorem sK_eq (k : List B8) : sK φ0 k = starK k := by kernel_rfl
theorem bK_eq (k : List B8) (n : Int) : bK φ0 k n = blk (starK k) n := by kernel_rfl
theorem D_eq : φ0.D = dblL := by kernel_rfl
theorem D'_eq : φ0.D' = dblR := by kernel_rfl
theorem TZ_eq : φ0.TZ = tzI := by kernel_rfl
theorem TZ'_eq : φ0.TZ' = zerR := by kernel_rfl
theorem X_eq : φ0.X = xorL := by kernel_rfl
theorem obs_awake_ok : ObsOk (obs_awake φ0) := by
  have hl := starK_len z16
  have ha := star0_a
  have hb := star0_b
  have hc := star0_c
  unfold obs_awake
  simp only [sK_eq, bK_eq, D_eq, D'_eq, TZ_eq]
  generalize starK z16 = s at hl ha hb hc
  exact obs_tr (by rw [blk0 hl, dbl_eq (dblL_len s)]) <| obs_tr (by rw [tz1]) <| obs_tr (by rw [tz0]; exact blk_big s 64 (by omega)) <| obs_tr (blk_neg s (-1) (by omega)) <| obs_tr (dbl_eq hl).symm <|
    obs_tr (by rw [hc]; rfl) <| obs_tr (by rw [hb]; rfl) <| obs_tr (by rw [ha]; rfl) obs_nil
def sp_awake9 : List V → Option V
  | [] => some (.s (.bool true))
  | _ => none
theorem e_awake9 (G : Gl) (hG : DB G) : EntryOk G Tryd.prog 22 (pureSp sp_awake9) := by
  refine entry_pure (Go.Mo.enters_of Tryd.func22 (by kernel_rfl)) ?_
  intro args v h π vargs ha fresh m
  unfold sp_awake9 at h
  split at h
  · cases h
    exact fitsP (K := K_L φ0) (obs := obs_awake φ0) (good_L G hG) 60 _ _ Tryd.func22 (l_awake9 φ0) obs_awake_ok (by kernel_rfl) rfl rfl fresh m
  · cases h

end
end Go.Proofs.YtamlbiaakogahaaDoor
