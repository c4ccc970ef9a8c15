/- Contracts of functions by the evaluator (C22). -/
import Derived.Test.YtamlbiaakogahaaDoorC16
import Derived.Test.YtamlbiaakogahaaDoorC20
import Derived.Test.YtamlbiaakogahaaDoorBr1
import Derived.Test.YtamlbiaakogahaaDoorProg
namespace Go.Proofs.YtamlbiaakogahaaDoor
open Go Go.Mo
noncomputable section

structure LO where
  φ : LF
  BO : List B8 → Int
  BO' : List B8 → Int
  ST : List B8 → List B8
  TOP : TP → List B8 → List B8
  STA : TP → List B8 → List B8
  RTO : List B8 → List B8 → List B8 → List B8
  RST : List B8 → List B8 → List B8 → List B8
  OA : TP → List B8 → Int → List B8
  RA : List B8 → List B8 → List B8 → Int → List B8
  SH' : List B8 → Int → List B8
def ψ0 : LO := ⟨φ0, botI, rbotI, strL, fun p n => runF 0 1 sb p.T p.kf (topL n), stO1, fun e T n => refEnc e T (rtopL n), rStart,
  fun p n i => offIt xorL (fun m => atL p.bl (tzI (numO m))) (stO1 p n) (posI i).toNat, fun e T n i => offIt xorL (fun m => rFor (rStar e T) (numR m)) (rStart e T n) i.toNat, shiftR⟩
def sP_RTop (F : List B8 → List B8 → List B8 → List B8) : Mo.Spec := fun args _fresh =>
  match args with
  | [.a [.b8 176 e, .b8 256 T], .a [.b8 12 n]] => .pure (.a [.b8 16 (F e T n)], [])
  | _ => .fail
def sP_OAt (F : TP → List B8 → Int → List B8) : Mo.Spec := fun args _fresh =>
  match args with
  | [.s (.ptr t 0), .a [.b8 12 n], .s ix] => (match ixI ix with | some i => rdT t fun _c p => some (.a [.b8 16 (F p n i)], []) | none => .fail)
  | _ => .fail
def sP_RAt (F : List B8 → List B8 → List B8 → Int → List B8) : Mo.Spec := fun args _fresh =>
  match args with
  | [.a [.b8 176 e, .b8 256 T], .a [.b8 12 n], .s ix] => (match ixI ix with | some i => .pure (.a [.b8 16 (F e T n i)], []) | none => .fail)
  | _ => .fail
def sP_Sh (F : List B8 → Int → List B8) : Mo.Spec := fun args _fresh =>
  match args with
  | [.a [.b8 24 l], .s ix] => (match ixI ix with | some n => .pure (.a [.b8 16 (F l n)], []) | none => .fail)
  | _ => .fail
def E_P (ψ : LO) : List (Nat × Mo.Spec) :=
  (37, pureSp (spO_Bot ψ.BO)) :: (43, pureSp (spO_Str ψ.ST)) :: (39, sN_Start ψ.TOP) :: (41, sN_Start ψ.STA) :: (47, sN_Next ψ.φ.X ψ.φ.TZ) :: (38, pureSp (spQ_Bot ψ.BO')) :: (44, pureSp (spQ_Str ψ.ST)) :: (40, sP_RTop ψ.RTO) :: (42, pureSp (sM_Start ψ.RST)) :: E_L ψ.φ
def C_P (ψ : LO) : List (Nat × Mo.Spec × Ob) := [(45, sP_OAt ψ.OA, ob_OAt), (46, sP_RAt ψ.RA, ob_ROAt), (48, sP_Sh ψ.SH', ob_RSh)]
def K_P (ψ : LO) : Cx := cxC Tryd.prog (C_P ψ) (E_P ψ)
theorem eP_0 (G : Gl) (hG : DB G) : EntryOk G Tryd.prog 37 (pureSp (spO_Bot ψ0.BO)) := by
  have h : (pureSp (spO_Bot ψ0.BO)) = (pureSp sp_Bottom : Mo.Spec) := by kernel_rfl
  rw [h]
  exact e_Bottom G hG
theorem eP_1 (G : Gl) (hG : DB G) : EntryOk G Tryd.prog 43 (pureSp (spO_Str ψ0.ST)) := by
  have h : (pureSp (spO_Str ψ0.ST)) = (pureSp sp_Stretch : Mo.Spec) := by kernel_rfl
  rw [h]
  exact e_Stretch G hG
theorem eP_2 (G : Gl) (hG : DB G) : EntryOk G Tryd.prog 39 (sN_Start ψ0.TOP) := by
  have h : (sN_Start ψ0.TOP) = (sp_Top : Mo.Spec) := by kernel_rfl
  rw [h]
  exact e_Top G hG
theorem eP_3 (G : Gl) (hG : DB G) : EntryOk G Tryd.prog 41 (sN_Start ψ0.STA) := by
  have h : (sN_Start ψ0.STA) = (sp_Start : Mo.Spec) := by kernel_rfl
  rw [h]
  exact e_Start G hG
theorem eP_4 (G : Gl) (hG : DB G) : EntryOk G Tryd.prog 47 (sN_Next ψ0.φ.X ψ0.φ.TZ) := by
  have h : (sN_Next ψ0.φ.X ψ0.φ.TZ) = (sp_ONext : Mo.Spec) := by kernel_rfl
  rw [h]
  exact e_ONext G hG
theorem eP_5 (G : Gl) : EntryOk G Tryd.prog 38 (pureSp (spQ_Bot ψ0.BO')) := by
  have h : (pureSp (spQ_Bot ψ0.BO')) = (pureSp sp_RBottom : Mo.Spec) := by kernel_rfl
  rw [h]
  exact e_RBottom G
theorem eP_6 (G : Gl) : EntryOk G Tryd.prog 44 (pureSp (spQ_Str ψ0.ST)) := by
  have h : (pureSp (spQ_Str ψ0.ST)) = (pureSp sp_RStretch : Mo.Spec) := by kernel_rfl
  rw [h]
  exact e_RStretch G
theorem eP_7 (G : Gl) : EntryOk G Tryd.prog 40 (sP_RTop ψ0.RTO) := by
  have h : (sP_RTop ψ0.RTO) = (sp_RTop : Mo.Spec) := by kernel_rfl
  rw [h]
  exact e_RTop G
theorem eP_8 (G : Gl) : EntryOk G Tryd.prog 42 (pureSp (sM_Start ψ0.RST)) := by
  have h : (pureSp (sM_Start ψ0.RST)) = (pureSp sp_RStart : Mo.Spec) := by kernel_rfl
  rw [h]
  exact e_RStart G
theorem list_P (G : Gl) (hG : DB G) : EnvL G Tryd.prog (E_P ψ0) :=
  .cons (eP_0 G hG) <| .cons (eP_1 G hG) <| .cons (eP_2 G hG) <| .cons (eP_3 G hG) <| .cons (eP_4 G hG) <| .cons (eP_5 G) <| .cons (eP_6 G) <| .cons (eP_7 G) <| .cons (eP_8 G) <| list_L G hG
theorem cP_1 (G : Gl) (hG : DB G) : EntryOkO G Tryd.prog 45 (sP_OAt ψ0.OA) ob_OAt := by
  have h : sP_OAt ψ0.OA = sp_OAt := by kernel_rfl
  rw [h]; exact e_OAt G hG
theorem cP_2 (G : Gl) : EntryOkO G Tryd.prog 46 (sP_RAt ψ0.RA) ob_ROAt := by
  have h : sP_RAt ψ0.RA = sp_ROAt := by kernel_rfl
  rw [h]; exact e_ROAt G
theorem cP_3 (G : Gl) : EntryOkO G Tryd.prog 48 (sP_Sh ψ0.SH') ob_RSh := by
  have h : sP_Sh ψ0.SH' = sp_RSh := by kernel_rfl
  rw [h]; exact e_RSh G
theorem good_P (G : Gl) (hG : DB G) : Mo.Good G (K_P ψ0) := (CondL.cons (cP_1 G hG) <| .cons (cP_2 G) <| .cons (cP_3 G) .nil).good (list_P G hG) mixed
/-- What a key's table and cipher hold. -/
def pK (φ : LF) (k : List B8) : TP := ⟨sK φ k, φ.D (sK φ k), splD φ.D (sK φ k) 64, φ.KF k, φ.KB k, k, φ.T⟩
def nff : List B8 := (List.replicate 12 0).set 11 255
def nc0 : List B8 := (List.replicate 12 0).set 11 192
def b1 : List B8 := (List.replicate 16 0).set 0 1
def l24 : List B8 := ((List.replicate 24 0).set 0 1).set 16 1
def obs_awake10 (ψ : LO) : List (Bool × Bool) :=
  [tr (ψ.TOP (pK ψ.φ z16) nff = ψ.TOP (pK ψ.φ z16) nc0), tr (ψ.φ.X z16 (bK ψ.φ z16 (ψ.φ.TZ (BitVec.ofNat 64 1))) = bK ψ.φ z16 0), tr (ψ.STA (pK ψ.φ z16) nff = ψ.OA (pK ψ.φ z16) nff 0), tr ((0 : Int) ≤ 302), tr (ψ.ST b1 = l24), tr (ψ.BO nff = 63)]
theorem l_awake10 (ψ : LO) : evalE (K_P ψ) 60 Tryd.f36 [] [] [some true, some true, some true, some true, some true] [] = some (.s (.bool true), obs_awake10 ψ, []) := by kernel_rfl

end
end Go.Proofs.YtamlbiaakogahaaDoor
