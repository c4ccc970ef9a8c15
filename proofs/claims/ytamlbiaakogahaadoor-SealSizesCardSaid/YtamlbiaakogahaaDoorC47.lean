/- Contracts of functions by the evaluator (C47): the environment of the laws of layer 12. -/
import Derived.Test.YtamlbiaakogahaaDoorC46
namespace Go.Mo
open Go Go.RowKit
section
variable {G : Gl} {K : Cx} {inl : Inl} {m : Nat → Option Blk} {f : Nat} {fn : Func} {fuel : Nat} {orc : List (Option Bool)} {v : V} {obs : List (Bool × Bool)} {E : List Nat} {gsl : List (List Seg)} {fresh : Nat} {px pc : List V}
/-- The second length unknown. -/
theorem fits_BS (hG : Good G K) (hi : InlOk K.P inl) (hf : K.P.funcs[f]? = some fn) {b b' : V} {n n' : Nat} {l l' : List (BitVec 8)} (hn' : n' ≠ 0) (hin : ByIn m 1 b n l) (hin' : ByIn m 1 b' n' l') (hp : Pures px pc)
    (he : ev2 K inl fuel fn (pc ++ [argB 0 n, argS 1 n']) [memBy n l, some [.b8 n' l']] orc E v gsl = (some (v, obs, newBlks gsl), true)) (hobs : l.length = n → l'.length = n' → ObsOk obs) :
    Fits G K.P f (px ++ [b, b']) fresh m (v.ren (newIdx E fresh)) (gsl.map (renSegs (newIdx E fresh))) := by
  refine Fits.introM (ev2_enters hf he) fun π w vargs hm _ => ?_
  obtain ⟨hl, bb, oo, hb1, hb2⟩ := hin.win (by omega) hm
  obtain ⟨hl', bb', oo', hb1', hb2'⟩ := hin'.win (by omega) hm
  rw [Nat.mul_one] at hl hl'
  subst hl; subst hl'
  have hne' : l' ≠ [] := fun e => hn' (by rw [e]; rfl)
  simp only [ev2, Prod.mk.injEq] at he
  have hs := sees_N hb1 hb1'
  rw [memBy_ne hne'] at hs
  refine fitsG hG hi fuel fuel _ _ 0 orc E hf he.1 (hobs rfl rfl) he.2 hs fresh (fun π w vargs hm => argsW_app (hp _ _) (fun _ => argsW_cons (fun v hv => ?_) (fun _ => argsW_cons (fun v hv => ?_) (fun _ => argsW_nil)))) rfl rfl
  · exact argB_cv (σ := lk [bb, bb']) (o := lk [oo, oo']) (i := 0) (hb2 π w v hm hv) (fun hne => by show some (memBy l.length l) = _; rw [memBy_ne hne])
  · exact argS_cv (σ := lk [bb, bb']) (o := lk [oo, oo']) (i := 1) (hb2' π w v hm hv) hne' rfl
end
end Go.Mo
namespace Go.Proofs.YtamlbiaakogahaaDoor
open Go Go.Mo
noncomputable section

/-! Size -/
def sp_Size : List V → Option V
  | [.s (.i .i64 (.ofNat n))] => bif Nat.ble n 200 then some (.s (.i .i64 (.ofNat (n + 16)))) else none
  | [.s (.i .i64 (.negSucc 0))] => some (.s (.i .i64 0))
  | _ => none
theorem l_Size : (List.range 201).map (fun n => evalE K_none 60 Tryd.f62 [.s (.i .i64 (.ofNat n))] [] [] []) = (List.range 201).map (fun n => some (.s (.i .i64 (.ofNat (n + 16))), [], [])) := by kernel_rfl
theorem l_Size1 : evalE K_none 60 Tryd.f62 [.s (.i .i64 (.negSucc 0))] [] [] [] = some (.s (.i .i64 0), [], []) := by kernel_rfl
theorem e_Size (G : Gl) : EntryOk G Tryd.prog 62 (pureSp sp_Size) := by
  refine entry_pure (Go.Mo.enters_of Tryd.func62 (by kernel_rfl)) ?_
  intro args v h π vargs ha fresh m
  unfold sp_Size at h
  split at h
  · rename_i n
    cases hb : Nat.ble n 200 <;> simp only [hb, cond_true, cond_false] at h
    · cases h
    cases h
    exact fitsP (good_none G) 60 _ [] Tryd.func62 (map_at l_Size (le_of_not hb)) obs0 rfl rfl rfl fresh m
  · cases h
    exact fitsP (good_none G) 60 _ [] Tryd.func62 l_Size1 obs0 rfl rfl rfl fresh m
  · cases h

/-! The names. -/
structure LZ where
  φ : LF
  CO : CF
  CS : CF
  CD : CF
  RO : DF
  RS : DF
  RD : DF
  TAG : TF'
  RTAG : UF
  SEA : SF'
  RSEA : XF'
def ζ0 : LZ := ⟨φ0, crO κ0, crS κ0, crD κ0, rcO δ0, rcS δ0, rcD δ0, tagF τ0, rtagF υ0, seO ν0, rsO ξ0⟩
noncomputable def E_Z (ζ : LZ) : List (Nat × Mo.Spec) := (62, pureSp sp_Size) :: (63, sQ_Crypt ζ.CO ζ.CS ζ.CD) :: (64, sQ_RCrypt ζ.RO ζ.RS ζ.RD) ::
  (24, sL_New ζ.φ) :: (23, altSp firstNil (sL_TNewN ζ.φ) (sL_TNewP ζ.φ)) :: (27, pureSp (sL_Prep ζ.φ)) :: (57, sL_REnc ζ.φ) :: (49, pureSp (sL_2 ζ.φ.X)) ::
  (29, pureSp (sL_1 ζ.φ.D')) :: (26, sL_RStar ζ.φ) :: []
noncomputable def A_Z (ζ : LZ) : List (Nat × Bool × Asp) := [(60, true, aS_Same), (59, true, aS_Seal ζ.SEA), (61, true, aS_RSeal ζ.RSEA), (65, true, aS_Tag ζ.TAG), (66, true, aS_RTag ζ.RTAG)]
noncomputable def K_Z (ζ : LZ) : Cx := cxA (cxOf Tryd.prog (E_Z ζ)) (A_Z ζ)
theorem eZ_Crypt (G : Gl) (hG : DB G) : EntryOk G Tryd.prog 63 (sQ_Crypt ζ0.CO ζ0.CS ζ0.CD) := by
  have h : sQ_Crypt ζ0.CO ζ0.CS ζ0.CD = sQ_Crypt (crO κ0) (crS κ0) (crD κ0) := by kernel_rfl
  rw [h]; exact e_Crypt G hG
theorem eZ_RCrypt (G : Gl) : EntryOk G Tryd.prog 64 (sQ_RCrypt ζ0.RO ζ0.RS ζ0.RD) := by
  have h : sQ_RCrypt ζ0.RO ζ0.RS ζ0.RD = sQ_RCrypt (rcO δ0) (rcS δ0) (rcD δ0) := by kernel_rfl
  rw [h]; exact e_RCrypt G
theorem kZ_φ : ζ0.φ = φ0 := by kernel_rfl
theorem list_Z (G : Gl) (hG : DB G) : EnvL G Tryd.prog (E_Z ζ0) := by
  unfold E_Z
  rw [kZ_φ]
  exact .cons (e_Size G) <| .cons (eZ_Crypt G hG) <| .cons (eZ_RCrypt G) <| .cons (eL_0 G) <| .cons (eL_1 G hG) <| .cons (eL_7 G) <| .cons (eL_8 G) <| .cons (eL_11 G) <| .cons (eL_6 G) <| .cons (eL_9 G) .nil
theorem aZ_Seal (G : Gl) (hG : DB G) : AskOk1 G Tryd.prog 59 true (aS_Seal ζ0.SEA) := by
  have h : aS_Seal ζ0.SEA = aS_Seal (seO ν0) := by kernel_rfl
  rw [h]; exact a_Seal G hG
theorem aZ_RSeal (G : Gl) : AskOk1 G Tryd.prog 61 true (aS_RSeal ζ0.RSEA) := by
  have h : aS_RSeal ζ0.RSEA = aS_RSeal (rsO ξ0) := by kernel_rfl
  rw [h]; exact a_RSeal G
theorem aZ_Tag (G : Gl) (hG : DB G) : AskOk1 G Tryd.prog 65 true (aS_Tag ζ0.TAG) := by
  have h : aS_Tag ζ0.TAG = aS_Tag (tagF τ0) := by kernel_rfl
  rw [h]; exact a_Tag G hG
theorem aZ_RTag (G : Gl) : AskOk1 G Tryd.prog 66 true (aS_RTag ζ0.RTAG) := by
  have h : aS_RTag ζ0.RTAG = aS_RTag (rtagF υ0) := by kernel_rfl
  rw [h]; exact a_RTag G
theorem asks_Z (G : Gl) (hG : DB G) : AskL G Tryd.prog (A_Z ζ0) := .cons (a_Same G) <| .cons (aZ_Seal G hG) <| .cons (aZ_RSeal G) <| .cons (aZ_Tag G hG) <| .cons (aZ_RTag G) .nil
theorem good_Z (G : Gl) (hG : DB G) : Mo.Good G (K_Z ζ0) := ((list_Z G hG).good mixed).asks (asks_Z G hG)
end
end Go.Proofs.YtamlbiaakogahaaDoor
