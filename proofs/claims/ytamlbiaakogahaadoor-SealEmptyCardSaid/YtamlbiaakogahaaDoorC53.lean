/- Contracts of functions by the evaluator (C53): SealEmpty. -/
import Derived.Test.YtamlbiaakogahaaDoorC50
namespace Go.Proofs.YtamlbiaakogahaaDoor
open Go Go.Mo
noncomputable section

/-! SealEmpty -/
noncomputable abbrev SEM := Tryd.f19
def obsSE (ζ : LZ) (k nc : List B8) : List (Bool × Bool) :=
  [tr (ζ.CD (pZ ζ k) nc 0 [] = ζ.RD (ζ.φ.W k) ζ.φ.SB nc 0 []), tr (ζ.SEA (pZ ζ k) nc 0 [] 0 [] = ζ.φ.RE (ζ.φ.W k) ζ.φ.SB (ζ.φ.X (ζ.CD (pZ ζ k) nc 0 []) (ζ.φ.D' (ζ.φ.RE (ζ.φ.W k) ζ.φ.SB z16)))), tr (ζ.CS (pZ ζ k) nc 0 [] = z16), (true, true)]
theorem l_SE (ζ : LZ) (k nc : List B8) : ev2 (K_Z1 ζ) noInl 80 SEM [.a [.b8 16 k], .a [.b8 12 nc]] [] [some true, some true, some true, some true] [] (.s (.bool true)) [] = (some (.s (.bool true), obsSE ζ k nc, newBlks []), true) := by kernel_rfl
theorem sum_nil (p : TP) : sumF χ0 p 0 [] = z16 := by kernel_rfl
theorem obsSE_ok (k nc : List B8) : ObsOk (obsSE ζ0 k nc) := by
  have e1 : ζ0.SEA (pZ ζ0 k) nc 0 [] 0 [] = xorL (κ0.R (pk k).T (pk k).kf (xorL (crS κ0 (pk k) nc 0 []) (xorL (crD κ0 (pk k) nc 0 []) (pk k).dl))) (sumF χ0 (pk k) 0 []) := by kernel_rfl
  have e2 : ζ0.CD (pZ ζ0 k) nc 0 [] = crD κ0 (pk k) nc 0 [] := by kernel_rfl
  have e3 : ζ0.RD (ζ0.φ.W k) ζ0.φ.SB nc 0 [] = rcD δ0 (wk k) sB nc 0 [] := by kernel_rfl
  have e4 : ∀ x, ζ0.φ.RE (ζ0.φ.W k) ζ0.φ.SB x = refEnc (wordsR k) sboxL x := by intro x; kernel_rfl
  have e5 : ζ0.φ.X = xorL := by kernel_rfl
  have e6 : ζ0.φ.D' = dblR := by kernel_rfl
  have e7 : (pk k).dl = dblL (starK k) := by kernel_rfl
  have e8 : crS κ0 (pk k) nc 0 [] = z16 := by kernel_rfl
  have e9 : ζ0.CS (pZ ζ0 k) nc 0 [] = crS κ0 (pk k) nc 0 [] := by kernel_rfl
  unfold obsSE
  refine obs_tr ?_ <| obs_tr ?_ <| obs_tr ?_ <| obs_ok1 rfl obs_nil
  · rw [e2, e3, crD_eq k nc (by omega)]
  · rw [e1, e2, e4, e4, e5, e6, sum_nil, xor_z16 (by rw [κR]; rfl), κR, e7, e8, starK_ref, dbl_eq (starK_len k), xor_zero16 rfl]
  · rw [e9, e8]
def sp_SE : List V → Option V
  | [.a [.b8 16 _], .a [.b8 12 _]] => some (.s (.bool true))
  | _ => none
theorem e_SealEmpty (G : Gl) (hG : DB G) : EntryOk G Tryd.prog 19 (pureSp sp_SE) := by
  refine entry_pure (Go.Mo.enters_of Tryd.func19 (by kernel_rfl)) ?_
  intro args v h π vargs ha fresh m
  unfold sp_SE at h
  split at h
  · rename_i k nc
    cases h
    have he := l_SE ζ0 k nc
    simp only [ev2, Prod.mk.injEq] at he
    exact fitsG (good_Z1 G hG) noInl_ok 80 80 [.a [.b8 16 k], .a [.b8 12 nc]] [] 0 _ [] Tryd.func19 he.1 (obsSE_ok k nc) he.2 (σ := fun i => i) (o := fun _ => 0) ⟨fun i _ hi => (by omega), fun i _ _ e => (by simp at e), fun i hi => (by omega), fun i _ hi => (by omega)⟩ fresh
      (fun π w vargs _ => argsW_cons (fun v hv => pure_cv rfl hv) (fun _ => argsW_cons (fun v hv => pure_cv rfl hv) (fun _ => argsW_nil))) rfl rfl
  · cases h

end
end Go.Proofs.YtamlbiaakogahaaDoor
