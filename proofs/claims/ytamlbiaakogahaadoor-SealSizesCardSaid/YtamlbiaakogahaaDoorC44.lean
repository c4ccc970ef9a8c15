/- Contracts of functions by the evaluator (C44): the tags. -/
import Derived.Test.YtamlbiaakogahaaDoorC32
import Derived.Test.YtamlbiaakogahaaDoorC41
import Derived.Test.YtamlbiaakogahaaDoorC48
import Derived.Test.YtamlbiaakogahaaDoorSB
namespace Go.Proofs.YtamlbiaakogahaaDoor
open Go Go.Mo
noncomputable section

/-! seal.Tag -/
structure LT where
  R : List B32 → List B32 → List B8 → List B8
  X : List B8 → List B8 → List B8
  SM : TP → Nat → List B8 → List B8
noncomputable def E_Tg (τ : LT) : List (Nat × Mo.Spec) := (51, sQ_Sum τ.SM) :: (85, pureSp (sL_2 τ.X)) :: (69, sQ_Enc τ.R) :: (34, sp_CipherT) :: (33, sp_DollarT) :: []
noncomputable def K_Tg (τ : LT) : Cx := cxOf Tryd.prog (E_Tg τ)
abbrev TF' := TP → List B8 → List B8 → Nat → List B8 → List B8
def tagF (τ : LT) : TF' := fun p s o n l => τ.X (τ.R p.T p.kf (τ.X s (τ.X o p.dl))) (τ.SM p n (nzL n l))
theorem l_Tag (τ : LT) (p : TP) (s o l : List B8) : (List.range 151).map (fun n => ev2 (K_Tg τ) noInl 60 Tryd.f65 (.s (.ptr 0 0) :: ([.a [.b8 16 s], .a [.b8 16 o]] ++ [argZ 1 2 n])) (memT p (memBy (n * 1) l) none) [] [] (.a [.b8 16 (tagF τ p s o n l)]) []) =
    (List.range 151).map (fun n => (some (.a [.b8 16 (tagF τ p s o n l)], [], newBlks []), true)) := by kernel_rfl
def τ0 : LT := ⟨κ0.R, κ0.X, sumF χ0⟩
theorem eT_Sum (G : Gl) (hG : DB G) : EntryOk G Tryd.prog 51 (sQ_Sum τ0.SM) := by
  have h : sQ_Sum τ0.SM = sQ_Sum (sumF χ0) := by kernel_rfl
  rw [h]; exact eQ_Sum G hG
theorem eT_Xor (G : Gl) (hG : DB G) : EntryOk G Tryd.prog 85 (pureSp (sL_2 τ0.X)) := by
  have h : (pureSp (sL_2 τ0.X)) = (pureSp sp_Xor : Mo.Spec) := by kernel_rfl
  rw [h]; exact e_Xor G hG
theorem eT_Enc (G : Gl) : EntryOk G Tryd.prog 69 (sQ_Enc τ0.R) := by
  have h : sQ_Enc τ0.R = sp_EncP := by kernel_rfl
  rw [h]; exact e_EncP G
theorem good_Tg (G : Gl) (hG : DB G) : Mo.Good G (K_Tg τ0) :=
  (EnvL.cons (eT_Sum G hG) <| .cons (eT_Xor G hG) <| .cons (eT_Enc G) <| .cons (e_CipherT G hG) <| .cons (e_DollarT G hG) .nil).good mixed
/-- The tag: data of unknown length are all of their block. -/
def aS_Tag (TAG : TF') : Asp := fun args _fresh =>
  match args with
  | [.s (.ptr t 0), .a [.b8 16 s], .a [.b8 16 o], x] => rdTK t fun _c p => rdS 150 x fun c n l => .pure (c, (.a [.b8 16 (TAG p s o n l)], []), (.s .undef, []))
  | _ => .fail
theorem pure_pair {α : Type} {m : Nat → Option Blk} {x y : α} {fp : List Nat} (h : (Rd.pure x : Rd α).run m = some (y, fp)) : x = y := by cases h; rfl
theorem a_Tag (G : Gl) (hG : DB G) : AskOk1 G Tryd.prog 65 true (aS_Tag (tagF τ0)) := by
  intro args fresh m b x y fp hx hb
  have hb := hb rfl
  subst hb
  unfold aS_Tag at hx
  split at hx
  · rename_i t s o xx
    obtain ⟨c, p, x1, y1, fp1, h1, h2, h3, h4, hk1⟩ := rdTK_run hx
    obtain ⟨c', n, l, fp2, hk, hin⟩ := rdS_run hk1
    have hp := pure_pair hk
    simp only [Prod.mk.injEq] at hp
    obtain ⟨hc, rfl, _⟩ := hp
    obtain ⟨hn, hin⟩ := hin hc
    exact fits_TB (good_Tg G hG) noInl_ok Tryd.func65 (by omega) h1 h2 h3 h4 hin (pures_flat (x := .a [.b8 16 s]) rfl (pures_flat (x := .a [.b8 16 o]) rfl pures_nil)) (map_at (l_Tag τ0 p s o l) (n := n) (by omega)) (fun _ => obs0)
  · cases hx

/-! mooringref12.Tag -/
structure LU where
  RE : List B8 → List B8 → List B8 → List B8
  X : List B8 → List B8 → List B8
  DB : List B8 → List B8
  SM : List B8 → List B8 → Nat → List B8 → List B8
noncomputable def E_U (υ : LU) : List (Nat × Mo.Spec) := (52, sQ_RSum υ.SM) :: (49, pureSp (sL_2 υ.X)) :: (57, sR_Enc υ.RE) :: (26, sR_Star υ.RE) :: (29, pureSp (sL_1 υ.DB)) :: []
noncomputable def K_U (υ : LU) : Cx := cxOf Tryd.prog (E_U υ)
abbrev UF := List B8 → List B8 → List B8 → List B8 → Nat → List B8 → List B8
def rtagF (υ : LU) : UF := fun e T s o n l => υ.X (υ.RE e T (υ.X (υ.X s o) (υ.DB (υ.RE e T z16)))) (υ.SM e T n (nzL n l))
theorem l_RTag (υ : LU) (e T s o l : List B8) : (List.range 151).map (fun n => ev2 (K_U υ) noInl 60 Tryd.f66 [.a [.b8 176 e, .b8 256 T], .a [.s .empty, .b8 16 s, .b8 16 o], argB 0 n] [memBy n l, none] [] [] (.a [.b8 16 (rtagF υ e T s o n l)]) []) =
    (List.range 151).map (fun n => (some (.a [.b8 16 (rtagF υ e T s o n l)], [], newBlks []), true)) := by kernel_rfl
theorem l_RTag' (υ : LU) (e T s o l l' : List B8) (n' : Nat) : (List.range 151).map (fun n => ev2 (K_U υ) noInl 60 Tryd.f66 [.a [.b8 176 e, .b8 256 T], .a [.s (.osl 1 0 n' 0), .b8 16 s, .b8 16 o], argB 0 n] [memBy n l, some [.b8 n' l']] [] [] (.a [.b8 16 (rtagF υ e T s o n l)]) []) =
    (List.range 151).map (fun n => (some (.a [.b8 16 (rtagF υ e T s o n l)], [], newBlks []), true)) := by kernel_rfl
def υ0 : LU := ⟨ρ0.RE, ρ0.X, φ0.D', rsumF ρ0⟩
theorem eU_Sum (G : Gl) : EntryOk G Tryd.prog 52 (sQ_RSum υ0.SM) := by
  have h : sQ_RSum υ0.SM = sQ_RSum (rsumF ρ0) := by kernel_rfl
  rw [h]; exact e_RSum G
theorem eU_Dbl (G : Gl) : EntryOk G Tryd.prog 29 (pureSp (sL_1 υ0.DB)) := by
  have h : (pureSp (sL_1 υ0.DB) : Mo.Spec) = pureSp (sL_1 φ0.D') := by kernel_rfl
  rw [h]; exact eL_6 G
theorem eU_Xor (G : Gl) : EntryOk G Tryd.prog 49 (pureSp (sL_2 υ0.X)) := by
  have h : (pureSp (sL_2 υ0.X) : Mo.Spec) = pureSp (sL_2 ρ0.X) := by kernel_rfl
  rw [h]; exact eR_Xor G
theorem eU_Enc (G : Gl) : EntryOk G Tryd.prog 57 (sR_Enc υ0.RE) := by
  have h : sR_Enc υ0.RE = sR_Enc ρ0.RE := by kernel_rfl
  rw [h]; exact eR_Enc G
theorem eU_Star (G : Gl) : EntryOk G Tryd.prog 26 (sR_Star υ0.RE) := by
  have h : sR_Star υ0.RE = sR_Star ρ0.RE := by kernel_rfl
  rw [h]; exact eR_Star G
theorem good_U (G : Gl) : Mo.Good G (K_U υ0) := (EnvL.cons (eU_Sum G) <| .cons (eU_Xor G) <| .cons (eU_Enc G) <| .cons (eU_Star G) <| .cons (eU_Dbl G) .nil).good mixed
def aS_RTag (TAG : UF) : Asp := fun args _fresh =>
  match args with
  | [.a [.b8 176 e, .b8 256 T], .a [.s x0, .b8 16 s, .b8 16 o], x] => rdBz 1 (.s x0) fun _n' _l' => rdS 150 x fun c n l => .pure (c, (.a [.b8 16 (TAG e T s o n l)], []), (.s .undef, []))
  | _ => .fail
theorem field_cv {π π' : Mo.Loc} {x y : Sc} {s o : List B8} {v : Value} (h : (V.a [.s x, .b8 16 s, .b8 16 o]).cv π v) (hxy : ∀ u, x.cv π u → y.cv π' u) : (V.a [.s y, .b8 16 s, .b8 16 o]).cv π' v := by
  obtain ⟨cs, rfl, a, r, rfl, ⟨v0, rfl, h1⟩, a1, r1, rfl, h2, a2, r2, rfl, h3, h4⟩ := h
  exact ⟨_, rfl, _, _, rfl, ⟨v0, rfl, hxy _ h1⟩, a1, _, rfl, h2, a2, r2, rfl, h3, h4⟩
theorem a_RTag (G : Gl) : AskOk1 G Tryd.prog 66 true (aS_RTag (rtagF υ0)) := by
  intro args fresh m b x y fp hx hb
  have hb := hb rfl
  subst hb
  unfold aS_RTag at hx
  split at hx
  · rename_i e T x0 s o xx
    obtain ⟨n', l', fp1, hk1, hin'⟩ := rdBz_run hx
    obtain ⟨c', n, l, fp2, hk, hin⟩ := rdS_run hk1
    have hp := pure_pair hk
    simp only [Prod.mk.injEq] at hp
    obtain ⟨hc, rfl, _⟩ := hp
    obtain ⟨hn, hin⟩ := hin hc
    refine Fits.introM (Go.Mo.enters_of Tryd.func66 (by kernel_rfl)) fun π w vargs hm _ => ?_
    obtain ⟨hl, bb, oo, hb1, hb2⟩ := hin.win (by omega) hm
    obtain ⟨hl', bb', oo', hb1', hb2'⟩ := hin'.win (by omega) hm
    rw [Nat.mul_one] at hl hl'
    subst hl; subst hl'
    by_cases h0 : l' = []
    · have he := map_at (l_RTag υ0 e T s o l) (n := l.length) (by omega)
      simp only [ev2, Prod.mk.injEq] at he
      refine fitsG (good_U G) noInl_ok 60 60 _ _ 0 [] [] Tryd.func66 he.1 obs0 he.2 (sees_N hb1 (byAt_nil (b := 0) (o := 0))) fresh (fun π w vargs hm => argsW_cons (fun v hv => pure_cv rfl hv) (fun _ => argsW_cons (fun v hv => ?_) (fun _ => argsW_cons (fun v hv => ?_) (fun _ => argsW_nil)))) rfl rfl
      · refine field_cv hv fun u hu => ?_
        rcases hb2' π w u hm hu with ⟨_, a, c, rfl⟩ | ⟨h1, _⟩
        · exact ⟨a, c, rfl⟩
        · exact absurd (by rw [h0]; rfl) h1
      · exact argB_cv (σ := lk [bb, 0]) (o := lk [oo, 0]) (i := 0) (hb2 π w v hm hv) (fun hne => by show some (memBy l.length l) = _; rw [memBy_ne hne])
    · have he := map_at (l_RTag' υ0 e T s o l l' l'.length) (n := l.length) (by omega)
      simp only [ev2, Prod.mk.injEq] at he
      have hs := sees_N hb1 hb1'
      rw [memBy_ne h0] at hs
      refine fitsG (good_U G) noInl_ok 60 60 _ _ 0 [] [] Tryd.func66 he.1 obs0 he.2 hs fresh (fun π w vargs hm => argsW_cons (fun v hv => pure_cv rfl hv) (fun _ => argsW_cons (fun v hv => ?_) (fun _ => argsW_cons (fun v hv => ?_) (fun _ => argsW_nil)))) rfl rfl
      · refine field_cv hv fun u hu => ?_
        exact argS_cv (σ := lk [bb, bb']) (o := lk [oo, oo']) (i := 1) (hb2' π w u hm hu) h0 rfl
      · exact argB_cv (σ := lk [bb, bb']) (o := lk [oo, oo']) (i := 0) (hb2 π w v hm hv) (fun hne => by show some (memBy l.length l) = _; rw [memBy_ne hne])
  · cases hx
end
end Go.Proofs.YtamlbiaakogahaaDoor
