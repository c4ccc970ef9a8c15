/- The contract of math/bits.TrailingZeros64, out of the library's own. -/
import Derived.Test.YtamlbiaakogahaaDoorSp1
import Derived.Test.YtamlbiaakogahaaDoorC5
import Derived.Shelf.Spec.TrailingZeros
namespace Go.Proofs.YtamlbiaakogahaaDoor
open Go Go.Mo Go.Shelf Go.RowKit
noncomputable section
def tzRen : Ren := ⟨fun _ => 105, fun n => if n = 22 then 23 else if n = 25 then 136 else if n = 54 then 154 else n, fun _ => 0⟩
theorem tzLays : Lays7.n29 Tryd.prog tzRen where
  mixed := mixed
  f29 := by kernel_rfl
  t0 := by kernel_rfl
  a0 := fun w => by kernel_rfl
  z0 := fun w => by kernel_rfl
  v0 := fun w => by kernel_rfl
  i0 := by kernel_rfl
  t3 := by kernel_rfl
  a3 := fun w => by kernel_rfl
  z3 := fun w => by kernel_rfl
  v3 := fun w => by kernel_rfl
  i3 := by kernel_rfl
  t4 := by kernel_rfl
  a4 := fun w => by kernel_rfl
  z4 := fun w => by kernel_rfl
  v4 := fun w => by kernel_rfl
  i4 := by kernel_rfl
  t5 := by kernel_rfl
  a5 := fun w => by kernel_rfl
  z5 := fun w => by kernel_rfl
  v5 := fun w => by kernel_rfl
  i5 := by kernel_rfl
  t22 := by kernel_rfl
  a22 := fun w => by kernel_rfl
  z22 := fun w => by kernel_rfl
  v22 := fun w => by kernel_rfl
  i22 := by kernel_rfl
  t25 := by kernel_rfl
  a25 := fun w => by kernel_rfl
  z25 := fun w => by kernel_rfl
  v25 := fun w => by kernel_rfl
  i25 := by kernel_rfl
  t54 := by kernel_rfl
  a54 := fun w => by kernel_rfl
  z54 := fun w => by kernel_rfl
  g1 := by kernel_rfl
/-- The known package-level block is the table of math/bits. -/
def DB (G : Gl) : Prop := G.g = 0 ∧ ∃ cs T fz, G.obj = .cells cs T fz ∧ ∀ j, j < 64 → cs[j]? = some (.int .u8 ((Lib.deBruijn64tab.getD j 0 : Nat) : Int))
def tzI (x : BitVec 64) : Int := (Lib.ctz 64 x.toNat : Nat)
def sp_TZ : List V → Option V
  | [.s (.b64 x)] => some (.s (.si (tzI x)))
  | _ => none
theorem e_TZ (G : Gl) (hG : DB G) : EntryOk G Tryd.prog 105 (pureSp sp_TZ) := by
  refine entry_pure (Go.Mo.enters_of Tryd.func105 (by kernel_rfl)) ?_
  intro args v h π vargs ha fresh m
  unfold sp_TZ at h
  split at h
  · rename_i x
    cases h
    refine ⟨Go.Mo.enters_of Tryd.func105 (by kernel_rfl), fun π w vargs _ _ hg ha _ => ?_⟩
    obtain ⟨v1, vr, rfl, h1, h2⟩ := ha
    have h2 : vr = [] := h2
    have h1 : v1 = .int .u64 (x.toNat : Int) := h1
    subst h1; subst h2
    have := Any7.bits_TrailingZeros64 tzLays x.toNat x.isLt w (fun _ j hj => by
      obtain ⟨e1, cs, T, fz, e2, e3⟩ := hG
      rw [e1, e2] at hg
      have e4 := e3 j hj
      show w.cell? ⟨0, j, none⟩ = _
      simp [World.cell?, hg, e4])
    refine this.mono ?_
    rintro e w' ⟨rfl, rfl⟩
    exact ⟨_, [], rfl, ⟨rfl, List.nodup_nil, by simp, Below.refl _ _, rfl, by simp⟩⟩
  · cases h
def E_TZ : List (Nat × Mo.Spec) := (105, pureSp sp_TZ) :: E_Enc
def K_TZ : Cx := cxOf Tryd.prog E_TZ
theorem good_TZ (G : Gl) (hG : DB G) : EnvL G Tryd.prog E_TZ := .cons (e_TZ G hG) (good_Enc G)
end
end Go.Proofs.YtamlbiaakogahaaDoor
