/- Contracts of functions by the evaluator (C45): Seal. -/
import Derived.Test.YtamlbiaakogahaaDoorC44
namespace Go.Proofs.YtamlbiaakogahaaDoor
open Go Go.Mo
noncomputable section

/-! seal.Seal -/
structure LV where
  CO : CF
  CS : CF
  CD : CF
  TAG : TF'
noncomputable def K_Vs (ν : LV) : Cx := cxA (cxOf Tryd.prog ((63, sQ_Crypt ν.CO ν.CS ν.CD) :: [])) [(65, true, aS_Tag ν.TAG)]
def seT (ν : LV) (p : TP) (nc : List B8) (n : Nat) (l : List B8) (n' : Nat) (l' : List B8) : List B8 := ν.TAG p (ν.CS p nc n' (nzL n' l')) (ν.CD p nc n' (nzL n' l')) n l
abbrev SF' := TP → List B8 → Nat → List B8 → Nat → List B8 → List B8
def seO (ν : LV) : SF' := fun p nc n l n' l' => bif Nat.beq n' 0 then seT ν p nc n l n' l' else ν.CO p nc n' (nzL n' l') ++ seT ν p nc n l n' l'
def seX (n' : Nat) : Nat := bif Nat.beq n' 0 then 8 else 9
def seV (x n' : Nat) : V := .s (.osl x 0 (n' + 16) 1)
noncomputable def seEv (ν : LV) (p : TP) (nc l l' : List B8) (n n' : Nat) := ev2 (K_Vs ν) noInl 60 Tryd.f59 (.s (.ptr 0 0) :: ([.a [.b8 12 nc]] ++ [argS 2 n, argB 3 n'])) (memT p (some [.b8 n l]) (memBy n' l')) [some true] [seX n'] (seV (seX n') n') [[.b8 (n' + 16) (seO ν p nc n l n' l')]]
def seSh (ν : LV) (p : TP) (nc l l' : List B8) (n n' : Nat) : Option (V × List (Bool × Bool) × List (Option Blk)) × Bool := (some (seV (seX n') n', [(decide (n = n ∧ n ≠ 0 ∧ n ≤ 150), true)], newBlks [[.b8 (n' + 16) (seO ν p nc n l n' l')]]), true)
noncomputable def seEv0 (ν : LV) (p : TP) (nc l' : List B8) (n' : Nat) := ev2 (K_Vs ν) noInl 60 Tryd.f59 (.s (.ptr 0 0) :: ([.a [.b8 12 nc]] ++ [argB 2 0, argB 3 n'])) (memT p (memBy 0 []) (memBy n' l')) [some true] [seX n'] (seV (seX n') n') [[.b8 (n' + 16) (seO ν p nc 0 [] n' l')]]
def seSh0 (ν : LV) (p : TP) (nc l' : List B8) (n' : Nat) : Option (V × List (Bool × Bool) × List (Option Blk)) × Bool := (some (seV (seX n') n', [(true, true)], newBlks [[.b8 (n' + 16) (seO ν p nc 0 [] n' l')]]), true)
theorem l_Seal (ν : LV) (p : TP) (nc l l' : List B8) (n : Nat) : (List.range 151).map (fun n' => seEv ν p nc l l' n n') = (List.range 151).map (fun n' => seSh ν p nc l l' n n') := by kernel_rfl
theorem l_Seal0 (ν : LV) (p : TP) (nc l' : List B8) : (List.range 151).map (fun n' => seEv0 ν p nc l' n') = (List.range 151).map (fun n' => seSh0 ν p nc l' n') := by kernel_rfl
def ν0 : LV := ⟨crO κ0, crS κ0, crD κ0, tagF τ0⟩
theorem eV_Crypt (G : Gl) (hG : DB G) : EntryOk G Tryd.prog 63 (sQ_Crypt ν0.CO ν0.CS ν0.CD) := by
  have h : sQ_Crypt ν0.CO ν0.CS ν0.CD = sQ_Crypt (crO κ0) (crS κ0) (crD κ0) := by kernel_rfl
  rw [h]; exact e_Crypt G hG
theorem aV_Tag (G : Gl) (hG : DB G) : AskOk1 G Tryd.prog 65 true (aS_Tag ν0.TAG) := by
  have h : aS_Tag ν0.TAG = aS_Tag (tagF τ0) := by kernel_rfl
  rw [h]; exact a_Tag G hG
theorem good_Vs (G : Gl) (hG : DB G) : Mo.Good G (K_Vs ν0) := ((EnvL.cons (eV_Crypt G hG) .nil).good mixed).asks (.cons (aV_Tag G hG) .nil)
def aS_Seal (SEA : SF') : Asp := fun args fresh =>
  match args with
  | [.s (.ptr t 0), .a [.b8 12 nc], x, y] => rdTK t fun _c p => rdS 150 x fun c n l => rdBz 1 y fun n' l' => bif Nat.ble n' 150 then .pure (c, ((seV (seX n') n').ren (newIdx [seX n'] fresh), ([[.b8 (n' + 16) (SEA p nc n l n' l')]] : List (List Seg)).map (renSegs (newIdx [seX n'] fresh))), (.s .undef, [])) else .fail
  | _ => .fail
theorem a_Seal (G : Gl) (hG : DB G) : AskOk1 G Tryd.prog 59 true (aS_Seal (seO ν0)) := by
  intro args fresh m b x y fp hx hb
  have hb := hb rfl
  subst hb
  unfold aS_Seal at hx
  split at hx
  · rename_i t nc xx yy
    obtain ⟨c, p, x1, y1, fp1, h1, h2, h3, h4, hk1⟩ := rdTK_run hx
    obtain ⟨c', n, l, fp2, hk2, hin⟩ := rdS_run hk1
    obtain ⟨n', l', fp3, hk, hin'⟩ := rdBz_run hk2
    cases hb' : Nat.ble n' 150 <;> simp only [hb', cond_true, cond_false] at hk
    · exact (fail_run hk).elim
    have hp := pure_pair hk
    simp only [Prod.mk.injEq] at hp
    obtain ⟨hc, rfl, _⟩ := hp
    obtain ⟨hn, hin⟩ := hin hc
    have hn' := le_of_not hb'
    by_cases h0 : n = 0
    · subst h0
      have := ByIn.zero hin
      subst this
      exact fits_TBB (good_Vs G hG) noInl_ok Tryd.func59 h1 h2 h3 h4 hin hin' (pures_flat (x := .a [.b8 12 nc]) rfl pures_nil) (map_at (l_Seal0 ν0 p nc l') hn') (fun _ _ => by intro q hq; simp only [List.mem_cons, List.not_mem_nil, or_false] at hq; subst hq; rfl)
    · exact fits_TSB (good_Vs G hG) noInl_ok Tryd.func59 h1 h2 h3 h4 h0 hin hin' (pures_flat (x := .a [.b8 12 nc]) rfl pures_nil) (map_at (l_Seal ν0 p nc l l' n) hn')
        (fun _ _ => by intro q hq; simp only [List.mem_cons, List.not_mem_nil, or_false] at hq; subst hq; simp [h0, hn])
  · cases hx

/-! mooringref12.Seal -/
structure LX where
  RO : DF
  RS : DF
  RD : DF
  TAG : UF
noncomputable def K_Xs (ξ : LX) : Cx := cxA (cxOf Tryd.prog ((64, sQ_RCrypt ξ.RO ξ.RS ξ.RD) :: [])) [(66, true, aS_RTag ξ.TAG)]
abbrev XF' := List B8 → List B8 → List B8 → Nat → List B8 → Nat → List B8 → List B8
def rsT (ξ : LX) : XF' := fun e T nc n l n' l' => ξ.TAG e T (ξ.RS e T nc n' (nzL n' l')) (ξ.RD e T nc n' (nzL n' l')) n l
def rsO (ξ : LX) : XF' := fun e T nc n l n' l' => bif Nat.beq n' 0 then rsT ξ e T nc n l n' l' else ξ.RO e T nc n' (nzL n' l') ++ rsT ξ e T nc n l n' l'
def rsX (n' : Nat) : Nat := bif Nat.beq n' 0 then 6 else 7
noncomputable def rzEv (ξ : LX) (e T nc l l' : List B8) (n n' : Nat) := ev2 (K_Xs ξ) noInl 60 Tryd.f61 ([.a [.b8 176 e, .b8 256 T], .a [.b8 12 nc]] ++ [argS 0 n, argB 1 n']) [some [.b8 n l], memBy n' l'] [some true] [rsX n'] (seV (rsX n') n') [[.b8 (n' + 16) (rsO ξ e T nc n l n' l')]]
def rzSh (ξ : LX) (e T nc l l' : List B8) (n n' : Nat) : Option (V × List (Bool × Bool) × List (Option Blk)) × Bool := (some (seV (rsX n') n', [(decide (n = n ∧ n ≠ 0 ∧ n ≤ 150), true)], newBlks [[.b8 (n' + 16) (rsO ξ e T nc n l n' l')]]), true)
noncomputable def rzEv0 (ξ : LX) (e T nc l' : List B8) (n' : Nat) := ev2 (K_Xs ξ) noInl 60 Tryd.f61 ([.a [.b8 176 e, .b8 256 T], .a [.b8 12 nc]] ++ [argB 0 0, argB 1 n']) [memBy 0 [], memBy n' l'] [some true] [rsX n'] (seV (rsX n') n') [[.b8 (n' + 16) (rsO ξ e T nc 0 [] n' l')]]
def rzSh0 (ξ : LX) (e T nc l' : List B8) (n' : Nat) : Option (V × List (Bool × Bool) × List (Option Blk)) × Bool := (some (seV (rsX n') n', [(true, true)], newBlks [[.b8 (n' + 16) (rsO ξ e T nc 0 [] n' l')]]), true)
theorem l_RSeal (ξ : LX) (e T nc l l' : List B8) (n : Nat) : (List.range 151).map (fun n' => rzEv ξ e T nc l l' n n') = (List.range 151).map (fun n' => rzSh ξ e T nc l l' n n') := by kernel_rfl
theorem l_RSeal0 (ξ : LX) (e T nc l' : List B8) : (List.range 151).map (fun n' => rzEv0 ξ e T nc l' n') = (List.range 151).map (fun n' => rzSh0 ξ e T nc l' n') := by kernel_rfl
def ξ0 : LX := ⟨rcO δ0, rcS δ0, rcD δ0, rtagF υ0⟩
theorem eX_Crypt (G : Gl) : EntryOk G Tryd.prog 64 (sQ_RCrypt ξ0.RO ξ0.RS ξ0.RD) := by
  have h : sQ_RCrypt ξ0.RO ξ0.RS ξ0.RD = sQ_RCrypt (rcO δ0) (rcS δ0) (rcD δ0) := by kernel_rfl
  rw [h]; exact e_RCrypt G
theorem aX_Tag (G : Gl) : AskOk1 G Tryd.prog 66 true (aS_RTag ξ0.TAG) := by
  have h : aS_RTag ξ0.TAG = aS_RTag (rtagF υ0) := by kernel_rfl
  rw [h]; exact a_RTag G
theorem good_Xs (G : Gl) : Mo.Good G (K_Xs ξ0) := ((EnvL.cons (eX_Crypt G) .nil).good mixed).asks (.cons (aX_Tag G) .nil)
def aS_RSeal (SEA : XF') : Asp := fun args fresh =>
  match args with
  | [.a [.b8 176 e, .b8 256 T], .a [.b8 12 nc], x, y] => rdS 150 x fun c n l => rdBz 1 y fun n' l' => bif Nat.ble n' 150 then .pure (c, ((seV (rsX n') n').ren (newIdx [rsX n'] fresh), ([[.b8 (n' + 16) (SEA e T nc n l n' l')]] : List (List Seg)).map (renSegs (newIdx [rsX n'] fresh))), (.s .undef, [])) else .fail
  | _ => .fail
theorem a_RSeal (G : Gl) : AskOk1 G Tryd.prog 61 true (aS_RSeal (rsO ξ0)) := by
  intro args fresh m b x y fp hx hb
  have hb := hb rfl
  subst hb
  unfold aS_RSeal at hx
  split at hx
  · rename_i e T nc xx yy
    obtain ⟨c', n, l, fp2, hk2, hin⟩ := rdS_run hx
    obtain ⟨n', l', fp3, hk, hin'⟩ := rdBz_run hk2
    cases hb' : Nat.ble n' 150 <;> simp only [hb', cond_true, cond_false] at hk
    · exact (fail_run hk).elim
    have hp := pure_pair hk
    simp only [Prod.mk.injEq] at hp
    obtain ⟨hc, rfl, _⟩ := hp
    obtain ⟨hn, hin⟩ := hin hc
    have hn' := le_of_not hb'
    have hpu : Pures [.a [.b8 176 e, .b8 256 T], .a [.b8 12 nc]] [.a [.b8 176 e, .b8 256 T], .a [.b8 12 nc]] := pures_flat rfl (pures_flat rfl pures_nil)
    by_cases h0 : n = 0
    · subst h0
      have := ByIn.zero hin
      subst this
      exact fits_BB (good_Xs G) noInl_ok Tryd.func61 hin hin' hpu (map_at (l_RSeal0 ξ0 e T nc l') hn') (fun _ _ => by intro q hq; simp only [List.mem_cons, List.not_mem_nil, or_false] at hq; subst hq; rfl)
    · exact fits_SB (good_Xs G) noInl_ok Tryd.func61 h0 hin hin' hpu (map_at (l_RSeal ξ0 e T nc l l' n) hn')
        (fun _ _ => by intro q hq; simp only [List.mem_cons, List.not_mem_nil, or_false] at hq; subst hq; simp [h0, hn])
  · cases hx
end
end Go.Proofs.YtamlbiaakogahaaDoor
