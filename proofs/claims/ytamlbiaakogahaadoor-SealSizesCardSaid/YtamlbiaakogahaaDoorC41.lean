/- Contracts of functions by the evaluator (C41): seal.Crypt. -/
import Derived.Test.YtamlbiaakogahaaDoorC40
namespace Go.Proofs.YtamlbiaakogahaaDoor
open Go Go.Mo
noncomputable section
theorem l_CrZ (κ : LC) (p : TP) (nc : List B8) : crRk κ p nc [] 0 = crSh κ p nc [] 0 := by kernel_rfl
theorem l_Cr0 (κ : LC) (p : TP) (nc l : List B8) : (List.range 19).map (fun i => crRk κ p nc l (1 + i)) = (List.range 19).map (fun i => crSh κ p nc l (1 + i)) := by kernel_rfl
theorem l_Cr1 (κ : LC) (p : TP) (nc l : List B8) : (List.range 20).map (fun i => crRk κ p nc l (20 + i)) = (List.range 20).map (fun i => crSh κ p nc l (20 + i)) := by kernel_rfl
theorem l_Cr2 (κ : LC) (p : TP) (nc l : List B8) : (List.range 20).map (fun i => crRk κ p nc l (40 + i)) = (List.range 20).map (fun i => crSh κ p nc l (40 + i)) := by kernel_rfl
theorem l_Cr3 (κ : LC) (p : TP) (nc l : List B8) : (List.range 20).map (fun i => crRk κ p nc l (60 + i)) = (List.range 20).map (fun i => crSh κ p nc l (60 + i)) := by kernel_rfl
theorem l_Cr4 (κ : LC) (p : TP) (nc l : List B8) : (List.range 20).map (fun i => crRk κ p nc l (80 + i)) = (List.range 20).map (fun i => crSh κ p nc l (80 + i)) := by kernel_rfl
theorem l_Cr5 (κ : LC) (p : TP) (nc l : List B8) : (List.range 20).map (fun i => crRk κ p nc l (100 + i)) = (List.range 20).map (fun i => crSh κ p nc l (100 + i)) := by kernel_rfl
theorem l_Cr6 (κ : LC) (p : TP) (nc l : List B8) : (List.range 20).map (fun i => crRk κ p nc l (120 + i)) = (List.range 20).map (fun i => crSh κ p nc l (120 + i)) := by kernel_rfl
theorem l_Cr7 (κ : LC) (p : TP) (nc l : List B8) : (List.range 11).map (fun i => crRk κ p nc l (140 + i)) = (List.range 11).map (fun i => crSh κ p nc l (140 + i)) := by kernel_rfl
theorem l_Cr (κ : LC) (p : TP) (nc l : List B8) {n : Nat} (hn : n < 151) (h0 : n = 0 → l = []) : crRk κ p nc l n = crSh κ p nc l n := by
  by_cases hz : n = 0
  · have := h0 hz
    subst hz; subst this
    exact l_CrZ κ p nc
  rcases Nat.lt_or_ge n 20 with h | h
  · exact map_at' (l_Cr0 κ p nc l) (by omega) (by omega)
  rcases Nat.lt_or_ge n 40 with h | h
  · exact map_at' (l_Cr1 κ p nc l) (by omega) (by omega)
  rcases Nat.lt_or_ge n 60 with h | h
  · exact map_at' (l_Cr2 κ p nc l) (by omega) (by omega)
  rcases Nat.lt_or_ge n 80 with h | h
  · exact map_at' (l_Cr3 κ p nc l) (by omega) (by omega)
  rcases Nat.lt_or_ge n 100 with h | h
  · exact map_at' (l_Cr4 κ p nc l) (by omega) (by omega)
  rcases Nat.lt_or_ge n 120 with h | h
  · exact map_at' (l_Cr5 κ p nc l) (by omega) (by omega)
  rcases Nat.lt_or_ge n 140 with h | h
  · exact map_at' (l_Cr6 κ p nc l) (by omega) (by omega)
  exact map_at' (l_Cr7 κ p nc l) (by omega) (by omega)
def sQ_Crypt (CO CS CD : CF) : Mo.Spec := fun args fresh =>
  match args with
  | [.s (.ptr t 0), .a [.b8 12 nc], x] => rdTK t fun _c p => rdBz 1 x fun n l => bif Nat.ble n 150 then .pure ((crV CS CD p nc n l).ren (newIdx (crE n) fresh), (crG CO p nc n l).map (renSegs (newIdx (crE n) fresh))) else .fail
  | _ => .fail
def κ0 : LC := ⟨ψ0.STA, runF 0 1 sb, xorL, tzI, padR⟩
theorem eC_Start (G : Gl) (hG : DB G) : EntryOk G Tryd.prog 41 (sN_Start κ0.STA) := by
  have h : sN_Start κ0.STA = sN_Start ψ0.STA := by kernel_rfl
  rw [h]; exact eP_3 G hG
theorem eC_Enc (G : Gl) : EntryOk G Tryd.prog 69 (sQ_Enc κ0.R) := by
  have h : sQ_Enc κ0.R = sp_EncP := by kernel_rfl
  rw [h]; exact e_EncP G
theorem eC_Xor (G : Gl) (hG : DB G) : EntryOk G Tryd.prog 85 (pureSp (sL_2 κ0.X)) := by
  have h : (pureSp (sL_2 κ0.X)) = (pureSp sp_Xor : Mo.Spec) := by kernel_rfl
  rw [h]; exact e_Xor G hG
theorem eC_Next (G : Gl) (hG : DB G) : EntryOk G Tryd.prog 47 (sN_Next κ0.X κ0.TZ) := by
  have h : (sN_Next κ0.X κ0.TZ) = (sp_ONext : Mo.Spec) := by kernel_rfl
  rw [h]; exact e_ONext G hG
theorem eC_Pad (G : Gl) : EntryOk G Tryd.prog 88 (sQ_Pad κ0.PAD) := by
  have h : sQ_Pad κ0.PAD = sQ_Pad padR := by kernel_rfl
  rw [h]; exact e_Pad G
theorem list_C (G : Gl) (hG : DB G) : EnvL G Tryd.prog (E_C κ0) :=
  .cons (eC_Start G hG) <| .cons (eC_Pad G) <| .cons (eC_Next G hG) <| .cons (eC_Xor G hG) <| .cons (eC_Enc G) <| .cons (e_CipherT G hG) <| .cons (e_StarT G hG) <| .cons (e_DollarT G hG) .nil
theorem good_C (G : Gl) (hG : DB G) : Mo.Good G (K_C κ0) := (list_C G hG).good mixed
theorem e_Crypt (G : Gl) (hG : DB G) : EntryOk G Tryd.prog 63 (sQ_Crypt (crO κ0) (crS κ0) (crD κ0)) := by
  intro args fresh m v news fp hx
  unfold sQ_Crypt at hx
  split at hx
  · rename_i t nc x
    obtain ⟨c, p, x1, y1, fp1, h1, h2, h3, h4, hk1⟩ := rdTK_run hx
    obtain ⟨n, l, fp2, hk, hin⟩ := rdBz_run hk1
    cases hc : Nat.ble n 150 <;> simp only [hc, cond_true, cond_false] at hk
    · exact (fail_run hk).elim
    cases hk
    have hn := le_of_not hc
    exact fits_TBR (good_C G hG) inlC_ok Tryd.func63 (Go.Mo.enters_of Tryd.func109 (by kernel_rfl)) all_ok h1 h2 h3 h4 (by omega) hin (pures_flat (x := .a [.b8 12 nc]) rfl pures_nil) (Go.Mo.enters_of Tryd.func63 (by kernel_rfl))
      (l_Cr κ0 p nc l hn (fun e => by subst e; exact ByIn.zero hin)) (fun _ => obs0)
  · cases hx
end
end Go.Proofs.YtamlbiaakogahaaDoor
