/- Contracts of functions by the evaluator (C48): mooringref12.Crypt, its contract. -/
import Derived.Test.YtamlbiaakogahaaDoorC43
import Derived.Test.YtamlbiaakogahaaDoorC49
namespace Go.Proofs.YtamlbiaakogahaaDoor
open Go Go.Mo
noncomputable section
theorem l_Rc (δ : LD) (e T nc l : List B8) {n : Nat} (hn : n < 151) (h0 : n = 0 → l = []) : rcEv δ e T nc l n = rcSh δ e T nc l n := by
  by_cases hz : n = 0
  · have := h0 hz
    subst hz; subst this
    exact l_RcZ δ e T nc
  rcases Nat.lt_or_ge n 20 with h | h
  · exact map_at' (l_Rc0 δ e T nc l) (by omega) (by omega)
  rcases Nat.lt_or_ge n 40 with h | h
  · exact map_at' (l_Rc1 δ e T nc l) (by omega) (by omega)
  rcases Nat.lt_or_ge n 60 with h | h
  · exact map_at' (l_Rc2 δ e T nc l) (by omega) (by omega)
  rcases Nat.lt_or_ge n 80 with h | h
  · exact map_at' (l_Rc3 δ e T nc l) (by omega) (by omega)
  rcases Nat.lt_or_ge n 100 with h | h
  · exact map_at' (l_Rc4 δ e T nc l) (by omega) (by omega)
  rcases Nat.lt_or_ge n 120 with h | h
  · exact map_at' (l_Rc5 δ e T nc l) (by omega) (by omega)
  rcases Nat.lt_or_ge n 140 with h | h
  · exact map_at' (l_Rc6 δ e T nc l) (by omega) (by omega)
  exact map_at' (l_Rc7 δ e T nc l) (by omega) (by omega)
def sQ_RCrypt (OF SF DFn : DF) : Mo.Spec := fun args fresh =>
  match args with
  | [.a [.b8 176 e, .b8 256 T], .a [.b8 12 nc], x] => rdBz 1 x fun n l => bif Nat.ble n 150 then .pure ((dvV SF DFn e T nc n l).ren (newIdx (dvE n) fresh), (dvG OF e T nc n l).map (renSegs (newIdx (dvE n) fresh))) else .fail
  | _ => .fail
def δ0 : LD := ⟨ρ0.RE, ρ0.X, ρ0.RF, ρ0.RPAD, ψ0.RST⟩
theorem eD_Start (G : Gl) : EntryOk G Tryd.prog 42 (pureSp (sM_Start δ0.RST)) := by
  have h : (pureSp (sM_Start δ0.RST) : Mo.Spec) = pureSp (sM_Start ψ0.RST) := by kernel_rfl
  rw [h]; exact eP_8 G
theorem list_DZ (G : Gl) : EnvL G Tryd.prog (E_DZ δ0) := by
  have h : E_DZ δ0 = (42, pureSp (sM_Start δ0.RST)) :: E_R ρ0 := by kernel_rfl
  rw [h]
  exact .cons (eD_Start G) (list_R G)
theorem good_DZ (G : Gl) : Mo.Good G (K_DZ δ0) := (list_DZ G).good mixed
theorem e_RCrypt (G : Gl) : EntryOk G Tryd.prog 64 (sQ_RCrypt (rcO δ0) (rcS δ0) (rcD δ0)) := by
  intro args fresh m v news fp hx
  unfold sQ_RCrypt at hx
  split at hx
  · rename_i e T nc x
    obtain ⟨n, l, fp2, hk, hin⟩ := rdBz_run hx
    cases hc : Nat.ble n 150 <;> simp only [hc, cond_true, cond_false] at hk
    · exact (fail_run hk).elim
    cases hk
    exact fits_B (good_DZ G) noInl_ok Tryd.func64 hin (pures_flat (x := .a [.b8 176 e, .b8 256 T]) rfl (pures_flat (x := .a [.b8 12 nc]) rfl pures_nil)) pures_nil (l_Rc δ0 e T nc l (le_of_not hc) (fun e => by subst e; exact ByIn.zero hin)) (fun _ => obs0)
  · cases hx
end
end Go.Proofs.YtamlbiaakogahaaDoor
