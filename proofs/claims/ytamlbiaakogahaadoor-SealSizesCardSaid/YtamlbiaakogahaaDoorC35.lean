/- Contracts of functions by the evaluator (C35): the reference's hash, reckoned. -/
import Derived.Test.YtamlbiaakogahaaDoorC34
namespace Go.Proofs.YtamlbiaakogahaaDoor
open Go Go.Mo
noncomputable section
theorem l_RSum7 (ρ : LR) (e T l : List B8) : (List.range 20).map (fun i => rsEv ρ e T l (140 + i)) = (List.range 20).map (fun i => rsSh ρ e T l (140 + i)) := by kernel_rfl
theorem l_RSum8 (ρ : LR) (e T l : List B8) : (List.range 20).map (fun i => rsEv ρ e T l (160 + i)) = (List.range 20).map (fun i => rsSh ρ e T l (160 + i)) := by kernel_rfl
theorem l_RSum9 (ρ : LR) (e T l : List B8) : (List.range 21).map (fun i => rsEv ρ e T l (180 + i)) = (List.range 21).map (fun i => rsSh ρ e T l (180 + i)) := by kernel_rfl
theorem l_RSum (ρ : LR) (e T l : List B8) {n : Nat} (hn : n < 201) : rsEv ρ e T l n = rsSh ρ e T l n := by
  rcases Nat.lt_or_ge n 20 with h0 | h0
  · exact map_at' (l_RSum0 ρ e T l) (by omega) (by omega)
  rcases Nat.lt_or_ge n 40 with h1 | h1
  · exact map_at' (l_RSum1 ρ e T l) (by omega) (by omega)
  rcases Nat.lt_or_ge n 60 with h2 | h2
  · exact map_at' (l_RSum2 ρ e T l) (by omega) (by omega)
  rcases Nat.lt_or_ge n 80 with h3 | h3
  · exact map_at' (l_RSum3 ρ e T l) (by omega) (by omega)
  rcases Nat.lt_or_ge n 100 with h4 | h4
  · exact map_at' (l_RSum4 ρ e T l) (by omega) (by omega)
  rcases Nat.lt_or_ge n 120 with h5 | h5
  · exact map_at' (l_RSum5 ρ e T l) (by omega) (by omega)
  rcases Nat.lt_or_ge n 140 with h6 | h6
  · exact map_at' (l_RSum6 ρ e T l) (by omega) (by omega)
  rcases Nat.lt_or_ge n 160 with h7 | h7
  · exact map_at' (l_RSum7 ρ e T l) (by omega) (by omega)
  rcases Nat.lt_or_ge n 180 with h8 | h8
  · exact map_at' (l_RSum8 ρ e T l) (by omega) (by omega)
  exact map_at' (l_RSum9 ρ e T l) (by omega) (by omega)
def sQ_RSum (SM : List B8 → List B8 → Nat → List B8 → List B8) : Mo.Spec := fun args _fresh =>
  match args with
  | [.a [.b8 176 e, .b8 256 T], x] => rdBz 1 x fun n l => bif Nat.ble n 200 then .pure (.a [.b8 16 (SM e T n l)], []) else .fail
  | _ => .fail
theorem e_RSum (G : Gl) : EntryOk G Tryd.prog 52 (sQ_RSum (rsumF ρ0)) := by
  intro args fresh m v news fp hx
  unfold sQ_RSum at hx
  split at hx
  · rename_i e T x
    obtain ⟨n, l, fp2, hk, hin⟩ := rdBz_run hx
    cases hc : Nat.ble n 200 <;> simp only [hc, cond_true, cond_false] at hk
    · exact (fail_run hk).elim
    cases hk
    exact fits_B (good_R G) noInl_ok Tryd.func52 hin (pures_flat (x := .a [.b8 176 e, .b8 256 T]) rfl pures_nil) pures_nil (l_RSum ρ0 e T l (le_of_not hc)) (fun _ => obs0)
  · cases hx
end
end Go.Proofs.YtamlbiaakogahaaDoor
