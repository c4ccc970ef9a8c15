/- Contracts of functions by the evaluator (C33): hash.Sum. -/
import Derived.Test.YtamlbiaakogahaaDoorC30
namespace Go.Proofs.YtamlbiaakogahaaDoor
open Go Go.Mo
noncomputable section
noncomputable def sumRk (χ : LH) (p : TP) (l : List B8) (n : Nat) : Option Rk := reckon (K_Ha χ) inlA 60 Tryd.f51 3 (.s (.ptr 0 0) :: ([] ++ [argB 2 n])) (memT p (memBy n l) none) [] [] (.a [.b8 16 (sumF χ p n l)]) [] (R_Sum χ p n l) (n / 16) l
def sumSh (χ : LH) (p : TP) (l : List B8) (n : Nat) : Option Rk := some (should 109 (R_Sum χ p n l) (n / 16) l (.a [.b8 16 (sumF χ p n l)]) [] [])
theorem l_Sum0 (χ : LH) (p : TP) (l : List B8) : (List.range 39).map (fun i => sumRk χ p l (1 + i)) = (List.range 39).map (fun i => sumSh χ p l (1 + i)) := by kernel_rfl
theorem l_SumZ (χ : LH) (p : TP) : sumRk χ p [] 0 = sumSh χ p [] 0 := by kernel_rfl
theorem ByIn.zero {m : Nat → Option Blk} {sz : Nat} {x : V} {l : List B8} (h : ByIn m sz x 0 l) : l = [] := by
  cases h with
  | nil => rfl
  | osl hn => exact absurd rfl hn
  | slice hn => exact absurd rfl hn
  | sym _ hn => exact absurd rfl hn
theorem l_Sum1 (χ : LH) (p : TP) (l : List B8) : (List.range 40).map (fun i => sumRk χ p l (40 + i)) = (List.range 40).map (fun i => sumSh χ p l (40 + i)) := by kernel_rfl
theorem l_Sum2 (χ : LH) (p : TP) (l : List B8) : (List.range 40).map (fun i => sumRk χ p l (80 + i)) = (List.range 40).map (fun i => sumSh χ p l (80 + i)) := by kernel_rfl
theorem l_Sum3 (χ : LH) (p : TP) (l : List B8) : (List.range 40).map (fun i => sumRk χ p l (120 + i)) = (List.range 40).map (fun i => sumSh χ p l (120 + i)) := by kernel_rfl
theorem l_Sum4 (χ : LH) (p : TP) (l : List B8) : (List.range 41).map (fun i => sumRk χ p l (160 + i)) = (List.range 41).map (fun i => sumSh χ p l (160 + i)) := by kernel_rfl
theorem map_at' {α : Type} {f g : Nat → α} {a N : Nat} (h : (List.range N).map (fun i => f (a + i)) = (List.range N).map (fun i => g (a + i))) {n : Nat} (h1 : a ≤ n) (h2 : n < a + N) : f n = g n := by
  have := map_at h (n := n - a) (by omega)
  rwa [show a + (n - a) = n by omega] at this
theorem l_Sum (χ : LH) (p : TP) (l : List B8) {n : Nat} (hn : n < 201) (h0 : n = 0 → l = []) : sumRk χ p l n = sumSh χ p l n := by
  by_cases hz : n = 0
  · have := h0 hz
    subst hz; subst this
    exact l_SumZ χ p
  rcases Nat.lt_or_ge n 40 with h | h
  · exact map_at' (l_Sum0 χ p l) (by omega) (by omega)
  rcases Nat.lt_or_ge n 80 with h1 | h1
  · exact map_at' (l_Sum1 χ p l) (by omega) (by omega)
  rcases Nat.lt_or_ge n 120 with h2 | h2
  · exact map_at' (l_Sum2 χ p l) (by omega) (by omega)
  rcases Nat.lt_or_ge n 160 with h3 | h3
  · exact map_at' (l_Sum3 χ p l) (by omega) (by omega)
  · exact map_at' (l_Sum4 χ p l) (by omega) (by omega)
def sQ_Sum (SM : TP → Nat → List B8 → List B8) : Mo.Spec := fun args _fresh =>
  match args with
  | [.s (.ptr t 0), x] => rdTK t fun _c p => rdBz 1 x fun n l => bif Nat.ble n 200 then .pure (.a [.b8 16 (SM p n l)], []) else .fail
  | _ => .fail
theorem eQ_Sum (G : Gl) (hG : DB G) : EntryOk G Tryd.prog 51 (sQ_Sum (sumF χ0)) := by
  intro args fresh m v news fp hx
  unfold sQ_Sum at hx
  split at hx
  · rename_i t x
    obtain ⟨c, p, x1, y1, fp1, h1, h2, h3, h4, hk1⟩ := rdTK_run hx
    obtain ⟨n, l, fp2, hk, hin⟩ := rdBz_run hk1
    cases hc : Nat.ble n 200 <;> simp only [hc, cond_true, cond_false] at hk
    · exact (fail_run hk).elim
    cases hk
    have hn := le_of_not hc
    exact fits_TBR (good_Ha G hG) inlA_ok Tryd.func51 (Go.Mo.enters_of Tryd.func109 (by kernel_rfl)) all_ok h1 h2 h3 h4 (by omega) hin pures_nil (Go.Mo.enters_of Tryd.func51 (by kernel_rfl))
      (l_Sum χ0 p l hn (fun e => by subst e; exact ByIn.zero hin)) (fun _ => obs0)
  · cases hx
end
end Go.Proofs.YtamlbiaakogahaaDoor
