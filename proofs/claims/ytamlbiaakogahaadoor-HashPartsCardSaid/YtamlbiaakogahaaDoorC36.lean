/- Contracts of functions by the evaluator (C36): HashRests and HashParts. -/
import Derived.Test.YtamlbiaakogahaaDoorC32
namespace Go.Proofs.YtamlbiaakogahaaDoor
open Go Go.Mo
noncomputable section

/-! HashRests -/
noncomputable abbrev HR := Tryd.f15
def hrO (ω : LW) (k o : List B8) (n : Nat) (l : List B8) : List (Bool × Bool) :=
  bif Nat.ble 16 n || Nat.beq n 0 then [tr (ω.RS (pW ω k) o n (nzL n l) = z16)] else [tr (ω.RS (pW ω k) o n (nzL n l) = ω.φ.RE (ω.φ.W k) ω.φ.SB (ω.φ.X (ω.RPAD n (nzL n l)) (ω.φ.X o (sK ω.φ k))))]
theorem t_HR (ω : LW) (k o l : List B8) : (List.range 101).map (fun n => ev2 (K_Y1 ω) noInl 80 HR ([.a [.b8 16 k], .a [.b8 16 o]] ++ (argB 0 n :: [])) [memBy n l, none] [some true] [] (.s (.bool true)) []) =
    (List.range 101).map (fun n => (some (.s (.bool true), hrO ω k o n l, newBlks []), true)) := by kernel_rfl
theorem t_HR' (ω : LW) (k o : List B8) (n : Nat) (gs : List Seg) : ev2 (K_Y1 ω) noInl 80 HR [.a [.b8 16 k], .a [.b8 16 o], .s (.osl 0 0 n 0)] [some gs, none] [some true] [] (.s (.bool true)) [] =
    (some (.s (.bool true), [tr ((100 : Int) < (n : Int))], newBlks []), true) := by kernel_rfl
theorem law_HashRests (G : Gl) (hG : DB G) (k o l : List B8) : Fits G Tryd.prog 15 [.a [.b8 16 k], .a [.b8 16 o], argB 0 l.length] 2 (mBB l []) (.s (.bool true)) [] := by
  rcases Nat.lt_or_ge 100 l.length with h | h
  · exact fits_big (good_Y1 G hG) (px := [.a [.b8 16 k], .a [.b8 16 o]]) Tryd.func15 (by intro e; subst e; simp at h) (pures_flat rfl (pures_flat rfl pures_nil)) (t_HR' ω0 k o l.length _) (obs_tr (by omega) obs_nil)
  · refine fits_B (good_Y1 G hG) noInl_ok Tryd.func15 (inB0 l []) (pures_flat (x := .a [.b8 16 k]) rfl (pures_flat (x := .a [.b8 16 o]) rfl pures_nil)) pures_nil (map_at (t_HR ω0 k o l) (n := l.length) (by omega)) (fun _ => ?_)
    unfold hrO
    rw [kW_φ, kW_RS, kW_RPAD, nzL_len]
    cases hb : Nat.ble 16 l.length || Nat.beq l.length 0
    · simp only [Bool.or_eq_false_iff] at hb
      have h1 : l.length ≠ 0 := fun e => by rw [e] at hb; cases hb.2
      have h2 : l.length < 16 := by
        rcases Nat.lt_or_ge l.length 16 with q | q
        · exact q
        · rw [Nat.ble_eq_true_of_le q] at hb; cases hb.1
      simp only [cond_false]
      refine obs_tr ?_ obs_nil
      rw [show pW ω0 k = pK φ0 k from rfl, rest_ref k o (by omega) (by omega), starK_ref]
      kernel_rfl
    · simp only [cond_true]
      refine obs_tr ?_ obs_nil
      unfold restF
      rw [hb]; rfl
end
end Go.Proofs.YtamlbiaakogahaaDoor
