/- Contracts of functions by the evaluator (C37): HashParts. -/
import Derived.Test.YtamlbiaakogahaaDoorC36
namespace Go.Proofs.YtamlbiaakogahaaDoor
open Go Go.Mo
noncomputable section

noncomputable abbrev HP := Tryd.f13
/-- The blocks of n bytes, put side by side. -/
def catR (n : Nat) (l : List B8) : Nat → List B8
  | 0 => []
  | m + 1 => bif Nat.beq m 0 then partR n l 0 else catR n l m ++ partR n l m
/-- All whole blocks. -/
def takeR (n : Nat) (l : List B8) : List B8 := bif Nat.beq (n / 16) 0 then [] else bif Nat.beq (16 * (n / 16)) n then l else (l.drop 0).take (16 * (n / 16))
def hpV (ω : LW) (k : List B8) (n : Nat) (l : List B8) : List B8 × List B8 := ω.HS (pW ω k) (partR (16 * (n / 16)) (catR n l (n / 16))) (n / 16)
def obsHP (ω : LW) (k : List B8) (n : Nat) (l : List B8) : List (Bool × Bool) :=
  [tr (ω.φ.X (hpV ω k n l).1 (ω.RS (pW ω k) (hpV ω k n l).2 (n - 16 * (n / 16)) (restB n l)) = ω.RSM (ω.φ.W k) ω.φ.SB n l), tr ((hpV ω k n l).1 = ω.RSM (ω.φ.W k) ω.φ.SB (16 * (n / 16)) (takeR n l))]
noncomputable def hp1 (ω : LW) (k l : List B8) (n : Nat) := ev2 (K_Y1 ω) noInl 80 HP ([.a [.b8 16 k]] ++ (argB 0 n :: [])) [memBy n l, none] [some true, some true] [] (.s (.bool true)) []
theorem l_HP0 (ω : LW) (k l : List B8) : (List.range 51).map (fun i => hp1 ω k l (0 + i)) = (List.range 51).map (fun i => (some (.s (.bool true), obsHP ω k (0 + i) (nzL (0 + i) l), newBlks []), true)) := by kernel_rfl
theorem l_HP1 (ω : LW) (k l : List B8) : (List.range 50).map (fun i => hp1 ω k l (51 + i)) = (List.range 50).map (fun i => (some (.s (.bool true), obsHP ω k (51 + i) (nzL (51 + i) l), newBlks []), true)) := by kernel_rfl
theorem l_HP2 (ω : LW) (k l : List B8) : (List.range 50).map (fun i => hp1 ω k l (101 + i)) = (List.range 50).map (fun i => (some (.s (.bool true), obsHP ω k (101 + i) (nzL (101 + i) l), newBlks []), true)) := by kernel_rfl
theorem l_HP3 (ω : LW) (k l : List B8) : (List.range 50).map (fun i => hp1 ω k l (151 + i)) = (List.range 50).map (fun i => (some (.s (.bool true), obsHP ω k (151 + i) (nzL (151 + i) l), newBlks []), true)) := by kernel_rfl
theorem l_HP (ω : LW) (k l : List B8) {n : Nat} (hn : n < 201) : hp1 ω k l n = (some (.s (.bool true), obsHP ω k n (nzL n l), newBlks []), true) := by
  have key : ∀ {a N : Nat}, (List.range N).map (fun i => hp1 ω k l (a + i)) = (List.range N).map (fun i => (some (.s (.bool true), obsHP ω k (a + i) (nzL (a + i) l), newBlks []), true)) → a ≤ n → n < a + N → hp1 ω k l n = (some (.s (.bool true), obsHP ω k n (nzL n l), newBlks []), true) :=
    fun h h1 h2 => map_at' (f := hp1 ω k l) (g := fun n => (some (.s (.bool true), obsHP ω k n (nzL n l), newBlks []), true)) h h1 h2
  rcases Nat.lt_or_ge n 51 with h0 | h0
  · exact key (l_HP0 ω k l) (by omega) (by omega)
  rcases Nat.lt_or_ge n 101 with h1 | h1
  · exact key (l_HP1 ω k l) (by omega) (by omega)
  rcases Nat.lt_or_ge n 151 with h2 | h2
  · exact key (l_HP2 ω k l) (by omega) (by omega)
  · exact key (l_HP3 ω k l) (by omega) (by omega)
theorem t_HP' (ω : LW) (k : List B8) (n : Nat) (gs : List Seg) : ev2 (K_Y1 ω) noInl 80 HP [.a [.b8 16 k], .s (.osl 0 0 n 0)] [some gs, none] [some true] [] (.s (.bool true)) [] =
    (some (.s (.bool true), [tr ((200 : Int) < (n : Int))], newBlks []), true) := by kernel_rfl
theorem part16_take (l : List B8) {m j : Nat} (h : j < m) : part16 (l.take (16 * m)) j = part16 l j := by
  unfold part16
  rw [List.drop_take, List.take_take]
  congr 1
  omega
theorem catR_eq {n : Nat} {l : List B8} (hl : l.length = n) : ∀ m, 16 * m ≤ n → catR n l m = l.take (16 * m)
  | 0, _ => rfl
  | m + 1, h => by
    have hp := part_eq hl (j := m) (by omega)
    have e : l.take (16 * (m + 1)) = l.take (16 * m) ++ part16 l m := by
      unfold part16
      rw [Nat.mul_add, Nat.mul_one, List.take_add]
    rw [e, hp]
    unfold catR
    cases hq : Nat.beq m 0
    · rw [cond_false, catR_eq hl m (by omega)]
    · have := Nat.eq_of_beq_eq_true hq
      subst this
      rfl
theorem takeR_eq {n : Nat} {l : List B8} (hl : l.length = n) : takeR n l = l.take (16 * (n / 16)) := by
  unfold takeR
  cases hq : Nat.beq (n / 16) 0
  · cases hr : Nat.beq (16 * (n / 16)) n
    · rfl
    · have := Nat.eq_of_beq_eq_true hr
      simp only [cond_true, cond_false]
      rw [this]; exact (List.take_of_length_le (by omega)).symm
  · have := Nat.eq_of_beq_eq_true hq
    rw [this]; rfl
theorem hst_congr (χ : LH) (p : TP) {q q' : Nat → List B8} : ∀ m, (∀ j, j < m → q j = q' j) → hst χ p q m = hst χ p q' m
  | 0, _ => rfl
  | m + 1, h => by
    show addF χ p (hst χ p q m) _ (q m) = addF χ p (hst χ p q' m) _ (q' m)
    rw [hst_congr χ p m (fun j hj => h j (by omega)), h m (by omega)]
theorem obsHP_ok (k : List B8) {n : Nat} {l : List B8} (hl : l.length = n) (hn : n ≤ 200) : ObsOk (obsHP ω0 k n l) := by
  have hm : 16 * (n / 16) ≤ n := by omega
  have hlt : (l.take (16 * (n / 16))).length = 16 * (n / 16) := by rw [List.length_take]; omega
  have hV : hpV ω0 k n l = hst χ0 (pK φ0 k) (part16 l) (n / 16) := by
    unfold hpV
    rw [kW_HS, catR_eq hl _ hm]
    refine hst_congr _ _ _ fun j hj => ?_
    rw [← part_eq hlt (by omega), part16_take l hj]
  have hX : ω0.φ.X = xorL := by kernel_rfl
  unfold obsHP
  refine obs_tr ?_ <| obs_tr ?_ obs_nil
  · rw [hV, hX, kW_RS, kW_φ, ← sum_eq k hl hn, kW_SM]
    kernel_rfl
  · rw [hV, takeR_eq hl, kW_φ, ← sum_eq k hlt (by omega), kW_SM, show 16 * (n / 16) / 16 = n / 16 by omega, Nat.sub_self, rest_0, xor_z16 (hst_len1 k _ _)]
    rw [hst_congr χ0 (pK φ0 k) (q := part16 (l.take (16 * (n / 16)))) (q' := part16 l) (n / 16) fun j hj => part16_take l hj]
theorem law_HashParts (G : Gl) (hG : DB G) (k l : List B8) : Fits G Tryd.prog 13 [.a [.b8 16 k], argB 0 l.length] 2 (mBB l []) (.s (.bool true)) [] := by
  rcases Nat.lt_or_ge 200 l.length with h | h
  · exact fits_big (good_Y1 G hG) (px := [.a [.b8 16 k]]) Tryd.func13 (by intro e; subst e; simp at h) (pures_flat rfl pures_nil) (t_HP' ω0 k l.length _) (obs_tr (by omega) obs_nil)
  · exact fits_B (good_Y1 G hG) noInl_ok Tryd.func13 (inB0 l []) (pures_flat (x := .a [.b8 16 k]) rfl pures_nil) pures_nil (l_HP ω0 k l (n := l.length) (by omega))
      (fun _ => by rw [nzL_len]; exact obsHP_ok k rfl h)
end
end Go.Proofs.YtamlbiaakogahaaDoor
