/- Contracts of functions by the evaluator (C52): SealBegins. -/
import Derived.Test.YtamlbiaakogahaaDoorC50
namespace Go.Proofs.YtamlbiaakogahaaDoor
open Go Go.Mo
noncomputable section

noncomputable abbrev SBE := Tryd.f18
def cutN (m : Nat) (x : List B8) : List B8 := bif Nat.beq m 0 then [] else (x.drop 0).take m
/-- The whole blocks. -/
def preZ (n : Nat) (l : List B8) : List B8 := bif Nat.beq (n / 16) 0 then [] else bif Nat.beq (n / 16 * 16) n then l else (l.drop 0).take (n / 16 * 16)
def obsSB (ζ : LZ) (k nc : List B8) (n : Nat) (l : List B8) (n' : Nat) (l' : List B8) : List (Bool × Bool) :=
  [tr (ζ.SEA (pZ ζ k) nc n l n' (nzL n' l') = ζ.RSEA (ζ.φ.W k) ζ.φ.SB nc n l n' (nzL n' l')), uk n 150, tr (cutN (n' / 16 * 16) (ζ.SEA (pZ ζ k) nc n l n' (nzL n' l')) = cutN (n' / 16 * 16) (ζ.SEA (pZ ζ k) nc n l (n' / 16 * 16) (preZ n' l'))),
   tr (cutN n' (ζ.SEA (pZ ζ k) nc n l n' (nzL n' l')) = cutN n' (ζ.SEA (pZ ζ k) nc 0 [] n' (nzL n' l'))), uk n 150, (true, true), uk n 150, fa ((100 : Int) < (n : Int))]
noncomputable def sbEv (ζ : LZ) (k nc : List B8) (n : Nat) (l : List B8) (n' : Nat) (l' : List B8) := ev2 (K_Z1 ζ) noInl 80 SBE ([.a [.b8 16 k], .a [.b8 12 nc]] ++ [argS 0 n, argB 1 n']) [some [.b8 n l], memBy n' l'] (some false :: List.replicate 7 (some true)) [] (.s (.bool true)) []
theorem l_SB0 (ζ : LZ) (k nc : List B8) (n : Nat) (l l' : List B8) : (List.range 76).map (fun n' => sbEv ζ k nc n l n' l') = (List.range 76).map (fun n' => (some (.s (.bool true), obsSB ζ k nc n l n' l', newBlks []), true)) := by kernel_rfl
theorem l_SB1 (ζ : LZ) (k nc : List B8) (n : Nat) (l l' : List B8) : (List.range 75).map (fun i => sbEv ζ k nc n l (76 + i) l') = (List.range 75).map (fun i => (some (.s (.bool true), obsSB ζ k nc n l (76 + i) l', newBlks []), true)) := by kernel_rfl
def obsSBz (ζ : LZ) (k nc : List B8) (n' : Nat) (l' : List B8) : List (Bool × Bool) :=
  [tr (ζ.SEA (pZ ζ k) nc 0 [] n' (nzL n' l') = ζ.RSEA (ζ.φ.W k) ζ.φ.SB nc 0 [] n' (nzL n' l')), (true, true), tr (cutN (n' / 16 * 16) (ζ.SEA (pZ ζ k) nc 0 [] n' (nzL n' l')) = cutN (n' / 16 * 16) (ζ.SEA (pZ ζ k) nc 0 [] (n' / 16 * 16) (preZ n' l'))),
   tr (cutN n' (ζ.SEA (pZ ζ k) nc 0 [] n' (nzL n' l')) = cutN n' (ζ.SEA (pZ ζ k) nc 0 [] n' (nzL n' l'))), (true, true), (true, true), (true, true)]
noncomputable def sbEvz (ζ : LZ) (k nc : List B8) (n' : Nat) (l' : List B8) := ev2 (K_Z1 ζ) noInl 80 SBE ([.a [.b8 16 k], .a [.b8 12 nc]] ++ [argB 0 0, argB 1 n']) [memBy 0 [], memBy n' l'] (List.replicate 7 (some true)) [] (.s (.bool true)) []
theorem l_SBz0 (ζ : LZ) (k nc : List B8) (l' : List B8) : (List.range 76).map (fun n' => sbEvz ζ k nc n' l') = (List.range 76).map (fun n' => (some (.s (.bool true), obsSBz ζ k nc n' l', newBlks []), true)) := by kernel_rfl
theorem l_SBz1 (ζ : LZ) (k nc : List B8) (l' : List B8) : (List.range 75).map (fun i => sbEvz ζ k nc (76 + i) l') = (List.range 75).map (fun i => (some (.s (.bool true), obsSBz ζ k nc (76 + i) l', newBlks []), true)) := by kernel_rfl
theorem l_SBa (ζ : LZ) (k nc : List B8) (n n' : Nat) (gs gs' : List Seg) : ev2 (K_Z1 ζ) noInl 80 SBE ([.a [.b8 16 k], .a [.b8 12 nc]] ++ [argS 0 n, argS 1 n']) [some gs, some gs'] [some true] [] (.s (.bool true)) [] = (some (.s (.bool true), [tr ((100 : Int) < (n : Int))], newBlks []), true) := by kernel_rfl
theorem l_SBb (ζ : LZ) (k nc : List B8) (n : Nat) (gs : List Seg) : ev2 (K_Z1 ζ) noInl 80 SBE ([.a [.b8 16 k], .a [.b8 12 nc]] ++ [argS 0 n, argB 1 0]) [some gs, memBy 0 []] [some true] [] (.s (.bool true)) [] = (some (.s (.bool true), [tr ((100 : Int) < (n : Int))], newBlks []), true) := by kernel_rfl
theorem l_SBc (ζ : LZ) (k nc : List B8) (n n' : Nat) (gs gs' : List Seg) : ev2 (K_Z1 ζ) noInl 80 SBE ([.a [.b8 16 k], .a [.b8 12 nc]] ++ [argS 0 n, argS 1 n']) [some gs, some gs'] [some false, some true] [] (.s (.bool true)) [] = (some (.s (.bool true), [tr ((150 : Int) < (n' : Int)), fa ((100 : Int) < (n : Int))], newBlks []), true) := by kernel_rfl
theorem l_SBd (ζ : LZ) (k nc : List B8) (n' : Nat) (gs' : List Seg) : ev2 (K_Z1 ζ) noInl 80 SBE ([.a [.b8 16 k], .a [.b8 12 nc]] ++ [argB 0 0, argS 1 n']) [memBy 0 [], some gs'] [some true] [] (.s (.bool true)) [] = (some (.s (.bool true), [tr ((150 : Int) < (n' : Int))], newBlks []), true) := by kernel_rfl

theorem cO_len (k nc : List B8) (q : Nat → List B8) : ∀ m, (cO κ0 (pk k) nc q m).length = 16 * m
  | 0 => rfl
  | m + 1 => by
    have hb : (cB κ0 (pk k) nc q m).length = 16 := rfl
    show (bif Nat.beq m 0 then cB κ0 (pk k) nc q m else cO κ0 (pk k) nc q m ++ cB κ0 (pk k) nc q m).length = _
    cases hq : Nat.beq m 0
    · rw [cond_false, List.length_append, cO_len k nc q m, hb]; omega
    · have := Nat.eq_of_beq_eq_true hq
      subst this; rfl
theorem cO_congr (k nc : List B8) (q q' : Nat → List B8) : ∀ m, (∀ j, j < m → q j = q' j) → cO κ0 (pk k) nc q m = cO κ0 (pk k) nc q' m
  | 0, _ => rfl
  | m + 1, h => by
    have hb : cB κ0 (pk k) nc q m = cB κ0 (pk k) nc q' m := by unfold cB; rw [h m (by omega)]
    show (bif Nat.beq m 0 then cB κ0 (pk k) nc q m else cO κ0 (pk k) nc q m ++ cB κ0 (pk k) nc q m) = (bif Nat.beq m 0 then cB κ0 (pk k) nc q' m else cO κ0 (pk k) nc q' m ++ cB κ0 (pk k) nc q' m)
    rw [hb, cO_congr k nc q q' m (fun j hj => h j (by omega))]
theorem tail_len (k nc : List B8) (n : Nat) (l : List B8) : (tailF κ0 (pk k) nc n l).length = 16 := rfl
theorem crO_take (k nc : List B8) (n : Nat) (l : List B8) : (crO κ0 (pk k) nc n l).take (16 * (n / 16)) = cO κ0 (pk k) nc (part16 l) (n / 16) := by
  have hl := cO_len k nc (part16 l) (n / 16)
  unfold crO
  cases hq : Nat.beq (n % 16) 0
  · cases hz : Nat.beq (n / 16) 0
    · simp only [cond_false]
      rw [List.take_append_of_le_length (by omega), List.take_of_length_le (by omega)]
    · have := Nat.eq_of_beq_eq_true hz
      simp only [cond_false, cond_true, this]
      rfl
  · simp only [cond_true]
    rw [List.take_of_length_le (by omega)]
theorem crO_len (k nc : List B8) (n : Nat) (l : List B8) : (crO κ0 (pk k) nc n l).length = n := by
  have hl := cO_len k nc (part16 l) (n / 16)
  have ht := tail_len k nc n l
  unfold crO
  cases hq : Nat.beq (n % 16) 0
  · have h0 : n % 16 ≠ 0 := fun e => by rw [e] at hq; cases hq
    cases hz : Nat.beq (n / 16) 0
    · simp only [cond_false]
      rw [List.length_append, List.drop_zero, List.length_take]; omega
    · have := Nat.eq_of_beq_eq_true hz
      simp only [cond_false, cond_true]
      rw [List.drop_zero, List.length_take]; omega
  · have := Nat.eq_of_beq_eq_true hq
    simp only [cond_true]
    omega
theorem part16_takeZ (l : List B8) {m j : Nat} (h : j < m) : part16 (l.take (16 * m)) j = part16 l j := by
  unfold part16
  rw [List.drop_take, List.take_take]
  congr 1
  omega
theorem preZ_eq {n : Nat} {l : List B8} (hl : l.length = n) : preZ n l = l.take (16 * (n / 16)) := by
  unfold preZ
  cases hq : Nat.beq (n / 16) 0
  · cases hr : Nat.beq (n / 16 * 16) n
    · simp only [cond_false]
      rw [List.drop_zero, Nat.mul_comm]
    · have := Nat.eq_of_beq_eq_true hr
      simp only [cond_true, cond_false]
      rw [List.take_of_length_le (by omega)]
  · have := Nat.eq_of_beq_eq_true hq
    rw [this]; rfl
/-- What Seal hands back begins with the ciphertext. -/
theorem seal_take (k nc : List B8) (n : Nat) (l : List B8) {n' : Nat} {l' : List B8} (hl : l'.length = n') {m : Nat} (hm : m ≤ n') : (ζ0.SEA (pZ ζ0 k) nc n l n' l').take m = (crO κ0 (pk k) nc n' l').take m := by
  have e1 : ζ0.SEA (pZ ζ0 k) nc n l n' l' = (bif Nat.beq n' 0 then tagF τ0 (pk k) (crS κ0 (pk k) nc n' (nzL n' l')) (crD κ0 (pk k) nc n' (nzL n' l')) n l else crO κ0 (pk k) nc n' (nzL n' l') ++ tagF τ0 (pk k) (crS κ0 (pk k) nc n' (nzL n' l')) (crD κ0 (pk k) nc n' (nzL n' l')) n l) := by kernel_rfl
  subst hl
  rw [e1, nzL_len]
  cases hq : Nat.beq l'.length 0
  · rw [cond_false, List.take_append_of_le_length (by rw [crO_len]; omega)]
  · have := Nat.eq_of_beq_eq_true hq
    have : m = 0 := by omega
    subst this; rfl
theorem cutN_take (m : Nat) (x : List B8) : cutN m x = x.take m := by
  unfold cutN
  cases hq : Nat.beq m 0
  · rfl
  · have := Nat.eq_of_beq_eq_true hq
    subst this; rfl
theorem sb1 (k nc : List B8) (n : Nat) (l : List B8) {n' : Nat} {l' : List B8} (hl : l'.length = n') : cutN n' (ζ0.SEA (pZ ζ0 k) nc n l n' l') = cutN n' (ζ0.SEA (pZ ζ0 k) nc 0 [] n' l') := by
  rw [cutN_take, cutN_take, seal_take k nc n l hl (Nat.le_refl _), seal_take k nc 0 [] hl (Nat.le_refl _)]
theorem sb2 (k nc : List B8) (n : Nat) (l : List B8) {n' : Nat} {l' : List B8} (hl : l'.length = n') : cutN (n' / 16 * 16) (ζ0.SEA (pZ ζ0 k) nc n l n' l') = cutN (n' / 16 * 16) (ζ0.SEA (pZ ζ0 k) nc n l (n' / 16 * 16) (preZ n' l')) := by
  have hp : (preZ n' l').length = n' / 16 * 16 := by rw [preZ_eq hl, List.length_take]; omega
  rw [cutN_take, cutN_take, seal_take k nc n l hl (by omega), seal_take k nc n l hp (Nat.le_refl _), Nat.mul_comm, crO_take]
  have h2 := crO_take k nc (16 * (n' / 16)) (preZ n' l')
  rw [show 16 * (n' / 16) / 16 = n' / 16 by omega] at h2
  rw [h2]
  refine cO_congr k nc _ _ _ fun j hj => ?_
  rw [preZ_eq hl, part16_takeZ l' hj]
theorem law_SealBegins (G : Gl) (hG : DB G) (k nc l l' : List B8) : Fits G Tryd.prog 18 [.a [.b8 16 k], .a [.b8 12 nc], argB 0 l.length, argB 1 l'.length] 2 (mBB l l') (.s (.bool true)) [] := by
  have hp : Pures [.a [.b8 16 k], .a [.b8 12 nc]] [.a [.b8 16 k], .a [.b8 12 nc]] := pures_flat rfl (pures_flat rfl pures_nil)
  have hf := Tryd.func18
  rcases Nat.eq_zero_or_pos l.length with h0 | h0
  · have := List.length_eq_zero_iff.1 h0
    subst this
    rcases Nat.lt_or_ge 150 l'.length with h1 | h1
    · exact fits_BS (good_Z1 G hG) noInl_ok hf (by omega) (inB0 [] l') (inB1 [] l') hp (l_SBd ζ0 k nc l'.length _) (fun _ _ => obs_tr (by omega) obs_nil)
    · have he : sbEvz ζ0 k nc l'.length l' = (some (.s (.bool true), obsSBz ζ0 k nc l'.length l', newBlks []), true) := by
        rcases Nat.lt_or_ge l'.length 76 with q | q
        · exact map_at (l_SBz0 ζ0 k nc l') q
        · exact map_at' (f := fun n' => sbEvz ζ0 k nc n' l') (g := fun n' => (some (.s (.bool true), obsSBz ζ0 k nc n' l', newBlks []), true)) (l_SBz1 ζ0 k nc l') q (by omega)
      exact fits_BB (good_Z1 G hG) noInl_ok hf (inB0 [] l') (inB1 [] l') hp he (fun _ _ => by
        unfold obsSBz
        rw [nzL_len]
        exact obs_tr (seal_eq k nc rfl (by simp) rfl h1) <| obs_ok1 rfl <| obs_tr (sb2 k nc 0 [] rfl) <| obs_tr rfl <| obs_ok1 rfl <| obs_ok1 rfl <| obs_ok1 rfl obs_nil)
  · have hne : l.length ≠ 0 := by omega
    rcases Nat.lt_or_ge 100 l.length with h2 | h2
    · rcases Nat.eq_zero_or_pos l'.length with h1 | h1
      · have := List.length_eq_zero_iff.1 h1
        subst this
        exact fits_SB (good_Z1 G hG) noInl_ok hf hne (inB0 l []) (inB1 l []) hp (l_SBb ζ0 k nc l.length _) (fun _ _ => obs_tr (by omega) obs_nil)
      · exact fits_SS (good_Z1 G hG) noInl_ok hf hne (by omega) (inB0 l l') (inB1 l l') hp (l_SBa ζ0 k nc l.length l'.length _ _) (fun _ _ => obs_tr (by omega) obs_nil)
    · rcases Nat.lt_or_ge 150 l'.length with h1 | h1
      · exact fits_SS (good_Z1 G hG) noInl_ok hf hne (by omega) (inB0 l l') (inB1 l l') hp (l_SBc ζ0 k nc l.length l'.length _ _) (fun _ _ => obs_tr (by omega) (obs_fa (by omega) obs_nil))
      · have he : sbEv ζ0 k nc l.length l l'.length l' = (some (.s (.bool true), obsSB ζ0 k nc l.length l l'.length l', newBlks []), true) := by
          rcases Nat.lt_or_ge l'.length 76 with q | q
          · exact map_at (l_SB0 ζ0 k nc l.length l l') q
          · exact map_at' (f := fun n' => sbEv ζ0 k nc l.length l n' l') (g := fun n' => (some (.s (.bool true), obsSB ζ0 k nc l.length l n' l', newBlks []), true)) (l_SB1 ζ0 k nc l.length l l') q (by omega)
        exact fits_SB (good_Z1 G hG) noInl_ok hf hne (inB0 l l') (inB1 l l') hp he (fun _ _ => by
          unfold obsSB
          rw [nzL_len]
          exact obs_tr (seal_eq k nc rfl (by omega) rfl h1) <| obs_uk hne (by omega) <| obs_tr (sb2 k nc _ _ rfl) <| obs_tr (sb1 k nc _ _ rfl) <| obs_uk hne (by omega) <| obs_ok1 rfl <| obs_uk hne (by omega) <| obs_fa (by omega) obs_nil)
end
end Go.Proofs.YtamlbiaakogahaaDoor
