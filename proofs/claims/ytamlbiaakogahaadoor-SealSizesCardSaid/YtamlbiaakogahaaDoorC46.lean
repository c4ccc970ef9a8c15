/- Plain laws (C46): what Seal reckons is what the reference reckons. -/
import Derived.Test.YtamlbiaakogahaaDoorC45
namespace Go.Proofs.YtamlbiaakogahaaDoor
open Go Go.Mo
noncomputable section

theorem xorL_comm (a b : List B8) : xorL a b = xorL b a := each16_congr fun _ _ => BitVec.xor_comm _ _
theorem xorL_nth (a b : List B8) {p : Nat} (h : p < 16) : nth 0 (xorL a b) p = nth 0 a p ^^^ nth 0 b p := nth_each16 _ h
theorem xorL_assoc (a b c : List B8) : xorL (xorL a b) c = xorL a (xorL b c) := each16_congr fun p h => by rw [xorL_nth a b h, xorL_nth b c h, BitVec.xor_assoc]

section
variable (k nc : List B8)
abbrev pk : TP := pK φ0 k
abbrev wk : List B8 := φ0.W k
abbrev sB : List B8 := φ0.SB
theorem κR (x : List B8) : κ0.R (pk k).T (pk k).kf x = refEnc (wordsR k) sboxL x := by
  have h : κ0.R (pk k).T (pk k).kf x = encF k x := by kernel_rfl
  rw [h, enc_eq]
theorem δR (x : List B8) : δ0.RE (wk k) sB x = refEnc (wordsR k) sboxL x := by kernel_rfl
theorem κX : κ0.X = xorL := by kernel_rfl
theorem δX : δ0.X = xorL := by kernel_rfl
theorem cD_eq : ∀ j, j < 1000 → cD κ0 (pk k) nc j = dD δ0 (wk k) sB nc j
  | 0, _ => by
    have h1 : cD κ0 (pk k) nc 0 = ψ0.STA (pK φ0 k) nc := by kernel_rfl
    have h2 : dD δ0 (wk k) sB nc 0 = ψ0.RST (φ0.W k) φ0.SB nc := by kernel_rfl
    rw [h1, h2]; exact start_ref k nc
  | j + 1, hj => by
    have ih := cD_eq j (by omega)
    have hf := for_eq k (num_ne (j := j) (by omega))
    have e1 : cD κ0 (pk k) nc (j + 1) = xorL (cD κ0 (pk k) nc j) (bK φ0 k (φ0.TZ (BitVec.ofInt 64 ((j + 1 : Nat) : Int)))) := by kernel_rfl
    have e2 : dD δ0 (wk k) sB nc (j + 1) = xorL (dD δ0 (wk k) sB nc j) (refAt φ0.D' (rK φ0 k) (φ0.TZ' (BitVec.ofInt 64 ((j + 1 : Nat) : Int)))) := by kernel_rfl
    rw [e1, e2, ih, hf]
theorem cS_eq (q q' : Nat → List B8) : ∀ m, (∀ j, j < m → q j = q' j) → cS κ0 q m = dS δ0 q' m
  | 0, _ => rfl
  | m + 1, h => by
    show κ0.X (cS κ0 q m) (q m) = δ0.X (dS δ0 q' m) (q' m)
    rw [cS_eq q q' m (fun j hj => h j (by omega)), h m (by omega), κX, δX]
theorem cB_eq (q q' : Nat → List B8) {j : Nat} (hj : j < 900) (h : q j = q' j) : cB κ0 (pk k) nc q j = dB δ0 (wk k) sB nc q' j := by
  show κ0.X (cD κ0 (pk k) nc (j + 1)) (κ0.R (pk k).T (pk k).kf (κ0.X (q j) (cD κ0 (pk k) nc (j + 1)))) = δ0.X (δ0.RE (wk k) sB (δ0.X (q' j) (dD δ0 (wk k) sB nc (j + 1)))) (dD δ0 (wk k) sB nc (j + 1))
  rw [κR, δR, κX, δX, cD_eq k nc (j + 1) (by omega), h, xorL_comm]
theorem cO_eq (q q' : Nat → List B8) : ∀ m, m < 900 → (∀ j, j < m → q j = q' j) → cO κ0 (pk k) nc q m = dO δ0 (wk k) sB nc q' m
  | 0, _, _ => rfl
  | m + 1, hm, h => by
    show (bif Nat.beq m 0 then cB κ0 (pk k) nc q m else cO κ0 (pk k) nc q m ++ cB κ0 (pk k) nc q m) = (bif Nat.beq m 0 then dB δ0 (wk k) sB nc q' m else dO δ0 (wk k) sB nc q' m ++ dB δ0 (wk k) sB nc q' m)
    rw [cB_eq k nc q q' (by omega) (h m (by omega)), cO_eq q q' m (by omega) (fun j hj => h j (by omega))]
theorem dT_eq (l pad : List B8) {m : Nat} {base : List B8} (hb : m = 0 → base = []) : ∀ r, dT l pad m base r = base ++ (List.range r).map fun i => nth 0 l (16 * m + i) ^^^ nth 0 pad i
  | 0 => by simp [dT]
  | r + 1 => by
    unfold dT
    rw [List.range_succ, List.map_append, ← List.append_assoc, ← dT_eq l pad hb r]
    cases hq : (Nat.beq r 0 && Nat.beq m 0)
    · rfl
    · simp only [Bool.and_eq_true] at hq
      have h1 := Nat.eq_of_beq_eq_true hq.1
      have h2 := Nat.eq_of_beq_eq_true hq.2
      subst h1; subst h2
      rw [hb rfl]; rfl
theorem take_xor (a b : List B8) {r : Nat} (h : r ≤ 16) : (xorL a b).take r = (List.range r).map fun i => nth 0 a i ^^^ nth 0 b i := by
  apply List.ext_getElem?
  intro i
  rcases Nat.lt_or_ge i r with hi | hi
  · rw [List.getElem?_take, if_pos hi]
    simp only [List.getElem?_map, List.getElem?_range hi, Option.map_some]
    have h1 := xorL_nth a b (p := i) (by omega)
    rw [← h1, nth_eq]
    have h2 : i < (xorL a b).length := by rw [xorL_len]; omega
    simp [List.getD, h2]
  · rw [List.getElem?_take, if_neg (by omega), List.getElem?_eq_none (by simpa using hi)]
theorem nth_app (a b : List B8) {i : Nat} (h : i < a.length) : nth 0 (a ++ b) i = nth 0 a i := by
  rw [nth_eq, nth_eq]
  simp only [List.getD, List.getElem?_append_left h]
theorem rest_facts {n : Nat} {l : List B8} (hl : l.length = n) : (restB n l).length = n - 16 * (n / 16) ∧ ∀ i, i < n - 16 * (n / 16) → nth 0 (restB n l) i = nth 0 l (16 * (n / 16) + i) := by
  unfold restB
  cases hq : Nat.beq (n / 16) 0
  · simp only [cond_false]
    refine ⟨by rw [List.length_take, List.length_drop]; omega, fun i hi => ?_⟩
    rw [nth_eq, nth_eq]
    simp only [List.getD, List.getElem?_take, if_pos hi, List.getElem?_drop]
  · have := Nat.eq_of_beq_eq_true hq
    simp only [cond_true, this]
    exact ⟨by omega, fun i _ => by simp⟩
end

/-- The account of Crypt. -/
theorem parts_eq {n : Nat} {l : List B8} (hl : l.length = n) : ∀ j, j < n / 16 → part16 l j = partR n l j := fun _ hj => part_eq hl (by omega)
theorem crD_eq (k nc : List B8) {n : Nat} (hn : n ≤ 200) (l : List B8) : crD κ0 (pk k) nc n l = rcD δ0 (wk k) sB nc n l := by
  show (bif Nat.beq (n % 16) 0 then cD κ0 (pk k) nc (n / 16) else κ0.X (cD κ0 (pk k) nc (n / 16)) (pk k).st) = (bif Nat.beq (n % 16) 0 then dD δ0 (wk k) sB nc (n / 16) else δ0.X (dD δ0 (wk k) sB nc (n / 16)) (δ0.RE (wk k) sB z16))
  have hs : (pk k).st = starK k := by kernel_rfl
  rw [cD_eq k nc _ (by omega), κX, δX, δR, starK_ref, hs]
theorem crS_eq (k nc : List B8) {n : Nat} {l : List B8} (hl : l.length = n) : crS κ0 (pk k) nc n l = rcS δ0 (wk k) sB nc n l := by
  show (bif Nat.beq (n % 16) 0 then cS κ0 (part16 l) (n / 16) else κ0.X (cS κ0 (part16 l) (n / 16)) (κ0.PAD (n - 16 * (n / 16)) (restB n l))) = (bif Nat.beq (n % 16) 0 then dS δ0 (partR n l) (n / 16) else δ0.X (dS δ0 (partR n l) (n / 16)) (δ0.RPAD (n - 16 * (n / 16)) (restB n l)))
  rw [cS_eq (part16 l) (partR n l) _ (parts_eq hl), κX, δX]
  cases hq : Nat.beq (n % 16) 0
  · simp only [cond_false]
    have h0 : n % 16 ≠ 0 := fun e => by rw [e] at hq; cases hq
    have hp : κ0.PAD = padR := by kernel_rfl
    have hp' : δ0.RPAD = rpadR := by kernel_rfl
    obtain ⟨h1, _⟩ := rest_facts hl
    rw [hp, hp', ← h1, rpad_eq (by omega)]
  · rfl
theorem crO_eq (k nc : List B8) {n : Nat} {l : List B8} (hl : l.length = n) (hn : n ≤ 200) : crO κ0 (pk k) nc n l = rcO δ0 (wk k) sB nc n l := by
  have hO := cO_eq k nc (part16 l) (partR n l) (n / 16) (by omega) (parts_eq hl)
  show (bif Nat.beq (n % 16) 0 then cO κ0 (pk k) nc (part16 l) (n / 16) else bif Nat.beq (n / 16) 0 then ((tailF κ0 (pk k) nc n l).drop 0).take (n - 16 * (n / 16)) else cO κ0 (pk k) nc (part16 l) (n / 16) ++ ((tailF κ0 (pk k) nc n l).drop 0).take (n - 16 * (n / 16))) =
    (bif Nat.beq (n % 16) 0 then dO δ0 (wk k) sB nc (partR n l) (n / 16) else dT l (δ0.RE (wk k) sB (dvD δ0 (wk k) sB nc n)) (n / 16) (dO δ0 (wk k) sB nc (partR n l) (n / 16)) (n % 16))
  cases hq : Nat.beq (n % 16) 0
  · simp only [cond_false]
    have h0 : n % 16 ≠ 0 := fun e => by rw [e] at hq; cases hq
    obtain ⟨h1, h2⟩ := rest_facts hl
    have hr : n - 16 * (n / 16) = n % 16 := by omega
    rw [dT_eq _ _ (fun e => by rw [e]; rfl), hO, List.drop_zero]
    have ht : (tailF κ0 (pk k) nc n l).take (n - 16 * (n / 16)) = (List.range (n % 16)).map fun i => nth 0 l (16 * (n / 16) + i) ^^^ nth 0 (δ0.RE (wk k) sB (dvD δ0 (wk k) sB nc n)) i := by
      have hp : κ0.PAD = padR := by kernel_rfl
      have hD : κ0.X (cD κ0 (pk k) nc (n / 16)) (pk k).st = dvD δ0 (wk k) sB nc n := by
        have := crD_eq k nc hn l
        have e1 : crD κ0 (pk k) nc n l = κ0.X (cD κ0 (pk k) nc (n / 16)) (pk k).st := by unfold crD; rw [hq]; rfl
        rw [e1] at this
        exact this
      unfold tailF
      rw [hD, κR, δR, κX, hp, take_xor _ _ (by omega), hr]
      apply List.map_congr_left
      intro i hi
      have hi := List.mem_range.1 hi
      congr 1
      rw [← h2 i (by omega), show n % 16 = (restB n l).length by omega, splice_pad (by omega), nth_app _ _ (by omega)]
    rw [ht]
    cases hz : Nat.beq (n / 16) 0
    · rfl
    · have := Nat.eq_of_beq_eq_true hz
      rw [this]; rfl
  · simp only [cond_true]
    exact hO
theorem tag_eq (k s o : List B8) {n : Nat} {l : List B8} (hl : l.length = n) (hn : n ≤ 200) : tagF τ0 (pk k) s o n l = rtagF υ0 (wk k) sB s o n l := by
  have hs := sum_eq k hl hn
  subst hl
  show τ0.X (τ0.R (pk k).T (pk k).kf (τ0.X s (τ0.X o (pk k).dl))) (τ0.SM (pk k) l.length (nzL l.length l)) = υ0.X (υ0.RE (wk k) sB (υ0.X (υ0.X s o) (υ0.DB (υ0.RE (wk k) sB z16)))) (υ0.SM (wk k) sB l.length (nzL l.length l))
  have e1 : τ0.X = xorL := by kernel_rfl
  have e2 : υ0.X = xorL := by kernel_rfl
  have e3 : ∀ x, τ0.R (pk k).T (pk k).kf x = refEnc (wordsR k) sboxL x := fun x => κR k x
  have e4 : ∀ x, υ0.RE (wk k) sB x = refEnc (wordsR k) sboxL x := by intro x; kernel_rfl
  have e5 : τ0.SM (pk k) l.length l = ω0.SM (pK φ0 k) l.length l := by kernel_rfl
  have e6 : υ0.SM (wk k) sB l.length l = ω0.RSM (φ0.W k) φ0.SB l.length l := by kernel_rfl
  have e7 : (pk k).dl = dblL (starK k) := by kernel_rfl
  have e8 : υ0.DB = dblR := by kernel_rfl
  rw [nzL_len, e1, e2, e3, e4, e4, e5, e6, e7, e8, hs, starK_ref, ← dbl_eq (starK_len k), xorL_assoc]
end
end Go.Proofs.YtamlbiaakogahaaDoor
