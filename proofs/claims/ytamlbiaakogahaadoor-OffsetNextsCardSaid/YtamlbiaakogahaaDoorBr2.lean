/- Plain laws, part 2: the rounds by tables are the reference's rounds; the round keys. No program in sight. -/
import Derived.Test.YtamlbiaakogahaaDoorBr1
import Derived.Test.YtamlbiaakogahaaDoorSp6
namespace Go.Mo
open Go
noncomputable section

def gridOf (s : List B32) : List B8 := each16 fun p => wb (nth 0 s (p % 4)) (24 - 8 * (p / 4))

theorem lt4 {p : Nat} (h : p < 4) : p = 0 ∨ p = 1 ∨ p = 2 ∨ p = 3 := by omega

theorem keysF_nth (e : List B8) (n : Nat) (h : n < 44) : nth 0 (keysF e) n = col4 (rk e (n / 4)) (4 * (n % 4)) :=
  tab_all (f := fun n => nth 0 (keysF e) n) (g := fun n => col4 (rk e (n / 4)) (4 * (n % 4))) (N := 44) (by kernel_rfl) n h

theorem wb_col4 (X : List B8) (i r : Nat) (h : r < 4) : wb (col4 X i) (24 - 8 * r) = nth 0 X (i + r) := by
  unfold col4
  rcases lt4 h with rfl | rfl | rfl | rfl
  · exact wb_col0 _ _ _ _
  · exact wb_col1 _ _ _ _
  · exact wb_col2 _ _ _ _
  · exact wb_col3 _ _ _ _

theorem cell_row (e : List B8) (s : List B32) (n c r : Nat) (hn : n < 11) (hc : c < 4) (hr : r < 4) :
    wb (cellR 0 1 tab2 (keysF e) n s c) (24 - 8 * r) =
      (((nth 0 (rk e n) (4 * c + r) ^^^ wb (fwdE (sb (pickB s c 0 1))) (24 - 8 * r)) ^^^ wb (fwdE (sb (pickB s c 1 1))) (24 - 8 * ((r + 3) % 4))) ^^^ wb (fwdE (sb (pickB s c 2 1))) (24 - 8 * ((r + 2) % 4)))
        ^^^ wb (fwdE (sb (pickB s c 3 1))) (24 - 8 * ((r + 1) % 4)) := by
  unfold cellR
  rw [wb_xor, wb_xor, wb_xor, wb_xor, tab2_fwd, tab2_fwd, tab2_fwd, tab2_fwd, wb_rot8 _ 1 r hr (by omega), wb_rot8 _ 2 r hr (by omega), wb_rot8 _ 3 r hr (by omega), keysF_nth e _ (by omega),
    wb_col4 _ _ r hr, show (n * 4 + c) / 4 = n by omega, show (n * 4 + c) % 4 = c by omega, show r + 4 - 1 = r + 3 by omega, show r + 4 - 2 = r + 2 by omega, show r + 4 - 3 = r + 1 by omega]

theorem nth_roundF (base step : Nat) (T ks : List B32) (rnd : Nat) (s : List B32) (c : Nat) (h : c < 4) : nth 0 (roundF base step T ks rnd s) c = cellR base step T ks rnd s c := by
  rcases lt4 h with rfl | rfl | rfl | rfl <;> rfl

theorem nth_gridOf (s : List B32) (p : Nat) (h : p < 16) : nth 0 (gridOf s) p = wb (nth 0 s (p % 4)) (24 - 8 * (p / 4)) := nth_each16 _ h

theorem nth_H (s : List B32) (p : Nat) (h : p < 16) : nth 0 (shiftG (subG sboxL (gridOf s))) p = sb (pickB s (p % 4) (p / 4) 1) := by
  unfold shiftG
  rw [nth_each16 _ h]
  unfold subG
  rw [nth_each16 _ (by omega), nth_gridOf _ _ (by omega), show (p / 4 * 4 + (p % 4 + p / 4) % 4) % 4 = (p % 4 + p / 4) % 4 by omega, show (p / 4 * 4 + (p % 4 + p / 4) % 4) / 4 = p / 4 by omega]
  unfold pickB
  rw [Nat.mul_one]
  rfl

theorem nth_trL (b : List B8) (p : Nat) (h : p < 16) : nth 0 (trL b) p = nth 0 b (p % 4 * 4 + p / 4) := nth_each16 _ h

theorem wb_fwd0 (s : B8) : wb (fwdE s) 24 = mul s 2 := wb_col0 _ _ _ _
theorem wb_fwd1 (s : B8) : wb (fwdE s) 16 = s := wb_col1 _ _ _ _
theorem wb_fwd2 (s : B8) : wb (fwdE s) 8 = s := wb_col2 _ _ _ _
theorem wb_fwd3 (s : B8) : wb (fwdE s) 0 = mul s 3 := wb_col3 _ _ _ _

theorem ac1 (k a b c d : B8) : (((a ^^^ b) ^^^ c) ^^^ d) ^^^ k = (((k ^^^ a) ^^^ b) ^^^ c) ^^^ d := by ac_rfl
theorem ac2 (k a b c d : B8) : (((a ^^^ b) ^^^ c) ^^^ d) ^^^ k = (((k ^^^ d) ^^^ a) ^^^ b) ^^^ c := by ac_rfl
theorem ac3 (k a b c d : B8) : (((a ^^^ b) ^^^ c) ^^^ d) ^^^ k = (((k ^^^ c) ^^^ d) ^^^ a) ^^^ b := by ac_rfl
theorem ac4 (k a b c d : B8) : (((a ^^^ b) ^^^ c) ^^^ d) ^^^ k = (((k ^^^ b) ^^^ c) ^^^ d) ^^^ a := by ac_rfl

theorem nth_mix (H : List B8) (p : Nat) (h : p < 16) : nth 0 (mixG H) p = ((mul (cl H p 0) 2 ^^^ mul (cl H p 1) 3) ^^^ cl H p 2) ^^^ cl H p 3 := by
  unfold mixG
  rw [nth_each16 _ h, mulR2, mulR3']

theorem round_eq (e : List B8) (n : Nat) (hn : n < 11) (s : List B32) : addG (mixG (shiftG (subG sboxL (gridOf s)))) (rk e n) = gridOf (roundF 0 1 tab2 (keysF e) n s) := by
  unfold addG
  conv => rhs; unfold gridOf
  apply each16_congr
  intro p hp
  rw [nth_mix _ p hp, nth_trL _ p hp, nth_roundF _ _ _ _ _ _ _ (by omega), cell_row e s n (p % 4) (p / 4) hn (by omega) (by omega)]
  unfold cl
  rw [nth_H _ _ (by omega), nth_H _ _ (by omega), nth_H _ _ (by omega), nth_H _ _ (by omega), show 4 * (p % 4) + p / 4 = p % 4 * 4 + p / 4 by omega]
  have hm : ∀ k, ((p / 4 + k) % 4 * 4 + p % 4) % 4 = p % 4 := fun k => by omega
  have hd : ∀ k, ((p / 4 + k) % 4 * 4 + p % 4) / 4 = (p / 4 + k) % 4 := fun k => by omega
  rw [hm, hm, hm, hm, hd, hd, hd, hd]
  have h4 : p / 4 < 4 := by omega
  rcases lt4 h4 with h | h | h | h <;> rw [h] <;> simp only [Nat.reduceAdd, Nat.reduceMod, Nat.reduceMul, Nat.reduceSub, wb_fwd0, wb_fwd1, wb_fwd2, wb_fwd3]
  · exact ac1 _ _ _ _ _
  · exact ac2 _ _ _ _ _
  · exact ac3 _ _ _ _ _
  · exact ac4 _ _ _ _ _

theorem first_eq (e b : List B8) : addG (trL b) (rk e 0) = gridOf (addW (keysF e) (wordsL b)) := by
  unfold addG
  conv => rhs; unfold gridOf
  apply each16_congr
  intro p hp
  rw [nth_trL _ p hp, nth_trL _ p hp]
  have key : ∀ c, c < 4 → nth 0 (addW (keysF e) (wordsL b)) c = col4 b (4 * c) ^^^ nth 0 (keysF e) c := by
    intro c hc
    rcases lt4 hc with rfl | rfl | rfl | rfl <;> rfl
  rw [key _ (by omega), wb_xor, wb_col4 _ _ _ (by omega), keysF_nth e _ (by omega), wb_col4 _ _ _ (by omega), show p % 4 / 4 = 0 by omega, show p % 4 % 4 = p % 4 by omega, show 4 * (p % 4) + p / 4 = p % 4 * 4 + p / 4 by omega]

theorem rounds_eq (e b : List B8) : ∀ n, n < 10 → rgG addG mixG shiftG subG trL e sboxL b n = gridOf (roundsF 0 1 tab2 (keysF e) b n)
  | 0, _ => first_eq e b
  | n + 1, h => by
    have hb : Nat.blt (n + 1) 10 = true := Nat.ble_eq_true_of_le h
    simp only [rgG, hb, cond_true]
    rw [rounds_eq e b n (by omega)]
    exact round_eq e (n + 1) (by omega) _

theorem refEnc_eq (e b : List B8) : refEnc e sboxL b = runF 0 1 sb tab2 (keysF e) b := by
  have h10 : rgG addG mixG shiftG subG trL e sboxL b 10 = addG (shiftG (subG sboxL (gridOf (roundsF 0 1 tab2 (keysF e) b 9)))) (rk e 10) := by
    show addG ((fun x => x) (shiftG (subG sboxL (rgG addG mixG shiftG subG trL e sboxL b 9)))) (rk e 10) = _
    rw [rounds_eq e b 9 (by omega)]
  unfold refEnc runF
  rw [h10]
  unfold trL
  apply each16_congr
  intro p hp
  unfold addG
  rw [nth_each16 _ (by omega), nth_H _ _ (by omega), nth_trL _ _ (by omega), show (p % 4 * 4 + p / 4) % 4 = p / 4 by omega, show (p % 4 * 4 + p / 4) / 4 = p % 4 by omega]
  unfold lastB
  rw [keysF_nth e _ (by omega), wb_col4 _ _ _ (by omega), show (40 + p / 4) / 4 = 10 by omega, show (40 + p / 4) % 4 = p / 4 by omega, show 4 * (p / 4) + p % 4 = p / 4 * 4 + p % 4 by omega]

/-! ### The round keys -/

theorem powR_rc (r : Nat) (h : r < 10) : powR 2 r = nth 0 rcL r :=
  tab_all (f := fun r => powR 2 r) (g := fun r => nth 0 rcL r) (N := 10) (by kernel_rfl) r h

theorem subW_bytes (a b c d : B8) : subW (rotL (col a b c d)) = col (sb b) (sb c) (sb d) (sb a) := by
  have e0 : wb (rotL (col a b c d)) 24 = b := by
    apply BitVec.eq_of_getLsbD_eq
    intro i hi
    have : i = 0 ∨ i = 1 ∨ i = 2 ∨ i = 3 ∨ i = 4 ∨ i = 5 ∨ i = 6 ∨ i = 7 := by omega
    rcases this with rfl | rfl | rfl | rfl | rfl | rfl | rfl | rfl <;> simp [wb, col, rotL]
  have e1 : wb (rotL (col a b c d)) 16 = c := by
    apply BitVec.eq_of_getLsbD_eq
    intro i hi
    have : i = 0 ∨ i = 1 ∨ i = 2 ∨ i = 3 ∨ i = 4 ∨ i = 5 ∨ i = 6 ∨ i = 7 := by omega
    rcases this with rfl | rfl | rfl | rfl | rfl | rfl | rfl | rfl <;> simp [wb, col, rotL]
  have e2 : wb (rotL (col a b c d)) 8 = d := by
    apply BitVec.eq_of_getLsbD_eq
    intro i hi
    have : i = 0 ∨ i = 1 ∨ i = 2 ∨ i = 3 ∨ i = 4 ∨ i = 5 ∨ i = 6 ∨ i = 7 := by omega
    rcases this with rfl | rfl | rfl | rfl | rfl | rfl | rfl | rfl <;> simp [wb, col, rotL]
  have e3 : wb (rotL (col a b c d)) 0 = a := by
    apply BitVec.eq_of_getLsbD_eq
    intro i hi
    have : i = 0 ∨ i = 1 ∨ i = 2 ∨ i = 3 ∨ i = 4 ∨ i = 5 ∨ i = 6 ∨ i = 7 := by omega
    rcases this with rfl | rfl | rfl | rfl | rfl | rfl | rfl | rfl <;> simp [wb, col, rotL]
  unfold subW sbw
  rw [e0, e1, e2, e3]
  generalize sb b = x
  generalize sb c = y
  generalize sb d = z
  generalize sb a = w
  apply BitVec.eq_of_getLsbD_eq
  intro i hi
  have : i < 8 ∨ (8 ≤ i ∧ i < 16) ∨ (16 ≤ i ∧ i < 24) ∨ (24 ≤ i ∧ i < 32) := by omega
  have cases32 : ∀ P : Nat → Prop, (∀ k, k < 32 → P k) → P i := fun P h => h i hi
  apply cases32 (fun i => _)
  intro k hk
  have : k = 0 ∨ k = 1 ∨ k = 2 ∨ k = 3 ∨ k = 4 ∨ k = 5 ∨ k = 6 ∨ k = 7 ∨ k = 8 ∨ k = 9 ∨ k = 10 ∨ k = 11 ∨ k = 12 ∨ k = 13 ∨ k = 14 ∨ k = 15 ∨ k = 16 ∨ k = 17 ∨ k = 18 ∨ k = 19 ∨ k = 20 ∨ k = 21 ∨ k = 22 ∨ k = 23 ∨ k = 24 ∨ k = 25
    ∨ k = 26 ∨ k = 27 ∨ k = 28 ∨ k = 29 ∨ k = 30 ∨ k = 31 := by omega
  rcases this with rfl | rfl | rfl | rfl | rfl | rfl | rfl | rfl | rfl | rfl | rfl | rfl | rfl | rfl | rfl | rfl | rfl | rfl | rfl | rfl | rfl | rfl | rfl | rfl | rfl | rfl | rfl | rfl | rfl | rfl | rfl | rfl <;> simp [col]
end
end Go.Mo
