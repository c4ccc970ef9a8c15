/- Plain laws, part 3: the round keys of both; the double of both; a table's blocks; how often two divides. No program in sight. -/
import Derived.Test.YtamlbiaakogahaaDoorBr2
import Derived.Test.YtamlbiaakogahaaDoorSp5
import Derived.Lib.TrailingZeros

namespace Go.Mo
open Go
noncomputable section

theorem xor0 (x : B8) : x ^^^ 0 = x := BitVec.xor_zero
theorem or0 (x : B8) : x ||| 0 = x := BitVec.or_zero
theorem wb4_xor (l : List B8) (o : Nat) (X : B32) : wb4 (col4 l o ^^^ X) = xB l (wb4 X) o := by
  show [wb (col4 l o ^^^ X) 24, wb (col4 l o ^^^ X) 16, wb (col4 l o ^^^ X) 8, wb (col4 l o ^^^ X) 0] = [nth 0 l o ^^^ wb X 24, nth 0 l (o + 1) ^^^ wb X 16, nth 0 l (o + 2) ^^^ wb X 8, nth 0 l (o + 3) ^^^ wb X 0]
  rw [wb_xor, wb_xor, wb_xor, wb_xor]
  have h0 := wb_col4 l o 0 (by omega)
  have h1 := wb_col4 l o 1 (by omega)
  have h2 := wb_col4 l o 2 (by omega)
  have h3 := wb_col4 l o 3 (by omega)
  simp only [Nat.mul_zero, Nat.sub_zero, Nat.add_zero, Nat.mul_one, Nat.reduceSub, Nat.reduceMul] at h0 h1 h2 h3
  rw [h0, h1, h2, h3]

theorem shl24 (x : B8) : (x.setWidth 32 <<< 24 : B32) = col x 0 0 0 := by
  unfold col
  apply BitVec.eq_of_getLsbD_eq
  intro i hi
  simp

theorem wb4_turned (r : Nat) (hr : r < 10) (l : List B8) : wb4 (turned (col4 l 12) r) = tL r l := by
  have e : turned (col4 l 12) r = col (sb (nth 0 l 13)) (sb (nth 0 l 14)) (sb (nth 0 l 15)) (sb (nth 0 l 12)) ^^^ col (powR 2 r) 0 0 0 := by
    unfold turned
    rw [shl24, ← powR_rc r hr]
    unfold col4
    rw [subW_bytes]
  rw [e]
  show [wb (_ ^^^ _) 24, wb (_ ^^^ _) 16, wb (_ ^^^ _) 8, wb (_ ^^^ _) 0] = _
  rw [wb_xor, wb_xor, wb_xor, wb_xor, wb_col0, wb_col0, wb_col1, wb_col1, wb_col2, wb_col2, wb_col3, wb_col3]
  rw [xor0, xor0, xor0]
  rfl

theorem next_eq (r : Nat) (hr : r < 10) (l : List B8) : nextL r l = nxtB r l := by
  show wb4 (col4 l 0 ^^^ turned (col4 l 12) r) ++ (wb4 (col4 l 4 ^^^ (col4 l 0 ^^^ turned (col4 l 12) r)) ++ (wb4 (col4 l 8 ^^^ (col4 l 4 ^^^ (col4 l 0 ^^^ turned (col4 l 12) r))) ++
    wb4 (col4 l 12 ^^^ (col4 l 8 ^^^ (col4 l 4 ^^^ (col4 l 0 ^^^ turned (col4 l 12) r)))))) = _
  rw [wb4_xor, wb4_xor, wb4_xor, wb4_xor, wb4_xor, wb4_xor, wb4_xor, wb4_xor, wb4_xor, wb4_xor, wb4_turned r hr]
  rfl

theorem roundL_eq (k : List B8) : ∀ n, n < 11 → roundL n k = grpB k n
  | 0, _ => rfl
  | n + 1, h => by
    show nextL n (roundL n k) = nxtB n (grpB k n)
    rw [roundL_eq k n (by omega), next_eq n (by omega)]

theorem expandL_eq (k : List B8) : expandL k = wordsR k := by
  unfold expandL wordsR
  rw [roundL_eq k 0 (by omega), roundL_eq k 1 (by omega), roundL_eq k 2 (by omega), roundL_eq k 3 (by omega), roundL_eq k 4 (by omega), roundL_eq k 5 (by omega), roundL_eq k 6 (by omega), roundL_eq k 7 (by omega),
    roundL_eq k 8 (by omega), roundL_eq k 9 (by omega), roundL_eq k 10 (by omega)]
  simp only [catG, List.nil_append, List.append_assoc]

/-- ██ The reference's cipher is the one by tables. -/
theorem enc_eq (k b : List B8) : refEnc (wordsR k) sboxL b = encF k b := by
  rw [refEnc_eq, ← expandL_eq]; rfl

/-! ### The double -/

def comb (x : B8) (z : Int) : B8 := (((((((((((((((0) * 2 + BitVec.ofInt 8 (bitI x 6))) * 2 + BitVec.ofInt 8 (bitI x 5))) * 2 + BitVec.ofInt 8 (bitI x 4))) * 2 + BitVec.ofInt 8 (bitI x 3))) * 2 + BitVec.ofInt 8 (bitI x 2))) * 2 + BitVec.ofInt 8 (bitI x 1))) * 2 + BitVec.ofInt 8 (bitI x 0))) * 2 + BitVec.ofInt 8 z
theorem comb_0 (x : B8) : comb x 0 = x <<< 1 := byte_all (f := fun x => comb x 0) (g := fun x => x <<< 1) (by kernel_rfl) x
theorem comb_1 (x : B8) : comb x 1 = x <<< 1 ||| 1 := byte_all (f := fun x => comb x 1) (g := fun x => x <<< 1 ||| 1) (by kernel_rfl) x
theorem top_bit (y : B8) : bitI y 7 = ((y >>> 7).toNat : Int) := byte_all (f := fun y => bitI y 7) (g := fun y => ((y >>> 7).toNat : Int)) (by kernel_rfl) y
theorem top_bit' (y : B8) : (y >>> 7 = 0 ∨ y >>> 7 = 1) := by
  have h : (y >>> 7).toNat < 2 := by
    rw [BitVec.toNat_ushiftRight, Nat.shiftRight_eq_div_pow]
    have := y.isLt
    omega
  rcases Nat.lt_or_ge (y >>> 7).toNat 1 with q | q
  · left; apply BitVec.eq_of_toNat_eq; show (y >>> 7).toNat = 0; omega
  · right; apply BitVec.eq_of_toNat_eq; show (y >>> 7).toNat = 1; omega
theorem comb_eq (x y : B8) : comb x (bitI y 7) = x <<< 1 ||| y >>> 7 := by
  rw [top_bit]
  rcases top_bit' y with h | h <;> rw [h]
  · have := comb_0 x
    rw [or0]
    exact this
  · exact comb_1 x
theorem redB_eq (x : B8) : redB x = bif decide (bitI x 7 = 1) then 135 else 0 := byte_all (f := redB) (g := fun x => bif decide (bitI x 7 = 1) then 135 else 0) (by kernel_rfl) x
theorem dblT_eq (k0 k1 k2 k3 k4 k5 k6 k7 k8 k9 k10 k11 k12 k13 k14 k15 : B8) : dblT ofL (bitsN [k0, k1, k2, k3, k4, k5, k6, k7, k8, k9, k10, k11, k12, k13, k14, k15] 16) = [comb k0 (bitI k1 7), comb k1 (bitI k2 7), comb k2 (bitI k3 7), comb k3 (bitI k4 7), comb k4 (bitI k5 7), comb k5 (bitI k6 7), comb k6 (bitI k7 7), comb k7 (bitI k8 7), comb k8 (bitI k9 7), comb k9 (bitI k10 7), comb k10 (bitI k11 7), comb k11 (bitI k12 7), comb k12 (bitI k13 7), comb k13 (bitI k14 7), comb k14 (bitI k15 7), comb k15 0] := by kernel_rfl
theorem tst_eq (k0 k1 k2 k3 k4 k5 k6 k7 k8 k9 k10 k11 k12 k13 k14 k15 : B8) : nth 0 (((bitsN [k0, k1, k2, k3, k4, k5, k6, k7, k8, k9, k10, k11, k12, k13, k14, k15] 16).drop 0).take 1) 0 = bitI k0 7 := by kernel_rfl
/-- ██ The double, bit by bit. -/
theorem dbl_eq {l : List B8} (h : l.length = 16) : dblR l = dblL l := by
  obtain ⟨k0, k1, k2, k3, k4, k5, k6, k7, k8, k9, k10, k11, k12, k13, k14, k15, rfl⟩ := list16 h
  unfold dblR
  rw [tst_eq]
  unfold dblX
  rw [dblT_eq]
  simp only [comb_eq, comb_0]
  have hr := redB_eq k0
  cases hc : decide (bitI k0 7 = 1) <;> simp only [hc, cond_true, cond_false] at hr ⊢
  · show [k0 <<< 1 ||| k1 >>> 7, k1 <<< 1 ||| k2 >>> 7, k2 <<< 1 ||| k3 >>> 7, k3 <<< 1 ||| k4 >>> 7, k4 <<< 1 ||| k5 >>> 7, k5 <<< 1 ||| k6 >>> 7, k6 <<< 1 ||| k7 >>> 7, k7 <<< 1 ||| k8 >>> 7, k8 <<< 1 ||| k9 >>> 7, k9 <<< 1 ||| k10 >>> 7, k10 <<< 1 ||| k11 >>> 7, k11 <<< 1 ||| k12 >>> 7, k12 <<< 1 ||| k13 >>> 7, k13 <<< 1 ||| k14 >>> 7, k14 <<< 1 ||| k15 >>> 7, k15 <<< 1] = [k0 <<< 1 ||| k1 >>> 7, k1 <<< 1 ||| k2 >>> 7, k2 <<< 1 ||| k3 >>> 7, k3 <<< 1 ||| k4 >>> 7, k4 <<< 1 ||| k5 >>> 7, k5 <<< 1 ||| k6 >>> 7, k6 <<< 1 ||| k7 >>> 7, k7 <<< 1 ||| k8 >>> 7, k8 <<< 1 ||| k9 >>> 7, k9 <<< 1 ||| k10 >>> 7, k10 <<< 1 ||| k11 >>> 7, k11 <<< 1 ||| k12 >>> 7, k12 <<< 1 ||| k13 >>> 7, k13 <<< 1 ||| k14 >>> 7, k14 <<< 1 ||| k15 >>> 7, k15 <<< 1 ^^^ redB k0]
    rw [hr, xor0]
  · show [k0 <<< 1 ||| k1 >>> 7, k1 <<< 1 ||| k2 >>> 7, k2 <<< 1 ||| k3 >>> 7, k3 <<< 1 ||| k4 >>> 7, k4 <<< 1 ||| k5 >>> 7, k5 <<< 1 ||| k6 >>> 7, k6 <<< 1 ||| k7 >>> 7, k7 <<< 1 ||| k8 >>> 7, k8 <<< 1 ||| k9 >>> 7, k9 <<< 1 ||| k10 >>> 7, k10 <<< 1 ||| k11 >>> 7, k11 <<< 1 ||| k12 >>> 7, k12 <<< 1 ||| k13 >>> 7, k13 <<< 1 ||| k14 >>> 7, k14 <<< 1 ||| k15 >>> 7, k15 <<< 1 ^^^ 135] = [k0 <<< 1 ||| k1 >>> 7, k1 <<< 1 ||| k2 >>> 7, k2 <<< 1 ||| k3 >>> 7, k3 <<< 1 ||| k4 >>> 7, k4 <<< 1 ||| k5 >>> 7, k5 <<< 1 ||| k6 >>> 7, k6 <<< 1 ||| k7 >>> 7, k7 <<< 1 ||| k8 >>> 7, k8 <<< 1 ||| k9 >>> 7, k9 <<< 1 ||| k10 >>> 7, k10 <<< 1 ||| k11 >>> 7, k11 <<< 1 ||| k12 >>> 7, k12 <<< 1 ||| k13 >>> 7, k13 <<< 1 ||| k14 >>> 7, k14 <<< 1 ||| k15 >>> 7, k15 <<< 1 ^^^ redB k0]
    rw [hr]
theorem dblL_len (l : List B8) : (dblL l).length = 16 := rfl
theorem itD_len {s : List B8} (h : s.length = 16) : ∀ n, (itD dblL s n).length = 16
  | 0 => h
  | n + 1 => dblL_len (itD dblL s n)
theorem itD_zero (D : List B8 → List B8) (s : List B8) : itD D s 0 = s := rfl
theorem itD_succ (D : List B8 → List B8) (s : List B8) (n : Nat) : itD D s (n + 1) = D (itD D s n) := rfl
theorem itD_eq {s : List B8} (h : s.length = 16) : ∀ n, itD dblR s n = itD dblL s n
  | 0 => by rw [itD_zero, itD_zero]
  | n + 1 => by
    rw [itD_succ, itD_succ, itD_eq h n, dbl_eq (itD_len h n)]

/-! ### A table's blocks -/

theorem spliceN_len {α : Type} {l p : List α} {off m : Nat} (hp : p.length = m) (h : off + m ≤ l.length) : (spliceN l off m p).length = l.length := by
  rw [spliceN_eq hp]; exact splice_length (by omega)
theorem spliceN_at {α : Type} {l p : List α} {off m : Nat} (hp : p.length = m) (h : off + m ≤ l.length) : ((spliceN l off m p).drop off).take m = p := by
  unfold spliceN
  have e : (l.take off).length = off := by simp; omega
  rw [List.drop_left' e, List.take_left' hp]
theorem spliceN_before {α : Type} {l p : List α} {off m i k : Nat} (h : i + k ≤ off) (h2 : off ≤ l.length) : ((spliceN l off m p).drop i).take k = (l.drop i).take k := by
  unfold spliceN
  have e : (l.take off).length = off := by simp; omega
  rw [List.drop_append_of_le_length (by omega), List.take_append_of_le_length (by simp; omega), List.drop_take, List.take_take, Nat.min_eq_left (by omega)]
theorem splD_len {s : List B8} (h : s.length = 16) : ∀ n, n < 65 → (splD dblL s n).length = 1024
  | 0, _ => by unfold splD; rw [List.length_replicate]
  | n + 1, hn => by
    have := splD_len h n (by omega)
    show (spliceN _ _ _ _).length = _
    rw [spliceN_len (itD_len h _) (by omega), this]
theorem splD_at {s : List B8} (h : s.length = 16) : ∀ n i, n < 65 → i < n → subL (splD dblL s n) (i * 16) 16 = itD dblL s (i + 2)
  | 0, i, _, hi => by omega
  | n + 1, i, hn, hi => by
    have hl := splD_len h n (by omega)
    unfold subL
    show ((spliceN (splD dblL s n) (n * 16) 16 (itD dblL s (n + 2))).drop (i * 16)).take 16 = _
    rcases Nat.lt_or_ge i n with q | q
    · rw [spliceN_before (by omega) (by omega)]
      exact splD_at h n i (by omega) q
    · have : i = n := by omega
      subst this
      exact spliceN_at (itD_len h _) (by omega)
/-- ██ A table's block is the reference's. -/
theorem at_eq {s : List B8} (h : s.length = 16) {n : Int} (h0 : 0 ≤ n) (h1 : n < 64) : atL (splD dblL s 64) n = refAt dblR s n := by
  obtain ⟨i, rfl⟩ := Int.eq_ofNat_of_zero_le h0
  have hi : i < 64 := by omega
  have hb : Nat.blt i 64 = true := Nat.ble_eq_true_of_le hi
  show (bif Nat.blt i 64 then _ else _) = _
  rw [hb, cond_true, splD_at h 64 i (by omega) hi]
  unfold refAt
  rw [itD_eq h, show ((i : Int) + 2).toNat = i + 2 by omega]

/-! ### How often two divides -/

theorem ctz_zer : ∀ (f : Nat) (x : BitVec 64), x.toNat ≠ 0 → Lib.ctzFrom f x.toNat = zerGo f x
  | 0, x, _ => rfl
  | f + 1, x, h => by
    have e1 : (x % 2).toNat = x.toNat % 2 := by rw [BitVec.toNat_umod]; rfl
    have e2 : (x / 2).toNat = x.toNat / 2 := by rw [BitVec.toNat_udiv]; rfl
    unfold Lib.ctzFrom
    simp only [zerGo]
    have e0 : ((0 : BitVec 64).toNat : Int) = 0 := rfl
    by_cases hq : x.toNat % 2 = 1
    · rw [if_pos hq]
      have : decide (((x % 2).toNat : Int) = ((0 : BitVec 64).toNat : Int)) = false := by rw [e1, e0]; exact decide_eq_false (by omega)
      rw [this, cond_false]
    · rw [if_neg hq]
      have : decide (((x % 2).toNat : Int) = ((0 : BitVec 64).toNat : Int)) = true := by rw [e1, e0]; exact decide_eq_true (by omega)
      rw [this, cond_true, ← ctz_zer f (x / 2) (by rw [e2]; omega), e2]
      omega
theorem zer0 : zerGo 64 0 = 64 := by kernel_rfl
/-- ██ The trailing zeros of both. -/
theorem tz_eq (x : BitVec 64) : (Lib.ctz 64 x.toNat : Int) = zerR x := by
  unfold Lib.ctz zerR
  by_cases h : x.toNat = 0
  · rw [if_pos h]
    have : x = 0 := BitVec.eq_of_toNat_eq h
    subst this
    rw [zer0]
  · rw [if_neg h, ctz_zer 64 x h]
theorem zer_lt {x : BitVec 64} (h : x.toNat ≠ 0) : zerR x < 64 := by
  unfold zerR
  rw [← ctz_zer 64 x h]
  have := (Lib.ctzFrom_spec 64 x.toNat (by omega) x.isLt).choose_spec.2
  omega
theorem zer_ge (x : BitVec 64) : 0 ≤ zerR x := by unfold zerR; omega
end
end Go.Mo


namespace Go.Mo
open Go
noncomputable section
theorem zerGo_more : ∀ (f : Nat) (x : BitVec 64), zerGo f x < f → zerGo (f + 1) x = zerGo f x
  | 0, _, h => absurd h (by simp [zerGo])
  | f + 1, x, h => by
    cases hc : decide (((x % 2).toNat : Int) = ((0 : BitVec 64).toNat : Int))
    · simp only [zerGo, hc, cond_false]
    · have e : ∀ f, zerGo (f + 1) x = zerGo f (x / 2) + 1 := fun f => by simp only [zerGo, hc, cond_true]
      rw [e] at h
      rw [e, e f, zerGo_more f (x / 2) (by omega)]
theorem zer_double {x : BitVec 64} (h0 : x.toNat ≠ 0) (h : x.toNat < 9223372036854775808) : zerR (2 * x) = zerR x + 1 ∧ zerR x < 63 := by
  have e2 : (2 * x : BitVec 64).toNat = 2 * x.toNat := by
    rw [BitVec.toNat_mul]
    show 2 * x.toNat % 18446744073709551616 = _
    omega
  have ev : (2 * x) % 2 = 0 := by
    apply BitVec.eq_of_toNat_eq
    rw [BitVec.toNat_umod, e2]
    show 2 * x.toNat % 2 = 0
    omega
  have hv : (2 * x) / 2 = x := by
    apply BitVec.eq_of_toNat_eq
    rw [BitVec.toNat_udiv, e2]
    show 2 * x.toNat / 2 = x.toNat
    omega
  have hlt : zerGo 63 x < 63 := by
    rw [← ctz_zer 63 x h0]
    exact (Lib.ctzFrom_spec 63 x.toNat (by omega) (by omega)).choose_spec.2
  have hm := zerGo_more 63 x hlt
  have e : zerGo 64 (2 * x) = zerGo 63 x + 1 := by
    show (bif decide ((((2 * x) % 2).toNat : Int) = ((0 : BitVec 64).toNat : Int)) then zerGo 63 ((2 * x) / 2) + 1 else 0) = _
    rw [ev, hv]
    have : decide (((0 : BitVec 64).toNat : Int) = ((0 : BitVec 64).toNat : Int)) = true := decide_eq_true rfl
    rw [this, cond_true]
  unfold zerR
  rw [e]
  have hm' : zerGo 64 x = zerGo 63 x := hm
  rw [hm']
  omega
theorem zer_odd {x : BitVec 64} (h : ((x % 2).toNat : Int) ≠ ((0 : BitVec 64).toNat : Int)) : zerR x = 0 := by
  have : zerGo 64 x = 0 := by
    show (bif decide (((x % 2).toNat : Int) = ((0 : BitVec 64).toNat : Int)) then zerGo 63 (x / 2) + 1 else 0) = _
    rw [decide_eq_false h, cond_false]
  unfold zerR
  rw [this]; rfl
theorem refAt_succ (D : List B8 → List B8) (s : List B8) {n : Int} (h : 0 ≤ n) : refAt D s (n + 1) = D (refAt D s n) := by
  unfold refAt
  rw [show (n + 1 + 2).toNat = (n + 2).toNat + 1 by omega, itD_succ]
theorem refAt_add (D : List B8 → List B8) (s : List B8) {n : Int} (h : 0 ≤ n) : ∀ m : Nat, itD D (refAt D s n) m = refAt D s (n + m)
  | 0 => by rw [itD_zero]; congr 1; omega
  | m + 1 => by
    rw [itD_succ, refAt_add D s h m, show n + ((m + 1 : Nat) : Int) = n + (m : Int) + 1 by omega, refAt_succ D s (by omega)]
end
end Go.Mo

