/- Plain laws, part 5: what layer 9's laws ask of zeros and blocks. No program in sight. -/
import Derived.Test.YtamlbiaakogahaaDoorBr3
namespace Go.Mo
open Go
noncomputable section
theorem zerGo_more : ∀ (f : Nat) (x : BitVec 64), zerGo f x < f → zerGo (f + 1) x = zerGo f x
  | 0, _, h => absurd h (by simp [zerGo])
  | f + 1, x, h => by
    cases hc : decide (((x % 2).toNat : Int) = ((0 : BitVec 64).toNat : Int))
    · simp only [zerGo, hc, cond_false]
    · have e : ∀ f, zerGo (f + 1) x = zerGo f (x / 2) + 1 := fun f => by simp only [zerGo, hc, cond_true]
      rw [e] at h
      rw [e, e f, zerGo_more f (x / 2) (by omega)]
theorem zer_double {x : BitVec 64} (h0 : x.toNat ≠ 0) (h : x.toNat < 9223372036854775808) : zerR (2 * x) = zerR x + 1 ∧ zerR x < 63 := by
  have e2 : (2 * x : BitVec 64).toNat = 2 * x.toNat := by
    rw [BitVec.toNat_mul]
    show 2 * x.toNat % 18446744073709551616 = _
    omega
  have ev : (2 * x) % 2 = 0 := by
    apply BitVec.eq_of_toNat_eq
    rw [BitVec.toNat_umod, e2]
    show 2 * x.toNat % 2 = 0
    omega
  have hv : (2 * x) / 2 = x := by
    apply BitVec.eq_of_toNat_eq
    rw [BitVec.toNat_udiv, e2]
    show 2 * x.toNat / 2 = x.toNat
    omega
  have hlt : zerGo 63 x < 63 := by
    rw [← ctz_zer 63 x h0]
    exact (Lib.ctzFrom_spec 63 x.toNat (by omega) (by omega)).choose_spec.2
  have hm := zerGo_more 63 x hlt
  have e : zerGo 64 (2 * x) = zerGo 63 x + 1 := by
    show (bif decide ((((2 * x) % 2).toNat : Int) = ((0 : BitVec 64).toNat : Int)) then zerGo 63 ((2 * x) / 2) + 1 else 0) = _
    rw [ev, hv]
    have : decide (((0 : BitVec 64).toNat : Int) = ((0 : BitVec 64).toNat : Int)) = true := decide_eq_true rfl
    rw [this, cond_true]
  unfold zerR
  rw [e]
  have hm' : zerGo 64 x = zerGo 63 x := hm
  rw [hm']
  omega
theorem zer_odd {x : BitVec 64} (h : ((x % 2).toNat : Int) ≠ ((0 : BitVec 64).toNat : Int)) : zerR x = 0 := by
  have : zerGo 64 x = 0 := by
    show (bif decide (((x % 2).toNat : Int) = ((0 : BitVec 64).toNat : Int)) then zerGo 63 (x / 2) + 1 else 0) = _
    rw [decide_eq_false h, cond_false]
  unfold zerR
  rw [this]; rfl
theorem refAt_succ (D : List B8 → List B8) (s : List B8) {n : Int} (h : 0 ≤ n) : refAt D s (n + 1) = D (refAt D s n) := by
  unfold refAt
  rw [show (n + 1 + 2).toNat = (n + 2).toNat + 1 by omega, itD_succ]
theorem refAt_add (D : List B8 → List B8) (s : List B8) {n : Int} (h : 0 ≤ n) : ∀ m : Nat, itD D (refAt D s n) m = refAt D s (n + m)
  | 0 => by rw [itD_zero]; congr 1; omega
  | m + 1 => by
    rw [itD_succ, refAt_add D s h m, show n + ((m + 1 : Nat) : Int) = n + (m : Int) + 1 by omega, refAt_succ D s (by omega)]
end
end Go.Mo
