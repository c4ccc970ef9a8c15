/- Plain functions, part 5: the reference's product of bytes. No program in sight. -/
import Derived.Test.YtamlbiaakogahaaDoorSp1

namespace Go.Mo
open Go
noncomputable section
def bitI (x : B8) (k : Nat) : Int := ((x >>> k).toNat : Int).tmod 2
def addm (P : List Int) (i k : Nat) (a b : B8) : List Int := P.set (i + k) (IntKind.i64.wrap (nth 0 P (i + k) + IntKind.i64.wrap (bitI a i * bitI b k)))
def addm8 (P : List Int) (j : Nat) (a b : B8) : List Int := addm (addm (addm (addm (addm (addm (addm (addm (P) j 0 a b) j 1 a b) j 2 a b) j 3 a b) j 4 a b) j 5 a b) j 6 a b) j 7 a b
def p1 (a b : B8) : Nat → List Int
  | 0 => List.replicate 15 0
  | j + 1 => addm8 (p1 a b j) j a b
def inc (P : List Int) (n : Nat) : List Int := P.set n (IntKind.i64.wrap (nth 0 P n + 1))
def inc4 (P : List Int) (i : Nat) : List Int := inc (inc (inc (inc P (i - 4)) (i - 5)) (i - 7)) (i - 8)
def oddB (P : List Int) (i : Nat) : Bool := decide ((nth 0 P i).tmod 2 = 1)
def red1 (P : List Int) (i : Nat) (c : Bool) : List Int := bif c then inc4 P i else P
def bitB (n j : Nat) : Bool := Nat.beq (n / 2 ^ j % 2) 1
/-- The rows as the answers say. -/
def redN (P : List Int) (n : Nat) : Nat → List Int
  | 0 => P
  | j + 1 => red1 (redN P n j) (14 - j) (bitB n j)
def obsN (P : List Int) (n : Nat) : Nat → List (Bool × Bool)
  | 0 => []
  | j + 1 => (oddB (redN P n j) (14 - j), bitB n j) :: obsN P n j
def orcN (n : Nat) : List (Option Bool) := [some (bitB n 0), some (bitB n 1), some (bitB n 2), some (bitB n 3), some (bitB n 4), some (bitB n 5), some (bitB n 6)]
def redP (P : List Int) : Nat → List Int
  | 0 => P
  | j + 1 => red1 (redP P j) (14 - j) (oddB (redP P j) (14 - j))
def addx (x : Int) (P : List Int) (i : Nat) : Int := IntKind.i64.wrap (x + IntKind.i64.wrap ((nth 0 P i).tmod 2 * ((2 ^ Nat.min i 64 : Nat) : Int)))
def finM (P : List Int) : B8 := BitVec.ofInt 8 (addx (addx (addx (addx (addx (addx (addx (addx 0 P 0) P 1) P 2) P 3) P 4) P 5) P 6) P 7)
def mulR (a b : B8) : B8 := finM (redP (p1 a b 8) 7)

theorem bits7 : ∀ c0 c1 c2 c3 c4 c5 c6 : Bool, ∃ n, n < 128 ∧ bitB n 0 = c0 ∧ bitB n 1 = c1 ∧ bitB n 2 = c2 ∧ bitB n 3 = c3 ∧ bitB n 4 = c4 ∧ bitB n 5 = c5 ∧ bitB n 6 = c6 := by
  intro c0 c1 c2 c3 c4 c5 c6
  refine ⟨c0.toNat + 2 * c1.toNat + 4 * c2.toNat + 8 * c3.toNat + 16 * c4.toNat + 32 * c5.toNat + 64 * c6.toNat, ?_, ?_⟩
  · cases c0 <;> cases c1 <;> cases c2 <;> cases c3 <;> cases c4 <;> cases c5 <;> cases c6 <;> decide
  · cases c0 <;> cases c1 <;> cases c2 <;> cases c3 <;> cases c4 <;> cases c5 <;> cases c6 <;> decide

/-- The answers that are true of a row. -/
theorem redN_true (P : List Int) : ∃ n, n < 128 ∧ redN P n 7 = redP P 7 ∧ ∀ q ∈ obsN P n 7, q.1 = q.2 := by
  obtain ⟨n, h, h0, h1, h2, h3, h4, h5, h6⟩ := bits7 (oddB (redP P 0) 14) (oddB (redP P 1) 13) (oddB (redP P 2) 12) (oddB (redP P 3) 11) (oddB (redP P 4) 10) (oddB (redP P 5) 9) (oddB (redP P 6) 8)
  have e0 : redN P n 0 = redP P 0 := rfl
  have e1 : redN P n 1 = redP P 1 := by show red1 (redN P n 0) 14 (bitB n 0) = red1 (redP P 0) 14 _; rw [e0, h0]
  have e2 : redN P n 2 = redP P 2 := by show red1 (redN P n 1) 13 (bitB n 1) = red1 (redP P 1) 13 _; rw [e1, h1]
  have e3 : redN P n 3 = redP P 3 := by show red1 (redN P n 2) 12 (bitB n 2) = red1 (redP P 2) 12 _; rw [e2, h2]
  have e4 : redN P n 4 = redP P 4 := by show red1 (redN P n 3) 11 (bitB n 3) = red1 (redP P 3) 11 _; rw [e3, h3]
  have e5 : redN P n 5 = redP P 5 := by show red1 (redN P n 4) 10 (bitB n 4) = red1 (redP P 4) 10 _; rw [e4, h4]
  have e6 : redN P n 6 = redP P 6 := by show red1 (redN P n 5) 9 (bitB n 5) = red1 (redP P 5) 9 _; rw [e5, h5]
  have e7 : redN P n 7 = redP P 7 := by show red1 (redN P n 6) 8 (bitB n 6) = red1 (redP P 6) 8 _; rw [e6, h6]
  refine ⟨n, h, e7, ?_⟩
  intro q hq
  have hs : obsN P n 7 = [(oddB (redN P n 6) 8, bitB n 6), (oddB (redN P n 5) 9, bitB n 5), (oddB (redN P n 4) 10, bitB n 4), (oddB (redN P n 3) 11, bitB n 3), (oddB (redN P n 2) 12, bitB n 2), (oddB (redN P n 1) 13, bitB n 1), (oddB (redN P n 0) 14, bitB n 0)] := rfl
  rw [hs, e0, e1, e2, e3, e4, e5, e6, h0, h1, h2, h3, h4, h5, h6] at hq
  simp only [List.mem_cons, List.not_mem_nil, or_false] at hq
  rcases hq with rfl | rfl | rfl | rfl | rfl | rfl | rfl <;> rfl
end
end Go.Mo


namespace Go.Mo
open Go
noncomputable section
/-- The bits of the first bytes. -/
def bitsN (l : List B8) : Nat → List Int
  | 0 => []
  | j + 1 => ((((((((bitsN l j) ++ [bitI (nth 0 l j) 7]) ++ [bitI (nth 0 l j) 6]) ++ [bitI (nth 0 l j) 5]) ++ [bitI (nth 0 l j) 4]) ++ [bitI (nth 0 l j) 3]) ++ [bitI (nth 0 l j) 2]) ++ [bitI (nth 0 l j) 1]) ++ [bitI (nth 0 l j) 0]
def ofB (L : List Int) (i : Nat) : B8 := ((((((((((((((((0) * 2 + BitVec.ofInt 8 (nth 0 L (8 * i + 0)))) * 2 + BitVec.ofInt 8 (nth 0 L (8 * i + 1)))) * 2 + BitVec.ofInt 8 (nth 0 L (8 * i + 2)))) * 2 + BitVec.ofInt 8 (nth 0 L (8 * i + 3)))) * 2 + BitVec.ofInt 8 (nth 0 L (8 * i + 4)))) * 2 + BitVec.ofInt 8 (nth 0 L (8 * i + 5)))) * 2 + BitVec.ofInt 8 (nth 0 L (8 * i + 6)))) * 2 + BitVec.ofInt 8 (nth 0 L (8 * i + 7)))
def ofL (L : List Int) : List B8 := each16 (ofB L)
def dblT (F : List Int → List B8) (B : List Int) : List B8 := F ((B.drop 1).take 127 ++ [0])
def dblX (F : List Int → List B8) (B : List Int) (c : Bool) : List B8 := bif c then (dblT F B).set 15 (nth 0 (dblT F B) 15 ^^^ 135) else dblT F B
def dblR (l : List B8) : List B8 := dblX ofL (bitsN l 16) (decide (nth 0 (((bitsN l 16).drop 0).take 1) 0 = 1))
def shiftR (l : List B8) (n : Int) : List B8 := ofL (((bitsN l 24).drop n.toNat).take 128)
/-- How often two divides, 64 at most. -/
def zerGo : Nat → BitVec 64 → Nat
  | 0, _ => 0
  | f + 1, x => bif decide (((x % 2).toNat : Int) = ((0 : BitVec 64).toNat : Int)) then zerGo f (x / 2) + 1 else 0
def hx (x : BitVec 64) : Nat → BitVec 64
  | 0 => x
  | n + 1 => hx x n / 2
def zt (x : BitVec 64) (i : Nat) : Bool := decide (((hx x i % 2).toNat : Int) = ((0 : BitVec 64).toNat : Int))
def downZ (x : BitVec 64) : Nat → List (Bool × Bool)
  | 0 => []
  | n + 1 => (zt x n, true) :: downZ x n
def obsZ (x : BitVec 64) (k : Nat) : List (Bool × Bool) := bif Nat.blt k 64 then (zt x k, false) :: downZ x k else downZ x k
def orcZ (k : Nat) : List (Option Bool) := List.replicate k (some true) ++ [some false]
theorem hx_succ (x : BitVec 64) : ∀ n, hx x (n + 1) = hx (x / 2) n
  | 0 => rfl
  | n + 1 => by show hx x (n + 1) / 2 = _; rw [hx_succ x n]; rfl
theorem zerGo_spec : ∀ (f : Nat) (x : BitVec 64), zerGo f x ≤ f ∧ (∀ i, i < zerGo f x → zt x i = true) ∧ (zerGo f x < f → zt x (zerGo f x) = false)
  | 0, x => ⟨Nat.le_refl _, fun i h => absurd h (by simp [zerGo]), fun h => absurd h (by simp [zerGo])⟩
  | f + 1, x => by
    cases hc : decide (((x % 2).toNat : Int) = ((0 : BitVec 64).toNat : Int))
    · have e : zerGo (f + 1) x = 0 := by simp only [zerGo, hc, cond_false]
      rw [e]
      exact ⟨by omega, fun i h => by omega, fun _ => hc⟩
    · have e : zerGo (f + 1) x = zerGo f (x / 2) + 1 := by simp only [zerGo, hc, cond_true]
      obtain ⟨h1, h2, h3⟩ := zerGo_spec f (x / 2)
      have sh : ∀ i, zt x (i + 1) = zt (x / 2) i := fun i => by unfold zt; rw [hx_succ]
      rw [e]
      refine ⟨by omega, ?_, ?_⟩
      · intro i h
        cases i with
        | zero => exact hc
        | succ i => rw [sh]; exact h2 i (by omega)
      · intro h; rw [sh]; exact h3 (by omega)
theorem downZ_ok (x : BitVec 64) : ∀ n, (∀ i, i < n → zt x i = true) → ∀ q ∈ downZ x n, q.1 = q.2
  | 0, _ => by intro q hq; cases hq
  | n + 1, h => by
    intro q hq
    simp only [downZ, List.mem_cons] at hq
    rcases hq with rfl | hq
    · exact h n (by omega)
    · exact downZ_ok x n (fun i hi => h i (by omega)) q hq
theorem obsZ_ok (x : BitVec 64) : ∀ q ∈ obsZ x (zerGo 64 x), q.1 = q.2 := by
  obtain ⟨h1, h2, h3⟩ := zerGo_spec 64 x
  unfold obsZ
  cases hb : Nat.blt (zerGo 64 x) 64 <;> simp only [cond_true, cond_false]
  · exact downZ_ok x _ h2
  · intro q hq
    simp only [List.mem_cons] at hq
    rcases hq with rfl | hq
    · exact h3 (Nat.le_of_ble_eq_true hb)
    · exact downZ_ok x _ h2 q hq
def zerR (x : BitVec 64) : Int := (zerGo 64 x : Nat)
/-- The reference's blocks by number. -/
def refAt (D : List B8 → List B8) (s : List B8) (n : Int) : List B8 := itD D s (n + 2).toNat
def tabAt (a : Bool × Bool) : List (Bool × Bool) := [a]
end
end Go.Mo


namespace Go.Mo
open Go
noncomputable section
def shB (l : List B8) (n i : Nat) : B8 :=
  bif Nat.beq (n % 8) 0 then nth 0 l (i + n / 8) <<< (n % 8) else (nth 0 l (i + n / 8) <<< (n % 8)) ||| (nth 0 l (i + n / 8 + 1) >>> (8 - n % 8))
def shF (l : List B8) (n : Int) : List B8 := each16 (shB l n.toNat)
def wholeL (n : List B8) : List B8 := [0, 0, 0, 1, nth 0 n 0, nth 0 n 1, nth 0 n 2, nth 0 n 3, nth 0 n 4, nth 0 n 5, nth 0 n 6, nth 0 n 7, nth 0 n 8, nth 0 n 9, nth 0 n 10, nth 0 n 11]
def topL (n : List B8) : List B8 := [0, 0, 0, 1, nth 0 n 0, nth 0 n 1, nth 0 n 2, nth 0 n 3, nth 0 n 4, nth 0 n 5, nth 0 n 6, nth 0 n 7, nth 0 n 8, nth 0 n 9, nth 0 n 10, nth 0 n 11 &&& ~~~63]
def rtopL (n : List B8) : List B8 := [0, 0, 0, 1, nth 0 n 0, nth 0 n 1, nth 0 n 2, nth 0 n 3, nth 0 n 4, nth 0 n 5, nth 0 n 6, nth 0 n 7, nth 0 n 8, nth 0 n 9, nth 0 n 10, nth 0 n 11 - nth 0 n 11 % 64]
def strL (b : List B8) : List B8 := each16 (fun i => nth 0 b i) ++ [nth 0 b 0 ^^^ nth 0 b 1, nth 0 b 1 ^^^ nth 0 b 2, nth 0 b 2 ^^^ nth 0 b 3, nth 0 b 3 ^^^ nth 0 b 4, nth 0 b 4 ^^^ nth 0 b 5, nth 0 b 5 ^^^ nth 0 b 6, nth 0 b 6 ^^^ nth 0 b 7, nth 0 b 7 ^^^ nth 0 b 8]
def botI (n : List B8) : Int := ((nth 0 n 11 &&& 63).toNat : Int)
def rbotI (n : List B8) : Int := ((nth 0 n 11).toNat : Int).tmod 64
/-- Offsets, one after the other. -/
def offIt (X : List B8 → List B8 → List B8) (f : Nat → List B8) (s : List B8) : Nat → List B8
  | 0 => s
  | m + 1 => X (offIt X f s m) (f m)
def numO (m : Nat) : BitVec 64 := BitVec.ofInt 64 (.ofNat m) + BitVec.ofNat 64 1
def numR (m : Nat) : BitVec 64 := BitVec.ofInt 64 (.ofNat (m + 1))
def posI (i : Int) : Int := if (0 : Int) > i then 0 else i
end
end Go.Mo

