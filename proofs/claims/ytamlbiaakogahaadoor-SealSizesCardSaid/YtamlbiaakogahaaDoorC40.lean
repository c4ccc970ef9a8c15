/- Contracts of functions by the evaluator (C40): seal.Crypt, reckoned. -/
import Derived.Test.YtamlbiaakogahaaDoorC33
import Derived.Test.YtamlbiaakogahaaDoorC22
import Derived.Test.YtamlbiaakogahaaDoorProg
namespace Go.Proofs.YtamlbiaakogahaaDoor
open Go Go.Mo
noncomputable section

structure LC where
  STA : TP → List B8 → List B8
  R : List B32 → List B32 → List B8 → List B8
  X : List B8 → List B8 → List B8
  TZ : BitVec 64 → Int
  PAD : Nat → List B8 → List B8
noncomputable def inlC : Inl := fun n => bif Nat.beq n 86 then some Tryd.f86 else bif Nat.beq n 95 then some Tryd.f95 else none
theorem inlC_ok : InlOk Tryd.prog inlC := by
  intro n fn h
  unfold inlC at h
  cases hq : Nat.beq n 86 <;> simp only [hq, cond_true, cond_false] at h
  · cases hr : Nat.beq n 95 <;> simp only [hr, cond_true, cond_false] at h
    · cases h
    · have := Nat.eq_of_beq_eq_true hr
      subst this
      cases h
      exact ⟨Tryd.func95, by kernel_rfl⟩
  · have := Nat.eq_of_beq_eq_true hq
    subst this
    cases h
    exact ⟨Tryd.func86, by kernel_rfl⟩
noncomputable def E_C (κ : LC) : List (Nat × Mo.Spec) := (41, sN_Start κ.STA) :: (88, sQ_Pad κ.PAD) :: (47, sN_Next κ.X κ.TZ) :: (85, pureSp (sL_2 κ.X)) :: (69, sQ_Enc κ.R) ::
  (34, sp_CipherT) :: (32, sp_StarT) :: (33, sp_DollarT) :: []
noncomputable def K_C (κ : LC) : Cx := cxOf Tryd.prog (E_C κ)
/-- The offset, the sum, the ciphertext after j blocks. -/
def cD (κ : LC) (p : TP) (nc : List B8) : Nat → List B8
  | 0 => κ.STA p nc
  | j + 1 => κ.X (cD κ p nc j) (atL p.bl (κ.TZ (BitVec.ofInt 64 ((j + 1 : Nat) : Int))))
def cS (κ : LC) (q : Nat → List B8) : Nat → List B8
  | 0 => z16
  | j + 1 => κ.X (cS κ q j) (q j)
def cB (κ : LC) (p : TP) (nc : List B8) (q : Nat → List B8) (j : Nat) : List B8 := κ.X (cD κ p nc (j + 1)) (κ.R p.T p.kf (κ.X (q j) (cD κ p nc (j + 1))))
def cO (κ : LC) (p : TP) (nc : List B8) (q : Nat → List B8) : Nat → List B8
  | 0 => []
  | j + 1 => bif Nat.beq j 0 then cB κ p nc q j else cO κ p nc q j ++ cB κ p nc q j
def cOut (j : Nat) : Sc := bif Nat.beq j 0 then .nilSlice else .osl (10 + 3 * j) 0 (16 * j) 1
def cBlk (κ : LC) (p : TP) (nc : List B8) (q : Nat → List B8) (k : Nat) : Nat → List (Option Blk)
  | 0 => []
  | j + 1 => cBlk κ p nc q k j ++ [none, none, bif Nat.beq (j + 1) k then some ⟨[.b8 (16 * (j + 1)) (cO κ p nc q (j + 1))], true⟩ else none]
def M_C (κ : LC) (p : TP) (nc : List B8) (n : Nat) (l : List B8) (j : Nat) : List (Option Blk) :=
  givenO (memT p (memBy n l) none) ++ ([some ⟨[.s (.ptr 0 0)], true⟩, some ⟨[.b8 12 nc], true⟩, some ⟨[.s (cOut j)], true⟩, some ⟨[.b8 16 (cS κ (part16 l) j)], true⟩, some ⟨[.b8 16 (cD κ p nc j)], true⟩,
    some ⟨[.s (.fn 95 [(6, 0)])], true⟩, some ⟨[.s (slB 2 n)], true⟩] ++ cBlk κ p nc (part16 l) j j)
def cDs : Nat → List Nat
  | 0 => []
  | 1 => [11, 12]
  | j + 2 => [10 + 3 * (j + 1), 11 + 3 * (j + 1), 12 + 3 * (j + 1)]
def R_C (κ : LC) (p : TP) (nc : List B8) (n : Nat) (l : List B8) : Rnd := ⟨bif Nat.beq n 0 then [0, 1, 4, 5, 6, 7, 8, 9, 10] else [0, 1, 2, 4, 5, 6, 7, 8, 9, 10], 10, slB 2 n, cDs, fun j => 11 + 3 * j, M_C κ p nc n l⟩
/-- What Crypt hands back. -/
def tailF (κ : LC) (p : TP) (nc : List B8) (n : Nat) (l : List B8) : List B8 := κ.X (κ.PAD (n - 16 * (n / 16)) (restB n l)) (κ.R p.T p.kf (κ.X (cD κ p nc (n / 16)) p.st))
def crO (κ : LC) (p : TP) (nc : List B8) (n : Nat) (l : List B8) : List B8 :=
  bif Nat.beq (n % 16) 0 then cO κ p nc (part16 l) (n / 16) else bif Nat.beq (n / 16) 0 then ((tailF κ p nc n l).drop 0).take (n - 16 * (n / 16)) else cO κ p nc (part16 l) (n / 16) ++ ((tailF κ p nc n l).drop 0).take (n - 16 * (n / 16))
def crS (κ : LC) (_p : TP) (_nc : List B8) (n : Nat) (l : List B8) : List B8 := bif Nat.beq (n % 16) 0 then cS κ (part16 l) (n / 16) else κ.X (cS κ (part16 l) (n / 16)) (κ.PAD (n - 16 * (n / 16)) (restB n l))
def crD (κ : LC) (p : TP) (nc : List B8) (n : Nat) (_l : List B8) : List B8 := bif Nat.beq (n % 16) 0 then cD κ p nc (n / 16) else κ.X (cD κ p nc (n / 16)) p.st
abbrev CF := TP → List B8 → Nat → List B8 → List B8
def crX (n : Nat) : Nat := bif Nat.beq (n % 16) 0 then 10 + 3 * (n / 16) else 14 + 3 * (n / 16)
def crV (CS CD : CF) (p : TP) (nc : List B8) (n : Nat) (l : List B8) : V := .t [(true, [.s (bif Nat.beq n 0 then .nilSlice else .osl (crX n) 0 n 1)]), (false, [.b8 16 (CS p nc n l)]), (false, [.b8 16 (CD p nc n l)])]
def crE (n : Nat) : List Nat := bif Nat.beq n 0 then [] else [crX n]
def crG (CO : CF) (p : TP) (nc : List B8) (n : Nat) (l : List B8) : List (List Seg) := bif Nat.beq n 0 then [] else [[.b8 n (CO p nc n l)]]
noncomputable def crRk (κ : LC) (p : TP) (nc l : List B8) (n : Nat) : Option Rk :=
  reckon (K_C κ) inlC 60 Tryd.f63 3 (.s (.ptr 0 0) :: ([.a [.b8 12 nc]] ++ [argB 2 n])) (memT p (memBy n l) none) [] (crE n) (crV (crS κ) (crD κ) p nc n l) (crG (crO κ) p nc n l) (R_C κ p nc n l) (n / 16) l
def crSh (κ : LC) (p : TP) (nc l : List B8) (n : Nat) : Option Rk := some (should 109 (R_C κ p nc n l) (n / 16) l (crV (crS κ) (crD κ) p nc n l) [] (crG (crO κ) p nc n l))
end
end Go.Proofs.YtamlbiaakogahaaDoor
