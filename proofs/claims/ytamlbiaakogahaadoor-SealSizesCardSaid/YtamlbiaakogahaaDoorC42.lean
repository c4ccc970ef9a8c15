/- Contracts of functions by the evaluator (C42): mooringref12.Crypt. -/
import Derived.Test.YtamlbiaakogahaaDoorC31
import Derived.Test.YtamlbiaakogahaaDoorC40
namespace Go.Proofs.YtamlbiaakogahaaDoor
open Go Go.Mo
noncomputable section

structure LD where
  RE : List B8 → List B8 → List B8 → List B8
  X : List B8 → List B8 → List B8
  RF : List B8 → BitVec 64 → List B8
  RPAD : Nat → List B8 → List B8
  RST : List B8 → List B8 → List B8 → List B8
noncomputable def E_DZ (δ : LD) : List (Nat × Mo.Spec) := (42, pureSp (sM_Start δ.RST)) :: (57, sR_Enc δ.RE) :: (26, sR_Star δ.RE) :: (28, pureSp (sR_For δ.RF)) ::
  (49, pureSp (sL_2 δ.X)) :: (56, sQ_RPad δ.RPAD) :: (53, sQ_Part) :: []
noncomputable def K_DZ (δ : LD) : Cx := cxOf Tryd.prog (E_DZ δ)
def dD (δ : LD) (e T nc : List B8) : Nat → List B8
  | 0 => δ.RST e T nc
  | j + 1 => δ.X (dD δ e T nc j) (δ.RF (δ.RE e T z16) (BitVec.ofInt 64 ((j + 1 : Nat) : Int)))
def dS (δ : LD) (q : Nat → List B8) : Nat → List B8
  | 0 => z16
  | j + 1 => δ.X (dS δ q j) (q j)
def dB (δ : LD) (e T nc : List B8) (q : Nat → List B8) (j : Nat) : List B8 := δ.X (δ.RE e T (δ.X (q j) (dD δ e T nc (j + 1)))) (dD δ e T nc (j + 1))
def dO (δ : LD) (e T nc : List B8) (q : Nat → List B8) : Nat → List B8
  | 0 => []
  | j + 1 => bif Nat.beq j 0 then dB δ e T nc q j else dO δ e T nc q j ++ dB δ e T nc q j
/-- The rest, byte by byte. -/
def dT (l pad : List B8) (m : Nat) (base : List B8) : Nat → List B8
  | 0 => base
  | k + 1 => bif Nat.beq k 0 && Nat.beq m 0 then [nth 0 l (16 * m + k) ^^^ nth 0 pad k] else dT l pad m base k ++ [nth 0 l (16 * m + k) ^^^ nth 0 pad k]
def dvD (δ : LD) (e T nc : List B8) (n : Nat) : List B8 := bif Nat.beq (n % 16) 0 then dD δ e T nc (n / 16) else δ.X (dD δ e T nc (n / 16)) (δ.RE e T z16)
def dvS (δ : LD) (n : Nat) (l : List B8) : List B8 := bif Nat.beq (n % 16) 0 then dS δ (partR n l) (n / 16) else δ.X (dS δ (partR n l) (n / 16)) (δ.RPAD (n - 16 * (n / 16)) (restB n l))
def dvO (δ : LD) (e T nc : List B8) (n : Nat) (l : List B8) : List B8 := bif Nat.beq (n % 16) 0 then dO δ e T nc (partR n l) (n / 16) else dT l (δ.RE e T (dvD δ e T nc n)) (n / 16) (dO δ e T nc (partR n l) (n / 16)) (n % 16)
def dX (n : Nat) : Nat := bif Nat.beq (n % 16) 0 then 6 + 3 * (n / 16) else 7 + 3 * (n / 16) + 2 * (n % 16)
abbrev DF := List B8 → List B8 → List B8 → Nat → List B8 → List B8
def dvV (SF DFn : DF) (e T nc : List B8) (n : Nat) (l : List B8) : V := .a [.s (bif Nat.beq n 0 then .nilSlice else .osl (dX n) 0 n 1), .b8 16 (SF e T nc n l), .b8 16 (DFn e T nc n l)]
def dvE (n : Nat) : List Nat := bif Nat.beq n 0 then [] else [dX n]
def dvG (OF : DF) (e T nc : List B8) (n : Nat) (l : List B8) : List (List Seg) := bif Nat.beq n 0 then [] else [[.b8 n (OF e T nc n l)]]
def rcO (δ : LD) : DF := fun e T nc n l => dvO δ e T nc n l
def rcS (δ : LD) : DF := fun _ _ _ n l => dvS δ n l
def rcD (δ : LD) : DF := fun e T nc n _ => dvD δ e T nc n
noncomputable def rcEv (δ : LD) (e T nc l : List B8) (n : Nat) := ev2 (K_DZ δ) noInl 60 Tryd.f64 ([.a [.b8 176 e, .b8 256 T], .a [.b8 12 nc]] ++ (argB 0 n :: [])) [memBy n l, none] [] (dvE n) (dvV (rcS δ) (rcD δ) e T nc n l) (dvG (rcO δ) e T nc n l)
def rcSh (δ : LD) (e T nc l : List B8) (n : Nat) : Option (V × List (Bool × Bool) × List (Option Blk)) × Bool := (some (dvV (rcS δ) (rcD δ) e T nc n l, [], newBlks (dvG (rcO δ) e T nc n l)), true)
end
end Go.Proofs.YtamlbiaakogahaaDoor
