/- Plain functions: bytes, words, AES as the program makes it. No program in sight. -/
import Derived.Test.YtamlbiaakogahaaDoorMo1

namespace Go.Mo
open Go
noncomputable section
abbrev B8 := BitVec 8
abbrev B32 := BitVec 32

def sboxL : List B8 := [99, 124, 119, 123, 242, 107, 111, 197, 48, 1, 103, 43, 254, 215, 171, 118, 202, 130, 201, 125, 250, 89, 71, 240, 173, 212, 162, 175, 156, 164, 114, 192, 183, 253, 147, 38, 54, 63, 247, 204, 52, 165, 229, 241, 113, 216, 49, 21, 4, 199, 35, 195, 24, 150, 5, 154, 7, 18, 128, 226, 235, 39, 178, 117, 9, 131, 44, 26, 27, 110, 90, 160, 82, 59, 214, 179, 41, 227, 47, 132, 83, 209, 0, 237, 32, 252, 177, 91, 106, 203, 190, 57, 74, 76, 88, 207, 208, 239, 170, 251, 67, 77, 51, 133, 69, 249, 2, 127, 80, 60, 159, 168, 81, 163, 64, 143, 146, 157, 56, 245, 188, 182, 218, 33, 16, 255, 243, 210, 205, 12, 19, 236, 95, 151, 68, 23, 196, 167, 126, 61, 100, 93, 25, 115, 96, 129, 79, 220, 34, 42, 144, 136, 70, 238, 184, 20, 222, 94, 11, 219, 224, 50, 58, 10, 73, 6, 36, 92, 194, 211, 172, 98, 145, 149, 228, 121, 231, 200, 55, 109, 141, 213, 78, 169, 108, 86, 244, 234, 101, 122, 174, 8, 186, 120, 37, 46, 28, 166, 180, 198, 232, 221, 116, 31, 75, 189, 139, 138, 112, 62, 181, 102, 72, 3, 246, 14, 97, 53, 87, 185, 134, 193, 29, 158, 225, 248, 152, 17, 105, 217, 142, 148, 155, 30, 135, 233, 206, 85, 40, 223, 140, 161, 137, 13, 191, 230, 66, 104, 65, 153, 45, 15, 176, 84, 187, 22]
def sb (x : B8) : B8 := nth 0 sboxL x.toNat
def dbl (a : B8) : B8 := bif Nat.ble 128 a.toNat then (a <<< 1) ^^^ 27 else a <<< 1
def mulGo : Nat → B8 → B8 → B8 → B8
  | 0, _, _, out => out
  | n + 1, a, b, out => bif Nat.beq b.toNat 0 then out else mulGo n (dbl a) (b >>> 1) (bif Nat.beq (b.toNat % 2) 1 then out ^^^ a else out)
def mul (a b : B8) : B8 := mulGo 8 a b 0
def backGo : Nat → List B8 → B8 → B8
  | _, [], _ => 0
  | i, c :: r, b => bif Nat.beq c.toNat b.toNat then BitVec.ofNat 8 i else backGo (i + 1) r b
def back (b : B8) : B8 := backGo 0 sboxL b
def col (a b c d : B8) : B32 := (((a.setWidth 32 <<< 24) ||| (b.setWidth 32 <<< 16)) ||| (c.setWidth 32 <<< 8)) ||| d.setWidth 32
def col4 (l : List B8) (i : Nat) : B32 := col (nth 0 l i) (nth 0 l (i + 1)) (nth 0 l (i + 2)) (nth 0 l (i + 3))
def wordsL (l : List B8) : List B32 := [col4 l 0, col4 l 4, col4 l 8, col4 l 12]
def wb (w : B32) (k : Nat) : B8 := (w >>> k).setWidth 8
def wb4 (w : B32) : List B8 := [wb w 24, wb w 16, wb w 8, wb w 0]
def storeL (l : List B32) : List B8 := wb4 (nth 0 l 0) ++ (wb4 (nth 0 l 1) ++ (wb4 (nth 0 l 2) ++ wb4 (nth 0 l 3)))
def rcL : List B8 := [1, 2, 4, 8, 16, 32, 64, 128, 27, 54]
def sbw (w : B32) (k : Nat) : B32 := (sb (wb w k)).setWidth 32
def subW (w : B32) : B32 := (((((0 : B32) <<< 8 ||| sbw w 24) <<< 8) ||| sbw w 16) <<< 8 ||| sbw w 8) <<< 8 ||| sbw w 0
def rotL (w : B32) : B32 := w <<< 8 ||| w >>> 24
def turned (w : B32) (r : Nat) : B32 := subW (rotL w) ^^^ ((nth 0 rcL r).setWidth 32 <<< 24)
def fwd4 (a b c d t : B32) : List B32 := [a ^^^ t, b ^^^ (a ^^^ t), c ^^^ (b ^^^ (a ^^^ t)), d ^^^ (c ^^^ (b ^^^ (a ^^^ t)))]
def forwardL (r : Nat) (l : List B32) : List B32 := fwd4 (nth 0 l 0) (nth 0 l 1) (nth 0 l 2) (nth 0 l 3) (turned (nth 0 l 3) r)
def nextL (r : Nat) (l : List B8) : List B8 := storeL (forwardL r (wordsL l))
def roundL : Nat → List B8 → List B8
  | 0, k => k
  | n + 1, k => nextL n (roundL n k)
def expandL (k : List B8) : List B8 :=
  roundL 0 k ++ (roundL 1 k ++ (roundL 2 k ++ (roundL 3 k ++ (roundL 4 k ++ (roundL 5 k ++ (roundL 6 k ++ (roundL 7 k ++ (roundL 8 k ++ (roundL 9 k ++ roundL 10 k)))))))))

/-! ### All bytes at once -/

def tabL {α : Type} (f : Nat → α) (n : Nat) : List α := Nat.rec (motive := fun _ => List α) [] (fun k l => f k :: l) n
def tabR {α : Type} (f : Nat → α) (n : Nat) : List α := Nat.rec (motive := fun _ => List α) [] (fun k l => f k :: l) n

theorem tab_all {α : Type} {f g : Nat → α} : ∀ {N : Nat}, tabL f N = tabR g N → ∀ n, n < N → f n = g n
  | 0, _, n, h => by omega
  | N + 1, e, n, h => by
    have e' : f N :: tabL f N = g N :: tabR g N := e
    injection e' with e1 e2
    rcases Nat.lt_or_ge n N with h1 | h1
    · exact tab_all e2 n h1
    · have : n = N := by omega
      subst this; exact e1

theorem byte_all {α : Type} {f g : B8 → α} (e : tabL (fun n => f (BitVec.ofNat 8 n)) 256 = tabR (fun n => g (BitVec.ofNat 8 n)) 256) (a : B8) : f a = g a := by
  have := tab_all e a.toNat a.isLt
  simpa using this
end
end Go.Mo


namespace Go.Mo
open Go
noncomputable section
def subL (l : List B8) (o n : Nat) : List B8 := (l.drop o).take n
def dotL (x y : List B8) : B8 :=
  (((0 ^^^ mul (nth 0 x 0) (nth 0 y 0)) ^^^ mul (nth 0 x 1) (nth 0 y 1)) ^^^ mul (nth 0 x 2) (nth 0 y 2)) ^^^ mul (nth 0 x 3) (nth 0 y 3)
def turnRow (row : List B8) (k : Nat) : List B8 := [nth 0 row ((4 - k) % 4), nth 0 row ((5 - k) % 4), nth 0 row ((6 - k) % 4), nth 0 row ((7 - k) % 4)]
def colDot (row l : List B8) (i : Nat) : B8 := dotL (turnRow row (i % 4)) (subL l (i / 4 * 4) 4)
def each16 (f : Nat → B8) : List B8 := [f 0, f 1, f 2, f 3, f 4, f 5, f 6, f 7, f 8, f 9, f 10, f 11, f 12, f 13, f 14, f 15]
def columnsL (row l : List B8) : List B8 := each16 (colDot row l)
def unmixL (l : List B8) : List B8 := columnsL [14, 11, 13, 9] l
def fwdE (s : B8) : B32 := col (mul s 2) s s (mul s 3)
def bckE (t : B8) : B32 := col (mul t 14) (mul t 9) (mul t 13) (mul t 11)
def upL {α : Type} (f : Nat → α) : Nat → Nat → List α
  | 0, _ => []
  | n + 1, i => f i :: upL f n (i + 1)
def fwdT : List B32 := upL (fun n => fwdE (sb (BitVec.ofNat 8 n))) 256 0
def bckT : List B32 := upL (fun n => bckE (back (BitVec.ofNat 8 n))) 256 0
end
end Go.Mo


namespace Go.Mo
open Go
noncomputable section
def cat11 {α : Type} (f : Nat → List α) : List α := f 0 ++ (f 1 ++ (f 2 ++ (f 3 ++ (f 4 ++ (f 5 ++ (f 6 ++ (f 7 ++ (f 8 ++ (f 9 ++ f 10)))))))))
/-- The round key r out of all. -/
def rk (e : List B8) (r : Nat) : List B8 := (e.drop (r * 16)).take 16
def keysF (e : List B8) : List B32 := cat11 fun r => wordsL (rk e r)
def backK (U : List B8 → List B8) (e : List B8) (r : Nat) : List B8 := bif Nat.blt 0 r && Nat.blt r 10 then U (rk e r) else rk e r
def keysB (U : List B8 → List B8) (e : List B8) : List B32 := cat11 fun r => wordsL (backK U e (10 - r))
theorem upL_length {α : Type} (f : Nat → α) : ∀ n i, (upL f n i).length = n
  | 0, _ => rfl
  | n + 1, i => by simp only [upL, List.length_cons, upL_length f n (i + 1)]
theorem fwdT_length : fwdT.length = 256 := upL_length _ _ _
theorem bckT_length : bckT.length = 256 := upL_length _ _ _
def tab2 : List B32 := fwdT ++ bckT
def cipE (E U : List B8 → List B8) (T : List B32) (k : List B8) : List Seg := [.s (.bool true), .b32 44 (keysF (E k)), .b32 44 (keysB U (E k)), .b8 16 k, .b32 512 T]
def cipherSegs (k : List B8) : List Seg := cipE expandL unmixL tab2 k
def rot8 (w : B32) (n : Nat) : B32 := w >>> (8 * n) ||| w <<< ((32 - 8 * n) % 32)
def pickB (s : List B32) (c r step : Nat) : B8 := wb (nth 0 s ((c + r * step) % 4)) (24 - 8 * r)
def cellR (base step : Nat) (T ks : List B32) (rnd : Nat) (s : List B32) (c : Nat) : B32 :=
  (((nth 0 ks (rnd * 4 + c) ^^^ nth 0 T (pixAt base (pickB s c 0 step))) ^^^ rot8 (nth 0 T (pixAt base (pickB s c 1 step))) 1) ^^^ rot8 (nth 0 T (pixAt base (pickB s c 2 step))) 2)
    ^^^ rot8 (nth 0 T (pixAt base (pickB s c 3 step))) 3
def roundF (base step : Nat) (T ks : List B32) (rnd : Nat) (s : List B32) : List B32 :=
  [cellR base step T ks rnd s 0, cellR base step T ks rnd s 1, cellR base step T ks rnd s 2, cellR base step T ks rnd s 3]
def addW (ks : List B32) (s : List B32) : List B32 := [nth 0 s 0 ^^^ nth 0 ks 0, nth 0 s 1 ^^^ nth 0 ks 1, nth 0 s 2 ^^^ nth 0 ks 2, nth 0 s 3 ^^^ nth 0 ks 3]
def roundsF (base step : Nat) (T ks : List B32) (b : List B8) : Nat → List B32
  | 0 => addW ks (wordsL b)
  | n + 1 => roundF base step T ks (n + 1) (roundsF base step T ks b n)
def lastB (step : Nat) (S : B8 → B8) (ks s : List B32) (i : Nat) : B8 := S (pickB s (i / 4) (i % 4) step) ^^^ wb (nth 0 ks (40 + i / 4)) (24 - 8 * (i % 4))
def runF (base step : Nat) (S : B8 → B8) (T ks : List B32) (b : List B8) : List B8 := each16 (lastB step S ks (roundsF base step T ks b 9))
def encF (k b : List B8) : List B8 := runF 0 1 sb tab2 (keysF (expandL k)) b
def decF (k b : List B8) : List B8 := runF 256 3 back tab2 (keysB unmixL (expandL k)) b
end
end Go.Mo


namespace Go.Mo
open Go
noncomputable section
def z16 : List B8 := List.replicate 16 0
def redB (x : B8) : B8 := BitVec.ofInt 8 ((IntKind.i8.wrap (x.toNat : Int)).fdiv ((2 ^ Nat.min 7 8 : Nat) : Int)) &&& 135
def dblB (l : List B8) (i : Nat) : B8 := bif Nat.blt i 15 then (nth 0 l i <<< 1) ||| (nth 0 l (i + 1) >>> 7) else (nth 0 l 15 <<< 1) ^^^ redB (nth 0 l 0)
def dblL (l : List B8) : List B8 := each16 (dblB l)
def xorL (a b : List B8) : List B8 := each16 fun i => nth 0 a i ^^^ nth 0 b i
def itD (D : List B8 → List B8) (s : List B8) : Nat → List B8
  | 0 => s
  | n + 1 => D (itD D s n)
/-- The blocks of a table, as they are laid one by one: block i is the double i + 2 of the star. -/
def splD (D : List B8 → List B8) (s : List B8) : Nat → List B8
  | 0 => List.replicate 1024 0
  | n + 1 => spliceN (splD D s n) (n * 16) 16 (itD D s (n + 2))
def tabE (D : List B8 → List B8) (c : Sc) (s : List B8) : List Seg := [.s c, .b8 16 s, .b8 16 (D s), .b8 1024 (splD D s 64)]
def tableSegs (c : Sc) (s : List B8) : List Seg := tabE dblL c s
def atL (bl : List B8) (n : Int) : List B8 := match n with
  | .ofNat i => bif Nat.blt i 64 then subL bl (i * 16) 16 else z16
  | .negSucc _ => z16
end
end Go.Mo

