/- Plain functions: bytes, words, AES as the program makes it. No program in sight. -/
import Derived.Test.YtamlbiaakogahaaDoorMo7


namespace Go.Mo
open Go
noncomputable section
abbrev B8 := BitVec 8
abbrev B32 := BitVec 32

def sboxL : List B8 := [99, 124, 119, 123, 242, 107, 111, 197, 48, 1, 103, 43, 254, 215, 171, 118, 202, 130, 201, 125, 250, 89, 71, 240, 173, 212, 162, 175, 156, 164, 114, 192, 183, 253, 147, 38, 54, 63, 247, 204, 52, 165, 229, 241, 113, 216, 49, 21, 4, 199, 35, 195, 24, 150, 5, 154, 7, 18, 128, 226, 235, 39, 178, 117, 9, 131, 44, 26, 27, 110, 90, 160, 82, 59, 214, 179, 41, 227, 47, 132, 83, 209, 0, 237, 32, 252, 177, 91, 106, 203, 190, 57, 74, 76, 88, 207, 208, 239, 170, 251, 67, 77, 51, 133, 69, 249, 2, 127, 80, 60, 159, 168, 81, 163, 64, 143, 146, 157, 56, 245, 188, 182, 218, 33, 16, 255, 243, 210, 205, 12, 19, 236, 95, 151, 68, 23, 196, 167, 126, 61, 100, 93, 25, 115, 96, 129, 79, 220, 34, 42, 144, 136, 70, 238, 184, 20, 222, 94, 11, 219, 224, 50, 58, 10, 73, 6, 36, 92, 194, 211, 172, 98, 145, 149, 228, 121, 231, 200, 55, 109, 141, 213, 78, 169, 108, 86, 244, 234, 101, 122, 174, 8, 186, 120, 37, 46, 28, 166, 180, 198, 232, 221, 116, 31, 75, 189, 139, 138, 112, 62, 181, 102, 72, 3, 246, 14, 97, 53, 87, 185, 134, 193, 29, 158, 225, 248, 152, 17, 105, 217, 142, 148, 155, 30, 135, 233, 206, 85, 40, 223, 140, 161, 137, 13, 191, 230, 66, 104, 65, 153, 45, 15, 176, 84, 187, 22]
def sb (x : B8) : B8 := nth 0 sboxL x.toNat
def dbl (a : B8) : B8 := bif Nat.ble 128 a.toNat then (a <<< 1) ^^^ 27 else a <<< 1
def mulGo : Nat → B8 → B8 → B8 → B8
  | 0, _, _, out => out
  | n + 1, a, b, out => bif Nat.beq b.toNat 0 then out else mulGo n (dbl a) (b >>> 1) (bif Nat.beq (b.toNat % 2) 1 then out ^^^ a else out)
def mul (a b : B8) : B8 := mulGo 8 a b 0
def backGo : Nat → List B8 → B8 → B8
  | _, [], _ => 0
  | i, c :: r, b => bif Nat.beq c.toNat b.toNat then BitVec.ofNat 8 i else backGo (i + 1) r b
def back (b : B8) : B8 := backGo 0 sboxL b
def col (a b c d : B8) : B32 := (((a.setWidth 32 <<< 24) ||| (b.setWidth 32 <<< 16)) ||| (c.setWidth 32 <<< 8)) ||| d.setWidth 32
def col4 (l : List B8) (i : Nat) : B32 := col (nth 0 l i) (nth 0 l (i + 1)) (nth 0 l (i + 2)) (nth 0 l (i + 3))
def wordsL (l : List B8) : List B32 := [col4 l 0, col4 l 4, col4 l 8, col4 l 12]
def wb (w : B32) (k : Nat) : B8 := (w >>> k).setWidth 8
def wb4 (w : B32) : List B8 := [wb w 24, wb w 16, wb w 8, wb w 0]
def storeL (l : List B32) : List B8 := wb4 (nth 0 l 0) ++ (wb4 (nth 0 l 1) ++ (wb4 (nth 0 l 2) ++ wb4 (nth 0 l 3)))
def rcL : List B8 := [1, 2, 4, 8, 16, 32, 64, 128, 27, 54]
def sbw (w : B32) (k : Nat) : B32 := (sb (wb w k)).setWidth 32
def subW (w : B32) : B32 := (((((0 : B32) <<< 8 ||| sbw w 24) <<< 8) ||| sbw w 16) <<< 8 ||| sbw w 8) <<< 8 ||| sbw w 0
def rotL (w : B32) : B32 := w <<< 8 ||| w >>> 24
def turned (w : B32) (r : Nat) : B32 := subW (rotL w) ^^^ ((nth 0 rcL r).setWidth 32 <<< 24)
def fwd4 (a b c d t : B32) : List B32 := [a ^^^ t, b ^^^ (a ^^^ t), c ^^^ (b ^^^ (a ^^^ t)), d ^^^ (c ^^^ (b ^^^ (a ^^^ t)))]
def forwardL (r : Nat) (l : List B32) : List B32 := fwd4 (nth 0 l 0) (nth 0 l 1) (nth 0 l 2) (nth 0 l 3) (turned (nth 0 l 3) r)
def nextL (r : Nat) (l : List B8) : List B8 := storeL (forwardL r (wordsL l))
def roundL : Nat → List B8 → List B8
  | 0, k => k
  | n + 1, k => nextL n (roundL n k)
def expandL (k : List B8) : List B8 :=
  roundL 0 k ++ (roundL 1 k ++ (roundL 2 k ++ (roundL 3 k ++ (roundL 4 k ++ (roundL 5 k ++ (roundL 6 k ++ (roundL 7 k ++ (roundL 8 k ++ (roundL 9 k ++ roundL 10 k)))))))))

/-! ### All bytes at once -/

def tabL {α : Type} (f : Nat → α) (n : Nat) : List α := Nat.rec (motive := fun _ => List α) [] (fun k l => f k :: l) n
def tabR {α : Type} (f : Nat → α) (n : Nat) : List α := Nat.rec (motive := fun _ => List α) [] (fun k l => f k :: l) n

theorem tab_all {α : Type} {f g : Nat → α} : ∀ {N : Nat}, tabL f N = tabR g N → ∀ n, n < N → f n = g n
  | 0, _, n, h => by omega
  | N + 1, e, n, h => by
    have e' : f N :: tabL f N = g N :: tabR g N := e
    injection e' with e1 e2
    rcases Nat.lt_or_ge n N with h1 | h1
    · exact tab_all e2 n h1
    · have : n = N := by omega
      subst this; exact e1

theorem byte_all {α : Type} {f g : B8 → α} (e : tabL (fun n => f (BitVec.ofNat 8 n)) 256 = tabR (fun n => g (BitVec.ofNat 8 n)) 256) (a : B8) : f a = g a := by
  have := tab_all e a.toNat a.isLt
  simpa using this
end
end Go.Mo


namespace Go.Mo
open Go
noncomputable section
def subL (l : List B8) (o n : Nat) : List B8 := (l.drop o).take n
def dotL (x y : List B8) : B8 :=
  (((0 ^^^ mul (nth 0 x 0) (nth 0 y 0)) ^^^ mul (nth 0 x 1) (nth 0 y 1)) ^^^ mul (nth 0 x 2) (nth 0 y 2)) ^^^ mul (nth 0 x 3) (nth 0 y 3)
def turnRow (row : List B8) (k : Nat) : List B8 := [nth 0 row ((4 - k) % 4), nth 0 row ((5 - k) % 4), nth 0 row ((6 - k) % 4), nth 0 row ((7 - k) % 4)]
def colDot (row l : List B8) (i : Nat) : B8 := dotL (turnRow row (i % 4)) (subL l (i / 4 * 4) 4)
def each16 (f : Nat → B8) : List B8 := [f 0, f 1, f 2, f 3, f 4, f 5, f 6, f 7, f 8, f 9, f 10, f 11, f 12, f 13, f 14, f 15]
def columnsL (row l : List B8) : List B8 := each16 (colDot row l)
def unmixL (l : List B8) : List B8 := columnsL [14, 11, 13, 9] l
def fwdE (s : B8) : B32 := col (mul s 2) s s (mul s 3)
def bckE (t : B8) : B32 := col (mul t 14) (mul t 9) (mul t 13) (mul t 11)
def upL {α : Type} (f : Nat → α) : Nat → Nat → List α
  | 0, _ => []
  | n + 1, i => f i :: upL f n (i + 1)
def fwdT : List B32 := upL (fun n => fwdE (sb (BitVec.ofNat 8 n))) 256 0
def bckT : List B32 := upL (fun n => bckE (back (BitVec.ofNat 8 n))) 256 0
end
end Go.Mo


namespace Go.Mo
open Go
noncomputable section
def cat11 {α : Type} (f : Nat → List α) : List α := f 0 ++ (f 1 ++ (f 2 ++ (f 3 ++ (f 4 ++ (f 5 ++ (f 6 ++ (f 7 ++ (f 8 ++ (f 9 ++ f 10)))))))))
/-- The round key r out of all. -/
def rk (e : List B8) (r : Nat) : List B8 := (e.drop (r * 16)).take 16
def keysF (e : List B8) : List B32 := cat11 fun r => wordsL (rk e r)
def backK (U : List B8 → List B8) (e : List B8) (r : Nat) : List B8 := bif Nat.blt 0 r && Nat.blt r 10 then U (rk e r) else rk e r
def keysB (U : List B8 → List B8) (e : List B8) : List B32 := cat11 fun r => wordsL (backK U e (10 - r))
theorem upL_length {α : Type} (f : Nat → α) : ∀ n i, (upL f n i).length = n
  | 0, _ => rfl
  | n + 1, i => by simp only [upL, List.length_cons, upL_length f n (i + 1)]
theorem fwdT_length : fwdT.length = 256 := upL_length _ _ _
theorem bckT_length : bckT.length = 256 := upL_length _ _ _
def tab2 : List B32 := fwdT ++ bckT
def cipE (E U : List B8 → List B8) (T : List B32) (k : List B8) : List Seg := [.s (.bool true), .b32 44 (keysF (E k)), .b32 44 (keysB U (E k)), .b8 16 k, .b32 512 T]
def cipherSegs (k : List B8) : List Seg := cipE expandL unmixL tab2 k
def rot8 (w : B32) (n : Nat) : B32 := w >>> (8 * n) ||| w <<< ((32 - 8 * n) % 32)
def pickB (s : List B32) (c r step : Nat) : B8 := wb (nth 0 s ((c + r * step) % 4)) (24 - 8 * r)
def cellR (base step : Nat) (T ks : List B32) (rnd : Nat) (s : List B32) (c : Nat) : B32 :=
  (((nth 0 ks (rnd * 4 + c) ^^^ nth 0 T (pixAt base (pickB s c 0 step))) ^^^ rot8 (nth 0 T (pixAt base (pickB s c 1 step))) 1) ^^^ rot8 (nth 0 T (pixAt base (pickB s c 2 step))) 2)
    ^^^ rot8 (nth 0 T (pixAt base (pickB s c 3 step))) 3
def roundF (base step : Nat) (T ks : List B32) (rnd : Nat) (s : List B32) : List B32 :=
  [cellR base step T ks rnd s 0, cellR base step T ks rnd s 1, cellR base step T ks rnd s 2, cellR base step T ks rnd s 3]
def addW (ks : List B32) (s : List B32) : List B32 := [nth 0 s 0 ^^^ nth 0 ks 0, nth 0 s 1 ^^^ nth 0 ks 1, nth 0 s 2 ^^^ nth 0 ks 2, nth 0 s 3 ^^^ nth 0 ks 3]
def roundsF (base step : Nat) (T ks : List B32) (b : List B8) : Nat → List B32
  | 0 => addW ks (wordsL b)
  | n + 1 => roundF base step T ks (n + 1) (roundsF base step T ks b n)
def lastB (step : Nat) (S : B8 → B8) (ks s : List B32) (i : Nat) : B8 := S (pickB s (i / 4) (i % 4) step) ^^^ wb (nth 0 ks (40 + i / 4)) (24 - 8 * (i % 4))
def runF (base step : Nat) (S : B8 → B8) (T ks : List B32) (b : List B8) : List B8 := each16 (lastB step S ks (roundsF base step T ks b 9))
def encF (k b : List B8) : List B8 := runF 0 1 sb tab2 (keysF (expandL k)) b
def decF (k b : List B8) : List B8 := runF 256 3 back tab2 (keysB unmixL (expandL k)) b
end
end Go.Mo


namespace Go.Mo
open Go
noncomputable section
def z16 : List B8 := List.replicate 16 0
def redB (x : B8) : B8 := BitVec.ofInt 8 ((IntKind.i8.wrap (x.toNat : Int)).fdiv ((2 ^ Nat.min 7 8 : Nat) : Int)) &&& 135
def dblB (l : List B8) (i : Nat) : B8 := bif Nat.blt i 15 then (nth 0 l i <<< 1) ||| (nth 0 l (i + 1) >>> 7) else (nth 0 l 15 <<< 1) ^^^ redB (nth 0 l 0)
def dblL (l : List B8) : List B8 := each16 (dblB l)
def xorL (a b : List B8) : List B8 := each16 fun i => nth 0 a i ^^^ nth 0 b i
def itD (D : List B8 → List B8) (s : List B8) : Nat → List B8
  | 0 => s
  | n + 1 => D (itD D s n)
/-- The blocks of a table, as they are laid one by one: block i is the double i + 2 of the star. -/
def splD (D : List B8 → List B8) (s : List B8) : Nat → List B8
  | 0 => List.replicate 1024 0
  | n + 1 => spliceN (splD D s n) (n * 16) 16 (itD D s (n + 2))
def tabE (D : List B8 → List B8) (c : Sc) (s : List B8) : List Seg := [.s c, .b8 16 s, .b8 16 (D s), .b8 1024 (splD D s 64)]
def tableSegs (c : Sc) (s : List B8) : List Seg := tabE dblL c s
def atL (bl : List B8) (n : Int) : List B8 := match n with
  | .ofNat i => bif Nat.blt i 64 then subL bl (i * 16) 16 else z16
  | .negSucc _ => z16
end
end Go.Mo




namespace Go.Mo
open Go
noncomputable section
def bitI (x : B8) (k : Nat) : Int := ((x >>> k).toNat : Int).tmod 2
def addm (P : List Int) (i k : Nat) (a b : B8) : List Int := P.set (i + k) (IntKind.i64.wrap (nth 0 P (i + k) + IntKind.i64.wrap (bitI a i * bitI b k)))
def addm8 (P : List Int) (j : Nat) (a b : B8) : List Int := addm (addm (addm (addm (addm (addm (addm (addm (P) j 0 a b) j 1 a b) j 2 a b) j 3 a b) j 4 a b) j 5 a b) j 6 a b) j 7 a b
def p1 (a b : B8) : Nat → List Int
  | 0 => List.replicate 15 0
  | j + 1 => addm8 (p1 a b j) j a b
def inc (P : List Int) (n : Nat) : List Int := P.set n (IntKind.i64.wrap (nth 0 P n + 1))
def inc4 (P : List Int) (i : Nat) : List Int := inc (inc (inc (inc P (i - 4)) (i - 5)) (i - 7)) (i - 8)
def oddB (P : List Int) (i : Nat) : Bool := decide ((nth 0 P i).tmod 2 = 1)
def red1 (P : List Int) (i : Nat) (c : Bool) : List Int := bif c then inc4 P i else P
def bitB (n j : Nat) : Bool := Nat.beq (n / 2 ^ j % 2) 1
/-- The rows as the answers say. -/
def redN (P : List Int) (n : Nat) : Nat → List Int
  | 0 => P
  | j + 1 => red1 (redN P n j) (14 - j) (bitB n j)
def obsN (P : List Int) (n : Nat) : Nat → List (Bool × Bool)
  | 0 => []
  | j + 1 => (oddB (redN P n j) (14 - j), bitB n j) :: obsN P n j
def orcN (n : Nat) : List (Option Bool) := [some (bitB n 0), some (bitB n 1), some (bitB n 2), some (bitB n 3), some (bitB n 4), some (bitB n 5), some (bitB n 6)]
def redP (P : List Int) : Nat → List Int
  | 0 => P
  | j + 1 => red1 (redP P j) (14 - j) (oddB (redP P j) (14 - j))
def addx (x : Int) (P : List Int) (i : Nat) : Int := IntKind.i64.wrap (x + IntKind.i64.wrap ((nth 0 P i).tmod 2 * ((2 ^ Nat.min i 64 : Nat) : Int)))
def finM (P : List Int) : B8 := BitVec.ofInt 8 (addx (addx (addx (addx (addx (addx (addx (addx 0 P 0) P 1) P 2) P 3) P 4) P 5) P 6) P 7)
def mulR (a b : B8) : B8 := finM (redP (p1 a b 8) 7)

theorem bits7 : ∀ c0 c1 c2 c3 c4 c5 c6 : Bool, ∃ n, n < 128 ∧ bitB n 0 = c0 ∧ bitB n 1 = c1 ∧ bitB n 2 = c2 ∧ bitB n 3 = c3 ∧ bitB n 4 = c4 ∧ bitB n 5 = c5 ∧ bitB n 6 = c6 := by
  intro c0 c1 c2 c3 c4 c5 c6
  refine ⟨c0.toNat + 2 * c1.toNat + 4 * c2.toNat + 8 * c3.toNat + 16 * c4.toNat + 32 * c5.toNat + 64 * c6.toNat, ?_, ?_⟩
  · cases c0 <;> cases c1 <;> cases c2 <;> cases c3 <;> cases c4 <;> cases c5 <;> cases c6 <;> decide
  · cases c0 <;> cases c1 <;> cases c2 <;> cases c3 <;> cases c4 <;> cases c5 <;> cases c6 <;> decide

/-- The answers that are true of a row. -/
theorem redN_true (P : List Int) : ∃ n, n < 128 ∧ redN P n 7 = redP P 7 ∧ ∀ q ∈ obsN P n 7, q.1 = q.2 := by
  obtain ⟨n, h, h0, h1, h2, h3, h4, h5, h6⟩ := bits7 (oddB (redP P 0) 14) (oddB (redP P 1) 13) (oddB (redP P 2) 12) (oddB (redP P 3) 11) (oddB (redP P 4) 10) (oddB (redP P 5) 9) (oddB (redP P 6) 8)
  have e0 : redN P n 0 = redP P 0 := rfl
  have e1 : redN P n 1 = redP P 1 := by show red1 (redN P n 0) 14 (bitB n 0) = red1 (redP P 0) 14 _; rw [e0, h0]
  have e2 : redN P n 2 = redP P 2 := by show red1 (redN P n 1) 13 (bitB n 1) = red1 (redP P 1) 13 _; rw [e1, h1]
  have e3 : redN P n 3 = redP P 3 := by show red1 (redN P n 2) 12 (bitB n 2) = red1 (redP P 2) 12 _; rw [e2, h2]
  have e4 : redN P n 4 = redP P 4 := by show red1 (redN P n 3) 11 (bitB n 3) = red1 (redP P 3) 11 _; rw [e3, h3]
  have e5 : redN P n 5 = redP P 5 := by show red1 (redN P n 4) 10 (bitB n 4) = red1 (redP P 4) 10 _; rw [e4, h4]
  have e6 : redN P n 6 = redP P 6 := by show red1 (redN P n 5) 9 (bitB n 5) = red1 (redP P 5) 9 _; rw [e5, h5]
  have e7 : redN P n 7 = redP P 7 := by show red1 (redN P n 6) 8 (bitB n 6) = red1 (redP P 6) 8 _; rw [e6, h6]
  refine ⟨n, h, e7, ?_⟩
  intro q hq
  have hs : obsN P n 7 = [(oddB (redN P n 6) 8, bitB n 6), (oddB (redN P n 5) 9, bitB n 5), (oddB (redN P n 4) 10, bitB n 4), (oddB (redN P n 3) 11, bitB n 3), (oddB (redN P n 2) 12, bitB n 2), (oddB (redN P n 1) 13, bitB n 1), (oddB (redN P n 0) 14, bitB n 0)] := rfl
  rw [hs, e0, e1, e2, e3, e4, e5, e6, h0, h1, h2, h3, h4, h5, h6] at hq
  simp only [List.mem_cons, List.not_mem_nil, or_false] at hq
  rcases hq with rfl | rfl | rfl | rfl | rfl | rfl | rfl <;> rfl
end
end Go.Mo


namespace Go.Mo
open Go
noncomputable section
/-- The bits of the first bytes. -/
def bitsN (l : List B8) : Nat → List Int
  | 0 => []
  | j + 1 => ((((((((bitsN l j) ++ [bitI (nth 0 l j) 7]) ++ [bitI (nth 0 l j) 6]) ++ [bitI (nth 0 l j) 5]) ++ [bitI (nth 0 l j) 4]) ++ [bitI (nth 0 l j) 3]) ++ [bitI (nth 0 l j) 2]) ++ [bitI (nth 0 l j) 1]) ++ [bitI (nth 0 l j) 0]
def ofB (L : List Int) (i : Nat) : B8 := ((((((((((((((((0) * 2 + BitVec.ofInt 8 (nth 0 L (8 * i + 0)))) * 2 + BitVec.ofInt 8 (nth 0 L (8 * i + 1)))) * 2 + BitVec.ofInt 8 (nth 0 L (8 * i + 2)))) * 2 + BitVec.ofInt 8 (nth 0 L (8 * i + 3)))) * 2 + BitVec.ofInt 8 (nth 0 L (8 * i + 4)))) * 2 + BitVec.ofInt 8 (nth 0 L (8 * i + 5)))) * 2 + BitVec.ofInt 8 (nth 0 L (8 * i + 6)))) * 2 + BitVec.ofInt 8 (nth 0 L (8 * i + 7)))
def ofL (L : List Int) : List B8 := each16 (ofB L)
def dblT (F : List Int → List B8) (B : List Int) : List B8 := F ((B.drop 1).take 127 ++ [0])
def dblX (F : List Int → List B8) (B : List Int) (c : Bool) : List B8 := bif c then (dblT F B).set 15 (nth 0 (dblT F B) 15 ^^^ 135) else dblT F B
def dblR (l : List B8) : List B8 := dblX ofL (bitsN l 16) (decide (nth 0 (((bitsN l 16).drop 0).take 1) 0 = 1))
def shiftR (l : List B8) (n : Int) : List B8 := ofL (((bitsN l 24).drop n.toNat).take 128)
/-- How often two divides, 64 at most. -/
def zerGo : Nat → BitVec 64 → Nat
  | 0, _ => 0
  | f + 1, x => bif decide (((x % 2).toNat : Int) = ((0 : BitVec 64).toNat : Int)) then zerGo f (x / 2) + 1 else 0
def hx (x : BitVec 64) : Nat → BitVec 64
  | 0 => x
  | n + 1 => hx x n / 2
def zt (x : BitVec 64) (i : Nat) : Bool := decide (((hx x i % 2).toNat : Int) = ((0 : BitVec 64).toNat : Int))
def downZ (x : BitVec 64) : Nat → List (Bool × Bool)
  | 0 => []
  | n + 1 => (zt x n, true) :: downZ x n
def obsZ (x : BitVec 64) (k : Nat) : List (Bool × Bool) := bif Nat.blt k 64 then (zt x k, false) :: downZ x k else downZ x k
def orcZ (k : Nat) : List (Option Bool) := List.replicate k (some true) ++ [some false]
theorem hx_succ (x : BitVec 64) : ∀ n, hx x (n + 1) = hx (x / 2) n
  | 0 => rfl
  | n + 1 => by show hx x (n + 1) / 2 = _; rw [hx_succ x n]; rfl
theorem zerGo_spec : ∀ (f : Nat) (x : BitVec 64), zerGo f x ≤ f ∧ (∀ i, i < zerGo f x → zt x i = true) ∧ (zerGo f x < f → zt x (zerGo f x) = false)
  | 0, x => ⟨Nat.le_refl _, fun i h => absurd h (by simp [zerGo]), fun h => absurd h (by simp [zerGo])⟩
  | f + 1, x => by
    cases hc : decide (((x % 2).toNat : Int) = ((0 : BitVec 64).toNat : Int))
    · have e : zerGo (f + 1) x = 0 := by simp only [zerGo, hc, cond_false]
      rw [e]
      exact ⟨by omega, fun i h => by omega, fun _ => hc⟩
    · have e : zerGo (f + 1) x = zerGo f (x / 2) + 1 := by simp only [zerGo, hc, cond_true]
      obtain ⟨h1, h2, h3⟩ := zerGo_spec f (x / 2)
      have sh : ∀ i, zt x (i + 1) = zt (x / 2) i := fun i => by unfold zt; rw [hx_succ]
      rw [e]
      refine ⟨by omega, ?_, ?_⟩
      · intro i h
        cases i with
        | zero => exact hc
        | succ i => rw [sh]; exact h2 i (by omega)
      · intro h; rw [sh]; exact h3 (by omega)
theorem downZ_ok (x : BitVec 64) : ∀ n, (∀ i, i < n → zt x i = true) → ∀ q ∈ downZ x n, q.1 = q.2
  | 0, _ => by intro q hq; cases hq
  | n + 1, h => by
    intro q hq
    simp only [downZ, List.mem_cons] at hq
    rcases hq with rfl | hq
    · exact h n (by omega)
    · exact downZ_ok x n (fun i hi => h i (by omega)) q hq
theorem obsZ_ok (x : BitVec 64) : ∀ q ∈ obsZ x (zerGo 64 x), q.1 = q.2 := by
  obtain ⟨h1, h2, h3⟩ := zerGo_spec 64 x
  unfold obsZ
  cases hb : Nat.blt (zerGo 64 x) 64 <;> simp only [cond_true, cond_false]
  · exact downZ_ok x _ h2
  · intro q hq
    simp only [List.mem_cons] at hq
    rcases hq with rfl | hq
    · exact h3 (Nat.le_of_ble_eq_true hb)
    · exact downZ_ok x _ h2 q hq
def zerR (x : BitVec 64) : Int := (zerGo 64 x : Nat)
/-- The reference's blocks by number. -/
def refAt (D : List B8 → List B8) (s : List B8) (n : Int) : List B8 := itD D s (n + 2).toNat
def tabAt (a : Bool × Bool) : List (Bool × Bool) := [a]
end
end Go.Mo


namespace Go.Mo
open Go
noncomputable section
def shB (l : List B8) (n i : Nat) : B8 :=
  bif Nat.beq (n % 8) 0 then nth 0 l (i + n / 8) <<< (n % 8) else (nth 0 l (i + n / 8) <<< (n % 8)) ||| (nth 0 l (i + n / 8 + 1) >>> (8 - n % 8))
def shF (l : List B8) (n : Int) : List B8 := each16 (shB l n.toNat)
def wholeL (n : List B8) : List B8 := [0, 0, 0, 1, nth 0 n 0, nth 0 n 1, nth 0 n 2, nth 0 n 3, nth 0 n 4, nth 0 n 5, nth 0 n 6, nth 0 n 7, nth 0 n 8, nth 0 n 9, nth 0 n 10, nth 0 n 11]
def topL (n : List B8) : List B8 := [0, 0, 0, 1, nth 0 n 0, nth 0 n 1, nth 0 n 2, nth 0 n 3, nth 0 n 4, nth 0 n 5, nth 0 n 6, nth 0 n 7, nth 0 n 8, nth 0 n 9, nth 0 n 10, nth 0 n 11 &&& ~~~63]
def rtopL (n : List B8) : List B8 := [0, 0, 0, 1, nth 0 n 0, nth 0 n 1, nth 0 n 2, nth 0 n 3, nth 0 n 4, nth 0 n 5, nth 0 n 6, nth 0 n 7, nth 0 n 8, nth 0 n 9, nth 0 n 10, nth 0 n 11 - nth 0 n 11 % 64]
def strL (b : List B8) : List B8 := each16 (fun i => nth 0 b i) ++ [nth 0 b 0 ^^^ nth 0 b 1, nth 0 b 1 ^^^ nth 0 b 2, nth 0 b 2 ^^^ nth 0 b 3, nth 0 b 3 ^^^ nth 0 b 4, nth 0 b 4 ^^^ nth 0 b 5, nth 0 b 5 ^^^ nth 0 b 6, nth 0 b 6 ^^^ nth 0 b 7, nth 0 b 7 ^^^ nth 0 b 8]
def botI (n : List B8) : Int := ((nth 0 n 11 &&& 63).toNat : Int)
def rbotI (n : List B8) : Int := ((nth 0 n 11).toNat : Int).tmod 64
/-- Offsets, one after the other. -/
def offIt (X : List B8 → List B8 → List B8) (f : Nat → List B8) (s : List B8) : Nat → List B8
  | 0 => s
  | m + 1 => X (offIt X f s m) (f m)
def numO (m : Nat) : BitVec 64 := BitVec.ofInt 64 (.ofNat m) + BitVec.ofNat 64 1
def numR (m : Nat) : BitVec 64 := BitVec.ofInt 64 (.ofNat (m + 1))
def posI (i : Int) : Int := if (0 : Int) > i then 0 else i
end
end Go.Mo




namespace Go.Mo
open Go
noncomputable section
def pwL : List B8 := [1, 3, 5, 15, 17, 51, 85, 255, 26, 46, 114, 150, 161, 248, 19, 53, 95, 225, 56, 72, 216, 115, 149, 164, 247, 2, 6, 10, 30, 34, 102, 170, 229, 52, 92, 228, 55, 89, 235, 38, 106, 190, 217, 112, 144, 171, 230, 49, 83, 245, 4, 12, 20, 60, 68, 204, 79, 209, 104, 184, 211, 110, 178, 205, 76, 212, 103, 169, 224, 59, 77, 215, 98, 166, 241, 8, 24, 40, 120, 136, 131, 158, 185, 208, 107, 189, 220, 127, 129, 152, 179, 206, 73, 219, 118, 154, 181, 196, 87, 249, 16, 48, 80, 240, 11, 29, 39, 105, 187, 214, 97, 163, 254, 25, 43, 125, 135, 146, 173, 236, 47, 113, 147, 174, 233, 32, 96, 160, 251, 22, 58, 78, 210, 109, 183, 194, 93, 231, 50, 86, 250, 21, 63, 65, 195, 94, 226, 61, 71, 201, 64, 192, 91, 237, 44, 116, 156, 191, 218, 117, 159, 186, 213, 100, 172, 239, 42, 126, 130, 157, 188, 223, 122, 142, 137, 128, 155, 182, 193, 88, 232, 35, 101, 175, 234, 37, 111, 177, 200, 67, 197, 84, 252, 31, 33, 99, 165, 244, 7, 9, 27, 45, 119, 153, 176, 203, 70, 202, 69, 207, 74, 222, 121, 139, 134, 145, 168, 227, 62, 66, 198, 81, 243, 14, 18, 54, 90, 238, 41, 123, 141, 140, 143, 138, 133, 148, 167, 242, 13, 23, 57, 75, 221, 124, 132, 151, 162, 253, 28, 36, 108, 180, 199, 82, 246, 1]
def mul3L : List B8 := [0, 3, 6, 5, 12, 15, 10, 9, 24, 27, 30, 29, 20, 23, 18, 17, 48, 51, 54, 53, 60, 63, 58, 57, 40, 43, 46, 45, 36, 39, 34, 33, 96, 99, 102, 101, 108, 111, 106, 105, 120, 123, 126, 125, 116, 119, 114, 113, 80, 83, 86, 85, 92, 95, 90, 89, 72, 75, 78, 77, 68, 71, 66, 65, 192, 195, 198, 197, 204, 207, 202, 201, 216, 219, 222, 221, 212, 215, 210, 209, 240, 243, 246, 245, 252, 255, 250, 249, 232, 235, 238, 237, 228, 231, 226, 225, 160, 163, 166, 165, 172, 175, 170, 169, 184, 187, 190, 189, 180, 183, 178, 177, 144, 147, 150, 149, 156, 159, 154, 153, 136, 139, 142, 141, 132, 135, 130, 129, 155, 152, 157, 158, 151, 148, 145, 146, 131, 128, 133, 134, 143, 140, 137, 138, 171, 168, 173, 174, 167, 164, 161, 162, 179, 176, 181, 182, 191, 188, 185, 186, 251, 248, 253, 254, 247, 244, 241, 242, 227, 224, 229, 230, 239, 236, 233, 234, 203, 200, 205, 206, 199, 196, 193, 194, 211, 208, 213, 214, 223, 220, 217, 218, 91, 88, 93, 94, 87, 84, 81, 82, 67, 64, 69, 70, 79, 76, 73, 74, 107, 104, 109, 110, 103, 100, 97, 98, 115, 112, 117, 118, 127, 124, 121, 122, 59, 56, 61, 62, 55, 52, 49, 50, 35, 32, 37, 38, 47, 44, 41, 42, 11, 8, 13, 14, 7, 4, 1, 2, 19, 16, 21, 22, 31, 28, 25, 26]
def affL : List B8 := [99, 124, 93, 66, 31, 0, 33, 62, 155, 132, 165, 186, 231, 248, 217, 198, 146, 141, 172, 179, 238, 241, 208, 207, 106, 117, 84, 75, 22, 9, 40, 55, 128, 159, 190, 161, 252, 227, 194, 221, 120, 103, 70, 89, 4, 27, 58, 37, 113, 110, 79, 80, 13, 18, 51, 44, 137, 150, 183, 168, 245, 234, 203, 212, 164, 187, 154, 133, 216, 199, 230, 249, 92, 67, 98, 125, 32, 63, 30, 1, 85, 74, 107, 116, 41, 54, 23, 8, 173, 178, 147, 140, 209, 206, 239, 240, 71, 88, 121, 102, 59, 36, 5, 26, 191, 160, 129, 158, 195, 220, 253, 226, 182, 169, 136, 151, 202, 213, 244, 235, 78, 81, 112, 111, 50, 45, 12, 19, 236, 243, 210, 205, 144, 143, 174, 177, 20, 11, 42, 53, 104, 119, 86, 73, 29, 2, 35, 60, 97, 126, 95, 64, 229, 250, 219, 196, 153, 134, 167, 184, 15, 16, 49, 46, 115, 108, 77, 82, 247, 232, 201, 214, 139, 148, 181, 170, 254, 225, 192, 223, 130, 157, 188, 163, 6, 25, 56, 39, 122, 101, 68, 91, 43, 52, 21, 10, 87, 72, 105, 118, 211, 204, 237, 242, 175, 176, 145, 142, 218, 197, 228, 251, 166, 185, 152, 135, 34, 61, 28, 3, 94, 65, 96, 127, 200, 215, 246, 233, 180, 171, 138, 149, 48, 47, 14, 17, 76, 83, 114, 109, 57, 38, 7, 24, 69, 90, 123, 100, 193, 222, 255, 224, 189, 162, 131, 156]
def pw (i : Nat) : B8 := nth 0 pwL i
def mul3 (a : B8) : B8 := nth 0 mul3L a.toNat
def aff (a : B8) : B8 := nth 0 affL a.toNat
def add64 (x y : Int) : Int := IntKind.i64.wrap (x + y)
def affN (b : B8) (i : Nat) : Int := add64 (add64 (add64 (add64 (add64 (((99 : Int).fdiv ((2 ^ Nat.min i 64 : Nat) : Int)).tmod 2) (bitI b i)) (bitI b ((i + 4) % 8))) (bitI b ((i + 5) % 8))) (bitI b ((i + 6) % 8))) (bitI b ((i + 7) % 8))
def addy (x : Int) (b : B8) (i : Nat) : Int := IntKind.i64.wrap (x + IntKind.i64.wrap ((affN b i).tmod 2 * ((2 ^ Nat.min i 64 : Nat) : Int)))
def affR (b : B8) : B8 := BitVec.ofInt 8 (addy (addy (addy (addy (addy (addy (addy (addy 0 b 0) b 1) b 2) b 3) b 4) b 5) b 6) b 7)
def powR (a : B8) : Nat → B8
  | 0 => 1
  | n + 1 => mulR (powR a n) a
/-- The table, as it is laid one by one. -/
def outT : Nat → List B8
  | 0 => (List.replicate 256 0).set 0 (aff 0)
  | n + 1 => (outT n).set (pw n).toNat (aff (pw (255 - n)))

def oc0 : List B8 := [99, 0, 0, 0, 0, 0, 0, 0, 0, 0, 0, 0, 0, 0, 0, 0, 0, 0, 0, 0, 0, 0, 0, 0, 0, 0, 0, 0, 0, 0, 0, 0, 0, 0, 0, 0, 0, 0, 0, 0, 0, 0, 0, 0, 0, 0, 0, 0, 0, 0, 0, 0, 0, 0, 0, 0, 0, 0, 0, 0, 0, 0, 0, 0, 0, 0, 0, 0, 0, 0, 0, 0, 0, 0, 0, 0, 0, 0, 0, 0, 0, 0, 0, 0, 0, 0, 0, 0, 0, 0, 0, 0, 0, 0, 0, 0, 0, 0, 0, 0, 0, 0, 0, 0, 0, 0, 0, 0, 0, 0, 0, 0, 0, 0, 0, 0, 0, 0, 0, 0, 0, 0, 0, 0, 0, 0, 0, 0, 0, 0, 0, 0, 0, 0, 0, 0, 0, 0, 0, 0, 0, 0, 0, 0, 0, 0, 0, 0, 0, 0, 0, 0, 0, 0, 0, 0, 0, 0, 0, 0, 0, 0, 0, 0, 0, 0, 0, 0, 0, 0, 0, 0, 0, 0, 0, 0, 0, 0, 0, 0, 0, 0, 0, 0, 0, 0, 0, 0, 0, 0, 0, 0, 0, 0, 0, 0, 0, 0, 0, 0, 0, 0, 0, 0, 0, 0, 0, 0, 0, 0, 0, 0, 0, 0, 0, 0, 0, 0, 0, 0, 0, 0, 0, 0, 0, 0, 0, 0, 0, 0, 0, 0, 0, 0, 0, 0, 0, 0, 0, 0, 0, 0, 0, 0, 0, 0, 0, 0, 0, 0, 0, 0, 0, 0, 0, 0]
def oc1 : List B8 := [99, 124, 0, 123, 0, 107, 0, 0, 0, 0, 0, 0, 0, 0, 0, 118, 0, 130, 0, 125, 0, 0, 0, 0, 0, 0, 162, 0, 0, 0, 0, 0, 0, 0, 0, 0, 0, 0, 0, 0, 0, 0, 0, 0, 0, 0, 49, 0, 0, 0, 0, 195, 0, 0, 0, 0, 0, 0, 0, 0, 0, 0, 0, 0, 0, 0, 0, 0, 0, 0, 0, 0, 0, 0, 0, 0, 0, 0, 0, 0, 0, 0, 0, 0, 0, 252, 0, 0, 0, 0, 0, 0, 0, 0, 0, 0, 0, 0, 0, 0, 0, 0, 0, 0, 0, 0, 0, 0, 0, 0, 0, 0, 0, 0, 64, 0, 0, 0, 0, 0, 0, 0, 0, 0, 0, 0, 0, 0, 0, 0, 0, 0, 0, 0, 0, 0, 0, 0, 0, 0, 0, 0, 0, 0, 0, 0, 0, 0, 0, 0, 144, 0, 0, 0, 0, 0, 0, 0, 0, 0, 0, 50, 0, 0, 0, 0, 0, 0, 0, 0, 0, 0, 0, 0, 0, 0, 0, 0, 0, 0, 0, 0, 0, 0, 0, 0, 0, 0, 0, 0, 0, 0, 0, 0, 0, 0, 0, 0, 0, 0, 0, 0, 0, 0, 0, 0, 0, 0, 0, 0, 0, 0, 0, 0, 0, 0, 0, 0, 0, 0, 0, 0, 0, 0, 0, 0, 0, 0, 0, 0, 0, 0, 0, 0, 0, 0, 0, 0, 0, 0, 0, 0, 0, 0, 0, 0, 0, 0, 65, 0, 0, 0, 0, 0, 0, 22]
def oc2 : List B8 := [99, 124, 119, 123, 0, 107, 111, 0, 0, 0, 103, 0, 0, 0, 0, 118, 0, 130, 0, 125, 0, 0, 0, 0, 0, 0, 162, 0, 0, 0, 114, 0, 0, 0, 147, 0, 0, 0, 0, 0, 0, 0, 0, 0, 0, 0, 49, 0, 0, 0, 0, 195, 0, 150, 0, 0, 7, 0, 0, 0, 0, 0, 0, 0, 0, 0, 0, 0, 0, 0, 0, 0, 82, 0, 0, 0, 0, 0, 0, 0, 0, 0, 0, 0, 0, 252, 0, 0, 0, 0, 0, 0, 0, 0, 0, 207, 0, 0, 0, 0, 0, 0, 0, 0, 0, 0, 0, 0, 0, 0, 0, 0, 0, 0, 64, 143, 0, 0, 0, 0, 0, 0, 0, 0, 0, 0, 0, 0, 0, 0, 0, 0, 0, 0, 0, 0, 0, 0, 0, 0, 0, 0, 0, 0, 0, 0, 0, 0, 0, 42, 144, 0, 0, 0, 0, 0, 0, 0, 0, 0, 0, 50, 0, 0, 73, 0, 0, 0, 0, 0, 0, 0, 0, 0, 0, 0, 0, 0, 0, 0, 0, 0, 0, 0, 0, 0, 0, 0, 0, 0, 0, 0, 0, 0, 0, 0, 0, 0, 0, 0, 0, 0, 0, 0, 0, 0, 0, 0, 0, 0, 0, 0, 0, 0, 0, 0, 97, 0, 0, 0, 0, 0, 0, 0, 0, 248, 0, 0, 0, 0, 0, 0, 0, 0, 0, 0, 0, 0, 0, 0, 0, 0, 0, 0, 0, 0, 0, 104, 65, 0, 0, 0, 0, 0, 0, 22]
def oc3 : List B8 := [99, 124, 119, 123, 0, 107, 111, 0, 0, 0, 103, 0, 0, 0, 0, 118, 0, 130, 0, 125, 0, 0, 0, 0, 0, 0, 162, 0, 0, 0, 114, 0, 0, 0, 147, 0, 0, 0, 247, 0, 0, 0, 0, 0, 0, 0, 49, 0, 0, 0, 0, 195, 24, 150, 0, 154, 7, 0, 0, 0, 0, 0, 0, 0, 0, 0, 0, 0, 0, 0, 0, 0, 82, 0, 0, 0, 0, 0, 0, 0, 0, 0, 0, 0, 0, 252, 0, 0, 0, 203, 0, 0, 74, 0, 0, 207, 0, 0, 0, 0, 0, 0, 51, 0, 0, 0, 2, 0, 0, 0, 0, 0, 81, 0, 64, 143, 0, 0, 0, 0, 0, 0, 0, 0, 0, 0, 0, 0, 0, 0, 0, 0, 0, 0, 0, 0, 0, 0, 0, 0, 0, 0, 0, 0, 96, 0, 0, 0, 0, 42, 144, 0, 0, 0, 0, 0, 0, 0, 0, 0, 0, 50, 0, 0, 73, 0, 0, 0, 0, 0, 172, 0, 0, 0, 0, 0, 0, 0, 0, 0, 0, 0, 0, 0, 0, 0, 0, 0, 0, 0, 174, 0, 0, 0, 0, 0, 0, 0, 0, 0, 0, 0, 0, 0, 0, 0, 0, 0, 0, 0, 0, 0, 0, 0, 0, 0, 97, 53, 0, 0, 0, 0, 0, 0, 0, 248, 0, 0, 105, 217, 0, 0, 0, 0, 0, 233, 0, 0, 0, 0, 0, 0, 0, 0, 0, 0, 0, 104, 65, 0, 0, 0, 0, 0, 0, 22]
def oc4 : List B8 := [99, 124, 119, 123, 242, 107, 111, 0, 0, 0, 103, 0, 254, 0, 0, 118, 0, 130, 0, 125, 250, 0, 0, 0, 0, 0, 162, 0, 0, 0, 114, 0, 0, 0, 147, 0, 0, 0, 247, 0, 0, 0, 0, 0, 0, 0, 49, 0, 0, 199, 0, 195, 24, 150, 0, 154, 7, 0, 0, 0, 235, 0, 0, 0, 0, 0, 0, 0, 27, 0, 0, 0, 82, 0, 0, 0, 0, 0, 0, 132, 0, 0, 0, 237, 0, 252, 0, 0, 0, 203, 0, 0, 74, 0, 0, 207, 0, 0, 0, 0, 0, 0, 51, 0, 69, 0, 2, 0, 0, 0, 0, 0, 81, 0, 64, 143, 0, 0, 0, 0, 0, 0, 0, 0, 0, 0, 0, 0, 0, 0, 0, 0, 0, 0, 0, 0, 0, 0, 0, 0, 0, 0, 0, 0, 96, 0, 0, 0, 0, 42, 144, 0, 0, 0, 0, 0, 0, 0, 0, 0, 0, 50, 0, 0, 73, 0, 0, 0, 0, 0, 172, 98, 0, 0, 0, 0, 0, 0, 0, 0, 0, 0, 0, 0, 108, 0, 0, 0, 0, 0, 174, 0, 0, 0, 0, 0, 0, 0, 0, 0, 0, 0, 0, 0, 75, 0, 0, 0, 0, 62, 0, 0, 0, 0, 0, 0, 97, 53, 0, 0, 0, 0, 0, 0, 0, 248, 0, 0, 105, 217, 142, 0, 0, 0, 0, 233, 0, 0, 0, 0, 0, 0, 0, 0, 0, 230, 0, 104, 65, 0, 0, 0, 0, 0, 0, 22]
def oc5 : List B8 := [99, 124, 119, 123, 242, 107, 111, 0, 0, 0, 103, 0, 254, 0, 0, 118, 0, 130, 0, 125, 250, 0, 0, 0, 0, 0, 162, 0, 0, 0, 114, 0, 0, 0, 147, 0, 0, 0, 247, 0, 0, 0, 0, 0, 0, 0, 49, 0, 0, 199, 0, 195, 24, 150, 0, 154, 7, 0, 0, 226, 235, 0, 0, 0, 0, 0, 0, 0, 27, 0, 0, 0, 82, 0, 0, 0, 41, 227, 0, 132, 0, 0, 0, 237, 0, 252, 0, 0, 0, 203, 0, 0, 74, 0, 0, 207, 0, 0, 170, 0, 0, 0, 51, 133, 69, 0, 2, 0, 0, 0, 159, 0, 81, 0, 64, 143, 0, 0, 0, 0, 0, 0, 0, 0, 0, 0, 0, 0, 0, 0, 0, 0, 0, 0, 0, 0, 0, 0, 0, 0, 0, 0, 0, 0, 96, 0, 0, 0, 0, 42, 144, 0, 0, 0, 0, 0, 0, 0, 0, 0, 0, 50, 0, 0, 73, 0, 36, 0, 0, 211, 172, 98, 0, 0, 0, 0, 0, 0, 55, 0, 0, 0, 0, 0, 108, 0, 0, 0, 0, 0, 174, 0, 0, 0, 0, 0, 0, 0, 0, 0, 0, 0, 0, 0, 75, 189, 0, 0, 0, 62, 0, 102, 72, 0, 0, 14, 97, 53, 0, 0, 0, 0, 0, 0, 225, 248, 0, 0, 105, 217, 142, 0, 0, 0, 0, 233, 0, 0, 0, 0, 0, 161, 0, 0, 0, 230, 0, 104, 65, 0, 0, 0, 0, 0, 0, 22]
def oc6 : List B8 := [99, 124, 119, 123, 242, 107, 111, 0, 48, 0, 103, 0, 254, 0, 0, 118, 0, 130, 0, 125, 250, 0, 0, 0, 173, 0, 162, 0, 0, 0, 114, 0, 0, 0, 147, 0, 0, 0, 247, 0, 52, 0, 0, 0, 0, 0, 49, 0, 0, 199, 0, 195, 24, 150, 0, 154, 7, 0, 0, 226, 235, 0, 0, 0, 0, 0, 0, 0, 27, 0, 0, 0, 82, 0, 0, 0, 41, 227, 0, 132, 0, 0, 0, 237, 0, 252, 0, 0, 0, 203, 0, 0, 74, 0, 0, 207, 0, 0, 170, 0, 0, 0, 51, 133, 69, 0, 2, 127, 0, 0, 159, 0, 81, 0, 64, 143, 0, 0, 0, 0, 188, 0, 0, 0, 0, 0, 0, 210, 0, 12, 0, 236, 0, 0, 0, 0, 196, 0, 0, 0, 0, 0, 0, 0, 96, 0, 0, 0, 0, 42, 144, 0, 70, 0, 0, 0, 0, 0, 11, 0, 0, 50, 0, 0, 73, 0, 36, 0, 0, 211, 172, 98, 0, 0, 0, 0, 0, 0, 55, 0, 0, 0, 0, 0, 108, 86, 0, 0, 0, 122, 174, 0, 0, 0, 0, 0, 0, 0, 0, 0, 0, 0, 0, 0, 75, 189, 0, 0, 112, 62, 0, 102, 72, 0, 0, 14, 97, 53, 0, 0, 134, 0, 0, 0, 225, 248, 0, 0, 105, 217, 142, 0, 0, 0, 0, 233, 0, 0, 0, 0, 0, 161, 0, 0, 0, 230, 0, 104, 65, 0, 0, 0, 0, 0, 0, 22]
def oc7 : List B8 := [99, 124, 119, 123, 242, 107, 111, 0, 48, 0, 103, 43, 254, 0, 0, 118, 202, 130, 0, 125, 250, 0, 0, 0, 173, 0, 162, 0, 0, 0, 114, 0, 0, 0, 147, 0, 0, 0, 247, 0, 52, 0, 0, 0, 0, 0, 49, 0, 4, 199, 0, 195, 24, 150, 0, 154, 7, 0, 0, 226, 235, 0, 0, 0, 0, 0, 0, 0, 27, 0, 0, 0, 82, 59, 0, 0, 41, 227, 0, 132, 83, 0, 0, 237, 0, 252, 0, 91, 0, 203, 0, 0, 74, 0, 0, 207, 0, 0, 170, 0, 0, 0, 51, 133, 69, 0, 2, 127, 0, 0, 159, 0, 81, 0, 64, 143, 0, 0, 56, 0, 188, 0, 0, 0, 0, 0, 0, 210, 0, 12, 0, 236, 0, 0, 0, 0, 196, 0, 0, 0, 0, 0, 0, 0, 96, 0, 0, 0, 0, 42, 144, 0, 70, 0, 184, 0, 0, 0, 11, 0, 0, 50, 0, 0, 73, 0, 36, 0, 0, 211, 172, 98, 0, 0, 0, 0, 0, 0, 55, 109, 0, 213, 0, 0, 108, 86, 0, 0, 0, 122, 174, 0, 0, 0, 0, 0, 28, 0, 0, 0, 0, 0, 0, 0, 75, 189, 139, 0, 112, 62, 0, 102, 72, 0, 0, 14, 97, 53, 0, 185, 134, 0, 0, 0, 225, 248, 0, 0, 105, 217, 142, 0, 0, 0, 0, 233, 0, 0, 0, 0, 140, 161, 0, 0, 0, 230, 0, 104, 65, 153, 0, 0, 0, 0, 0, 22]
def oc8 : List B8 := [99, 124, 119, 123, 242, 107, 111, 0, 48, 0, 103, 43, 254, 0, 0, 118, 202, 130, 0, 125, 250, 0, 0, 0, 173, 212, 162, 0, 0, 164, 114, 0, 0, 0, 147, 0, 0, 0, 247, 204, 52, 0, 0, 241, 0, 0, 49, 0, 4, 199, 0, 195, 24, 150, 0, 154, 7, 0, 0, 226, 235, 0, 0, 0, 0, 0, 0, 0, 27, 0, 0, 0, 82, 59, 0, 0, 41, 227, 0, 132, 83, 0, 0, 237, 0, 252, 0, 91, 0, 203, 0, 0, 74, 0, 0, 207, 0, 239, 170, 0, 0, 0, 51, 133, 69, 249, 2, 127, 0, 0, 159, 0, 81, 0, 64, 143, 0, 0, 56, 0, 188, 0, 0, 0, 0, 255, 0, 210, 0, 12, 0, 236, 0, 0, 0, 23, 196, 0, 0, 0, 0, 0, 0, 0, 96, 0, 79, 0, 0, 42, 144, 0, 70, 0, 184, 0, 0, 0, 11, 0, 0, 50, 0, 10, 73, 0, 36, 0, 0, 211, 172, 98, 0, 149, 0, 0, 0, 0, 55, 109, 0, 213, 0, 0, 108, 86, 0, 234, 0, 122, 174, 0, 0, 0, 0, 0, 28, 0, 0, 0, 0, 0, 0, 0, 75, 189, 139, 0, 112, 62, 0, 102, 72, 0, 246, 14, 97, 53, 0, 185, 134, 0, 0, 0, 225, 248, 0, 0, 105, 217, 142, 0, 0, 0, 0, 233, 206, 0, 0, 0, 140, 161, 0, 0, 0, 230, 0, 104, 65, 153, 0, 0, 0, 0, 187, 22]
def oc9 : List B8 := [99, 124, 119, 123, 242, 107, 111, 0, 48, 0, 103, 43, 254, 0, 0, 118, 202, 130, 0, 125, 250, 0, 71, 0, 173, 212, 162, 0, 0, 164, 114, 0, 183, 0, 147, 0, 0, 0, 247, 204, 52, 0, 0, 241, 0, 0, 49, 21, 4, 199, 0, 195, 24, 150, 0, 154, 7, 0, 128, 226, 235, 0, 0, 0, 0, 0, 0, 0, 27, 0, 0, 0, 82, 59, 0, 0, 41, 227, 47, 132, 83, 0, 0, 237, 0, 252, 0, 91, 0, 203, 0, 0, 74, 0, 0, 207, 208, 239, 170, 0, 0, 0, 51, 133, 69, 249, 2, 127, 0, 60, 159, 0, 81, 163, 64, 143, 0, 0, 56, 0, 188, 0, 0, 0, 0, 255, 0, 210, 0, 12, 0, 236, 0, 0, 0, 23, 196, 0, 0, 0, 0, 0, 0, 0, 96, 0, 79, 220, 0, 42, 144, 0, 70, 0, 184, 0, 0, 0, 11, 0, 224, 50, 0, 10, 73, 0, 36, 0, 0, 211, 172, 98, 0, 149, 228, 0, 0, 0, 55, 109, 0, 213, 0, 169, 108, 86, 0, 234, 0, 122, 174, 0, 0, 0, 0, 0, 28, 0, 0, 0, 0, 0, 0, 0, 75, 189, 139, 0, 112, 62, 181, 102, 72, 0, 246, 14, 97, 53, 0, 185, 134, 0, 0, 0, 225, 248, 0, 0, 105, 217, 142, 0, 0, 30, 0, 233, 206, 0, 0, 0, 140, 161, 0, 0, 0, 230, 0, 104, 65, 153, 0, 15, 0, 0, 187, 22]
def oc10 : List B8 := [99, 124, 119, 123, 242, 107, 111, 0, 48, 0, 103, 43, 254, 0, 0, 118, 202, 130, 0, 125, 250, 89, 71, 0, 173, 212, 162, 0, 0, 164, 114, 0, 183, 0, 147, 0, 0, 0, 247, 204, 52, 0, 0, 241, 0, 0, 49, 21, 4, 199, 35, 195, 24, 150, 0, 154, 7, 0, 128, 226, 235, 39, 0, 117, 0, 131, 0, 0, 27, 0, 0, 160, 82, 59, 0, 0, 41, 227, 47, 132, 83, 0, 0, 237, 0, 252, 177, 91, 0, 203, 0, 0, 74, 76, 88, 207, 208, 239, 170, 0, 0, 0, 51, 133, 69, 249, 2, 127, 0, 60, 159, 0, 81, 163, 64, 143, 0, 0, 56, 0, 188, 0, 0, 0, 0, 255, 0, 210, 0, 12, 0, 236, 0, 0, 0, 23, 196, 0, 0, 0, 0, 0, 0, 0, 96, 0, 79, 220, 0, 42, 144, 0, 70, 0, 184, 0, 0, 0, 11, 0, 224, 50, 0, 10, 73, 0, 36, 0, 0, 211, 172, 98, 0, 149, 228, 0, 0, 0, 55, 109, 0, 213, 0, 169, 108, 86, 0, 234, 0, 122, 174, 0, 0, 0, 37, 46, 28, 0, 0, 0, 0, 221, 0, 0, 75, 189, 139, 0, 112, 62, 181, 102, 72, 0, 246, 14, 97, 53, 0, 185, 134, 0, 0, 0, 225, 248, 152, 0, 105, 217, 142, 148, 0, 30, 0, 233, 206, 0, 0, 0, 140, 161, 0, 0, 0, 230, 0, 104, 65, 153, 45, 15, 0, 0, 187, 22]
def oc11 : List B8 := [99, 124, 119, 123, 242, 107, 111, 0, 48, 0, 103, 43, 254, 0, 0, 118, 202, 130, 0, 125, 250, 89, 71, 0, 173, 212, 162, 0, 0, 164, 114, 0, 183, 0, 147, 0, 0, 0, 247, 204, 52, 0, 0, 241, 113, 0, 49, 21, 4, 199, 35, 195, 24, 150, 0, 154, 7, 0, 128, 226, 235, 39, 0, 117, 9, 131, 0, 0, 27, 0, 0, 160, 82, 59, 0, 0, 41, 227, 47, 132, 83, 0, 0, 237, 0, 252, 177, 91, 0, 203, 0, 57, 74, 76, 88, 207, 208, 239, 170, 0, 67, 0, 51, 133, 69, 249, 2, 127, 0, 60, 159, 0, 81, 163, 64, 143, 146, 157, 56, 0, 188, 0, 0, 0, 0, 255, 0, 210, 0, 12, 0, 236, 0, 0, 0, 23, 196, 0, 0, 0, 0, 0, 0, 0, 96, 0, 79, 220, 0, 42, 144, 0, 70, 0, 184, 0, 222, 0, 11, 219, 224, 50, 0, 10, 73, 0, 36, 0, 0, 211, 172, 98, 145, 149, 228, 0, 0, 0, 55, 109, 0, 213, 0, 169, 108, 86, 244, 234, 0, 122, 174, 8, 186, 0, 37, 46, 28, 0, 0, 0, 0, 221, 0, 0, 75, 189, 139, 0, 112, 62, 181, 102, 72, 3, 246, 14, 97, 53, 87, 185, 134, 0, 0, 0, 225, 248, 152, 0, 105, 217, 142, 148, 0, 30, 0, 233, 206, 85, 0, 0, 140, 161, 0, 0, 0, 230, 0, 104, 65, 153, 45, 15, 0, 0, 187, 22]
def oc12 : List B8 := [99, 124, 119, 123, 242, 107, 111, 0, 48, 0, 103, 43, 254, 0, 0, 118, 202, 130, 0, 125, 250, 89, 71, 0, 173, 212, 162, 0, 0, 164, 114, 0, 183, 0, 147, 0, 0, 0, 247, 204, 52, 0, 229, 241, 113, 0, 49, 21, 4, 199, 35, 195, 24, 150, 0, 154, 7, 0, 128, 226, 235, 39, 0, 117, 9, 131, 0, 0, 27, 0, 0, 160, 82, 59, 0, 0, 41, 227, 47, 132, 83, 0, 0, 237, 0, 252, 177, 91, 106, 203, 0, 57, 74, 76, 88, 207, 208, 239, 170, 0, 67, 0, 51, 133, 69, 249, 2, 127, 0, 60, 159, 0, 81, 163, 64, 143, 146, 157, 56, 0, 188, 0, 218, 0, 0, 255, 243, 210, 205, 12, 19, 236, 0, 0, 0, 23, 196, 167, 0, 0, 0, 0, 25, 0, 96, 0, 79, 220, 0, 42, 144, 0, 70, 0, 184, 20, 222, 94, 11, 219, 224, 50, 0, 10, 73, 0, 36, 0, 0, 211, 172, 98, 145, 149, 228, 0, 0, 0, 55, 109, 0, 213, 78, 169, 108, 86, 244, 234, 101, 122, 174, 8, 186, 120, 37, 46, 28, 0, 0, 0, 0, 221, 0, 0, 75, 189, 139, 0, 112, 62, 181, 102, 72, 3, 246, 14, 97, 53, 87, 185, 134, 0, 0, 158, 225, 248, 152, 0, 105, 217, 142, 148, 0, 30, 0, 233, 206, 85, 0, 223, 140, 161, 0, 0, 0, 230, 0, 104, 65, 153, 45, 15, 0, 0, 187, 22]
def oc13 : List B8 := [99, 124, 119, 123, 242, 107, 111, 0, 48, 0, 103, 43, 254, 0, 0, 118, 202, 130, 0, 125, 250, 89, 71, 0, 173, 212, 162, 0, 0, 164, 114, 192, 183, 253, 147, 38, 0, 63, 247, 204, 52, 0, 229, 241, 113, 0, 49, 21, 4, 199, 35, 195, 24, 150, 0, 154, 7, 0, 128, 226, 235, 39, 0, 117, 9, 131, 0, 26, 27, 0, 0, 160, 82, 59, 0, 0, 41, 227, 47, 132, 83, 0, 0, 237, 32, 252, 177, 91, 106, 203, 0, 57, 74, 76, 88, 207, 208, 239, 170, 0, 67, 77, 51, 133, 69, 249, 2, 127, 0, 60, 159, 168, 81, 163, 64, 143, 146, 157, 56, 0, 188, 0, 218, 0, 0, 255, 243, 210, 205, 12, 19, 236, 0, 0, 0, 23, 196, 167, 0, 0, 0, 0, 25, 0, 96, 0, 79, 220, 0, 42, 144, 0, 70, 0, 184, 20, 222, 94, 11, 219, 224, 50, 0, 10, 73, 0, 36, 0, 0, 211, 172, 98, 145, 149, 228, 121, 0, 200, 55, 109, 0, 213, 78, 169, 108, 86, 244, 234, 101, 122, 174, 8, 186, 120, 37, 46, 28, 166, 0, 0, 232, 221, 0, 0, 75, 189, 139, 0, 112, 62, 181, 102, 72, 3, 246, 14, 97, 53, 87, 185, 134, 0, 0, 158, 225, 248, 152, 0, 105, 217, 142, 148, 155, 30, 135, 233, 206, 85, 0, 223, 140, 161, 0, 0, 0, 230, 0, 104, 65, 153, 45, 15, 176, 0, 187, 22]
def oc14 : List B8 := [99, 124, 119, 123, 242, 107, 111, 197, 48, 1, 103, 43, 254, 0, 0, 118, 202, 130, 0, 125, 250, 89, 71, 0, 173, 212, 162, 175, 0, 164, 114, 192, 183, 253, 147, 38, 0, 63, 247, 204, 52, 0, 229, 241, 113, 216, 49, 21, 4, 199, 35, 195, 24, 150, 0, 154, 7, 0, 128, 226, 235, 39, 0, 117, 9, 131, 0, 26, 27, 110, 90, 160, 82, 59, 0, 0, 41, 227, 47, 132, 83, 0, 0, 237, 32, 252, 177, 91, 106, 203, 0, 57, 74, 76, 88, 207, 208, 239, 170, 251, 67, 77, 51, 133, 69, 249, 2, 127, 0, 60, 159, 168, 81, 163, 64, 143, 146, 157, 56, 245, 188, 0, 218, 0, 0, 255, 243, 210, 205, 12, 19, 236, 0, 0, 0, 23, 196, 167, 0, 0, 0, 0, 25, 0, 96, 0, 79, 220, 0, 42, 144, 0, 70, 238, 184, 20, 222, 94, 11, 219, 224, 50, 0, 10, 73, 6, 36, 0, 0, 211, 172, 98, 145, 149, 228, 121, 231, 200, 55, 109, 0, 213, 78, 169, 108, 86, 244, 234, 101, 122, 174, 8, 186, 120, 37, 46, 28, 166, 0, 0, 232, 221, 116, 31, 75, 189, 139, 138, 112, 62, 181, 102, 72, 3, 246, 14, 97, 53, 87, 185, 134, 0, 0, 158, 225, 248, 152, 0, 105, 217, 142, 148, 155, 30, 135, 233, 206, 85, 0, 223, 140, 161, 0, 0, 191, 230, 0, 104, 65, 153, 45, 15, 176, 0, 187, 22]
def oc15 : List B8 := [99, 124, 119, 123, 242, 107, 111, 197, 48, 1, 103, 43, 254, 0, 171, 118, 202, 130, 201, 125, 250, 89, 71, 0, 173, 212, 162, 175, 0, 164, 114, 192, 183, 253, 147, 38, 0, 63, 247, 204, 52, 0, 229, 241, 113, 216, 49, 21, 4, 199, 35, 195, 24, 150, 0, 154, 7, 0, 128, 226, 235, 39, 178, 117, 9, 131, 44, 26, 27, 110, 90, 160, 82, 59, 214, 0, 41, 227, 47, 132, 83, 209, 0, 237, 32, 252, 177, 91, 106, 203, 0, 57, 74, 76, 88, 207, 208, 239, 170, 251, 67, 77, 51, 133, 69, 249, 2, 127, 0, 60, 159, 168, 81, 163, 64, 143, 146, 157, 56, 245, 188, 182, 218, 0, 0, 255, 243, 210, 205, 12, 19, 236, 0, 0, 68, 23, 196, 167, 0, 61, 0, 0, 25, 0, 96, 129, 79, 220, 0, 42, 144, 0, 70, 238, 184, 20, 222, 94, 11, 219, 224, 50, 0, 10, 73, 6, 36, 0, 194, 211, 172, 98, 145, 149, 228, 121, 231, 200, 55, 109, 0, 213, 78, 169, 108, 86, 244, 234, 101, 122, 174, 8, 186, 120, 37, 46, 28, 166, 180, 0, 232, 221, 116, 31, 75, 189, 139, 138, 112, 62, 181, 102, 72, 3, 246, 14, 97, 53, 87, 185, 134, 0, 29, 158, 225, 248, 152, 17, 105, 217, 142, 148, 155, 30, 135, 233, 206, 85, 0, 223, 140, 161, 0, 13, 191, 230, 0, 104, 65, 153, 45, 15, 176, 0, 187, 22]
def oc16 : List B8 := [99, 124, 119, 123, 242, 107, 111, 197, 48, 1, 103, 43, 254, 215, 171, 118, 202, 130, 201, 125, 250, 89, 71, 240, 173, 212, 162, 175, 0, 164, 114, 192, 183, 253, 147, 38, 0, 63, 247, 204, 52, 165, 229, 241, 113, 216, 49, 21, 4, 199, 35, 195, 24, 150, 5, 154, 7, 0, 128, 226, 235, 39, 178, 117, 9, 131, 44, 26, 27, 110, 90, 160, 82, 59, 214, 0, 41, 227, 47, 132, 83, 209, 0, 237, 32, 252, 177, 91, 106, 203, 190, 57, 74, 76, 88, 207, 208, 239, 170, 251, 67, 77, 51, 133, 69, 249, 2, 127, 0, 60, 159, 168, 81, 163, 64, 143, 146, 157, 56, 245, 188, 182, 218, 33, 0, 255, 243, 210, 205, 12, 19, 236, 0, 151, 68, 23, 196, 167, 126, 61, 100, 93, 25, 115, 96, 129, 79, 220, 34, 42, 144, 0, 70, 238, 184, 20, 222, 94, 11, 219, 224, 50, 0, 10, 73, 6, 36, 92, 194, 211, 172, 98, 145, 149, 228, 121, 231, 200, 55, 109, 0, 213, 78, 169, 108, 86, 244, 234, 101, 122, 174, 8, 186, 120, 37, 46, 28, 166, 180, 0, 232, 221, 116, 31, 75, 189, 139, 138, 112, 62, 181, 102, 72, 3, 246, 14, 97, 53, 87, 185, 134, 0, 29, 158, 225, 248, 152, 17, 105, 217, 142, 148, 155, 30, 135, 233, 206, 85, 40, 223, 140, 161, 137, 13, 191, 230, 0, 104, 65, 153, 45, 15, 176, 0, 187, 22]
def oc17 : List B8 := [99, 124, 119, 123, 242, 107, 111, 197, 48, 1, 103, 43, 254, 215, 171, 118, 202, 130, 201, 125, 250, 89, 71, 240, 173, 212, 162, 175, 156, 164, 114, 192, 183, 253, 147, 38, 54, 63, 247, 204, 52, 165, 229, 241, 113, 216, 49, 21, 4, 199, 35, 195, 24, 150, 5, 154, 7, 18, 128, 226, 235, 39, 178, 117, 9, 131, 44, 26, 27, 110, 90, 160, 82, 59, 214, 179, 41, 227, 47, 132, 83, 209, 0, 237, 32, 252, 177, 91, 106, 203, 190, 57, 74, 76, 88, 207, 208, 239, 170, 251, 67, 77, 51, 133, 69, 249, 2, 127, 80, 60, 159, 168, 81, 163, 64, 143, 146, 157, 56, 245, 188, 182, 218, 33, 16, 255, 243, 210, 205, 12, 19, 236, 95, 151, 68, 23, 196, 167, 126, 61, 100, 93, 25, 115, 96, 129, 79, 220, 34, 42, 144, 136, 70, 238, 184, 20, 222, 94, 11, 219, 224, 50, 58, 10, 73, 6, 36, 92, 194, 211, 172, 98, 145, 149, 228, 121, 231, 200, 55, 109, 141, 213, 78, 169, 108, 86, 244, 234, 101, 122, 174, 8, 186, 120, 37, 46, 28, 166, 180, 198, 232, 221, 116, 31, 75, 189, 139, 138, 112, 62, 181, 102, 72, 3, 246, 14, 97, 53, 87, 185, 134, 193, 29, 158, 225, 248, 152, 17, 105, 217, 142, 148, 155, 30, 135, 233, 206, 85, 40, 223, 140, 161, 137, 13, 191, 230, 66, 104, 65, 153, 45, 15, 176, 84, 187, 22]
def outF : Nat → Nat → List B8 → List B8
  | _, 0, l => l
  | i, n + 1, l => outF (i + 1) n (l.set (pw i).toNat (aff (pw (255 - i))))
theorem outF_eq : ∀ n i, outF i n (outT i) = outT (i + n)
  | 0, i => rfl
  | n + 1, i => by
    show outF (i + 1) n (outT (i + 1)) = _
    rw [outF_eq n (i + 1)]
    congr 1; omega
theorem oc_0 : outT 0 = oc0 := by kernel_rfl
theorem oc_1 : outT 15 = oc1 := by
  rw [show (15 : Nat) = 0 + 15 from rfl, ← outF_eq, oc_0]
  kernel_rfl
theorem oc_2 : outT 30 = oc2 := by
  rw [show (30 : Nat) = 15 + 15 from rfl, ← outF_eq, oc_1]
  kernel_rfl
theorem oc_3 : outT 45 = oc3 := by
  rw [show (45 : Nat) = 30 + 15 from rfl, ← outF_eq, oc_2]
  kernel_rfl
theorem oc_4 : outT 60 = oc4 := by
  rw [show (60 : Nat) = 45 + 15 from rfl, ← outF_eq, oc_3]
  kernel_rfl
theorem oc_5 : outT 75 = oc5 := by
  rw [show (75 : Nat) = 60 + 15 from rfl, ← outF_eq, oc_4]
  kernel_rfl
theorem oc_6 : outT 90 = oc6 := by
  rw [show (90 : Nat) = 75 + 15 from rfl, ← outF_eq, oc_5]
  kernel_rfl
theorem oc_7 : outT 105 = oc7 := by
  rw [show (105 : Nat) = 90 + 15 from rfl, ← outF_eq, oc_6]
  kernel_rfl
theorem oc_8 : outT 120 = oc8 := by
  rw [show (120 : Nat) = 105 + 15 from rfl, ← outF_eq, oc_7]
  kernel_rfl
theorem oc_9 : outT 135 = oc9 := by
  rw [show (135 : Nat) = 120 + 15 from rfl, ← outF_eq, oc_8]
  kernel_rfl
theorem oc_10 : outT 150 = oc10 := by
  rw [show (150 : Nat) = 135 + 15 from rfl, ← outF_eq, oc_9]
  kernel_rfl
theorem oc_11 : outT 165 = oc11 := by
  rw [show (165 : Nat) = 150 + 15 from rfl, ← outF_eq, oc_10]
  kernel_rfl
theorem oc_12 : outT 180 = oc12 := by
  rw [show (180 : Nat) = 165 + 15 from rfl, ← outF_eq, oc_11]
  kernel_rfl
theorem oc_13 : outT 195 = oc13 := by
  rw [show (195 : Nat) = 180 + 15 from rfl, ← outF_eq, oc_12]
  kernel_rfl
theorem oc_14 : outT 210 = oc14 := by
  rw [show (210 : Nat) = 195 + 15 from rfl, ← outF_eq, oc_13]
  kernel_rfl
theorem oc_15 : outT 225 = oc15 := by
  rw [show (225 : Nat) = 210 + 15 from rfl, ← outF_eq, oc_14]
  kernel_rfl
theorem oc_16 : outT 240 = oc16 := by
  rw [show (240 : Nat) = 225 + 15 from rfl, ← outF_eq, oc_15]
  kernel_rfl
theorem oc_17 : outT 255 = oc17 := by
  rw [show (255 : Nat) = 240 + 15 from rfl, ← outF_eq, oc_16]
  kernel_rfl
theorem outT_255 : outT 255 = sboxL := by rw [oc_17]; kernel_rfl
theorem mulR3 (a : B8) : mulR a 3 = mul3 a := byte_all (f := fun a => mulR a 3) (g := mul3) (by kernel_rfl) a
theorem affR_eq (a : B8) : affR a = aff a := byte_all (f := affR) (g := aff) (by kernel_rfl) a
end
end Go.Mo


namespace Go.Mo
open Go
noncomputable section
def xB (g t : List B8) (o : Nat) : List B8 := [nth 0 g o ^^^ nth 0 t 0, nth 0 g (o + 1) ^^^ nth 0 t 1, nth 0 g (o + 2) ^^^ nth 0 t 2, nth 0 g (o + 3) ^^^ nth 0 t 3]
def tL (r : Nat) (g : List B8) : List B8 := [sb (nth 0 g 13) ^^^ powR 2 r, sb (nth 0 g 14), sb (nth 0 g 15), sb (nth 0 g 12)]
def nw (r : Nat) (g : List B8) : Nat → List B8
  | 0 => tL r g
  | n + 1 => xB g (nw r g n) (4 * n)
def nxtB (r : Nat) (g : List B8) : List B8 := nw r g 1 ++ (nw r g 2 ++ (nw r g 3 ++ nw r g 4))
def grpB (k : List B8) : Nat → List B8
  | 0 => k
  | n + 1 => nxtB n (grpB k n)
def catG (k : List B8) : Nat → List B8
  | 0 => []
  | n + 1 => catG k n ++ grpB k n
def wordsR (k : List B8) : List B8 := catG k 11
/-- A block as rows, and back. -/
def trL (b : List B8) : List B8 := each16 fun p => nth 0 b (p % 4 * 4 + p / 4)
def subG (T g : List B8) : List B8 := each16 fun p => nth 0 T (nth 0 g p).toNat
def shiftG (g : List B8) : List B8 := each16 fun p => nth 0 g (p / 4 * 4 + (p % 4 + p / 4) % 4)
def cl (g : List B8) (p k : Nat) : B8 := nth 0 g ((p / 4 + k) % 4 * 4 + p % 4)
def mixG (g : List B8) : List B8 := each16 fun p => ((mulR 2 (cl g p 0) ^^^ mulR 3 (cl g p 1)) ^^^ cl g p 2) ^^^ cl g p 3
def addG (g round : List B8) : List B8 := each16 fun p => nth 0 g p ^^^ nth 0 (trL round) p
def rgG (A : List B8 → List B8 → List B8) (M H : List B8 → List B8) (S : List B8 → List B8 → List B8) (O : List B8 → List B8) (e T b : List B8) : Nat → List B8
  | 0 => A (O b) (rk e 0)
  | n + 1 => A ((bif Nat.blt (n + 1) 10 then M else fun x => x) (H (S T (rgG A M H S O e T b n)))) (rk e (n + 1))
def refEnc (e T b : List B8) : List B8 := trL (rgG addG mixG shiftG subG trL e T b 10)
theorem upL_nth {l : List B8} : ∀ (n i : Nat), i + n = l.length → upL (nth 0 l) n i = l.drop i
  | 0, i, h => by rw [List.drop_eq_nil_of_le (by omega)]; rfl
  | n + 1, i, h => by
    have hi : i < l.length := by omega
    show nth 0 l i :: upL (nth 0 l) n (i + 1) = _
    rw [upL_nth n (i + 1) (by omega), List.drop_eq_getElem_cons hi, nth_eq]
    congr 1
    simp [List.getD, hi]
end
end Go.Mo


