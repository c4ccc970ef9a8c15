/- Plain laws, part 1: words and their bytes; the round keys; the rounds by tables are the reference's rounds. No program in sight. -/
import Derived.Test.YtamlbiaakogahaaDoorSp6
namespace Go.Mo
open Go
noncomputable section

theorem wb_col0 (a b c d : B8) : wb (col a b c d) 24 = a := by
  apply BitVec.eq_of_getLsbD_eq
  intro i hi
  have : i = 0 ∨ i = 1 ∨ i = 2 ∨ i = 3 ∨ i = 4 ∨ i = 5 ∨ i = 6 ∨ i = 7 := by omega
  rcases this with rfl | rfl | rfl | rfl | rfl | rfl | rfl | rfl <;> simp [wb, col]
theorem wb_col1 (a b c d : B8) : wb (col a b c d) 16 = b := by
  apply BitVec.eq_of_getLsbD_eq
  intro i hi
  have : i = 0 ∨ i = 1 ∨ i = 2 ∨ i = 3 ∨ i = 4 ∨ i = 5 ∨ i = 6 ∨ i = 7 := by omega
  rcases this with rfl | rfl | rfl | rfl | rfl | rfl | rfl | rfl <;> simp [wb, col]
theorem wb_col2 (a b c d : B8) : wb (col a b c d) 8 = c := by
  apply BitVec.eq_of_getLsbD_eq
  intro i hi
  have : i = 0 ∨ i = 1 ∨ i = 2 ∨ i = 3 ∨ i = 4 ∨ i = 5 ∨ i = 6 ∨ i = 7 := by omega
  rcases this with rfl | rfl | rfl | rfl | rfl | rfl | rfl | rfl <;> simp [wb, col]
theorem wb_col3 (a b c d : B8) : wb (col a b c d) 0 = d := by
  apply BitVec.eq_of_getLsbD_eq
  intro i hi
  have : i = 0 ∨ i = 1 ∨ i = 2 ∨ i = 3 ∨ i = 4 ∨ i = 5 ∨ i = 6 ∨ i = 7 := by omega
  rcases this with rfl | rfl | rfl | rfl | rfl | rfl | rfl | rfl <;> simp [wb, col]
theorem wb_xor (x y : B32) (k : Nat) : wb (x ^^^ y) k = wb x k ^^^ wb y k := by
  unfold wb
  rw [BitVec.ushiftRight_xor_distrib, BitVec.setWidth_xor]

/-- Two words with the same bytes. -/
theorem word_ext {x y : B32} (h0 : wb x 24 = wb y 24) (h1 : wb x 16 = wb y 16) (h2 : wb x 8 = wb y 8) (h3 : wb x 0 = wb y 0) : x = y := by
  apply BitVec.eq_of_getLsbD_eq
  intro i hi
  have key : ∀ (k j : Nat), wb x k = wb y k → j < 8 → x.getLsbD (k + j) = y.getLsbD (k + j) := by
    intro k j h hj
    have := congrArg (fun z => z.getLsbD j) h
    simpa [wb, hj] using this
  rcases Nat.lt_or_ge i 8 with h | h
  · simpa using key 0 i h3 h
  · rcases Nat.lt_or_ge i 16 with h' | h'
    · have := key 8 (i - 8) h2 (by omega)
      rwa [show 8 + (i - 8) = i by omega] at this
    · rcases Nat.lt_or_ge i 24 with h'' | h''
      · have := key 16 (i - 16) h1 (by omega)
        rwa [show 16 + (i - 16) = i by omega] at this
      · have := key 24 (i - 24) h0 (by omega)
        rwa [show 24 + (i - 24) = i by omega] at this

theorem wb_rot8 (w : B32) (n : Nat) : ∀ r, r < 4 → n < 4 → wb (rot8 w n) (24 - 8 * r) = wb w (24 - 8 * ((r + 4 - n) % 4)) := by
  intro r hr hn
  apply BitVec.eq_of_getLsbD_eq
  intro i hi
  have h1 : i = 0 ∨ i = 1 ∨ i = 2 ∨ i = 3 ∨ i = 4 ∨ i = 5 ∨ i = 6 ∨ i = 7 := by omega
  have h2 : r = 0 ∨ r = 1 ∨ r = 2 ∨ r = 3 := by omega
  have h3 : n = 0 ∨ n = 1 ∨ n = 2 ∨ n = 3 := by omega
  rcases h2 with rfl | rfl | rfl | rfl <;> rcases h3 with rfl | rfl | rfl | rfl <;> rcases h1 with rfl | rfl | rfl | rfl | rfl | rfl | rfl | rfl <;> simp [wb, rot8]

theorem nth_upL {α : Type} (d : α) (f : Nat → α) : ∀ (n s i : Nat), i < n → nth d (upL f n s) i = f (s + i)
  | 0, _, _, h => by omega
  | n + 1, s, 0, _ => rfl
  | n + 1, s, i + 1, h => by
    have e : nth d (upL f (n + 1) s) (i + 1) = nth d (upL f n (s + 1)) i := by rw [nth_eq, nth_eq]; rfl
    rw [e, nth_upL d f n (s + 1) i (by omega)]
    congr 1; omega

theorem nth_append_left {α : Type} (d : α) {l l' : List α} {i : Nat} (h : i < l.length) : nth d (l ++ l') i = nth d l i := by
  rw [nth_eq, nth_eq]; simp [List.getD, List.getElem?_append_left h]
theorem nth_append_right {α : Type} (d : α) {l l' : List α} {i : Nat} (h : l.length ≤ i) : nth d (l ++ l') i = nth d l' (i - l.length) := by
  rw [nth_eq, nth_eq]; simp [List.getD, List.getElem?_append_right h]

theorem tab2_fwd (x : B8) : nth 0 tab2 (pixAt 0 x) = fwdE (sb x) := by
  have hx : pixAt 0 x = x.toNat := rfl
  have := x.isLt
  rw [hx, tab2, nth_append_left 0 (by rw [fwdT_length]; omega), fwdT, nth_upL 0 _ 256 0 x.toNat (by omega)]
  simp
theorem tab2_bck (x : B8) : nth 0 tab2 (pixAt 256 x) = bckE (back x) := by
  have hx : pixAt 256 x = 256 + x.toNat := rfl
  have := x.isLt
  rw [hx, tab2, nth_append_right 0 (by rw [fwdT_length]; omega), fwdT_length, bckT, nth_upL 0 _ 256 0 _ (by omega)]
  rw [show 0 + (256 + x.toNat - 256) = x.toNat by omega]
  simp

theorem each16_congr {f g : Nat → B8} (h : ∀ p, p < 16 → f p = g p) : each16 f = each16 g := by
  unfold each16
  rw [h 0 (by omega), h 1 (by omega), h 2 (by omega), h 3 (by omega), h 4 (by omega), h 5 (by omega), h 6 (by omega), h 7 (by omega), h 8 (by omega), h 9 (by omega), h 10 (by omega), h 11 (by omega), h 12 (by omega),
    h 13 (by omega), h 14 (by omega), h 15 (by omega)]
theorem lt16 {p : Nat} (h : p < 16) : p = 0 ∨ p = 1 ∨ p = 2 ∨ p = 3 ∨ p = 4 ∨ p = 5 ∨ p = 6 ∨ p = 7 ∨ p = 8 ∨ p = 9 ∨ p = 10 ∨ p = 11 ∨ p = 12 ∨ p = 13 ∨ p = 14 ∨ p = 15 := by omega
theorem nth_each16 (f : Nat → B8) {p : Nat} (h : p < 16) : nth 0 (each16 f) p = f p := by
  rcases lt16 h with rfl | rfl | rfl | rfl | rfl | rfl | rfl | rfl | rfl | rfl | rfl | rfl | rfl | rfl | rfl | rfl <;> rfl
theorem each16_nth {l : List B8} (h : l.length = 16) : each16 (fun p => nth 0 l p) = l := by
  obtain ⟨a0, a1, a2, a3, a4, a5, a6, a7, a8, a9, a10, a11, a12, a13, a14, a15, rfl⟩ := list16 h
  rfl

theorem mulR2 (x : B8) : mulR 2 x = mul x 2 := byte_all (f := fun x => mulR 2 x) (g := fun x => mul x 2) (by kernel_rfl) x
theorem mulR3' (x : B8) : mulR 3 x = mul x 3 := byte_all (f := fun x => mulR 3 x) (g := fun x => mul x 3) (by kernel_rfl) x
end
end Go.Mo
