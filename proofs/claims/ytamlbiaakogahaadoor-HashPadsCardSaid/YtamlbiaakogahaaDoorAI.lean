/- Plain laws: the reference's encryption is one-to-one. No program in sight. -/
import Derived.Test.YtamlbiaakogahaaDoorBr1
namespace Go.Mo
open Go
noncomputable section

theorem ext16 {a b : List B8} (ha : a.length = 16) (hb : b.length = 16) (h : ∀ p, p < 16 → nth 0 a p = nth 0 b p) : a = b := by
  rw [← each16_nth ha, ← each16_nth hb]
  exact each16_congr h
theorem at16 {f g : Nat → B8} (h : each16 f = each16 g) {p : Nat} (hp : p < 16) : f p = g p := by
  have := congrArg (fun l => nth 0 l p) h
  simpa only [nth_each16 _ hp] using this

theorem trL_inj {a b : List B8} (ha : a.length = 16) (hb : b.length = 16) (h : trL a = trL b) : a = b := by
  refine ext16 ha hb fun p hp => ?_
  have := at16 h (p := p % 4 * 4 + p / 4) (by omega)
  rwa [show (p % 4 * 4 + p / 4) % 4 * 4 + (p % 4 * 4 + p / 4) / 4 = p by omega] at this
theorem addG_inj {a b r : List B8} (ha : a.length = 16) (hb : b.length = 16) (h : addG a r = addG b r) : a = b := by
  refine ext16 ha hb fun p hp => ?_
  have := at16 h hp
  exact (BitVec.xor_left_inj _).1 this
theorem back_sb (x : B8) : back (sb x) = x := byte_all (f := fun x => back (sb x)) (g := fun x => x) (by kernel_rfl) x
theorem subG_inj {a b : List B8} (ha : a.length = 16) (hb : b.length = 16) (h : subG sboxL a = subG sboxL b) : a = b := by
  refine ext16 ha hb fun p hp => ?_
  have := at16 h hp
  have h2 : sb (nth 0 a p) = sb (nth 0 b p) := this
  rw [← back_sb (nth 0 a p), h2, back_sb]
theorem shiftG_inj {a b : List B8} (ha : a.length = 16) (hb : b.length = 16) (h : shiftG a = shiftG b) : a = b := by
  refine ext16 ha hb fun p hp => ?_
  have := at16 h (p := p / 4 * 4 + (p % 4 + 4 - p / 4) % 4) (by omega)
  have e : (p / 4 * 4 + (p % 4 + 4 - p / 4) % 4) / 4 * 4 + ((p / 4 * 4 + (p % 4 + 4 - p / 4) % 4) % 4 + (p / 4 * 4 + (p % 4 + 4 - p / 4) % 4) / 4) % 4 = p := by omega
  rwa [e] at this

theorem xlc (a b c : B8) : a ^^^ (b ^^^ c) = b ^^^ (a ^^^ c) := by rw [← BitVec.xor_assoc, BitVec.xor_comm a b, BitVec.xor_assoc]
theorem xself (a b : B8) : a ^^^ (a ^^^ b) = b := by rw [← BitVec.xor_assoc, BitVec.xor_self, BitVec.zero_xor]
def xt (y : B8) : B8 := (y <<< 1) ^^^ bif y.msb then 27 else 0
theorem xt2 (y : B8) : mulR 2 y = xt y := by rw [mulR2]; exact byte_all (f := fun y => mul y 2) (g := xt) (by kernel_rfl) y
theorem xt3 (y : B8) : mulR 3 y = xt y ^^^ y := by rw [mulR3']; exact byte_all (f := fun y => mul y 3) (g := fun y => xt y ^^^ y) (by kernel_rfl) y
theorem xt_add (a b : B8) : xt (a ^^^ b) = xt a ^^^ xt b := by
  unfold xt
  rw [BitVec.msb_xor, BitVec.shiftLeft_xor_distrib]
  cases a.msb <;> cases b.msb <;> simp [BitVec.xor_assoc, BitVec.xor_comm, xlc]
def mx (a b c d : B8) : B8 := ((xt a ^^^ (xt b ^^^ b)) ^^^ c) ^^^ d
theorem mx2 (a b c d : B8) : mx (mx a b c d) (mx b c d a) (mx c d a b) (mx d a b c) = a ^^^ (xt (xt a) ^^^ xt (xt c)) := by
  unfold mx
  simp only [xt_add, BitVec.xor_assoc, BitVec.xor_comm, xlc, xself]
theorem mx4 (a c : B8) : (a ^^^ (xt (xt a) ^^^ xt (xt c))) ^^^ (xt (xt (a ^^^ (xt (xt a) ^^^ xt (xt c)))) ^^^ xt (xt (c ^^^ (xt (xt c) ^^^ xt (xt a))))) = a := by
  simp only [xt_add, BitVec.xor_assoc, BitVec.xor_comm, xlc, BitVec.xor_self, BitVec.xor_zero, BitVec.zero_xor]
theorem mx_inj {a b c d a' b' c' d' : B8} (h0 : mx a b c d = mx a' b' c' d') (h1 : mx b c d a = mx b' c' d' a') (h2 : mx c d a b = mx c' d' a' b') (h3 : mx d a b c = mx d' a' b' c') : a = a' := by
  have e0 := mx2 a b c d
  have e2 := mx2 c d a b
  rw [h0, h1, h2, h3, mx2] at e0
  rw [h0, h1, h2, h3, mx2] at e2
  have := mx4 a' c'
  rw [e0, e2, mx4] at this
  exact this
theorem mixG_inj {a b : List B8} (ha : a.length = 16) (hb : b.length = 16) (h : mixG a = mixG b) : a = b := by
  refine ext16 ha hb fun p hp => ?_
  have key : ∀ k, k < 4 → mx (cl a p k) (cl a p (k + 1)) (cl a p (k + 2)) (cl a p (k + 3)) = mx (cl b p k) (cl b p (k + 1)) (cl b p (k + 2)) (cl b p (k + 3)) := by
    intro k hk
    have hq : (p / 4 + k) % 4 * 4 + p % 4 < 16 := by omega
    have := at16 h hq
    simp only [xt2, xt3] at this
    have ec : ∀ (g : List B8) (j : Nat), cl g ((p / 4 + k) % 4 * 4 + p % 4) j = cl g p (k + j) := by
      intro g j
      unfold cl
      rw [show (((p / 4 + k) % 4 * 4 + p % 4) / 4 + j) % 4 * 4 + ((p / 4 + k) % 4 * 4 + p % 4) % 4 = (p / 4 + (k + j)) % 4 * 4 + p % 4 by omega]
    rw [ec, ec, ec, ec, ec, ec, ec, ec] at this
    exact this
  have e4 : ∀ (g : List B8) (j : Nat), cl g p (j + 4) = cl g p j := by
    intro g j
    unfold cl
    rw [show (p / 4 + (j + 4)) % 4 = (p / 4 + j) % 4 by omega]
  have e0 : ∀ (g : List B8), cl g p 0 = nth 0 g p := by
    intro g
    unfold cl
    rw [show (p / 4 + 0) % 4 * 4 + p % 4 = p by omega]
  have k0 := key 0 (by omega)
  have k1 := key 1 (by omega)
  have k2 := key 2 (by omega)
  have k3 := key 3 (by omega)
  rw [show 1 + 3 = 0 + 4 from rfl, e4, e4] at k1
  rw [show 2 + 2 = 0 + 4 from rfl, show 2 + 3 = 1 + 4 from rfl, e4, e4, e4, e4] at k2
  rw [show 3 + 1 = 0 + 4 from rfl, show 3 + 2 = 1 + 4 from rfl, show 3 + 3 = 2 + 4 from rfl, e4, e4, e4, e4, e4, e4] at k3
  have := mx_inj k0 k1 k2 k3
  rwa [e0, e0] at this

theorem rgG_inj (e : List B8) {a b : List B8} (ha : a.length = 16) (hb : b.length = 16) : ∀ n, rgG addG mixG shiftG subG trL e sboxL a n = rgG addG mixG shiftG subG trL e sboxL b n → a = b
  | 0, h => trL_inj ha hb (addG_inj rfl rfl h)
  | n + 1, h => by
    refine rgG_inj e ha hb n ?_
    have hl : ∀ x, (rgG addG mixG shiftG subG trL e sboxL x n).length = 16 := by intro x; cases n <;> rfl
    refine subG_inj (hl _) (hl _) (shiftG_inj rfl rfl ?_)
    have h1 : addG ((bif Nat.blt (n + 1) 10 then mixG else fun x => x) (shiftG (subG sboxL (rgG addG mixG shiftG subG trL e sboxL a n)))) (rk e (n + 1)) = addG ((bif Nat.blt (n + 1) 10 then mixG else fun x => x) (shiftG (subG sboxL (rgG addG mixG shiftG subG trL e sboxL b n)))) (rk e (n + 1)) := h
    cases hq : Nat.blt (n + 1) 10 <;> simp only [hq, cond_true, cond_false] at h1
    · exact addG_inj rfl rfl h1
    · exact mixG_inj rfl rfl (addG_inj rfl rfl h1)
theorem refEnc_inj (e : List B8) {a b : List B8} (ha : a.length = 16) (hb : b.length = 16) (h : refEnc e sboxL a = refEnc e sboxL b) : a = b := rgG_inj e ha hb 10 (trL_inj rfl rfl h)
end
end Go.Mo
