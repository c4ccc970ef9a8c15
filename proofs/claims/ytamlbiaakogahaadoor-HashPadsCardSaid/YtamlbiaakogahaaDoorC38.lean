/- Contracts of functions by the evaluator (C38): HashPads. -/
import Derived.Test.YtamlbiaakogahaaDoorC32
import Derived.Test.YtamlbiaakogahaaDoorAI
namespace Go.Proofs.YtamlbiaakogahaaDoor
open Go Go.Mo
noncomputable section

noncomputable abbrev HQ := Tryd.f14
def padB (ω : LW) (n : Nat) (l : List B8) : List B8 := ω.RPAD n l
def x1 (ω : LW) (k : List B8) (n : Nat) (l : List B8) : List B8 := ω.φ.X (padB ω n l) (sK ω.φ k)
def x2 (ω : LW) (k : List B8) (n : Nat) (l : List B8) : List B8 := ω.φ.X (padB ω n l) (bK ω.φ k 0)
def obsHQ (ω : LW) (k : List B8) (n : Nat) (l : List B8) (b : Bool) : List (Bool × Bool) :=
  [((tr (x1 ω k n l = x2 ω k n l)).1, b), ((tr (ω.SM (pW ω k) n l = ω.SM (pW ω k) 16 (padB ω n l))).1, b), tr (ω.SM (pW ω k) 16 (padB ω n l) = ω.φ.RE (ω.φ.W k) ω.φ.SB (x2 ω k n l)), tr (ω.SM (pW ω k) n l = ω.φ.RE (ω.φ.W k) ω.φ.SB (x1 ω k n l))]
noncomputable def hq1 (ω : LW) (k l : List B8) (b : Bool) (n : Nat) := ev2 (K_Y1 ω) noInl 80 HQ ([.a [.b8 16 k]] ++ (argB 0 n :: [])) [memBy n l, none] [some true, some true, some b, some b] [] (.s (.bool true)) []
theorem l_HQ (ω : LW) (k l : List B8) : (List.range 15).map (fun i => (List.range 2).map fun c => hq1 ω k l (Nat.beq c 1) (1 + i)) = (List.range 15).map (fun i => (List.range 2).map fun c => (some (.s (.bool true), obsHQ ω k (1 + i) l (Nat.beq c 1), newBlks []), true)) := by kernel_rfl
theorem t_HQ0 (ω : LW) (k l : List B8) : ev2 (K_Y1 ω) noInl 80 HQ ([.a [.b8 16 k]] ++ (argB 0 0 :: [])) [memBy 0 l, none] [] [] (.s (.bool true)) [] = (some (.s (.bool true), [], newBlks []), true) := by kernel_rfl
theorem t_HQ' (ω : LW) (k : List B8) (n : Nat) (gs : List Seg) : ev2 (K_Y1 ω) noInl 80 HQ [.a [.b8 16 k], .s (.osl 0 0 n 0)] [some gs, none] [some false, some true] [] (.s (.bool true)) [] =
    (some (.s (.bool true), [tr ((15 : Int) < (n : Int)), fa ((n : Int) < (1 : Int))], newBlks []), true) := by kernel_rfl
theorem hq_at (ω : LW) (k l : List B8) (b : Bool) {n : Nat} (h1 : 1 ≤ n) (h2 : n ≤ 15) : hq1 ω k l b n = (some (.s (.bool true), obsHQ ω k n l b, newBlks []), true) := by
  have h := map_at (l_HQ ω k l) (n := n - 1) (by omega)
  simp only [show 1 + (n - 1) = n by omega] at h
  cases b
  · exact map_at h (n := 0) (by omega)
  · exact map_at h (n := 1) (by omega)
theorem sum_short (k : List B8) {l : List B8} (h1 : 1 ≤ l.length) (h2 : l.length ≤ 15) : ω0.SM (pW ω0 k) l.length l = refEnc (wordsR k) sboxL (x1 ω0 k l.length l) := by
  have hx : x1 ω0 k l.length l = xorL (rpadR l.length l) (sK φ0 k) := by kernel_rfl
  rw [kW_SM, show l.length / 16 = 0 by omega, hx, sK_eq]
  have hb : restB l.length l = l := by
    unfold restB
    rw [show l.length / 16 = 0 by omega]; rfl
  rw [hb, show l.length - 16 * 0 = l.length by omega, show pW ω0 k = pK φ0 k from rfl, rest_ref k _ h1 h2]
  show xorL z16 (refEnc _ _ (xorL _ (xorL z16 (refEnc (wordsR k) sboxL z16)))) = _
  rw [xor_zero16 (x := refEnc (wordsR k) sboxL z16) rfl, xor_zero16 rfl, starK_ref]
theorem rpad_len {l : List B8} (h2 : l.length ≤ 15) : (rpadR l.length l).length = 16 := by
  rw [← rpad_eq h2, splice_pad h2]
  simp; omega
theorem sum_block (k : List B8) {b : List B8} (h : b.length = 16) : ω0.SM (pW ω0 k) 16 b = refEnc (wordsR k) sboxL (xorL b (bK φ0 k 0)) := by
  rw [kW_SM, show 16 / 16 = 1 from rfl, show 16 - 16 * 1 = 0 from rfl, rest_0, xor_z16 (show (hst χ0 (pW ω0 k) (part16 b) 1).1.length = 16 from hst_len1 k _ _), hst1]
  have hp : part16 b 0 = b := by
    unfold part16
    rw [Nat.mul_zero, List.drop_zero, List.take_of_length_le (by omega)]
  rw [hp]
  show xorL z16 (encF k (xorL b (xorL z16 (atL (pW ω0 k).bl (tzI (BitVec.ofInt 64 1)))))) = _
  rw [show (BitVec.ofInt 64 1) = BitVec.ofNat 64 1 from rfl, tz1]
  have hb : (bK φ0 k 0).length = 16 := by
    rw [bK_eq, blk0 (starK_len k)]
    exact dblL_len _
  rw [show atL (pW ω0 k).bl 0 = bK φ0 k 0 from rfl, xor_zero16 hb, enc_eq, xor_zero16 rfl]
theorem obsHQ_ok (k : List B8) {l : List B8} (h1 : 1 ≤ l.length) (h2 : l.length ≤ 15) : ObsOk (obsHQ ω0 k l.length l (decide (x1 ω0 k l.length l = x2 ω0 k l.length l))) := by
  have hp : padB ω0 l.length l = rpadR l.length l := by kernel_rfl
  have e1 := sum_short k h1 h2
  have hx2 : x2 ω0 k l.length l = xorL (padB ω0 l.length l) (bK φ0 k 0) := by kernel_rfl
  have e2 : ω0.SM (pW ω0 k) 16 (padB ω0 l.length l) = refEnc (wordsR k) sboxL (x2 ω0 k l.length l) := by
    rw [hx2, sum_block k (by rw [hp]; exact rpad_len h2)]
  have hR : ∀ x, ω0.φ.RE (ω0.φ.W k) ω0.φ.SB x = refEnc (wordsR k) sboxL x := by intro x; kernel_rfl
  have hiff : (ω0.SM (pW ω0 k) l.length l = ω0.SM (pW ω0 k) 16 (padB ω0 l.length l)) ↔ (x1 ω0 k l.length l = x2 ω0 k l.length l) := by
    rw [e1, e2]
    exact ⟨fun h => refEnc_inj _ rfl rfl h, fun h => by rw [h]⟩
  unfold obsHQ
  intro q hq
  rcases List.mem_cons.1 hq with rfl | hq
  · rfl
  rcases List.mem_cons.1 hq with rfl | hq
  · exact decide_eq_decide.2 hiff
  refine (obs_tr ?_ <| obs_tr ?_ obs_nil : ObsOk _) q hq
  · rw [e2, hR]
  · rw [e1, hR]
theorem law_HashPads (G : Gl) (hG : DB G) (k l : List B8) : Fits G Tryd.prog 14 [.a [.b8 16 k], argB 0 l.length] 2 (mBB l []) (.s (.bool true)) [] := by
  rcases Nat.lt_or_ge 15 l.length with h | h
  · exact fits_big (good_Y1 G hG) (px := [.a [.b8 16 k]]) Tryd.func14 (by intro e; subst e; simp at h) (pures_flat rfl pures_nil) (t_HQ' ω0 k l.length _) (obs_tr (by omega) (obs_fa (by omega) obs_nil))
  · rcases Nat.eq_zero_or_pos l.length with h0 | h0
    · have := List.length_eq_zero_iff.1 h0
      subst this
      exact fits_B (good_Y1 G hG) noInl_ok Tryd.func14 (inB0 [] []) (pures_flat (x := .a [.b8 16 k]) rfl pures_nil) pures_nil (t_HQ0 ω0 k []) (fun _ => obs_nil)
    · exact fits_B (good_Y1 G hG) noInl_ok Tryd.func14 (inB0 l []) (pures_flat (x := .a [.b8 16 k]) rfl pures_nil) pures_nil (hq_at ω0 k l _ h0 h) (fun _ => obsHQ_ok k h0 h)
end
end Go.Proofs.YtamlbiaakogahaaDoor
