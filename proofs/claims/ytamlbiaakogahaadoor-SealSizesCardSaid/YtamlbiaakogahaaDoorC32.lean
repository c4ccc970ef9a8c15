/- Contracts of functions by the evaluator (C32): the laws of layer 11. -/
import Derived.Test.YtamlbiaakogahaaDoorC35
import Derived.Test.YtamlbiaakogahaaDoorC23
import Derived.Test.YtamlbiaakogahaaDoorProg
namespace Go.Proofs.YtamlbiaakogahaaDoor
open Go Go.Mo
noncomputable section

structure LW where
  φ : LF
  SM : TP → Nat → List B8 → List B8
  RS : TP → List B8 → Nat → List B8 → List B8
  HS : TP → (Nat → List B8) → Nat → List B8 × List B8
  RSM : List B8 → List B8 → Nat → List B8 → List B8
  RPAD : Nat → List B8 → List B8
def ω0 : LW := ⟨φ0, sumF χ0, restF χ0, hst χ0, rsumF ρ0, rpadR⟩
def E_Y (ω : LW) : List (Nat × Mo.Spec) := (51, sQ_Sum ω.SM) :: (55, sQ_Rest ω.RS) :: (54, sQ_Full ω.HS) :: (52, sQ_RSum ω.RSM) :: (56, sQ_RPad ω.RPAD) ::
  (53, sQ_Part) :: (32, sp_StarT) :: (30, sp_AtT) :: (24, sL_New ω.φ) :: (23, altSp firstNil (sL_TNewN ω.φ) (sL_TNewP ω.φ)) ::
  (27, pureSp (sL_Prep ω.φ)) :: (57, sL_REnc ω.φ) :: (49, pureSp (sL_2 ω.φ.X)) :: []
noncomputable def K_Y (ω : LW) : Cx := cxOf Tryd.prog (E_Y ω)
theorem eW_Sum (G : Gl) (hG : DB G) : EntryOk G Tryd.prog 51 (sQ_Sum ω0.SM) := by
  have h : sQ_Sum ω0.SM = sQ_Sum (sumF χ0) := by kernel_rfl
  rw [h]; exact eQ_Sum G hG
theorem eW_Rest (G : Gl) (hG : DB G) : EntryOk G Tryd.prog 55 (sQ_Rest ω0.RS) := by
  have h : sQ_Rest ω0.RS = sQ_Rest (restF χ0) := by kernel_rfl
  rw [h]; exact e_Rest G hG
theorem eW_Full (G : Gl) (hG : DB G) : EntryOk G Tryd.prog 54 (sQ_Full ω0.HS) := by
  have h : sQ_Full ω0.HS = sQ_Full (hst χ0) := by kernel_rfl
  rw [h]; exact e_Full G hG
theorem eW_RSum (G : Gl) : EntryOk G Tryd.prog 52 (sQ_RSum ω0.RSM) := by
  have h : sQ_RSum ω0.RSM = sQ_RSum (rsumF ρ0) := by kernel_rfl
  rw [h]; exact e_RSum G
theorem eW_RPad (G : Gl) : EntryOk G Tryd.prog 56 (sQ_RPad ω0.RPAD) := by
  have h : sQ_RPad ω0.RPAD = sQ_RPad rpadR := by kernel_rfl
  rw [h]; exact e_RPad G
theorem kW_φ : ω0.φ = φ0 := by kernel_rfl
theorem list_Y (G : Gl) (hG : DB G) : EnvL G Tryd.prog (E_Y ω0) := by
  unfold E_Y
  rw [kW_φ]
  exact .cons (eW_Sum G hG) <| .cons (eW_Rest G hG) <| .cons (eW_Full G hG) <| .cons (eW_RSum G) <| .cons (eW_RPad G) <| .cons (e_Part G) <| .cons (e_StarT G hG) <| .cons (e_AtT G hG) <| .cons (eL_0 G) <| .cons (eL_1 G hG) <|
    .cons (eL_7 G) <| .cons (eL_8 G) <| .cons (eL_11 G) .nil
theorem good_Y (G : Gl) (hG : DB G) : Mo.Good G (K_Y ω0) := (list_Y G hG).good mixed

/-! awake -/
def pW (ω : LW) (k : List B8) : TP := pK ω.φ k
def b1L : List B8 := (List.replicate 16 0).set 0 1
def obs_awake11 (ω : LW) : List (Bool × Bool) :=
  [tr (ω.SM (pW ω z16) 1 [1] = ω.RS (pW ω z16) (ω.HS (pW ω z16) (partR 0 []) 0).2 1 [1]), tr (ω.RS (pW ω z16) (ω.HS (pW ω z16) (partR 0 []) 0).2 0 [] = z16), tr ((ω.HS (pW ω z16) (partR 16 b1L) 1).2 = atL (pW ω z16).bl 0),
   tr (ω.SM (pW ω z16) 16 b1L = (ω.HS (pW ω z16) (partR 16 b1L) 1).1), tr ((ω.HS (pW ω z16) (partR 0 []) 0).2 = z16), tr ((ω.HS (pW ω z16) (partR 0 []) 0).1 = z16), tr (ω.SM (pW ω z16) 0 [] = z16)]
theorem l_awake11 (ω : LW) : ev2 (K_Y ω) noInl 60 Tryd.f50 [] [] [some true, some true, some true, some true, some true, some true, some true] [] (.s (.bool true)) [] = (some (.s (.bool true), obs_awake11 ω, newBlks []), true) := by kernel_rfl
theorem len_R (T kf : List B32) (x : List B8) : (χ0.R T kf x).length = 16 := rfl
theorem kW_SM (p : TP) (n : Nat) (l : List B8) : ω0.SM p n l = xorL (hst χ0 p (part16 l) (n / 16)).1 (restF χ0 p (hst χ0 p (part16 l) (n / 16)).2 (n - 16 * (n / 16)) (restB n l)) := by kernel_rfl
theorem kW_RS : ω0.RS = restF χ0 := by kernel_rfl
theorem kW_HS : ω0.HS = hst χ0 := by kernel_rfl
theorem kW_RSM : ω0.RSM = rsumF ρ0 := by kernel_rfl
theorem kW_RPAD : ω0.RPAD = rpadR := by kernel_rfl
theorem hst1 (p : TP) (q : Nat → List B8) : hst χ0 p q 1 = addF χ0 p (z16, z16) 1 (q 0) := by kernel_rfl
theorem rest_0 (p : TP) (o l : List B8) : restF χ0 p o 0 l = z16 := by kernel_rfl
theorem rest_len (p : TP) (o l : List B8) (n : Nat) : (restF χ0 p o n l).length = 16 := by
  unfold restF
  cases (Nat.ble 16 n || Nat.beq n 0) <;> rfl
theorem xorL_len (a b : List B8) : (xorL a b).length = 16 := rfl
theorem obs_awake11_ok : ObsOk (obs_awake11 ω0) := by
  unfold obs_awake11
  rw [kW_HS, kW_RS]
  simp only [kW_SM]
  refine obs_tr ?_ <| obs_tr (rest_0 _ _ _) <| obs_tr ?_ <| obs_tr ?_ <| obs_tr rfl <| obs_tr rfl <| obs_tr ?_ obs_nil
  · show xorL z16 (restF χ0 _ z16 1 [1]) = restF χ0 _ z16 1 [1]
    exact xor_zero16 (rest_len _ _ _ _)
  · rw [hst1]
    show xorL z16 (atL (pW ω0 z16).bl (tzI (BitVec.ofInt 64 1))) = _
    rw [show (BitVec.ofInt 64 1) = BitVec.ofNat 64 1 from rfl, tz1]
    refine xor_zero16 ?_
    show (bK φ0 z16 0).length = 16
    rw [bK_eq, blk0 (starK_len z16)]
    exact dblL_len _
  · rw [show 16 / 16 = 1 from rfl, show 16 - 16 * 1 = 0 from rfl, rest_0, hst1, hst1, show part16 b1L 0 = partR 16 b1L 0 from rfl]
    exact xor_z16 (xorL_len _ _)
  · rw [show 0 / 16 = 0 from rfl, show 0 - 16 * 0 = 0 from rfl, rest_0]
    exact xor_z16 rfl
def sp_awake11 : List V → Option V
  | [] => some (.s (.bool true))
  | _ => none
theorem e_awake11 (G : Gl) (hG : DB G) : EntryOk G Tryd.prog 50 (pureSp sp_awake11) := by
  refine entry_pure (Go.Mo.enters_of Tryd.func50 (by kernel_rfl)) ?_
  intro args v h π vargs ha fresh m
  unfold sp_awake11 at h
  split at h
  · cases h
    have he := l_awake11 ω0
    simp only [ev2, Prod.mk.injEq] at he
    exact fitsG (good_Y G hG) noInl_ok 60 60 [] [] 0 _ [] Tryd.func50 he.1 obs_awake11_ok he.2 (σ := fun i => i) (o := fun _ => 0) ⟨fun i _ hi => (by omega), fun i _ _ e => (by simp at e), fun i hi => (by omega), fun i _ hi => (by omega)⟩ fresh
      (fun π w vargs _ => argsW_nil) rfl rfl
  · cases h
def E_Y1 (ω : LW) : List (Nat × Mo.Spec) := (50, pureSp sp_awake11) :: E_Y ω
noncomputable def K_Y1 (ω : LW) : Cx := cxOf Tryd.prog (E_Y1 ω)
theorem good_Y1 (G : Gl) (hG : DB G) : Mo.Good G (K_Y1 ω0) := (EnvL.cons (e_awake11 G hG) (list_Y G hG)).good mixed

/-! The hash is that of the reference. -/
theorem splice_pad {l : List B8} (h : l.length ≤ 15) : padR l.length l = l ++ 128 :: List.replicate (15 - l.length) 0 := by
  unfold padR
  have e1 : (bif Nat.beq l.length 0 then z16 else spliceN z16 0 l.length l) = l ++ List.replicate (16 - l.length) 0 := by
    cases hq : Nat.beq l.length 0
    · simp only [cond_false]
      rw [spliceN_eq rfl]
      unfold splice
      have : z16 = List.replicate 16 (0 : B8) := rfl
      rw [this, List.take_zero, List.nil_append, List.drop_replicate]
      congr 2
      omega
    · have := List.length_eq_zero_iff.1 (Nat.eq_of_beq_eq_true hq)
      subst this; rfl
  rw [e1, List.set_append, if_neg (by omega), Nat.sub_self, show 16 - l.length = (15 - l.length) + 1 by omega, List.replicate_succ, List.set_cons_zero]
theorem zap_eq : ∀ (k : Nat) (a : List B8), zap k a = a ++ List.replicate k 0
  | 0, a => by simp [zap]
  | k + 1, a => by simp [zap, zap_eq k, List.replicate_succ]
theorem rpad_eq {l : List B8} (h : l.length ≤ 15) : padR l.length l = rpadR l.length l := by
  rw [splice_pad h]
  unfold rpadR
  rw [zap_eq]
  cases hq : Nat.beq l.length 0
  · simp
  · have := List.length_eq_zero_iff.1 (Nat.eq_of_beq_eq_true hq)
    subst this; rfl
theorem part_eq {n : Nat} {l : List B8} (hl : l.length = n) {j : Nat} (hj : 16 * j + 16 ≤ n) : part16 l j = partR n l j := by
  unfold part16 partR
  cases hq : Nat.beq 16 n
  · rfl
  · have := Nat.eq_of_beq_eq_true hq
    subst this
    have : j = 0 := by omega
    subst this
    rw [Nat.mul_zero, List.drop_zero, List.take_of_length_le (by omega)]; rfl
theorem num_ne {j : Nat} (h : j < 1000) : (BitVec.ofInt 64 ((j + 1 : Nat) : Int)).toNat ≠ 0 := by
  rw [BitVec.toNat_ofInt]; omega
theorem hst_eq (k : List B8) (q : Nat → List B8) (q' : Nat → List B8) : ∀ (m : Nat), m < 1000 → (∀ j, j < m → q j = q' j) → hst χ0 (pK φ0 k) q m = hstR ρ0 (φ0.W k) φ0.SB q' m
  | 0, _, _ => by kernel_rfl
  | m + 1, hm, h => by
    have ih := hst_eq k q q' m (by omega) fun j hj => h j (by omega)
    have hf := for_eq k (num_ne (j := m) (by omega))
    have e1 : hst χ0 (pK φ0 k) q (m + 1) = (xorL (hst χ0 (pK φ0 k) q m).1 (encF k (xorL (q m) (xorL (hst χ0 (pK φ0 k) q m).2 (bK φ0 k (φ0.TZ (BitVec.ofInt 64 ((m + 1 : Nat) : Int))))))), xorL (hst χ0 (pK φ0 k) q m).2 (bK φ0 k (φ0.TZ (BitVec.ofInt 64 ((m + 1 : Nat) : Int))))) := by kernel_rfl
    have e2 : hstR ρ0 (φ0.W k) φ0.SB q' (m + 1) = (xorL (hstR ρ0 (φ0.W k) φ0.SB q' m).1 (refEnc (wordsR k) sboxL (xorL (q' m) (xorL (hstR ρ0 (φ0.W k) φ0.SB q' m).2 (refAt φ0.D' (rK φ0 k) (φ0.TZ' (BitVec.ofInt 64 ((m + 1 : Nat) : Int))))))), xorL (hstR ρ0 (φ0.W k) φ0.SB q' m).2 (refAt φ0.D' (rK φ0 k) (φ0.TZ' (BitVec.ofInt 64 ((m + 1 : Nat) : Int))))) := by kernel_rfl
    rw [e1, e2, ih, hf, h m (by omega), enc_eq]
theorem hst_len1 (k : List B8) (q : Nat → List B8) (m : Nat) : (hst χ0 (pK φ0 k) q m).1.length = 16 := by cases m <;> rfl
theorem rest_ref (k o : List B8) {l : List B8} (h1 : 1 ≤ l.length) (h2 : l.length ≤ 15) : restF χ0 (pK φ0 k) o l.length l = refEnc (wordsR k) sboxL (xorL (rpadR l.length l) (xorL o (refEnc (wordsR k) sboxL z16))) := by
  have e1 : restF χ0 (pK φ0 k) o l.length l = bif Nat.ble 16 l.length || Nat.beq l.length 0 then z16 else encF k (xorL (padR l.length l) (xorL o (starK k))) := by kernel_rfl
  have hb1 : Nat.ble 16 l.length = false := by cases h : Nat.ble 16 l.length; rfl; have := Nat.le_of_ble_eq_true h; omega
  have hb2 : Nat.beq l.length 0 = false := by cases h : Nat.beq l.length 0; rfl; have := Nat.eq_of_beq_eq_true h; omega
  rw [e1, hb1, hb2, starK_ref, enc_eq, rpad_eq h2]; rfl
theorem sum_eq (k : List B8) {n : Nat} {l : List B8} (hl : l.length = n) (hn : n ≤ 200) : ω0.SM (pK φ0 k) n l = ω0.RSM (φ0.W k) φ0.SB n l := by
  rw [kW_SM, kW_RSM]
  have hh := hst_eq k (part16 l) (partR n l) (n / 16) (by omega) fun j hj => part_eq hl (by omega)
  unfold rsumF
  cases hz : Nat.beq (n % 16) 0
  · have hne : n % 16 ≠ 0 := fun e => by rw [e] at hz; cases hz
    have hr : (restB n l).length = n - 16 * (n / 16) := by
      unfold restB
      cases hq : Nat.beq (n / 16) 0
      · simp only [cond_false, List.length_take, List.length_drop]; omega
      · have := Nat.eq_of_beq_eq_true hq
        simp only [cond_true, hl, this]; omega
    simp only [cond_false]
    rw [← hr, rest_ref k _ (by omega) (by omega), ← hh]
    have hx : ρ0.X = xorL := by kernel_rfl
    have he : ρ0.RE (φ0.W k) φ0.SB = refEnc (wordsR k) sboxL := by kernel_rfl
    have hp : ρ0.RPAD = rpadR := by kernel_rfl
    rw [hx, he, hp]
  · have h0 := Nat.eq_of_beq_eq_true hz
    simp only [cond_true]
    rw [show n - 16 * (n / 16) = 0 by omega, rest_0, ← hh]
    exact xor_z16 (hst_len1 k _ _)

/-! HashMatchesReference -/
def nzL (n : Nat) (l : List B8) : List B8 := bif Nat.beq n 0 then [] else l
theorem nzL_len (l : List B8) : nzL l.length l = l := by cases l <;> rfl
noncomputable abbrev HM := Tryd.f12
theorem t_HM (ω : LW) (k l : List B8) : (List.range 201).map (fun n => ev2 (K_Y1 ω) noInl 80 HM ([.a [.b8 16 k]] ++ (argB 0 n :: [])) [memBy n l, none] [some true] [] (.s (.bool true)) []) =
    (List.range 201).map (fun n => (some (.s (.bool true), [tr (ω.SM (pW ω k) n (nzL n l) = ω.RSM (ω.φ.W k) ω.φ.SB n (nzL n l))], newBlks []), true)) := by kernel_rfl
theorem t_HM' (ω : LW) (k : List B8) (n : Nat) (gs : List Seg) : ev2 (K_Y1 ω) noInl 80 HM [.a [.b8 16 k], .s (.osl 0 0 n 0)] [some gs, none] [some true] [] (.s (.bool true)) [] =
    (some (.s (.bool true), [tr ((200 : Int) < (n : Int))], newBlks []), true) := by kernel_rfl

/-- The memory that a law is told of. -/
def mBB (l0 l1 : List B8) : Nat → Option Blk
  | 0 => if l0 = [] then none else some ⟨[.b8 l0.length l0], false⟩
  | 1 => if l1 = [] then none else some ⟨[.b8 l1.length l1], false⟩
  | _ => none
theorem getSegs_whole (l : List B8) (h : l ≠ []) : getSegs [.b8 l.length l] 0 (l.length * 1) = some [.b8 l.length l] := by
  have hne : l.length ≠ 0 := fun e => h (List.length_eq_zero_iff.1 e)
  rw [Nat.mul_one]
  unfold getSegs
  have h1 : Nat.beq l.length 0 = false := by cases q : Nat.beq l.length 0; rfl; exact absurd (Nat.eq_of_beq_eq_true q) hne
  have h2 : Nat.ble (Seg.b8 l.length l).size 0 = false := by cases q : Nat.ble (Seg.b8 l.length l).size 0; rfl; have := Nat.le_of_ble_eq_true q; have : l.length ≤ 0 := this; omega
  have h3 : Nat.min l.length ((Seg.b8 l.length l).size - 0) = l.length := Nat.min_self _
  have h4 : Nat.ble (0 + l.length) l.length = true := Nat.ble_eq_true_of_le (by omega)
  have h5 : Nat.beq l.length l.length = true := Nat.beq_refl _
  simp only [h1, h2, cond_false, h3, Seg.sub, h4, h5, cond_true, Nat.sub_self]
  rfl
theorem inB0 (l0 l1 : List B8) : ByIn (mBB l0 l1) 1 (argB 0 l0.length) l0.length l0 := by
  by_cases h : l0 = []
  · subst h; exact .nil fun _ v hv => hv
  · have hne : l0.length ≠ 0 := fun e => h (List.length_eq_zero_iff.1 e)
    have e : argB 0 l0.length = .s (.osl 0 0 l0.length 1) := by
      unfold argB argZ
      cases q : Nat.beq l0.length 0
      · rfl
      · exact absurd (Nat.eq_of_beq_eq_true q) hne
    rw [e]
    exact .osl hne (show mBB l0 l1 0 = some ⟨[.b8 l0.length l0], false⟩ from if_neg h) (getSegs_whole l0 h)
theorem inB1 (l0 l1 : List B8) : ByIn (mBB l0 l1) 1 (argB 1 l1.length) l1.length l1 := by
  by_cases h : l1 = []
  · subst h; exact .nil fun _ v hv => hv
  · have hne : l1.length ≠ 0 := fun e => h (List.length_eq_zero_iff.1 e)
    have e : argB 1 l1.length = .s (.osl 1 0 l1.length 1) := by
      unfold argB argZ
      cases q : Nat.beq l1.length 0
      · rfl
      · exact absurd (Nat.eq_of_beq_eq_true q) hne
    rw [e]
    exact .osl hne (show mBB l0 l1 1 = some ⟨[.b8 l1.length l1], false⟩ from if_neg h) (getSegs_whole l1 h)
theorem osl0_cv {π : Mo.Loc} {i n : Nat} {v : Value} (h : n ≠ 0) (hv : (argB i n).cv π v) : (V.s (.osl i 0 n 0)).cv π v := by
  unfold argB argZ at hv
  cases q : Nat.beq n 0
  · rw [q] at hv
    obtain ⟨p, c, h1, h2, h3, h4⟩ := hv
    exact ⟨p, c, h1, h2, h3, h4⟩
  · exact absurd (Nat.eq_of_beq_eq_true q) h

/-- A law of a pure argument and long bytes. -/
theorem fits_big {G : Gl} {K : Cx} (hG : Mo.Good G K) {f : Nat} {fn : Func} {fuel : Nat} {orc : List (Option Bool)} {obs : List (Bool × Bool)} {px : List V} (hf : K.P.funcs[f]? = some fn) {l : List B8} (hl : l ≠ []) (hp : Pures px px)
    (he : ev2 K noInl fuel fn (px ++ [.s (.osl 0 0 l.length 0)]) [some [.b8 l.length l], none] orc [] (.s (.bool true)) [] = (some (.s (.bool true), obs, newBlks []), true)) (hobs : ObsOk obs) :
    Fits G K.P f (px ++ [argB 0 l.length]) 2 (mBB l []) (.s (.bool true)) [] := by
  refine Fits.introM (ev2_enters hf he) fun π w vargs hm _ => ?_
  obtain ⟨bb, oo, hb1, hb2⟩ := (inB0 l []).win1 hm
  simp only [ev2, Prod.mk.injEq] at he
  have hs := sees_N hb1 (byAt_nil (m := mBB l []) (b := 0) (o := 0))
  rw [memBy_ne hl] at hs
  refine fitsG hG noInl_ok fuel fuel _ _ 0 orc [] hf he.1 hobs he.2 hs 2 (fun π w vargs hm => argsW_app (hp _ _) (fun _ => argsW_cons (fun v hv => ?_) (fun _ => argsW_nil))) rfl rfl
  refine osl0_cv (fun e => hl (List.length_eq_zero_iff.1 e)) ?_
  exact argB_cv (σ := lk [bb, 0]) (o := lk [oo, 0]) (i := 0) (hb2 π w v hm hv) (fun _ => rfl)

theorem law_HashMatchesReference (G : Gl) (hG : DB G) (k l : List B8) : Fits G Tryd.prog 12 [.a [.b8 16 k], argB 0 l.length] 2 (mBB l []) (.s (.bool true)) [] := by
  rcases Nat.lt_or_ge 200 l.length with h | h
  · exact fits_big (good_Y1 G hG) (px := [.a [.b8 16 k]]) Tryd.func12 (by intro e; subst e; simp at h) (pures_flat rfl pures_nil) (t_HM' ω0 k l.length _) (obs_tr (by omega) obs_nil)
  · exact fits_B (good_Y1 G hG) noInl_ok Tryd.func12 (inB0 l []) (pures_flat (x := .a [.b8 16 k]) rfl pures_nil) pures_nil (map_at (t_HM ω0 k l) (n := l.length) (by omega))
      (fun _ => obs_tr (by rw [kW_φ, nzL_len]; exact sum_eq k rfl h) obs_nil)
end
end Go.Proofs.YtamlbiaakogahaaDoor
