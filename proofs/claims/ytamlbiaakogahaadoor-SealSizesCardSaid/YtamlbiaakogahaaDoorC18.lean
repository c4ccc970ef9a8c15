/- Contracts of functions by the evaluator (C18). -/
import Derived.Test.YtamlbiaakogahaaDoorC7
import Derived.Test.YtamlbiaakogahaaDoorSp1
import Derived.Test.YtamlbiaakogahaaDoorProg
namespace Go.Proofs.YtamlbiaakogahaaDoor
open Go Go.Mo
noncomputable section
def sp_whole : List V → Option V
  | [.a [.b8 12 n]] => some (.a [.b8 16 (wholeL n)])
  | _ => none
theorem e_whole (G : Gl) (hG : DB G) : EntryOk G Tryd.prog 83 (pureSp sp_whole) := by
  refine entry_pure (Go.Mo.enters_of Tryd.func83 (by kernel_rfl)) ?_
  intro args v h π vargs ha fresh m
  unfold sp_whole at h
  split at h
  · rename_i n
    cases h
    obtain ⟨m0, m1, m2, m3, m4, m5, m6, m7, m8, m9, m10, m11, rfl⟩ := list12 (args_b8 ha)
    exact fitsP (K := K_For) (obs := []) ((good_For G hG).good mixed) 60 _ [] Tryd.func83 (by kernel_rfl) (by intro p hp; cases hp) (by kernel_rfl) rfl rfl fresh m
  · cases h
def E_whole : List (Nat × Mo.Spec) := (83, pureSp sp_whole) :: E_For
def K_whole : Cx := cxOf Tryd.prog E_whole
theorem good_whole (G : Gl) (hG : DB G) : EnvL G Tryd.prog E_whole := .cons (e_whole G hG) (good_For G hG)
def sp_Bottom : List V → Option V
  | [.a [.b8 12 n]] => some (.s (.si (botI n)))
  | _ => none
theorem e_Bottom (G : Gl) (hG : DB G) : EntryOk G Tryd.prog 37 (pureSp sp_Bottom) := by
  refine entry_pure (Go.Mo.enters_of Tryd.func37 (by kernel_rfl)) ?_
  intro args v h π vargs ha fresh m
  unfold sp_Bottom at h
  split at h
  · rename_i n
    cases h
    exact fitsP (K := K_whole) (obs := []) ((good_whole G hG).good mixed) 60 _ [] Tryd.func37 (by kernel_rfl) (by intro p hp; cases hp) (by kernel_rfl) rfl rfl fresh m
  · cases h
def E_Bottom : List (Nat × Mo.Spec) := (37, pureSp sp_Bottom) :: E_whole
def K_Bottom : Cx := cxOf Tryd.prog E_Bottom
theorem good_Bottom (G : Gl) (hG : DB G) : EnvL G Tryd.prog E_Bottom := .cons (e_Bottom G hG) (good_whole G hG)
def sp_Stretch : List V → Option V
  | [.a [.b8 16 b]] => some (.a [.b8 24 (strL b)])
  | _ => none
theorem e_Stretch (G : Gl) (hG : DB G) : EntryOk G Tryd.prog 43 (pureSp sp_Stretch) := by
  refine entry_pure (Go.Mo.enters_of Tryd.func43 (by kernel_rfl)) ?_
  intro args v h π vargs ha fresh m
  unfold sp_Stretch at h
  split at h
  · rename_i b
    cases h
    obtain ⟨k0, k1, k2, k3, k4, k5, k6, k7, k8, k9, k10, k11, k12, k13, k14, k15, rfl⟩ := list16 (args_b8 ha)
    exact fitsP (K := K_Bottom) (obs := []) ((good_Bottom G hG).good mixed) 60 _ [] Tryd.func43 (by kernel_rfl) (by intro p hp; cases hp) (by kernel_rfl) rfl rfl fresh m
  · cases h
def E_Stretch : List (Nat × Mo.Spec) := (43, pureSp sp_Stretch) :: E_Bottom
def K_Stretch : Cx := cxOf Tryd.prog E_Stretch
theorem good_Stretch (G : Gl) (hG : DB G) : EnvL G Tryd.prog E_Stretch := .cons (e_Stretch G hG) (good_Bottom G hG)

/-! block.Shift: a number from 0 to 64 is taken for granted. -/
noncomputable abbrev bsF := Tryd.f84
def bsf (l : List B8) (k : Nat) : Option (V × List (Bool × Bool) × List (Option Blk)) := evalE K_Stretch 60 bsF [.a [.b8 24 l], .s (.si (.ofNat k))] [] [] []
def bsg (l : List B8) (k : Nat) : Option (V × List (Bool × Bool) × List (Option Blk)) := some (.a [.b8 16 (shF l (.ofNat k))], [], [])
theorem l_bS_0 (l : List B8) : tabL (fun j => bsf l (0 + j)) 5 = tabR (fun j => bsg l (0 + j)) 5 := by kernel_rfl
theorem l_bS_1 (l : List B8) : tabL (fun j => bsf l (5 + j)) 5 = tabR (fun j => bsg l (5 + j)) 5 := by kernel_rfl
theorem l_bS_2 (l : List B8) : tabL (fun j => bsf l (10 + j)) 5 = tabR (fun j => bsg l (10 + j)) 5 := by kernel_rfl
theorem l_bS_3 (l : List B8) : tabL (fun j => bsf l (15 + j)) 5 = tabR (fun j => bsg l (15 + j)) 5 := by kernel_rfl
theorem l_bS_4 (l : List B8) : tabL (fun j => bsf l (20 + j)) 5 = tabR (fun j => bsg l (20 + j)) 5 := by kernel_rfl
theorem l_bS_5 (l : List B8) : tabL (fun j => bsf l (25 + j)) 5 = tabR (fun j => bsg l (25 + j)) 5 := by kernel_rfl
theorem l_bS_6 (l : List B8) : tabL (fun j => bsf l (30 + j)) 5 = tabR (fun j => bsg l (30 + j)) 5 := by kernel_rfl
theorem l_bS_7 (l : List B8) : tabL (fun j => bsf l (35 + j)) 5 = tabR (fun j => bsg l (35 + j)) 5 := by kernel_rfl
theorem l_bS_8 (l : List B8) : tabL (fun j => bsf l (40 + j)) 5 = tabR (fun j => bsg l (40 + j)) 5 := by kernel_rfl
theorem l_bS_9 (l : List B8) : tabL (fun j => bsf l (45 + j)) 5 = tabR (fun j => bsg l (45 + j)) 5 := by kernel_rfl
theorem l_bS_10 (l : List B8) : tabL (fun j => bsf l (50 + j)) 5 = tabR (fun j => bsg l (50 + j)) 5 := by kernel_rfl
theorem l_bS_11 (l : List B8) : tabL (fun j => bsf l (55 + j)) 5 = tabR (fun j => bsg l (55 + j)) 5 := by kernel_rfl
theorem l_bS_12 (l : List B8) : tabL (fun j => bsf l (60 + j)) 5 = tabR (fun j => bsg l (60 + j)) 5 := by kernel_rfl
theorem l_bS (l : List B8) (k : Nat) (h : k < 65) : bsf l k = bsg l k := by
  have hc : k / 5 = 0 ∨ k / 5 = 1 ∨ k / 5 = 2 ∨ k / 5 = 3 ∨ k / 5 = 4 ∨ k / 5 = 5 ∨ k / 5 = 6 ∨ k / 5 = 7 ∨ k / 5 = 8 ∨ k / 5 = 9 ∨ k / 5 = 10 ∨ k / 5 = 11 ∨ k / 5 = 12 := by omega
  rcases hc with h | h | h | h | h | h | h | h | h | h | h | h | h
  · have := tab_all (l_bS_0 l) (k - 0) (by omega)
    simp only [show 0 + (k - 0) = k by omega] at this
    exact this
  · have := tab_all (l_bS_1 l) (k - 5) (by omega)
    simp only [show 5 + (k - 5) = k by omega] at this
    exact this
  · have := tab_all (l_bS_2 l) (k - 10) (by omega)
    simp only [show 10 + (k - 10) = k by omega] at this
    exact this
  · have := tab_all (l_bS_3 l) (k - 15) (by omega)
    simp only [show 15 + (k - 15) = k by omega] at this
    exact this
  · have := tab_all (l_bS_4 l) (k - 20) (by omega)
    simp only [show 20 + (k - 20) = k by omega] at this
    exact this
  · have := tab_all (l_bS_5 l) (k - 25) (by omega)
    simp only [show 25 + (k - 25) = k by omega] at this
    exact this
  · have := tab_all (l_bS_6 l) (k - 30) (by omega)
    simp only [show 30 + (k - 30) = k by omega] at this
    exact this
  · have := tab_all (l_bS_7 l) (k - 35) (by omega)
    simp only [show 35 + (k - 35) = k by omega] at this
    exact this
  · have := tab_all (l_bS_8 l) (k - 40) (by omega)
    simp only [show 40 + (k - 40) = k by omega] at this
    exact this
  · have := tab_all (l_bS_9 l) (k - 45) (by omega)
    simp only [show 45 + (k - 45) = k by omega] at this
    exact this
  · have := tab_all (l_bS_10 l) (k - 50) (by omega)
    simp only [show 50 + (k - 50) = k by omega] at this
    exact this
  · have := tab_all (l_bS_11 l) (k - 55) (by omega)
    simp only [show 55 + (k - 55) = k by omega] at this
    exact this
  · have := tab_all (l_bS_12 l) (k - 60) (by omega)
    simp only [show 60 + (k - 60) = k by omega] at this
    exact this
def sp_bSh : Mo.Spec := fun args _fresh =>
  match args with
  | [.a [.b8 24 l], .s ix] => (match ixI ix with | some n => .pure (.a [.b8 16 (shF l n)], []) | none => .fail)
  | _ => .fail
def ob_bSh : Ob := fun args =>
  match args with
  | [_, .s ix] => (match ixI ix with | some n => [(decide (0 ≤ n), true), (decide (n ≤ 64), true)] | none => [])
  | _ => []
theorem e_bSh (G : Gl) (hG : DB G) : EntryOkO G Tryd.prog 84 sp_bSh ob_bSh := by
  intro args fresh m v news fp hx ho
  unfold sp_bSh at hx
  split at hx
  · rename_i l ix
    split at hx
    · rename_i n hn
      cases hx
      simp only [ob_bSh, hn] at ho
      have h1 := of_decide_eq_true (ho _ (List.mem_cons_self ..))
      have h2 := of_decide_eq_true (ho _ (List.mem_cons_of_mem _ (List.mem_cons_self ..)))
      refine Fits.args (args' := [.a [.b8 24 l], .s (.si n)]) ?_ fun π vargs ha => argsCv_last (l := [.a [.b8 24 l]]) (fun _ hv => ixI_cv hn hv) ha
      have he : bsf l n.toNat = bsg l n.toNat := l_bS l _ (by omega)
      unfold bsf bsg at he
      rw [show (Int.ofNat n.toNat) = n from Int.toNat_of_nonneg h1] at he
      refine Fits.intro (Go.Mo.enters_of Tryd.func84 (by kernel_rfl)) fun π vargs ha => ?_
      exact fitsM (K := K_Stretch) (obs := []) (v := .a [.b8 16 (shF l n)]) (gsl := []) ((good_Stretch G hG).good mixed) 60 [.a [.b8 24 l], .s (.si n)] [] [] [] Tryd.func84 he (by intro p hp; cases hp) (by kernel_rfl) (fun i => i) sees0 fresh rfl rfl rfl
    · cases hx
  · cases hx
def C_bSh : List (Nat × Mo.Spec × Ob) := [(84, sp_bSh, ob_bSh)]
theorem cond_bSh (G : Gl) (hG : DB G) : CondL G Tryd.prog C_bSh := .cons (e_bSh G hG) .nil
/-! Top: the cipher kept as a name. -/
def spE_Enc (R : List B32 → List B32 → List B8 → List B8) : Mo.Spec := spA_Enc R
def E_Tp (R : List B32 → List B32 → List B8 → List B8) : List (Nat × Mo.Spec) := (69, spA_Enc R) :: E_Stretch
def K_Tp (R : List B32 → List B32 → List B8 → List B8) : Cx := cxOf Tryd.prog (E_Tp R)
theorem good_Tp (G : Gl) (hG : DB G) : EnvL G Tryd.prog (E_Tp (runF 0 1 sb)) := .cons (e_EncP G) (good_Stretch G hG)
theorem l_Top (R : List B32 → List B32 → List B8 → List B8) (p : TP) (m0 m1 m2 m3 m4 m5 m6 m7 m8 m9 m10 m11 : B8) : evalE (K_Tp R) 60 Tryd.f39 [.s (.ptr 0 0), .a [.b8 12 [m0, m1, m2, m3, m4, m5, m6, m7, m8, m9, m10, m11]]] [tabC (.ptr 1 0) p.st p.dl p.bl, ciphC p.kf p.kb p.k p.T] [] [] =
    some (.a [.b8 16 (R p.T p.kf (topL [m0, m1, m2, m3, m4, m5, m6, m7, m8, m9, m10, m11]))], [], []) := by kernel_rfl

def sp_Top : Mo.Spec := fun args _fresh =>
  match args with
  | [.s (.ptr t 0), .a [.b8 12 n]] => rdT t fun _c p => some (.a [.b8 16 (runF 0 1 sb p.T p.kf (topL n))], [])
  | _ => .fail
theorem e_Top (G : Gl) (hG : DB G) : EntryOk G Tryd.prog 39 sp_Top := by
  intro args fresh m v news fp hx
  unfold sp_Top at hx
  split at hx
  · rename_i t n
    obtain ⟨c, p, x, y, h1, h2, h3, h4, hk⟩ := rdT_run hx
    cases hk
    refine Fits.intro (Go.Mo.enters_of Tryd.func39 (by kernel_rfl)) fun π vargs ha => ?_
    obtain ⟨_, hb⟩ := args_tail ha
    obtain ⟨m0, m1, m2, m3, m4, m5, m6, m7, m8, m9, m10, m11, rfl⟩ := list12 (args_b8 hb)
    exact fitsM (K := (K_Tp (runF 0 1 sb))) (obs := []) (v := .a [.b8 16 (runF 0 1 sb p.T p.kf (topL [m0, m1, m2, m3, m4, m5, m6, m7, m8, m9, m10, m11]))]) (gsl := []) ((good_Tp G hG).good mixed) 60 [.s (.ptr 0 0), .a [.b8 12 [m0, m1, m2, m3, m4, m5, m6, m7, m8, m9, m10, m11]]] [tabC (.ptr 1 0) p.st p.dl p.bl, ciphC p.kf p.kb p.k p.T] [] [] Tryd.func39 (l_Top _ _ _ _ _ _ _ _ _ _ _ _ _ _) (by intro p hp; cases hp) (by kernel_rfl) (at2 t c) (seesT h1 h2 h3 h4) fresh rfl rfl rfl
  · cases hx
def E_Top : List (Nat × Mo.Spec) := (39, sp_Top) :: E_Stretch
def K_Top : Cx := cxOf Tryd.prog E_Top
theorem good_Top (G : Gl) (hG : DB G) : EnvL G Tryd.prog E_Top := .cons (e_Top G hG) (good_Stretch G hG)

/-! Start. -/
def spO_Top (R : List B32 → List B32 → List B8 → List B8) (To : List B8 → List B8) : Mo.Spec := fun args _fresh =>
  match args with
  | [.s (.ptr t 0), .a [.b8 12 n]] => rdT t fun _c p => some (.a [.b8 16 (R p.T p.kf (To n))], [])
  | _ => .fail
def spO_Str (S : List B8 → List B8) : List V → Option V
  | [.a [.b8 16 b]] => some (.a [.b8 24 (S b)])
  | _ => none
def spO_Bot (B : List B8 → Int) : List V → Option V
  | [.a [.b8 12 n]] => some (.s (.si (B n)))
  | _ => none
def spO_Sh (H : List B8 → Int → List B8) : Mo.Spec := fun args _fresh =>
  match args with
  | [.a [.b8 24 l], .s ix] => (match ixI ix with | some n => .pure (.a [.b8 16 (H l n)], []) | none => .fail)
  | _ => .fail
section
variable (R : List B32 → List B32 → List B8 → List B8) (To S : List B8 → List B8) (B : List B8 → Int) (H : List B8 → Int → List B8)
def E_St : List (Nat × Mo.Spec) := (39, spO_Top R To) :: (43, pureSp (spO_Str S)) :: (37, pureSp (spO_Bot B)) :: E_Top
def K_St : Cx := cxC Tryd.prog [(84, spO_Sh H, ob_bSh)] (E_St R To S B)
theorem l_Start (p : TP) (n : List B8) : evalE (K_St R To S B H) 60 Tryd.f41 [.s (.ptr 0 0), .a [.b8 12 n]] [tabC (.ptr 1 0) p.st p.dl p.bl, ciphC p.kf p.kb p.k p.T] [] [] =
    some (.a [.b8 16 (H (S (R p.T p.kf (To n))) (B n))], [(decide (0 ≤ B n), true), (decide (B n ≤ 64), true)], []) := by kernel_rfl
end
theorem good_St (G : Gl) (hG : DB G) : Mo.Good G (K_St (runF 0 1 sb) topL strL botI shF) :=
  (CondL.cons (show EntryOkO G Tryd.prog _ sp_bSh ob_bSh from e_bSh G hG) .nil).good
    (.cons (show EntryOk G Tryd.prog _ sp_Top from e_Top G hG) (.cons (show EntryOk G Tryd.prog _ (pureSp sp_Stretch) from e_Stretch G hG) (.cons (show EntryOk G Tryd.prog _ (pureSp sp_Bottom) from e_Bottom G hG) (good_Top G hG)))) mixed
theorem botI_range (n : List B8) : 0 ≤ botI n ∧ botI n ≤ 63 := by
  unfold botI
  have : ∀ x : B8, (x &&& 63).toNat ≤ 63 := fun x => by
    rw [BitVec.toNat_and]
    exact Nat.and_le_right
  have := this (nth 0 n 11)
  omega
theorem bot_ok (n : List B8) : ObsOk [(decide (0 ≤ botI n), true), (decide (botI n ≤ 64), true)] := by
  have := botI_range n
  intro q hq
  simp only [List.mem_cons, List.not_mem_nil, or_false] at hq
  rcases hq with rfl | rfl
  · exact decide_eq_true this.1
  · exact decide_eq_true (Int.le_trans this.2 (by omega))

def sp_Start : Mo.Spec := fun args _fresh =>
  match args with
  | [.s (.ptr t 0), .a [.b8 12 n]] => rdT t fun _c p => some (.a [.b8 16 (shF (strL (runF 0 1 sb p.T p.kf (topL n))) (botI n))], [])
  | _ => .fail
theorem e_Start (G : Gl) (hG : DB G) : EntryOk G Tryd.prog 41 sp_Start := by
  intro args fresh m v news fp hx
  unfold sp_Start at hx
  split at hx
  · rename_i t n
    obtain ⟨c, p, x, y, h1, h2, h3, h4, hk⟩ := rdT_run hx
    cases hk
    refine Fits.intro (Go.Mo.enters_of Tryd.func41 (by kernel_rfl)) fun π vargs ha => ?_
    exact fitsM (K := (K_St (runF 0 1 sb) topL strL botI shF)) (obs := [(decide (0 ≤ botI n), true), (decide (botI n ≤ 64), true)]) (v := .a [.b8 16 (shF (strL (runF 0 1 sb p.T p.kf (topL n))) (botI n))]) (gsl := []) (good_St G hG) 60 [.s (.ptr 0 0), .a [.b8 12 n]] [tabC (.ptr 1 0) p.st p.dl p.bl, ciphC p.kf p.kb p.k p.T] [] [] Tryd.func41 (l_Start _ _ _ _ _ _ _) (bot_ok n) (by kernel_rfl) (at2 t c) (seesT h1 h2 h3 h4) fresh rfl rfl rfl
  · cases hx
def E_Start : List (Nat × Mo.Spec) := (41, sp_Start) :: E_Top
def K_Start : Cx := cxOf Tryd.prog E_Start
theorem good_Start (G : Gl) (hG : DB G) : EnvL G Tryd.prog E_Start := .cons (e_Start G hG) (good_Top G hG)
def sp_ONext : Mo.Spec := fun args _fresh =>
  match args with
  | [.s (.ptr t 0), .a [.b8 16 l], .s (.b64 i)] => rdT t fun _c p => some (.a [.b8 16 (xorL l (atL p.bl (tzI i)))], [])
  | _ => .fail
theorem e_ONext (G : Gl) (hG : DB G) : EntryOk G Tryd.prog 47 sp_ONext := by
  intro args fresh m v news fp hx
  unfold sp_ONext at hx
  split at hx
  · rename_i t l i
    obtain ⟨c, p, x, y, h1, h2, h3, h4, hk⟩ := rdT_run hx
    cases hk
    refine Fits.intro (Go.Mo.enters_of Tryd.func47 (by kernel_rfl)) fun π vargs ha => ?_
    exact fitsM (K := K_Start) (obs := []) (v := .a [.b8 16 (xorL l (atL p.bl (tzI i)))]) (gsl := []) ((good_Start G hG).good mixed) 60 [.s (.ptr 0 0), .a [.b8 16 l], .s (.b64 i)] [tabC (.ptr 1 0) p.st p.dl p.bl, ciphC p.kf p.kb p.k p.T] [] [] Tryd.func47 (by kernel_rfl) (by intro p hp; cases hp) (by kernel_rfl) (at2 t c) (seesT h1 h2 h3 h4) fresh rfl rfl rfl
  · cases hx
def E_ONext : List (Nat × Mo.Spec) := (47, sp_ONext) :: E_Start
def K_ONext : Cx := cxOf Tryd.prog E_ONext
theorem good_ONext (G : Gl) (hG : DB G) : EnvL G Tryd.prog E_ONext := .cons (e_ONext G hG) (good_Start G hG)
end
end Go.Proofs.YtamlbiaakogahaaDoor
