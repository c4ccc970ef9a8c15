/- Contracts of functions by the evaluator (C9). -/
import Derived.Test.YtamlbiaakogahaaDoorC8
import Derived.Test.YtamlbiaakogahaaDoorSp6
import Derived.Test.YtamlbiaakogahaaDoorProg
namespace Go.Proofs.YtamlbiaakogahaaDoor
open Go Go.Mo
noncomputable section
def sp_Affine : List V → Option V
  | [.s (.b8 b)] => some (.s (.b8 (affR b)))
  | _ => none
theorem e_Affine (G : Gl) : EntryOk G Tryd.prog 108 (pureSp sp_Affine) := by
  refine entry_pure (Go.Mo.enters_of Tryd.func108 (by kernel_rfl)) ?_
  intro args v h π vargs ha fresh m
  unfold sp_Affine at h
  split at h
  · rename_i b
    cases h
    exact fitsP (K := K_Mul) (obs := []) ((good_Mul G).good mixed) 60 _ [] Tryd.func108 (by kernel_rfl) (by intro p hp; cases hp) (by kernel_rfl) rfl rfl fresh m
  · cases h
def E_Affine : List (Nat × Mo.Spec) := (108, pureSp sp_Affine) :: E_Mul
def K_Affine : Cx := cxOf Tryd.prog E_Affine
theorem good_Affine (G : Gl) : EnvL G Tryd.prog E_Affine := .cons (e_Affine G) (good_Mul G)
def sp_RPower : List V → Option V
  | [.s (.b8 a), .s (.i .i64 (.ofNat n))] => bif Nat.blt n 10 then some (.s (.b8 (powR a n))) else none
  | _ => none
theorem l_RPower (a : B8) (n : Nat) (h : n < 10) : evalE K_Affine 60 Tryd.f123 [.s (.b8 a), .s (.i .i64 (.ofNat n))] [] [] [] = some (.s (.b8 (powR a n)), [], []) :=
  tab_all (f := fun n => evalE K_Affine 60 Tryd.f123 [.s (.b8 a), .s (.i .i64 (.ofNat n))] [] [] []) (g := fun n => some (.s (.b8 (powR a n)), [], [])) (N := 10) (by kernel_rfl) n h
theorem e_RPower (G : Gl) : EntryOk G Tryd.prog 123 (pureSp sp_RPower) := by
  refine entry_pure (Go.Mo.enters_of Tryd.func123 (by kernel_rfl)) ?_
  intro args v h π vargs ha fresh m
  unfold sp_RPower at h
  split at h
  · rename_i a n
    cases hc : Nat.blt n 10 <;> simp only [hc, cond_true, cond_false] at h
    · cases h
    cases h
    exact fitsP (K := K_Affine) (obs := []) ((good_Affine G).good mixed) 60 _ [] Tryd.func123 (l_RPower _ _ (Nat.le_of_ble_eq_true hc)) (by intro p hp; cases hp) (by kernel_rfl) rfl rfl fresh m
  · cases h
def E_RPower : List (Nat × Mo.Spec) := (123, pureSp sp_RPower) :: E_Affine
def K_RPower : Cx := cxOf Tryd.prog E_RPower
theorem good_RPower (G : Gl) : EnvL G Tryd.prog E_RPower := .cons (e_RPower G) (good_Affine G)

/-! Table: the products and the affine values as looked up. -/
def spT_Mul : List V → Option V
  | [.s (.b8 a), .s (.b8 b)] => bif Nat.beq b.toNat 3 then some (.s (.b8 (mul3 a))) else none
  | _ => none
def spT_Aff : List V → Option V
  | [.s (.b8 a)] => some (.s (.b8 (aff a)))
  | _ => none
theorem eT_Mul (G : Gl) : EntryOk G Tryd.prog 107 (pureSp spT_Mul) := by
  intro args fresh m v news fp hx
  refine e_Mul G args fresh m v news fp ?_
  unfold pureSp spT_Mul at hx
  split at hx
  · rename_i v' hv
    split at hv
    · rename_i a b
      cases hc : Nat.beq b.toNat 3 <;> simp only [hc, cond_true, cond_false] at hv
      · cases hv
      · cases hv
        have hb : b = 3 := BitVec.eq_of_toNat_eq (Nat.eq_of_beq_eq_true hc)
        subst hb
        show Rd.run m (Rd.pure (V.s (Sc.b8 (mulR a 3)), ([] : List (List Seg)))) = _
        rw [mulR3]; exact hx
    · cases hv
  · cases hx
theorem eT_Aff (G : Gl) : EntryOk G Tryd.prog 108 (pureSp spT_Aff) := by
  intro args fresh m v news fp hx
  refine e_Affine G args fresh m v news fp ?_
  unfold pureSp spT_Aff at hx
  split at hx
  · rename_i v' hv
    split at hv
    · rename_i a
      cases hv
      show Rd.run m (Rd.pure (V.s (Sc.b8 (affR a)), ([] : List (List Seg)))) = _
      rw [affR_eq]; exact hx
    · cases hv
  · cases hx
def E_Tab : List (Nat × Mo.Spec) := (107, pureSp spT_Mul) :: (108, pureSp spT_Aff) :: E_RPower
def K_Tab : Cx := cxOf Tryd.prog E_Tab
theorem good_Tab (G : Gl) : EnvL G Tryd.prog E_Tab := .cons (eT_Mul G) (.cons (eT_Aff G) (good_RPower G))
noncomputable abbrev tF := Tryd.f77
noncomputable abbrev tL := tl 3 (bodyOf tF)
def tM (n : Nat) : List (Option Blk) := [some ⟨[.b8 256 (List.replicate 256 0)], true⟩, some ⟨[.b8 256 (upL pw n 0 ++ List.replicate (256 - n) 0)], true⟩]
def t0 : St := init tF [] [] []
def tA : St := stO (runHeads K_Tab 300 3 (bodyOf tF) t0)
def tfr : Fr := frAfter K_Tab 300 (cB tL) tA
def tS : Nat → St
  | 0 => ⟨tfr, tF.ntmps, tM 0, [], []⟩
  | j + 1 => ⟨frAfter K_Tab 300 (cL tL) ⟨(tfr.set 3 (.s (.i .i64 (.ofNat (j * 8 + 7))))).set 2 (.s (.b8 (pw (j * 8 + 7)))), tF.ntmps, tM (j * 8 + 7), [], []⟩, tF.ntmps, tM (j * 8 + 8), [], []⟩
theorem tstep (j : Nat) (h : j < 32) : runK (acode K_Tab 300 (cL tL)) 8 (tS j) = some (tS (j + 1)) :=
  tab_all (f := fun j => runK (acode K_Tab 300 (cL tL)) 8 (tS j)) (g := fun j => some (tS (j + 1))) (N := 32) (by kernel_rfl) j h
def tE : St := stOf (acode K_Tab 300 (cL tL) (tS 32))
theorem tcut1 : runHeads K_Tab 300 3 (bodyOf tF) t0 = some tA := by kernel_rfl
theorem tcut2 : tL = .seq (.seq (cB tL) (.block 0 (.loop (cL tL)))) (cT tL) := by kernel_rfl
theorem tcut3 : acode K_Tab 300 (cB tL) tA = some (.normal, tS 0) := by kernel_rfl
theorem tcut4 : acode K_Tab 300 (cL tL) (tS 32) = some (.exit 0, tE) := by kernel_rfl
theorem tcut : acode K_Tab 300 (bodyOf tF) t0 = acode K_Tab 300 (cT tL) tE :=
  (acode_heads 3 tcut1).trans (acode_cut (k := 8) (J := 32) (n := 43) tcut2 tcut3 tstep (by kernel_rfl) tcut4)
/- the second loop -/
noncomputable abbrev uL := tl 2 (cT tL)
def uM (n : Nat) : List (Option Blk) := [some ⟨[.b8 256 (List.replicate 256 0)], true⟩, some ⟨[.b8 256 pwL], true⟩, some ⟨[.b8 256 (outT n)], true⟩]
def uA : St := stO (runHeads K_Tab 300 2 (cT tL) tE)
def ufr : Fr := frAfter K_Tab 300 (cB uL) uA
def uS : Nat → St
  | 0 => ⟨ufr, tF.ntmps, uM 0, [], []⟩
  | j + 1 => ⟨frAfter K_Tab 300 (cL uL) ⟨ufr.set 5 (.s (.i .i64 (.ofNat (j * 5 + 4)))), tF.ntmps, uM (j * 5 + 4), [], []⟩, tF.ntmps, uM (j * 5 + 5), [], []⟩
theorem ustep (j : Nat) (h : j < 51) : runK (acode K_Tab 300 (cL uL)) 5 (uS j) = some (uS (j + 1)) :=
  tab_all (f := fun j => runK (acode K_Tab 300 (cL uL)) 5 (uS j)) (g := fun j => some (uS (j + 1))) (N := 51) (by kernel_rfl) j h
def uE : St := stOf (acode K_Tab 300 (cL uL) (uS 51))
theorem ucut1 : runHeads K_Tab 300 2 (cT tL) tE = some uA := by kernel_rfl
theorem ucut2 : uL = .seq (.seq (cB uL) (.block 2 (.loop (cL uL)))) (cT uL) := by kernel_rfl
theorem ucut3 : acode K_Tab 300 (cB uL) uA = some (.normal, uS 0) := by kernel_rfl
theorem ucut4 : acode K_Tab 300 (cL uL) (uS 51) = some (.exit 2, uE) := by kernel_rfl
theorem ucut : acode K_Tab 300 (cT tL) tE = acode K_Tab 300 (cT uL) uE :=
  (acode_heads 2 ucut1).trans (acode_cut (k := 5) (J := 51) (n := 44) ucut2 ucut3 ustep (by kernel_rfl) ucut4)
theorem l_Table : evalE K_Tab 300 tF [] [] [] [] = some (.a [.b8 256 (outT 255)], [], []) := by
  rw [evalE_end (c := bodyOf tF) (by kernel_rfl)]
  show endOf K_Tab tF [] (acode K_Tab 300 (bodyOf tF) t0) = _
  rw [tcut, ucut]
  kernel_rfl

def sp_RTable : Mo.Spec := fun args _fresh =>
  match args with
  | [] => .pure (.a [.b8 256 sboxL], [])
  | _ => .fail
theorem e_RTable (G : Gl) : EntryOk G Tryd.prog 77 sp_RTable := by
  intro args fresh m v news fp hx
  unfold sp_RTable at hx
  split at hx
  · cases hx
    refine Fits.intro (Go.Mo.enters_of Tryd.func77 (by kernel_rfl)) fun π vargs ha => ?_
    exact fitsM (K := K_Tab) (obs := []) (v := .a [.b8 256 sboxL]) (gsl := []) ((good_Tab G).good mixed) 300 [] [] [] [] Tryd.func77 (by rw [l_Table, outT_255]; rfl) (by intro p hp; cases hp) (by kernel_rfl) (fun i => i) sees0 fresh (by kernel_rfl) (by kernel_rfl) (by kernel_rfl)
  · cases hx
def E_RTable : List (Nat × Mo.Spec) := (77, sp_RTable) :: E_RPower
def K_RTable : Cx := cxOf Tryd.prog E_RTable
theorem good_RTable (G : Gl) : EnvL G Tryd.prog E_RTable := .cons (e_RTable G) (good_RPower G)
end
end Go.Proofs.YtamlbiaakogahaaDoor
