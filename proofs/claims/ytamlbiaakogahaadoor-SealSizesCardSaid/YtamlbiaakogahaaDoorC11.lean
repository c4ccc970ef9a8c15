/- Contracts of functions by the evaluator (C8). -/
import Derived.Test.YtamlbiaakogahaaDoorCS
import Derived.Test.YtamlbiaakogahaaDoorSp1
import Derived.Test.YtamlbiaakogahaaDoorProg

namespace Go.Proofs.YtamlbiaakogahaaDoor
open Go Go.Mo
noncomputable section
noncomputable abbrev mF := Tryd.f107
noncomputable abbrev mK : Cx := K_0
noncomputable abbrev mL := tl 2 (bodyOf mF)
def mM (P : List Int) : List (Option Blk) := [some ⟨[.is 15 P], true⟩]
def m0 (a b : B8) (o : List (Option Bool)) : St := init mF [.s (.b8 a), .s (.b8 b)] [] o
def mA (a b : B8) (o : List (Option Bool)) : St := stO (runHeads mK 60 2 (bodyOf mF) (m0 a b o))
def mfr (a b : B8) (o : List (Option Bool)) : Fr := frAfter mK 60 (cB mL) (mA a b o)
def mS (a b : B8) (o : List (Option Bool)) : Nat → St
  | 0 => ⟨mfr a b o, mF.ntmps, mM (p1 a b 0), o, []⟩
  | j + 1 => ⟨frAfter mK 60 (cL mL) ⟨(mfr a b o).set 6 (.s (.i .i64 (.ofNat j))), mF.ntmps, mM (p1 a b j), o, []⟩, mF.ntmps, mM (p1 a b (j + 1)), o, []⟩
theorem mstep (a b : B8) (o : List (Option Bool)) (j : Nat) (h : j < 8) : runK (acode mK 60 (cL mL)) 1 (mS a b o j) = some (mS a b o (j + 1)) :=
  tab_all (f := fun j => runK (acode mK 60 (cL mL)) 1 (mS a b o j)) (g := fun j => some (mS a b o (j + 1))) (N := 8) (by kernel_rfl) j h
def mfrE (a b : B8) (o : List (Option Bool)) : Fr := (stOf (acode mK 60 (cL mL) (mS a b o 8))).fr
theorem mcut1 (a b : B8) (o : List (Option Bool)) : runHeads mK 60 2 (bodyOf mF) (m0 a b o) = some (mA a b o) := by kernel_rfl
theorem mcut2 : mL = .seq (.seq (cB mL) (.block 0 (.loop (cL mL)))) (cT mL) := by kernel_rfl
theorem mcut3 (a b : B8) (o : List (Option Bool)) : acode mK 60 (cB mL) (mA a b o) = some (.normal, mS a b o 0) := by kernel_rfl
theorem mcut4 (a b : B8) (o : List (Option Bool)) : acode mK 60 (cL mL) (mS a b o 8) = some (.exit 0, ⟨mfrE a b o, mF.ntmps, mM (p1 a b 8), o, []⟩) := by kernel_rfl
theorem mcut (a b : B8) (o : List (Option Bool)) : acode mK 60 (bodyOf mF) (m0 a b o) = acode mK 60 (cT mL) ⟨mfrE a b o, mF.ntmps, mM (p1 a b 8), o, []⟩ :=
  (acode_heads 2 (mcut1 a b o)).trans (acode_cut (k := 1) (J := 8) (n := 51) mcut2 (mcut3 a b o) (mstep a b o) (by kernel_rfl) (mcut4 a b o))
def mf (a b : B8) (o : List (Option Bool)) (P : List Int) (n : Nat) : Option (V × List (Bool × Bool) × List (Option Blk)) := endOf mK mF [] (acode mK 60 (cT mL) ⟨mfrE a b o, mF.ntmps, mM P, orcN n, []⟩)
def mg (P : List Int) (n : Nat) : Option (V × List (Bool × Bool) × List (Option Blk)) := some (.s (.b8 (finM (redN P n 7))), obsN P n 7, [])
theorem mB0 (a b : B8) (o : List (Option Bool)) (P : List Int) : tabL (mf a b o P) 128 = tabR (mg P) 128 := by kernel_rfl
theorem mB (a b : B8) (o : List (Option Bool)) (P : List Int) (n : Nat) (h : n < 128) : mf a b o P n = mg P n := tab_all (mB0 a b o P) n h
theorem l_Mul (a b : B8) : ∃ orc obs, evalE mK 60 mF [.s (.b8 a), .s (.b8 b)] [] orc [] = some (.s (.b8 (mulR a b)), obs, []) ∧ ObsOk obs := by
  obtain ⟨n, hn, e, ho⟩ := redN_true (p1 a b 8)
  refine ⟨orcN n, obsN (p1 a b 8) n 7, ?_, ho⟩
  rw [evalE_end (c := bodyOf mF) (by kernel_rfl)]
  show endOf mK mF [] (acode mK 60 (bodyOf mF) (m0 a b (orcN n))) = _
  rw [mcut]
  show mf a b (orcN n) (p1 a b 8) n = _
  rw [mB a b (orcN n) (p1 a b 8) n hn]
  unfold mg
  rw [e]
  rfl
def sp_Mul : List V → Option V
  | [.s (.b8 a), .s (.b8 b)] => some (.s (.b8 (mulR a b)))
  | _ => none
theorem e_Mul (G : Gl) : EntryOk G Tryd.prog 107 (pureSp sp_Mul) := by
  refine entry_pure (Go.Mo.enters_of Tryd.func107 (by kernel_rfl)) ?_
  intro args v h π vargs ha fresh m
  unfold sp_Mul at h
  split at h
  · rename_i a b
    cases h
    obtain ⟨orc, obs, he, ho⟩ := l_Mul a b
    exact fitsP (K := K_0) (obs := obs) ((good_0 G).good mixed) 60 _ orc Tryd.func107 he ho (by kernel_rfl) rfl rfl fresh m
  · cases h
def E_Mul : List (Nat × Mo.Spec) := (107, pureSp sp_Mul) :: E_0
def K_Mul : Cx := cxOf Tryd.prog E_Mul
theorem good_Mul (G : Gl) : EnvL G Tryd.prog E_Mul := .cons (e_Mul G) (good_0 G)
end
end Go.Proofs.YtamlbiaakogahaaDoor


namespace Go.Proofs.YtamlbiaakogahaaDoor
open Go Go.Mo
noncomputable section
def sp_Affine : List V → Option V
  | [.s (.b8 b)] => some (.s (.b8 (affR b)))
  | _ => none
theorem e_Affine (G : Gl) : EntryOk G Tryd.prog 108 (pureSp sp_Affine) := by
  refine entry_pure (Go.Mo.enters_of Tryd.func108 (by kernel_rfl)) ?_
  intro args v h π vargs ha fresh m
  unfold sp_Affine at h
  split at h
  · rename_i b
    cases h
    exact fitsP (K := K_Mul) (obs := []) ((good_Mul G).good mixed) 60 _ [] Tryd.func108 (by kernel_rfl) (by intro p hp; cases hp) (by kernel_rfl) rfl rfl fresh m
  · cases h
def E_Affine : List (Nat × Mo.Spec) := (108, pureSp sp_Affine) :: E_Mul
def K_Affine : Cx := cxOf Tryd.prog E_Affine
theorem good_Affine (G : Gl) : EnvL G Tryd.prog E_Affine := .cons (e_Affine G) (good_Mul G)
def sp_RPower : List V → Option V
  | [.s (.b8 a), .s (.i .i64 (.ofNat n))] => bif Nat.blt n 10 then some (.s (.b8 (powR a n))) else none
  | _ => none
theorem l_RPower (a : B8) (n : Nat) (h : n < 10) : evalE K_Affine 60 Tryd.f123 [.s (.b8 a), .s (.i .i64 (.ofNat n))] [] [] [] = some (.s (.b8 (powR a n)), [], []) :=
  tab_all (f := fun n => evalE K_Affine 60 Tryd.f123 [.s (.b8 a), .s (.i .i64 (.ofNat n))] [] [] []) (g := fun n => some (.s (.b8 (powR a n)), [], [])) (N := 10) (by kernel_rfl) n h
theorem e_RPower (G : Gl) : EntryOk G Tryd.prog 123 (pureSp sp_RPower) := by
  refine entry_pure (Go.Mo.enters_of Tryd.func123 (by kernel_rfl)) ?_
  intro args v h π vargs ha fresh m
  unfold sp_RPower at h
  split at h
  · rename_i a n
    cases hc : Nat.blt n 10 <;> simp only [hc, cond_true, cond_false] at h
    · cases h
    cases h
    exact fitsP (K := K_Affine) (obs := []) ((good_Affine G).good mixed) 60 _ [] Tryd.func123 (l_RPower _ _ (Nat.le_of_ble_eq_true hc)) (by intro p hp; cases hp) (by kernel_rfl) rfl rfl fresh m
  · cases h
def E_RPower : List (Nat × Mo.Spec) := (123, pureSp sp_RPower) :: E_Affine
def K_RPower : Cx := cxOf Tryd.prog E_RPower
theorem good_RPower (G : Gl) : EnvL G Tryd.prog E_RPower := .cons (e_RPower G) (good_Affine G)

/-! Table: the products and the affine values as looked up. -/
def spT_Mul : List V → Option V
  | [.s (.b8 a), .s (.b8 b)] => bif Nat.beq b.toNat 3 then some (.s (.b8 (mul3 a))) else none
  | _ => none
def spT_Aff : List V → Option V
  | [.s (.b8 a)] => some (.s (.b8 (aff a)))
  | _ => none
theorem eT_Mul (G : Gl) : EntryOk G Tryd.prog 107 (pureSp spT_Mul) := by
  intro args fresh m v news fp hx
  refine e_Mul G args fresh m v news fp ?_
  unfold pureSp spT_Mul at hx
  split at hx
  · rename_i v' hv
    split at hv
    · rename_i a b
      cases hc : Nat.beq b.toNat 3 <;> simp only [hc, cond_true, cond_false] at hv
      · cases hv
      · cases hv
        have hb : b = 3 := BitVec.eq_of_toNat_eq (Nat.eq_of_beq_eq_true hc)
        subst hb
        show Rd.run m (Rd.pure (V.s (Sc.b8 (mulR a 3)), ([] : List (List Seg)))) = _
        rw [mulR3]; exact hx
    · cases hv
  · cases hx
theorem eT_Aff (G : Gl) : EntryOk G Tryd.prog 108 (pureSp spT_Aff) := by
  intro args fresh m v news fp hx
  refine e_Affine G args fresh m v news fp ?_
  unfold pureSp spT_Aff at hx
  split at hx
  · rename_i v' hv
    split at hv
    · rename_i a
      cases hv
      show Rd.run m (Rd.pure (V.s (Sc.b8 (affR a)), ([] : List (List Seg)))) = _
      rw [affR_eq]; exact hx
    · cases hv
  · cases hx
def E_Tab : List (Nat × Mo.Spec) := (107, pureSp spT_Mul) :: (108, pureSp spT_Aff) :: E_RPower
def K_Tab : Cx := cxOf Tryd.prog E_Tab
theorem good_Tab (G : Gl) : EnvL G Tryd.prog E_Tab := .cons (eT_Mul G) (.cons (eT_Aff G) (good_RPower G))
noncomputable abbrev tF := Tryd.f77
noncomputable abbrev tL := tl 3 (bodyOf tF)
def tM (n : Nat) : List (Option Blk) := [some ⟨[.b8 256 (List.replicate 256 0)], true⟩, some ⟨[.b8 256 (upL pw n 0 ++ List.replicate (256 - n) 0)], true⟩]
def t0 : St := init tF [] [] []
def tA : St := stO (runHeads K_Tab 300 3 (bodyOf tF) t0)
def tfr : Fr := frAfter K_Tab 300 (cB tL) tA
def tS : Nat → St
  | 0 => ⟨tfr, tF.ntmps, tM 0, [], []⟩
  | j + 1 => ⟨frAfter K_Tab 300 (cL tL) ⟨(tfr.set 3 (.s (.i .i64 (.ofNat (j * 8 + 7))))).set 2 (.s (.b8 (pw (j * 8 + 7)))), tF.ntmps, tM (j * 8 + 7), [], []⟩, tF.ntmps, tM (j * 8 + 8), [], []⟩
theorem tstep (j : Nat) (h : j < 32) : runK (acode K_Tab 300 (cL tL)) 8 (tS j) = some (tS (j + 1)) :=
  tab_all (f := fun j => runK (acode K_Tab 300 (cL tL)) 8 (tS j)) (g := fun j => some (tS (j + 1))) (N := 32) (by kernel_rfl) j h
def tE : St := stOf (acode K_Tab 300 (cL tL) (tS 32))
theorem tcut1 : runHeads K_Tab 300 3 (bodyOf tF) t0 = some tA := by kernel_rfl
theorem tcut2 : tL = .seq (.seq (cB tL) (.block 0 (.loop (cL tL)))) (cT tL) := by kernel_rfl
theorem tcut3 : acode K_Tab 300 (cB tL) tA = some (.normal, tS 0) := by kernel_rfl
theorem tcut4 : acode K_Tab 300 (cL tL) (tS 32) = some (.exit 0, tE) := by kernel_rfl
theorem tcut : acode K_Tab 300 (bodyOf tF) t0 = acode K_Tab 300 (cT tL) tE :=
  (acode_heads 3 tcut1).trans (acode_cut (k := 8) (J := 32) (n := 43) tcut2 tcut3 tstep (by kernel_rfl) tcut4)
/- the second loop -/
noncomputable abbrev uL := tl 2 (cT tL)
def uM (n : Nat) : List (Option Blk) := [some ⟨[.b8 256 (List.replicate 256 0)], true⟩, some ⟨[.b8 256 pwL], true⟩, some ⟨[.b8 256 (outT n)], true⟩]
def uA : St := stO (runHeads K_Tab 300 2 (cT tL) tE)
def ufr : Fr := frAfter K_Tab 300 (cB uL) uA
def uS : Nat → St
  | 0 => ⟨ufr, tF.ntmps, uM 0, [], []⟩
  | j + 1 => ⟨frAfter K_Tab 300 (cL uL) ⟨ufr.set 5 (.s (.i .i64 (.ofNat (j * 5 + 4)))), tF.ntmps, uM (j * 5 + 4), [], []⟩, tF.ntmps, uM (j * 5 + 5), [], []⟩
theorem ustep (j : Nat) (h : j < 51) : runK (acode K_Tab 300 (cL uL)) 5 (uS j) = some (uS (j + 1)) :=
  tab_all (f := fun j => runK (acode K_Tab 300 (cL uL)) 5 (uS j)) (g := fun j => some (uS (j + 1))) (N := 51) (by kernel_rfl) j h
def uE : St := stOf (acode K_Tab 300 (cL uL) (uS 51))
theorem ucut1 : runHeads K_Tab 300 2 (cT tL) tE = some uA := by kernel_rfl
theorem ucut2 : uL = .seq (.seq (cB uL) (.block 2 (.loop (cL uL)))) (cT uL) := by kernel_rfl
theorem ucut3 : acode K_Tab 300 (cB uL) uA = some (.normal, uS 0) := by kernel_rfl
theorem ucut4 : acode K_Tab 300 (cL uL) (uS 51) = some (.exit 2, uE) := by kernel_rfl
theorem ucut : acode K_Tab 300 (cT tL) tE = acode K_Tab 300 (cT uL) uE :=
  (acode_heads 2 ucut1).trans (acode_cut (k := 5) (J := 51) (n := 44) ucut2 ucut3 ustep (by kernel_rfl) ucut4)
theorem l_Table : evalE K_Tab 300 tF [] [] [] [] = some (.a [.b8 256 (outT 255)], [], []) := by
  rw [evalE_end (c := bodyOf tF) (by kernel_rfl)]
  show endOf K_Tab tF [] (acode K_Tab 300 (bodyOf tF) t0) = _
  rw [tcut, ucut]
  kernel_rfl

def sp_RTable : Mo.Spec := fun args _fresh =>
  match args with
  | [] => .pure (.a [.b8 256 sboxL], [])
  | _ => .fail
theorem e_RTable (G : Gl) : EntryOk G Tryd.prog 77 sp_RTable := by
  intro args fresh m v news fp hx
  unfold sp_RTable at hx
  split at hx
  · cases hx
    refine Fits.intro (Go.Mo.enters_of Tryd.func77 (by kernel_rfl)) fun π vargs ha => ?_
    exact fitsM (K := K_Tab) (obs := []) (v := .a [.b8 256 sboxL]) (gsl := []) ((good_Tab G).good mixed) 300 [] [] [] [] Tryd.func77 (by rw [l_Table, outT_255]; rfl) (by intro p hp; cases hp) (by kernel_rfl) (fun i => i) sees0 fresh (by kernel_rfl) (by kernel_rfl) (by kernel_rfl)
  · cases hx
def E_RTable : List (Nat × Mo.Spec) := (77, sp_RTable) :: E_RPower
def K_RTable : Cx := cxOf Tryd.prog E_RTable
theorem good_RTable (G : Gl) : EnvL G Tryd.prog E_RTable := .cons (e_RTable G) (good_RPower G)
end
end Go.Proofs.YtamlbiaakogahaaDoor


namespace Go.Proofs.YtamlbiaakogahaaDoor
open Go Go.Mo
noncomputable section
def sp_ROf : List V → Option V
  | [.a [.b8 16 l]] => some (.a [.b8 16 (trL l)])
  | _ => none
theorem e_ROf (G : Gl) : EntryOk G Tryd.prog 90 (pureSp sp_ROf) := by
  refine entry_pure (Go.Mo.enters_of Tryd.func90 (by kernel_rfl)) ?_
  intro args v h π vargs ha fresh m
  unfold sp_ROf at h
  split at h
  · rename_i l
    cases h
    exact fitsP (K := K_RTable) (obs := []) ((good_RTable G).good mixed) 60 _ [] Tryd.func90 (by kernel_rfl) (by intro p hp; cases hp) (by kernel_rfl) rfl rfl fresh m
  · cases h
def E_ROf : List (Nat × Mo.Spec) := (90, pureSp sp_ROf) :: E_RTable
def K_ROf : Cx := cxOf Tryd.prog E_ROf
theorem good_ROf (G : Gl) : EnvL G Tryd.prog E_ROf := .cons (e_ROf G) (good_RTable G)
def sp_RBlock : List V → Option V
  | [.a [.b8 16 l]] => some (.a [.b8 16 (trL l)])
  | _ => none
theorem e_RBlock (G : Gl) : EntryOk G Tryd.prog 94 (pureSp sp_RBlock) := by
  refine entry_pure (Go.Mo.enters_of Tryd.func94 (by kernel_rfl)) ?_
  intro args v h π vargs ha fresh m
  unfold sp_RBlock at h
  split at h
  · rename_i l
    cases h
    exact fitsP (K := K_ROf) (obs := []) ((good_ROf G).good mixed) 60 _ [] Tryd.func94 (by kernel_rfl) (by intro p hp; cases hp) (by kernel_rfl) rfl rfl fresh m
  · cases h
def E_RBlock : List (Nat × Mo.Spec) := (94, pureSp sp_RBlock) :: E_ROf
def K_RBlock : Cx := cxOf Tryd.prog E_RBlock
theorem good_RBlock (G : Gl) : EnvL G Tryd.prog E_RBlock := .cons (e_RBlock G) (good_ROf G)
def sp_RSub : List V → Option V
  | [.a [.b8 16 g], .a [.b8 256 T]] => some (.a [.b8 16 (subG T g)])
  | _ => none
theorem e_RSub (G : Gl) : EntryOk G Tryd.prog 92 (pureSp sp_RSub) := by
  refine entry_pure (Go.Mo.enters_of Tryd.func92 (by kernel_rfl)) ?_
  intro args v h π vargs ha fresh m
  unfold sp_RSub at h
  split at h
  · rename_i g T
    cases h
    obtain ⟨k0, k1, k2, k3, k4, k5, k6, k7, k8, k9, k10, k11, k12, k13, k14, k15, rfl⟩ := list16 (args_b8 ha)
    exact fitsP (K := K_RBlock) (obs := []) ((good_RBlock G).good mixed) 60 _ [] Tryd.func92 (by kernel_rfl) (by intro p hp; cases hp) (by kernel_rfl) rfl rfl fresh m
  · cases h
def E_RSub : List (Nat × Mo.Spec) := (92, pureSp sp_RSub) :: E_RBlock
def K_RSub : Cx := cxOf Tryd.prog E_RSub
theorem good_RSub (G : Gl) : EnvL G Tryd.prog E_RSub := .cons (e_RSub G) (good_RBlock G)
def sp_RShift : List V → Option V
  | [.a [.b8 16 g]] => some (.a [.b8 16 (shiftG g)])
  | _ => none
theorem e_RShift (G : Gl) : EntryOk G Tryd.prog 91 (pureSp sp_RShift) := by
  refine entry_pure (Go.Mo.enters_of Tryd.func91 (by kernel_rfl)) ?_
  intro args v h π vargs ha fresh m
  unfold sp_RShift at h
  split at h
  · rename_i g
    cases h
    obtain ⟨k0, k1, k2, k3, k4, k5, k6, k7, k8, k9, k10, k11, k12, k13, k14, k15, rfl⟩ := list16 (args_b8 ha)
    exact fitsP (K := K_RSub) (obs := []) ((good_RSub G).good mixed) 60 _ [] Tryd.func91 (by kernel_rfl) (by intro p hp; cases hp) (by kernel_rfl) rfl rfl fresh m
  · cases h
def E_RShift : List (Nat × Mo.Spec) := (91, pureSp sp_RShift) :: E_RSub
def K_RShift : Cx := cxOf Tryd.prog E_RShift
theorem good_RShift (G : Gl) : EnvL G Tryd.prog E_RShift := .cons (e_RShift G) (good_RSub G)
def sp_RMix : List V → Option V
  | [.a [.b8 16 g]] => some (.a [.b8 16 (mixG g)])
  | _ => none
theorem e_RMix (G : Gl) : EntryOk G Tryd.prog 93 (pureSp sp_RMix) := by
  refine entry_pure (Go.Mo.enters_of Tryd.func93 (by kernel_rfl)) ?_
  intro args v h π vargs ha fresh m
  unfold sp_RMix at h
  split at h
  · rename_i g
    cases h
    exact fitsP (K := K_RShift) (obs := []) ((good_RShift G).good mixed) 60 _ [] Tryd.func93 (by kernel_rfl) (by intro p hp; cases hp) (by kernel_rfl) rfl rfl fresh m
  · cases h
def E_RMix : List (Nat × Mo.Spec) := (93, pureSp sp_RMix) :: E_RShift
def K_RMix : Cx := cxOf Tryd.prog E_RMix
theorem good_RMix (G : Gl) : EnvL G Tryd.prog E_RMix := .cons (e_RMix G) (good_RShift G)
def sp_RAdd : List V → Option V
  | [.a [.b8 16 g], .a [.b8 16 r]] => some (.a [.b8 16 (addG g r)])
  | _ => none
theorem e_RAdd (G : Gl) : EntryOk G Tryd.prog 89 (pureSp sp_RAdd) := by
  refine entry_pure (Go.Mo.enters_of Tryd.func89 (by kernel_rfl)) ?_
  intro args v h π vargs ha fresh m
  unfold sp_RAdd at h
  split at h
  · rename_i g r
    cases h
    obtain ⟨k0, k1, k2, k3, k4, k5, k6, k7, k8, k9, k10, k11, k12, k13, k14, k15, rfl⟩ := list16 (args_b8 ha)
    exact fitsP (K := K_RMix) (obs := []) ((good_RMix G).good mixed) 60 _ [] Tryd.func89 (by kernel_rfl) (by intro p hp; cases hp) (by kernel_rfl) rfl rfl fresh m
  · cases h
def E_RAdd : List (Nat × Mo.Spec) := (89, pureSp sp_RAdd) :: E_RMix
def K_RAdd : Cx := cxOf Tryd.prog E_RAdd
theorem good_RAdd (G : Gl) : EnvL G Tryd.prog E_RAdd := .cons (e_RAdd G) (good_RMix G)

/-! Encrypt: what it calls kept as names. -/
def spG1 (F : List B8 → List B8) : List V → Option V
  | [.a [.b8 16 l]] => some (.a [.b8 16 (F l)])
  | _ => none
def spG2 (F : List B8 → List B8 → List B8) : List V → Option V
  | [.a [.b8 16 l], .a [.b8 16 r]] => some (.a [.b8 16 (F l r)])
  | _ => none
def spG3 (F : List B8 → List B8 → List B8) : List V → Option V
  | [.a [.b8 16 g], .a [.b8 256 T]] => some (.a [.b8 16 (F T g)])
  | _ => none
def E_G (A : List B8 → List B8 → List B8) (M H : List B8 → List B8) (S : List B8 → List B8 → List B8) (O B : List B8 → List B8) : List (Nat × Mo.Spec) :=
  (89, pureSp (spG2 A)) :: (93, pureSp (spG1 M)) :: (91, pureSp (spG1 H)) :: (92, pureSp (spG3 S)) ::
    (90, pureSp (spG1 O)) :: (94, pureSp (spG1 B)) :: E_RAdd
def K_G (A : List B8 → List B8 → List B8) (M H : List B8 → List B8) (S : List B8 → List B8 → List B8) (O B : List B8 → List B8) : Cx := cxOf Tryd.prog (E_G A M H S O B)
theorem good_G (G : Gl) : EnvL G Tryd.prog (E_G addG mixG shiftG subG trL trL) :=
  .cons (show EntryOk G Tryd.prog _ (pureSp sp_RAdd) from e_RAdd G) (.cons (show EntryOk G Tryd.prog _ (pureSp sp_RMix) from e_RMix G) (.cons (show EntryOk G Tryd.prog _ (pureSp sp_RShift) from e_RShift G)
    (.cons (show EntryOk G Tryd.prog _ (pureSp sp_RSub) from e_RSub G) (.cons (show EntryOk G Tryd.prog _ (pureSp sp_ROf) from e_ROf G) (.cons (show EntryOk G Tryd.prog _ (pureSp sp_RBlock) from e_RBlock G) (good_RAdd G))))))
theorem l_REnc (A : List B8 → List B8 → List B8) (M H : List B8 → List B8) (S : List B8 → List B8 → List B8) (O B : List B8 → List B8) (e T b : List B8) :
    evalE (K_G A M H S O B) 60 Tryd.f57 [.a [.b8 176 e, .b8 256 T], .a [.b8 16 b]] [] [] [] = some (.a [.b8 16 (B (rgG A M H S O e T b 10))], [], []) := by kernel_rfl

def sp_REnc : Mo.Spec := fun args _fresh =>
  match args with
  | [.a [.b8 176 e, .b8 256 T], .a [.b8 16 b]] => .pure (.a [.b8 16 (refEnc e T b)], [])
  | _ => .fail
theorem e_REnc (G : Gl) : EntryOk G Tryd.prog 57 sp_REnc := by
  intro args fresh m v news fp hx
  unfold sp_REnc at hx
  split at hx
  · rename_i e T b
    cases hx
    refine Fits.intro (Go.Mo.enters_of Tryd.func57 (by kernel_rfl)) fun π vargs ha => ?_
    exact fitsM (K := (K_G addG mixG shiftG subG trL trL)) (obs := []) (v := .a [.b8 16 (refEnc e T b)]) (gsl := []) ((good_G G).good mixed) 60 [.a [.b8 176 e, .b8 256 T], .a [.b8 16 b]] [] [] [] Tryd.func57 (l_REnc _ _ _ _ _ _ _ _ _) (by intro p hp; cases hp) (by kernel_rfl) (fun i => i) sees0 fresh (by kernel_rfl) (by kernel_rfl) (by kernel_rfl)
  · cases hx
def E_REnc : List (Nat × Mo.Spec) := (57, sp_REnc) :: E_RAdd
def K_REnc : Cx := cxOf Tryd.prog E_REnc
theorem good_REnc (G : Gl) : EnvL G Tryd.prog E_REnc := .cons (e_REnc G) (good_RAdd G)

/-! Words: 44 words in runs of four. -/
noncomputable abbrev wF := Tryd.f106
noncomputable abbrev wK : Cx := K_REnc
noncomputable abbrev wL := tl 3 (bodyOf wF)
def frK (K : Cx) (fuel : Nat) (l : Code) (k : Nat) (s : St) : Fr := match runK (acode K fuel l) k s with | some s' => s'.fr | none => .nil
def tbs (k : List B8) : Nat → List (Option Blk)
  | 0 => []
  | 1 => []
  | n + 2 => tbs k (n + 1) ++ [some ⟨[.b8 4 (nw n (grpB k n) 0)], true⟩, some ⟨[.b8 4 (nw n (grpB k n) 1)], true⟩, some ⟨[.b8 4 (nw n (grpB k n) 2)], true⟩, some ⟨[.b8 4 (nw n (grpB k n) 3)], true⟩]
def wM (k : List B8) (j : Nat) : List (Option Blk) :=
  [some ⟨[.b8 16 k], true⟩, some ⟨[.b8 176 (List.replicate 176 0)], true⟩, some ⟨[.b8 256 sboxL], true⟩, some ⟨[.b8 176 (catG k j ++ List.replicate (176 - 16 * j) 0)], true⟩] ++ tbs k j
def w0 (k : List B8) : St := init wF [.a [.b8 16 k]] [] []
def wA (k : List B8) : St := stO (runHeads wK 60 3 (bodyOf wF) (w0 k))
def wfr (k : List B8) : Fr := frAfter wK 60 (cB wL) (wA k)
def wfr1 (k : List B8) : Fr := frK wK 60 (cL wL) 4 ⟨wfr k, wF.ntmps, wM k 0, [], []⟩
def wS (k : List B8) : Nat → St
  | 0 => ⟨wfr k, wF.ntmps, wM k 0, [], []⟩
  | 1 => ⟨wfr1 k, wF.ntmps, wM k 1, [], []⟩
  | j + 2 => ⟨frK wK 60 (cL wL) 4 ⟨(wfr1 k).set 5 (.s (.i .i64 (.ofNat (4 * (j + 1))))), wF.ntmps, wM k (j + 1), [], []⟩, wF.ntmps, wM k (j + 2), [], []⟩
def kl (k0 k1 k2 k3 k4 k5 k6 k7 k8 k9 k10 k11 k12 k13 k14 k15 : B8) : List B8 := [k0, k1, k2, k3, k4, k5, k6, k7, k8, k9, k10, k11, k12, k13, k14, k15]
theorem wstep (k0 k1 k2 k3 k4 k5 k6 k7 k8 k9 k10 k11 k12 k13 k14 k15 : B8) (j : Nat) (h : j < 11) : runK (acode wK 60 (cL wL)) 4 (wS [k0, k1, k2, k3, k4, k5, k6, k7, k8, k9, k10, k11, k12, k13, k14, k15] j) = some (wS [k0, k1, k2, k3, k4, k5, k6, k7, k8, k9, k10, k11, k12, k13, k14, k15] (j + 1)) :=
  tab_all (f := fun j => runK (acode wK 60 (cL wL)) 4 (wS [k0, k1, k2, k3, k4, k5, k6, k7, k8, k9, k10, k11, k12, k13, k14, k15] j)) (g := fun j => some (wS [k0, k1, k2, k3, k4, k5, k6, k7, k8, k9, k10, k11, k12, k13, k14, k15] (j + 1))) (N := 11) (by kernel_rfl) j h
def wE (k : List B8) : St := stOf (acode wK 60 (cL wL) (wS k 11))
theorem wcut1 (k : List B8) : runHeads wK 60 3 (bodyOf wF) (w0 k) = some (wA k) := by kernel_rfl
theorem wcut2 : wL = .seq (.seq (cB wL) (.block 0 (.loop (cL wL)))) (cT wL) := by kernel_rfl
theorem wcut3 (k : List B8) : acode wK 60 (cB wL) (wA k) = some (.normal, wS k 0) := by kernel_rfl
theorem wcut4 (k0 k1 k2 k3 k4 k5 k6 k7 k8 k9 k10 k11 k12 k13 k14 k15 : B8) : acode wK 60 (cL wL) (wS [k0, k1, k2, k3, k4, k5, k6, k7, k8, k9, k10, k11, k12, k13, k14, k15] 11) = some (.exit 0, wE [k0, k1, k2, k3, k4, k5, k6, k7, k8, k9, k10, k11, k12, k13, k14, k15]) := by kernel_rfl
theorem l_Words (k0 k1 k2 k3 k4 k5 k6 k7 k8 k9 k10 k11 k12 k13 k14 k15 : B8) : evalE wK 60 wF [.a [.b8 16 [k0, k1, k2, k3, k4, k5, k6, k7, k8, k9, k10, k11, k12, k13, k14, k15]]] [] [] [] = some (.a [.b8 176 (wordsR [k0, k1, k2, k3, k4, k5, k6, k7, k8, k9, k10, k11, k12, k13, k14, k15])], [], []) := by
  rw [evalE_end (c := bodyOf wF) (by kernel_rfl)]
  show endOf wK wF [] (acode wK 60 (bodyOf wF) (w0 [k0, k1, k2, k3, k4, k5, k6, k7, k8, k9, k10, k11, k12, k13, k14, k15])) = _
  rw [(acode_heads 3 (wcut1 [k0, k1, k2, k3, k4, k5, k6, k7, k8, k9, k10, k11, k12, k13, k14, k15])).trans (acode_cut (k := 4) (J := 11) (n := 15) wcut2 (wcut3 [k0, k1, k2, k3, k4, k5, k6, k7, k8, k9, k10, k11, k12, k13, k14, k15]) (wstep k0 k1 k2 k3 k4 k5 k6 k7 k8 k9 k10 k11 k12 k13 k14 k15) (by kernel_rfl) (wcut4 k0 k1 k2 k3 k4 k5 k6 k7 k8 k9 k10 k11 k12 k13 k14 k15))]
  kernel_rfl

def sp_RWords : List V → Option V
  | [.a [.b8 16 l]] => some (.a [.b8 176 (wordsR l)])
  | _ => none
theorem e_RWords (G : Gl) : EntryOk G Tryd.prog 106 (pureSp sp_RWords) := by
  refine entry_pure (Go.Mo.enters_of Tryd.func106 (by kernel_rfl)) ?_
  intro args v h π vargs ha fresh m
  unfold sp_RWords at h
  split at h
  · rename_i l
    cases h
    obtain ⟨k0, k1, k2, k3, k4, k5, k6, k7, k8, k9, k10, k11, k12, k13, k14, k15, rfl⟩ := list16 (args_b8 ha)
    exact fitsP (K := K_REnc) (obs := []) ((good_REnc G).good mixed) 60 _ [] Tryd.func106 (l_Words _ _ _ _ _ _ _ _ _ _ _ _ _ _ _ _) (by intro p hp; cases hp) (by kernel_rfl) rfl rfl fresh m
  · cases h
def E_RWords : List (Nat × Mo.Spec) := (106, pureSp sp_RWords) :: E_REnc
def K_RWords : Cx := cxOf Tryd.prog E_RWords
theorem good_RWords (G : Gl) : EnvL G Tryd.prog E_RWords := .cons (e_RWords G) (good_REnc G)
end
end Go.Proofs.YtamlbiaakogahaaDoor



namespace Go.Proofs.YtamlbiaakogahaaDoor
open Go Go.Mo
noncomputable section

noncomputable abbrev xF := Tryd.f76
def spW (W : List B8 → List B8) : List V → Option V
  | [.a [.b8 16 l]] => some (.a [.b8 176 (W l)])
  | _ => none
def E_X (W : List B8 → List B8) : List (Nat × Mo.Spec) := (106, pureSp (spW W)) :: E_RWords
def K_X (W : List B8 → List B8) : Cx := cxOf Tryd.prog (E_X W)
theorem good_X (G : Gl) : EnvL G Tryd.prog (E_X wordsR) := .cons (show EntryOk G Tryd.prog _ (pureSp sp_RWords) from e_RWords G) (good_RWords G)
noncomputable abbrev xL := tl 4 (bodyOf xF)
section
variable (W : List B8 → List B8) (k : List B8)
def xM (n : Nat) : List (Option Blk) :=
  [some ⟨[.b8 16 k], true⟩, some ⟨[.b8 176 (List.replicate 176 0)], true⟩, some ⟨[.b8 176 (W k)], true⟩, some ⟨[.b8 176 (upL (nth 0 (W k)) n 0 ++ List.replicate (176 - n) 0)], true⟩]
def x0 : St := init xF [.a [.b8 16 k]] [] []
def xA : St := stO (runHeads (K_X W) 200 3 (bodyOf xF) (x0 k))
def xfr : Fr := frAfter (K_X W) 200 (cB (tl 3 (bodyOf xF))) (xA W k)
def xS : Nat → St
  | 0 => ⟨xfr W k, xF.ntmps, xM W k 0, [], []⟩
  | j + 1 => ⟨frAfter (K_X W) 200 (cL (tl 3 (bodyOf xF))) ⟨(xfr W k).set 5 (.s (.i .i64 (.ofNat (j * 8 + 7)))), xF.ntmps, xM W k (j * 8 + 7), [], []⟩, xF.ntmps, xM W k (j * 8 + 8), [], []⟩
theorem xstep (j : Nat) (h : j < 22) : runK (acode (K_X W) 200 (cL (tl 3 (bodyOf xF)))) 8 (xS W k j) = some (xS W k (j + 1)) :=
  tab_all (f := fun j => runK (acode (K_X W) 200 (cL (tl 3 (bodyOf xF)))) 8 (xS W k j)) (g := fun j => some (xS W k (j + 1))) (N := 22) (by kernel_rfl) j h
def xE : St := stOf (acode (K_X W) 200 (cL (tl 3 (bodyOf xF))) (xS W k 22))
theorem xcut1 : runHeads (K_X W) 200 3 (bodyOf xF) (x0 k) = some (xA W k) := by kernel_rfl
theorem xcut2 : tl 3 (bodyOf xF) = .seq (.seq (cB (tl 3 (bodyOf xF))) (.block 0 (.loop (cL (tl 3 (bodyOf xF)))))) (cT (tl 3 (bodyOf xF))) := by kernel_rfl
theorem xcut3 : acode (K_X W) 200 (cB (tl 3 (bodyOf xF))) (xA W k) = some (.normal, xS W k 0) := by kernel_rfl
theorem xcut4 : acode (K_X W) 200 (cL (tl 3 (bodyOf xF))) (xS W k 22) = some (.exit 0, xE W k) := by kernel_rfl
theorem l_Expand : evalE (K_X W) 200 xF [.a [.b8 16 k]] [] [] [] = some (.a [.b8 176 (upL (nth 0 (W k)) 176 0 ++ [])], [], []) := by
  rw [evalE_end (c := bodyOf xF) (by kernel_rfl)]
  show endOf (K_X W) xF [] (acode (K_X W) 200 (bodyOf xF) (x0 k)) = _
  rw [(acode_heads 3 (xcut1 W k)).trans (acode_cut (k := 8) (J := 22) (n := 23) xcut2 (xcut3 W k) (xstep W k) (by kernel_rfl) (xcut4 W k))]
  kernel_rfl
end
theorem each16_len (f : Nat → B8) : (each16 f).length = 16 := rfl
theorem nxtB_len (r : Nat) (g : List B8) : (nxtB r g).length = 16 := rfl
theorem grpB_len {k : List B8} (h : k.length = 16) : ∀ n, (grpB k n).length = 16
  | 0 => h
  | n + 1 => nxtB_len n _
theorem catG_len {k : List B8} (h : k.length = 16) : ∀ n, (catG k n).length = 16 * n
  | 0 => rfl
  | n + 1 => by simp only [catG, List.length_append, catG_len h n, grpB_len h n]; omega
theorem wordsR_len {k : List B8} (h : k.length = 16) : (wordsR k).length = 176 := catG_len h 11

def sp_RExpand : List V → Option V
  | [.a [.b8 16 l]] => some (.a [.b8 176 (wordsR l)])
  | _ => none
theorem e_RExpand (G : Gl) : EntryOk G Tryd.prog 76 (pureSp sp_RExpand) := by
  refine entry_pure (Go.Mo.enters_of Tryd.func76 (by kernel_rfl)) ?_
  intro args v h π vargs ha fresh m
  unfold sp_RExpand at h
  split at h
  · rename_i l
    cases h
    have hl := args_b8 ha
    have he := l_Expand wordsR l
    rw [upL_nth 176 0 (by rw [wordsR_len hl]), List.drop_zero, List.append_nil] at he
    exact fitsP (K := K_X wordsR) (obs := []) ((good_X G).good mixed) 200 _ [] Tryd.func76 he (by intro p hp; cases hp) (by kernel_rfl) rfl rfl fresh m
  · cases h
def E_RExpand : List (Nat × Mo.Spec) := (76, pureSp sp_RExpand) :: E_RWords
def K_RExpand : Cx := cxOf Tryd.prog E_RExpand
theorem good_RExpand (G : Gl) : EnvL G Tryd.prog E_RExpand := .cons (e_RExpand G) (good_RWords G)
end
end Go.Proofs.YtamlbiaakogahaaDoor


namespace Go.Proofs.YtamlbiaakogahaaDoor
open Go Go.Mo
noncomputable section
def sp_Prep : List V → Option V
  | [.a [.b8 16 l]] => some (.a [.b8 176 (wordsR l), .b8 256 sboxL])
  | _ => none
theorem e_Prep (G : Gl) : EntryOk G Tryd.prog 27 (pureSp sp_Prep) := by
  refine entry_pure (Go.Mo.enters_of Tryd.func27 (by kernel_rfl)) ?_
  intro args v h π vargs ha fresh m
  unfold sp_Prep at h
  split at h
  · rename_i l
    cases h
    exact fitsP (K := K_RExpand) (obs := []) ((good_RExpand G).good mixed) 60 _ [] Tryd.func27 (by kernel_rfl) (by intro p hp; cases hp) (by kernel_rfl) rfl rfl fresh m
  · cases h
def E_Prep : List (Nat × Mo.Spec) := (27, pureSp sp_Prep) :: E_RExpand
def K_Prep : Cx := cxOf Tryd.prog E_Prep
theorem good_Prep (G : Gl) : EnvL G Tryd.prog E_Prep := .cons (e_Prep G) (good_RExpand G)
end
end Go.Proofs.YtamlbiaakogahaaDoor


