/- Contracts of functions by the evaluator (C10). -/
import Derived.Test.YtamlbiaakogahaaDoorC9
import Derived.Test.YtamlbiaakogahaaDoorSp6
import Derived.Test.YtamlbiaakogahaaDoorProg
namespace Go.Proofs.YtamlbiaakogahaaDoor
open Go Go.Mo
noncomputable section
def sp_ROf : List V → Option V
  | [.a [.b8 16 l]] => some (.a [.b8 16 (trL l)])
  | _ => none
theorem e_ROf (G : Gl) : EntryOk G Tryd.prog 90 (pureSp sp_ROf) := by
  refine entry_pure (Go.Mo.enters_of Tryd.func90 (by kernel_rfl)) ?_
  intro args v h π vargs ha fresh m
  unfold sp_ROf at h
  split at h
  · rename_i l
    cases h
    exact fitsP (K := K_RTable) (obs := []) ((good_RTable G).good mixed) 60 _ [] Tryd.func90 (by kernel_rfl) (by intro p hp; cases hp) (by kernel_rfl) rfl rfl fresh m
  · cases h
def E_ROf : List (Nat × Mo.Spec) := (90, pureSp sp_ROf) :: E_RTable
def K_ROf : Cx := cxOf Tryd.prog E_ROf
theorem good_ROf (G : Gl) : EnvL G Tryd.prog E_ROf := .cons (e_ROf G) (good_RTable G)
def sp_RBlock : List V → Option V
  | [.a [.b8 16 l]] => some (.a [.b8 16 (trL l)])
  | _ => none
theorem e_RBlock (G : Gl) : EntryOk G Tryd.prog 94 (pureSp sp_RBlock) := by
  refine entry_pure (Go.Mo.enters_of Tryd.func94 (by kernel_rfl)) ?_
  intro args v h π vargs ha fresh m
  unfold sp_RBlock at h
  split at h
  · rename_i l
    cases h
    exact fitsP (K := K_ROf) (obs := []) ((good_ROf G).good mixed) 60 _ [] Tryd.func94 (by kernel_rfl) (by intro p hp; cases hp) (by kernel_rfl) rfl rfl fresh m
  · cases h
def E_RBlock : List (Nat × Mo.Spec) := (94, pureSp sp_RBlock) :: E_ROf
def K_RBlock : Cx := cxOf Tryd.prog E_RBlock
theorem good_RBlock (G : Gl) : EnvL G Tryd.prog E_RBlock := .cons (e_RBlock G) (good_ROf G)
def sp_RSub : List V → Option V
  | [.a [.b8 16 g], .a [.b8 256 T]] => some (.a [.b8 16 (subG T g)])
  | _ => none
theorem e_RSub (G : Gl) : EntryOk G Tryd.prog 92 (pureSp sp_RSub) := by
  refine entry_pure (Go.Mo.enters_of Tryd.func92 (by kernel_rfl)) ?_
  intro args v h π vargs ha fresh m
  unfold sp_RSub at h
  split at h
  · rename_i g T
    cases h
    obtain ⟨k0, k1, k2, k3, k4, k5, k6, k7, k8, k9, k10, k11, k12, k13, k14, k15, rfl⟩ := list16 (args_b8 ha)
    exact fitsP (K := K_RBlock) (obs := []) ((good_RBlock G).good mixed) 60 _ [] Tryd.func92 (by kernel_rfl) (by intro p hp; cases hp) (by kernel_rfl) rfl rfl fresh m
  · cases h
def E_RSub : List (Nat × Mo.Spec) := (92, pureSp sp_RSub) :: E_RBlock
def K_RSub : Cx := cxOf Tryd.prog E_RSub
theorem good_RSub (G : Gl) : EnvL G Tryd.prog E_RSub := .cons (e_RSub G) (good_RBlock G)
def sp_RShift : List V → Option V
  | [.a [.b8 16 g]] => some (.a [.b8 16 (shiftG g)])
  | _ => none
theorem e_RShift (G : Gl) : EntryOk G Tryd.prog 91 (pureSp sp_RShift) := by
  refine entry_pure (Go.Mo.enters_of Tryd.func91 (by kernel_rfl)) ?_
  intro args v h π vargs ha fresh m
  unfold sp_RShift at h
  split at h
  · rename_i g
    cases h
    obtain ⟨k0, k1, k2, k3, k4, k5, k6, k7, k8, k9, k10, k11, k12, k13, k14, k15, rfl⟩ := list16 (args_b8 ha)
    exact fitsP (K := K_RSub) (obs := []) ((good_RSub G).good mixed) 60 _ [] Tryd.func91 (by kernel_rfl) (by intro p hp; cases hp) (by kernel_rfl) rfl rfl fresh m
  · cases h
def E_RShift : List (Nat × Mo.Spec) := (91, pureSp sp_RShift) :: E_RSub
def K_RShift : Cx := cxOf Tryd.prog E_RShift
theorem good_RShift (G : Gl) : EnvL G Tryd.prog E_RShift := .cons (e_RShift G) (good_RSub G)
def sp_RMix : List V → Option V
  | [.a [.b8 16 g]] => some (.a [.b8 16 (mixG g)])
  | _ => none
theorem e_RMix (G : Gl) : EntryOk G Tryd.prog 93 (pureSp sp_RMix) := by
  refine entry_pure (Go.Mo.enters_of Tryd.func93 (by kernel_rfl)) ?_
  intro args v h π vargs ha fresh m
  unfold sp_RMix at h
  split at h
  · rename_i g
    cases h
    exact fitsP (K := K_RShift) (obs := []) ((good_RShift G).good mixed) 60 _ [] Tryd.func93 (by kernel_rfl) (by intro p hp; cases hp) (by kernel_rfl) rfl rfl fresh m
  · cases h
def E_RMix : List (Nat × Mo.Spec) := (93, pureSp sp_RMix) :: E_RShift
def K_RMix : Cx := cxOf Tryd.prog E_RMix
theorem good_RMix (G : Gl) : EnvL G Tryd.prog E_RMix := .cons (e_RMix G) (good_RShift G)
def sp_RAdd : List V → Option V
  | [.a [.b8 16 g], .a [.b8 16 r]] => some (.a [.b8 16 (addG g r)])
  | _ => none
theorem e_RAdd (G : Gl) : EntryOk G Tryd.prog 89 (pureSp sp_RAdd) := by
  refine entry_pure (Go.Mo.enters_of Tryd.func89 (by kernel_rfl)) ?_
  intro args v h π vargs ha fresh m
  unfold sp_RAdd at h
  split at h
  · rename_i g r
    cases h
    obtain ⟨k0, k1, k2, k3, k4, k5, k6, k7, k8, k9, k10, k11, k12, k13, k14, k15, rfl⟩ := list16 (args_b8 ha)
    exact fitsP (K := K_RMix) (obs := []) ((good_RMix G).good mixed) 60 _ [] Tryd.func89 (by kernel_rfl) (by intro p hp; cases hp) (by kernel_rfl) rfl rfl fresh m
  · cases h
def E_RAdd : List (Nat × Mo.Spec) := (89, pureSp sp_RAdd) :: E_RMix
def K_RAdd : Cx := cxOf Tryd.prog E_RAdd
theorem good_RAdd (G : Gl) : EnvL G Tryd.prog E_RAdd := .cons (e_RAdd G) (good_RMix G)

/-! Encrypt: what it calls kept as names. -/
def spG1 (F : List B8 → List B8) : List V → Option V
  | [.a [.b8 16 l]] => some (.a [.b8 16 (F l)])
  | _ => none
def spG2 (F : List B8 → List B8 → List B8) : List V → Option V
  | [.a [.b8 16 l], .a [.b8 16 r]] => some (.a [.b8 16 (F l r)])
  | _ => none
def spG3 (F : List B8 → List B8 → List B8) : List V → Option V
  | [.a [.b8 16 g], .a [.b8 256 T]] => some (.a [.b8 16 (F T g)])
  | _ => none
def E_G (A : List B8 → List B8 → List B8) (M H : List B8 → List B8) (S : List B8 → List B8 → List B8) (O B : List B8 → List B8) : List (Nat × Mo.Spec) :=
  (89, pureSp (spG2 A)) :: (93, pureSp (spG1 M)) :: (91, pureSp (spG1 H)) :: (92, pureSp (spG3 S)) ::
    (90, pureSp (spG1 O)) :: (94, pureSp (spG1 B)) :: E_RAdd
def K_G (A : List B8 → List B8 → List B8) (M H : List B8 → List B8) (S : List B8 → List B8 → List B8) (O B : List B8 → List B8) : Cx := cxOf Tryd.prog (E_G A M H S O B)
theorem good_G (G : Gl) : EnvL G Tryd.prog (E_G addG mixG shiftG subG trL trL) :=
  .cons (show EntryOk G Tryd.prog _ (pureSp sp_RAdd) from e_RAdd G) (.cons (show EntryOk G Tryd.prog _ (pureSp sp_RMix) from e_RMix G) (.cons (show EntryOk G Tryd.prog _ (pureSp sp_RShift) from e_RShift G)
    (.cons (show EntryOk G Tryd.prog _ (pureSp sp_RSub) from e_RSub G) (.cons (show EntryOk G Tryd.prog _ (pureSp sp_ROf) from e_ROf G) (.cons (show EntryOk G Tryd.prog _ (pureSp sp_RBlock) from e_RBlock G) (good_RAdd G))))))
theorem l_REnc (A : List B8 → List B8 → List B8) (M H : List B8 → List B8) (S : List B8 → List B8 → List B8) (O B : List B8 → List B8) (e T b : List B8) :
    evalE (K_G A M H S O B) 60 Tryd.f57 [.a [.b8 176 e, .b8 256 T], .a [.b8 16 b]] [] [] [] = some (.a [.b8 16 (B (rgG A M H S O e T b 10))], [], []) := by kernel_rfl

def sp_REnc : Mo.Spec := fun args _fresh =>
  match args with
  | [.a [.b8 176 e, .b8 256 T], .a [.b8 16 b]] => .pure (.a [.b8 16 (refEnc e T b)], [])
  | _ => .fail
theorem e_REnc (G : Gl) : EntryOk G Tryd.prog 57 sp_REnc := by
  intro args fresh m v news fp hx
  unfold sp_REnc at hx
  split at hx
  · rename_i e T b
    cases hx
    refine Fits.intro (Go.Mo.enters_of Tryd.func57 (by kernel_rfl)) fun π vargs ha => ?_
    exact fitsM (K := (K_G addG mixG shiftG subG trL trL)) (obs := []) (v := .a [.b8 16 (refEnc e T b)]) (gsl := []) ((good_G G).good mixed) 60 [.a [.b8 176 e, .b8 256 T], .a [.b8 16 b]] [] [] [] Tryd.func57 (l_REnc _ _ _ _ _ _ _ _ _) (by intro p hp; cases hp) (by kernel_rfl) (fun i => i) sees0 fresh (by kernel_rfl) (by kernel_rfl) (by kernel_rfl)
  · cases hx
def E_REnc : List (Nat × Mo.Spec) := (57, sp_REnc) :: E_RAdd
def K_REnc : Cx := cxOf Tryd.prog E_REnc
theorem good_REnc (G : Gl) : EnvL G Tryd.prog E_REnc := .cons (e_REnc G) (good_RAdd G)

/-! Words: 44 words in runs of four. -/
noncomputable abbrev wF := Tryd.f106
noncomputable abbrev wK : Cx := K_REnc
noncomputable abbrev wL := tl 3 (bodyOf wF)
def frK (K : Cx) (fuel : Nat) (l : Code) (k : Nat) (s : St) : Fr := match runK (acode K fuel l) k s with | some s' => s'.fr | none => .nil
def tbs (k : List B8) : Nat → List (Option Blk)
  | 0 => []
  | 1 => []
  | n + 2 => tbs k (n + 1) ++ [some ⟨[.b8 4 (nw n (grpB k n) 0)], true⟩, some ⟨[.b8 4 (nw n (grpB k n) 1)], true⟩, some ⟨[.b8 4 (nw n (grpB k n) 2)], true⟩, some ⟨[.b8 4 (nw n (grpB k n) 3)], true⟩]
def wM (k : List B8) (j : Nat) : List (Option Blk) :=
  [some ⟨[.b8 16 k], true⟩, some ⟨[.b8 176 (List.replicate 176 0)], true⟩, some ⟨[.b8 256 sboxL], true⟩, some ⟨[.b8 176 (catG k j ++ List.replicate (176 - 16 * j) 0)], true⟩] ++ tbs k j
def w0 (k : List B8) : St := init wF [.a [.b8 16 k]] [] []
def wA (k : List B8) : St := stO (runHeads wK 60 3 (bodyOf wF) (w0 k))
def wfr (k : List B8) : Fr := frAfter wK 60 (cB wL) (wA k)
def wfr1 (k : List B8) : Fr := frK wK 60 (cL wL) 4 ⟨wfr k, wF.ntmps, wM k 0, [], []⟩
def wS (k : List B8) : Nat → St
  | 0 => ⟨wfr k, wF.ntmps, wM k 0, [], []⟩
  | 1 => ⟨wfr1 k, wF.ntmps, wM k 1, [], []⟩
  | j + 2 => ⟨frK wK 60 (cL wL) 4 ⟨(wfr1 k).set 5 (.s (.i .i64 (.ofNat (4 * (j + 1))))), wF.ntmps, wM k (j + 1), [], []⟩, wF.ntmps, wM k (j + 2), [], []⟩
def kl (k0 k1 k2 k3 k4 k5 k6 k7 k8 k9 k10 k11 k12 k13 k14 k15 : B8) : List B8 := [k0, k1, k2, k3, k4, k5, k6, k7, k8, k9, k10, k11, k12, k13, k14, k15]
theorem wstep (k0 k1 k2 k3 k4 k5 k6 k7 k8 k9 k10 k11 k12 k13 k14 k15 : B8) (j : Nat) (h : j < 11) : runK (acode wK 60 (cL wL)) 4 (wS [k0, k1, k2, k3, k4, k5, k6, k7, k8, k9, k10, k11, k12, k13, k14, k15] j) = some (wS [k0, k1, k2, k3, k4, k5, k6, k7, k8, k9, k10, k11, k12, k13, k14, k15] (j + 1)) :=
  tab_all (f := fun j => runK (acode wK 60 (cL wL)) 4 (wS [k0, k1, k2, k3, k4, k5, k6, k7, k8, k9, k10, k11, k12, k13, k14, k15] j)) (g := fun j => some (wS [k0, k1, k2, k3, k4, k5, k6, k7, k8, k9, k10, k11, k12, k13, k14, k15] (j + 1))) (N := 11) (by kernel_rfl) j h
def wE (k : List B8) : St := stOf (acode wK 60 (cL wL) (wS k 11))
theorem wcut1 (k : List B8) : runHeads wK 60 3 (bodyOf wF) (w0 k) = some (wA k) := by kernel_rfl
theorem wcut2 : wL = .seq (.seq (cB wL) (.block 0 (.loop (cL wL)))) (cT wL) := by kernel_rfl
theorem wcut3 (k : List B8) : acode wK 60 (cB wL) (wA k) = some (.normal, wS k 0) := by kernel_rfl
theorem wcut4 (k0 k1 k2 k3 k4 k5 k6 k7 k8 k9 k10 k11 k12 k13 k14 k15 : B8) : acode wK 60 (cL wL) (wS [k0, k1, k2, k3, k4, k5, k6, k7, k8, k9, k10, k11, k12, k13, k14, k15] 11) = some (.exit 0, wE [k0, k1, k2, k3, k4, k5, k6, k7, k8, k9, k10, k11, k12, k13, k14, k15]) := by kernel_rfl
theorem l_Words (k0 k1 k2 k3 k4 k5 k6 k7 k8 k9 k10 k11 k12 k13 k14 k15 : B8) : evalE wK 60 wF [.a [.b8 16 [k0, k1, k2, k3, k4, k5, k6, k7, k8, k9, k10, k11, k12, k13, k14, k15]]] [] [] [] = some (.a [.b8 176 (wordsR [k0, k1, k2, k3, k4, k5, k6, k7, k8, k9, k10, k11, k12, k13, k14, k15])], [], []) := by
  rw [evalE_end (c := bodyOf wF) (by kernel_rfl)]
  show endOf wK wF [] (acode wK 60 (bodyOf wF) (w0 [k0, k1, k2, k3, k4, k5, k6, k7, k8, k9, k10, k11, k12, k13, k14, k15])) = _
  rw [(acode_heads 3 (wcut1 [k0, k1, k2, k3, k4, k5, k6, k7, k8, k9, k10, k11, k12, k13, k14, k15])).trans (acode_cut (k := 4) (J := 11) (n := 15) wcut2 (wcut3 [k0, k1, k2, k3, k4, k5, k6, k7, k8, k9, k10, k11, k12, k13, k14, k15]) (wstep k0 k1 k2 k3 k4 k5 k6 k7 k8 k9 k10 k11 k12 k13 k14 k15) (by kernel_rfl) (wcut4 k0 k1 k2 k3 k4 k5 k6 k7 k8 k9 k10 k11 k12 k13 k14 k15))]
  kernel_rfl

def sp_RWords : List V → Option V
  | [.a [.b8 16 l]] => some (.a [.b8 176 (wordsR l)])
  | _ => none
theorem e_RWords (G : Gl) : EntryOk G Tryd.prog 106 (pureSp sp_RWords) := by
  refine entry_pure (Go.Mo.enters_of Tryd.func106 (by kernel_rfl)) ?_
  intro args v h π vargs ha fresh m
  unfold sp_RWords at h
  split at h
  · rename_i l
    cases h
    obtain ⟨k0, k1, k2, k3, k4, k5, k6, k7, k8, k9, k10, k11, k12, k13, k14, k15, rfl⟩ := list16 (args_b8 ha)
    exact fitsP (K := K_REnc) (obs := []) ((good_REnc G).good mixed) 60 _ [] Tryd.func106 (l_Words _ _ _ _ _ _ _ _ _ _ _ _ _ _ _ _) (by intro p hp; cases hp) (by kernel_rfl) rfl rfl fresh m
  · cases h
def E_RWords : List (Nat × Mo.Spec) := (106, pureSp sp_RWords) :: E_REnc
def K_RWords : Cx := cxOf Tryd.prog E_RWords
theorem good_RWords (G : Gl) : EnvL G Tryd.prog E_RWords := .cons (e_RWords G) (good_REnc G)
end
end Go.Proofs.YtamlbiaakogahaaDoor
