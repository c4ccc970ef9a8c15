/- Contracts of functions by the evaluator (C11). -/
import Derived.Test.YtamlbiaakogahaaDoorC10
import Derived.Test.YtamlbiaakogahaaDoorProg

namespace Go.Proofs.YtamlbiaakogahaaDoor
open Go Go.Mo
noncomputable section

noncomputable abbrev xF := Tryd.f76
def spW (W : List B8 → List B8) : List V → Option V
  | [.a [.b8 16 l]] => some (.a [.b8 176 (W l)])
  | _ => none
def E_X (W : List B8 → List B8) : List (Nat × Mo.Spec) := (106, pureSp (spW W)) :: E_RWords
def K_X (W : List B8 → List B8) : Cx := cxOf Tryd.prog (E_X W)
theorem good_X (G : Gl) : EnvL G Tryd.prog (E_X wordsR) := .cons (show EntryOk G Tryd.prog _ (pureSp sp_RWords) from e_RWords G) (good_RWords G)
noncomputable abbrev xL := tl 4 (bodyOf xF)
section
variable (W : List B8 → List B8) (k : List B8)
def xM (n : Nat) : List (Option Blk) :=
  [some ⟨[.b8 16 k], true⟩, some ⟨[.b8 176 (List.replicate 176 0)], true⟩, some ⟨[.b8 176 (W k)], true⟩, some ⟨[.b8 176 (upL (nth 0 (W k)) n 0 ++ List.replicate (176 - n) 0)], true⟩]
def x0 : St := init xF [.a [.b8 16 k]] [] []
def xA : St := stO (runHeads (K_X W) 200 3 (bodyOf xF) (x0 k))
def xfr : Fr := frAfter (K_X W) 200 (cB (tl 3 (bodyOf xF))) (xA W k)
def xS : Nat → St
  | 0 => ⟨xfr W k, xF.ntmps, xM W k 0, [], []⟩
  | j + 1 => ⟨frAfter (K_X W) 200 (cL (tl 3 (bodyOf xF))) ⟨(xfr W k).set 5 (.s (.i .i64 (.ofNat (j * 8 + 7)))), xF.ntmps, xM W k (j * 8 + 7), [], []⟩, xF.ntmps, xM W k (j * 8 + 8), [], []⟩
theorem xstep (j : Nat) (h : j < 22) : runK (acode (K_X W) 200 (cL (tl 3 (bodyOf xF)))) 8 (xS W k j) = some (xS W k (j + 1)) :=
  tab_all (f := fun j => runK (acode (K_X W) 200 (cL (tl 3 (bodyOf xF)))) 8 (xS W k j)) (g := fun j => some (xS W k (j + 1))) (N := 22) (by kernel_rfl) j h
def xE : St := stOf (acode (K_X W) 200 (cL (tl 3 (bodyOf xF))) (xS W k 22))
theorem xcut1 : runHeads (K_X W) 200 3 (bodyOf xF) (x0 k) = some (xA W k) := by kernel_rfl
theorem xcut2 : tl 3 (bodyOf xF) = .seq (.seq (cB (tl 3 (bodyOf xF))) (.block 0 (.loop (cL (tl 3 (bodyOf xF)))))) (cT (tl 3 (bodyOf xF))) := by kernel_rfl
theorem xcut3 : acode (K_X W) 200 (cB (tl 3 (bodyOf xF))) (xA W k) = some (.normal, xS W k 0) := by kernel_rfl
theorem xcut4 : acode (K_X W) 200 (cL (tl 3 (bodyOf xF))) (xS W k 22) = some (.exit 0, xE W k) := by kernel_rfl
theorem l_Expand : evalE (K_X W) 200 xF [.a [.b8 16 k]] [] [] [] = some (.a [.b8 176 (upL (nth 0 (W k)) 176 0 ++ [])], [], []) := by
  rw [evalE_end (c := bodyOf xF) (by kernel_rfl)]
  show endOf (K_X W) xF [] (acode (K_X W) 200 (bodyOf xF) (x0 k)) = _
  rw [(acode_heads 3 (xcut1 W k)).trans (acode_cut (k := 8) (J := 22) (n := 23) xcut2 (xcut3 W k) (xstep W k) (by kernel_rfl) (xcut4 W k))]
  kernel_rfl
end
theorem each16_len (f : Nat → B8) : (each16 f).length = 16 := rfl
theorem nxtB_len (r : Nat) (g : List B8) : (nxtB r g).length = 16 := rfl
theorem grpB_len {k : List B8} (h : k.length = 16) : ∀ n, (grpB k n).length = 16
  | 0 => h
  | n + 1 => nxtB_len n _
theorem catG_len {k : List B8} (h : k.length = 16) : ∀ n, (catG k n).length = 16 * n
  | 0 => rfl
  | n + 1 => by simp only [catG, List.length_append, catG_len h n, grpB_len h n]; omega
theorem wordsR_len {k : List B8} (h : k.length = 16) : (wordsR k).length = 176 := catG_len h 11

def sp_RExpand : List V → Option V
  | [.a [.b8 16 l]] => some (.a [.b8 176 (wordsR l)])
  | _ => none
theorem e_RExpand (G : Gl) : EntryOk G Tryd.prog 76 (pureSp sp_RExpand) := by
  refine entry_pure (Go.Mo.enters_of Tryd.func76 (by kernel_rfl)) ?_
  intro args v h π vargs ha fresh m
  unfold sp_RExpand at h
  split at h
  · rename_i l
    cases h
    have hl := args_b8 ha
    have he := l_Expand wordsR l
    rw [upL_nth 176 0 (by rw [wordsR_len hl]), List.drop_zero, List.append_nil] at he
    exact fitsP (K := K_X wordsR) (obs := []) ((good_X G).good mixed) 200 _ [] Tryd.func76 he (by intro p hp; cases hp) (by kernel_rfl) rfl rfl fresh m
  · cases h
def E_RExpand : List (Nat × Mo.Spec) := (76, pureSp sp_RExpand) :: E_RWords
def K_RExpand : Cx := cxOf Tryd.prog E_RExpand
theorem good_RExpand (G : Gl) : EnvL G Tryd.prog E_RExpand := .cons (e_RExpand G) (good_RWords G)
end
end Go.Proofs.YtamlbiaakogahaaDoor


namespace Go.Proofs.YtamlbiaakogahaaDoor
open Go Go.Mo
noncomputable section
def sp_Prep : List V → Option V
  | [.a [.b8 16 l]] => some (.a [.b8 176 (wordsR l), .b8 256 sboxL])
  | _ => none
theorem e_Prep (G : Gl) : EntryOk G Tryd.prog 27 (pureSp sp_Prep) := by
  refine entry_pure (Go.Mo.enters_of Tryd.func27 (by kernel_rfl)) ?_
  intro args v h π vargs ha fresh m
  unfold sp_Prep at h
  split at h
  · rename_i l
    cases h
    exact fitsP (K := K_RExpand) (obs := []) ((good_RExpand G).good mixed) 60 _ [] Tryd.func27 (by kernel_rfl) (by intro p hp; cases hp) (by kernel_rfl) rfl rfl fresh m
  · cases h
def E_Prep : List (Nat × Mo.Spec) := (27, pureSp sp_Prep) :: E_RExpand
def K_Prep : Cx := cxOf Tryd.prog E_Prep
theorem good_Prep (G : Gl) : EnvL G Tryd.prog E_Prep := .cons (e_Prep G) (good_RExpand G)
end
end Go.Proofs.YtamlbiaakogahaaDoor

