/- Contracts of functions by the evaluator (C8). -/
import Derived.Test.YtamlbiaakogahaaDoorCS
import Derived.Test.YtamlbiaakogahaaDoorSp5
import Derived.Test.YtamlbiaakogahaaDoorProg
namespace Go.Proofs.YtamlbiaakogahaaDoor
open Go Go.Mo
noncomputable section
noncomputable abbrev mF := Tryd.f107
noncomputable abbrev mK : Cx := K_0
noncomputable abbrev mL := tl 2 (bodyOf mF)
def mM (P : List Int) : List (Option Blk) := [some ⟨[.is 15 P], true⟩]
def m0 (a b : B8) (o : List (Option Bool)) : St := init mF [.s (.b8 a), .s (.b8 b)] [] o
def mA (a b : B8) (o : List (Option Bool)) : St := stO (runHeads mK 60 2 (bodyOf mF) (m0 a b o))
def mfr (a b : B8) (o : List (Option Bool)) : Fr := frAfter mK 60 (cB mL) (mA a b o)
def mS (a b : B8) (o : List (Option Bool)) : Nat → St
  | 0 => ⟨mfr a b o, mF.ntmps, mM (p1 a b 0), o, []⟩
  | j + 1 => ⟨frAfter mK 60 (cL mL) ⟨(mfr a b o).set 6 (.s (.i .i64 (.ofNat j))), mF.ntmps, mM (p1 a b j), o, []⟩, mF.ntmps, mM (p1 a b (j + 1)), o, []⟩
theorem mstep (a b : B8) (o : List (Option Bool)) (j : Nat) (h : j < 8) : runK (acode mK 60 (cL mL)) 1 (mS a b o j) = some (mS a b o (j + 1)) :=
  tab_all (f := fun j => runK (acode mK 60 (cL mL)) 1 (mS a b o j)) (g := fun j => some (mS a b o (j + 1))) (N := 8) (by kernel_rfl) j h
def mfrE (a b : B8) (o : List (Option Bool)) : Fr := (stOf (acode mK 60 (cL mL) (mS a b o 8))).fr
theorem mcut1 (a b : B8) (o : List (Option Bool)) : runHeads mK 60 2 (bodyOf mF) (m0 a b o) = some (mA a b o) := by kernel_rfl
theorem mcut2 : mL = .seq (.seq (cB mL) (.block 0 (.loop (cL mL)))) (cT mL) := by kernel_rfl
theorem mcut3 (a b : B8) (o : List (Option Bool)) : acode mK 60 (cB mL) (mA a b o) = some (.normal, mS a b o 0) := by kernel_rfl
theorem mcut4 (a b : B8) (o : List (Option Bool)) : acode mK 60 (cL mL) (mS a b o 8) = some (.exit 0, ⟨mfrE a b o, mF.ntmps, mM (p1 a b 8), o, []⟩) := by kernel_rfl
theorem mcut (a b : B8) (o : List (Option Bool)) : acode mK 60 (bodyOf mF) (m0 a b o) = acode mK 60 (cT mL) ⟨mfrE a b o, mF.ntmps, mM (p1 a b 8), o, []⟩ :=
  (acode_heads 2 (mcut1 a b o)).trans (acode_cut (k := 1) (J := 8) (n := 51) mcut2 (mcut3 a b o) (mstep a b o) (by kernel_rfl) (mcut4 a b o))
def mf (a b : B8) (o : List (Option Bool)) (P : List Int) (n : Nat) : Option (V × List (Bool × Bool) × List (Option Blk)) := endOf mK mF [] (acode mK 60 (cT mL) ⟨mfrE a b o, mF.ntmps, mM P, orcN n, []⟩)
def mg (P : List Int) (n : Nat) : Option (V × List (Bool × Bool) × List (Option Blk)) := some (.s (.b8 (finM (redN P n 7))), obsN P n 7, [])
theorem mB0 (a b : B8) (o : List (Option Bool)) (P : List Int) : tabL (mf a b o P) 128 = tabR (mg P) 128 := by kernel_rfl
theorem mB (a b : B8) (o : List (Option Bool)) (P : List Int) (n : Nat) (h : n < 128) : mf a b o P n = mg P n := tab_all (mB0 a b o P) n h
theorem l_Mul (a b : B8) : ∃ orc obs, evalE mK 60 mF [.s (.b8 a), .s (.b8 b)] [] orc [] = some (.s (.b8 (mulR a b)), obs, []) ∧ ObsOk obs := by
  obtain ⟨n, hn, e, ho⟩ := redN_true (p1 a b 8)
  refine ⟨orcN n, obsN (p1 a b 8) n 7, ?_, ho⟩
  rw [evalE_end (c := bodyOf mF) (by kernel_rfl)]
  show endOf mK mF [] (acode mK 60 (bodyOf mF) (m0 a b (orcN n))) = _
  rw [mcut]
  show mf a b (orcN n) (p1 a b 8) n = _
  rw [mB a b (orcN n) (p1 a b 8) n hn]
  unfold mg
  rw [e]
  rfl
def sp_Mul : List V → Option V
  | [.s (.b8 a), .s (.b8 b)] => some (.s (.b8 (mulR a b)))
  | _ => none
theorem e_Mul (G : Gl) : EntryOk G Tryd.prog 107 (pureSp sp_Mul) := by
  refine entry_pure (Go.Mo.enters_of Tryd.func107 (by kernel_rfl)) ?_
  intro args v h π vargs ha fresh m
  unfold sp_Mul at h
  split at h
  · rename_i a b
    cases h
    obtain ⟨orc, obs, he, ho⟩ := l_Mul a b
    exact fitsP (K := K_0) (obs := obs) ((good_0 G).good mixed) 60 _ orc Tryd.func107 he ho (by kernel_rfl) rfl rfl fresh m
  · cases h
def E_Mul : List (Nat × Mo.Spec) := (107, pureSp sp_Mul) :: E_0
def K_Mul : Cx := cxOf Tryd.prog E_Mul
theorem good_Mul (G : Gl) : EnvL G Tryd.prog E_Mul := .cons (e_Mul G) (good_0 G)
end
end Go.Proofs.YtamlbiaakogahaaDoor
