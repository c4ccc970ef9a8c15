/- Contracts of functions by the evaluator (C14). -/
import Derived.Test.YtamlbiaakogahaaDoorC13
import Derived.Test.YtamlbiaakogahaaDoorC11
import Derived.Test.YtamlbiaakogahaaDoorProg
namespace Go.Proofs.YtamlbiaakogahaaDoor
open Go Go.Mo
noncomputable section
def E_J : List (Nat × Mo.Spec) := E_RDbl ++ E_Prep
def K_J : Cx := cxOf Tryd.prog E_J
theorem good_J (G : Gl) : EnvL G Tryd.prog E_J := (good_RDbl G).append (good_Prep G)
/-! Zeros -/
noncomputable abbrev zF := Tryd.f78
def zf (x : BitVec 64) (k : Nat) : Option (V × List (Bool × Bool) × List (Option Blk)) := evalE K_J 80 zF [.s (.b64 x)] [] (orcZ k) []
def zg (x : BitVec 64) (k : Nat) : Option (V × List (Bool × Bool) × List (Option Blk)) := some (.s (.i .i64 (.ofNat k)), obsZ x k, [])
theorem l_Zeros0 (x : BitVec 64) : tabL (zf x) 65 = tabR (zg x) 65 := by kernel_rfl
def sp_RZeros : List V → Option V
  | [.s (.b64 x)] => some (.s (.si (zerR x)))
  | _ => none
theorem e_RZeros (G : Gl) : EntryOk G Tryd.prog 78 (pureSp sp_RZeros) := by
  refine entry_pure (Go.Mo.enters_of Tryd.func78 (by kernel_rfl)) ?_
  intro args v h π vargs ha fresh m
  unfold sp_RZeros at h
  split at h
  · rename_i x
    cases h
    have hk : zerGo 64 x < 65 := Nat.lt_succ_of_le (zerGo_spec 64 x).1
    have he : evalE K_J 80 zF [.s (.b64 x)] [] (orcZ (zerGo 64 x)) [] = some (.s (.i .i64 (.ofNat (zerGo 64 x))), obsZ x (zerGo 64 x), []) := tab_all (l_Zeros0 x) (zerGo 64 x) hk
    refine Fits.val (v := .s (.i .i64 (.ofNat (zerGo 64 x)))) ?_ (fun _ _ h => h)
    exact fitsP (K := K_J) (obs := obsZ x (zerGo 64 x)) ((good_J G).good mixed) 80 _ (orcZ (zerGo 64 x)) Tryd.func78 he (obsZ_ok x) (by kernel_rfl) rfl rfl fresh m
  · cases h
def E_RZeros : List (Nat × Mo.Spec) := (78, pureSp sp_RZeros) :: E_J
def K_RZeros : Cx := cxOf Tryd.prog E_RZeros
theorem good_RZeros (G : Gl) : EnvL G Tryd.prog E_RZeros := .cons (e_RZeros G) (good_J G)
def sp_RStar : Mo.Spec := fun args _fresh =>
  match args with
  | [.a [.b8 176 e, .b8 256 T]] => .pure (.a [.b8 16 (refEnc e T z16)], [])
  | _ => .fail
theorem e_RStar (G : Gl) : EntryOk G Tryd.prog 26 sp_RStar := by
  intro args fresh m v news fp hx
  unfold sp_RStar at hx
  split at hx
  · rename_i e T
    cases hx
    refine Fits.intro (Go.Mo.enters_of Tryd.func26 (by kernel_rfl)) fun π vargs ha => ?_
    exact fitsM (K := K_RZeros) (obs := []) (v := .a [.b8 16 (refEnc e T z16)]) (gsl := []) ((good_RZeros G).good mixed) 100 [.a [.b8 176 e, .b8 256 T]] [] [] [] Tryd.func26 (by kernel_rfl) (by intro p hp; cases hp) (by kernel_rfl) (fun i => i) sees0 fresh (by kernel_rfl) (by kernel_rfl) (by kernel_rfl)
  · cases hx
def E_RStar : List (Nat × Mo.Spec) := (26, sp_RStar) :: E_RZeros
def K_RStar : Cx := cxOf Tryd.prog E_RStar
theorem good_RStar (G : Gl) : EnvL G Tryd.prog E_RStar := .cons (e_RStar G) (good_RZeros G)

/-! At: the doubles kept as a name. -/
noncomputable abbrev atF := Tryd.f31
def spA1 (D : List B8 → List B8) : List V → Option V
  | [.a [.b8 16 l]] => some (.a [.b8 16 (D l)])
  | _ => none
def E_A (D : List B8 → List B8) : List (Nat × Mo.Spec) := (29, pureSp (spA1 D)) :: E_RStar
def K_A (D : List B8 → List B8) : Cx := cxOf Tryd.prog (E_A D)
theorem good_A (G : Gl) : EnvL G Tryd.prog (E_A dblR) := .cons (show EntryOk G Tryd.prog _ (pureSp sp_RDbl) from e_RDbl G) (good_RStar G)
def atf (D : List B8 → List B8) (s : List B8) (k : Nat) : Option (V × List (Bool × Bool) × List (Option Blk)) := evalE (K_A D) 80 atF [.a [.b8 16 s], .s (.si ((k : Int) - 1))] [] [] []
def atg (D : List B8 → List B8) (s : List B8) (k : Nat) : Option (V × List (Bool × Bool) × List (Option Blk)) := some (.a [.b8 16 (itD D s (k + 1))], [], [])
theorem l_RAt0 (D : List B8 → List B8) (s : List B8) : tabL (atf D s) 66 = tabR (atg D s) 66 := by kernel_rfl
def sp_RAt : Mo.Spec := fun args _fresh =>
  match args with
  | [.a [.b8 16 s], .s ix] => (match ixI ix with | some n => .pure (.a [.b8 16 (refAt dblR s n)], []) | none => .fail)
  | _ => .fail
def ob_RAt : Ob := fun args =>
  match args with
  | [_, .s ix] => (match ixI ix with | some n => [(decide (-1 ≤ n), true), (decide (n ≤ 64), true)] | none => [])
  | _ => []
theorem e_RAt (G : Gl) : EntryOkO G Tryd.prog 31 sp_RAt ob_RAt := by
  intro args fresh m v news fp hx ho
  unfold sp_RAt at hx
  split at hx
  · rename_i s ix
    split at hx
    · rename_i n hn
      cases hx
      simp only [ob_RAt, hn] at ho
      have h1 := of_decide_eq_true (ho _ (List.mem_cons_self ..))
      have h2 := of_decide_eq_true (ho _ (List.mem_cons_of_mem _ (List.mem_cons_self ..)))
      refine Fits.args (args' := [.a [.b8 16 s], .s (.si n)]) ?_ fun π vargs ha => argsCv_last (l := [.a [.b8 16 s]]) (fun _ hv => ixI_cv hn hv) ha
      have he : atf dblR s (n + 1).toNat = atg dblR s (n + 1).toNat := tab_all (l_RAt0 dblR s) _ (by omega)
      unfold atf atg at he
      rw [show (((n + 1).toNat : Nat) : Int) - 1 = n by omega, show (n + 1).toNat + 1 = (n + 2).toNat by omega] at he
      refine Fits.intro (Go.Mo.enters_of Tryd.func31 (by kernel_rfl)) fun π vargs ha => ?_
      exact fitsM (K := K_A dblR) (obs := []) (v := .a [.b8 16 (itD dblR s (n + 2).toNat)]) (gsl := []) ((good_A G).good mixed) 80 [.a [.b8 16 s], .s (.si n)] [] [] [] Tryd.func31 he (by intro p hp; cases hp) (by kernel_rfl) (fun i => i) sees0 fresh rfl rfl rfl
    · cases hx
  · cases hx
def C_RAt : List (Nat × Mo.Spec × Ob) := [(31, sp_RAt, ob_RAt)]
theorem cond_RAt (G : Gl) : CondL G Tryd.prog C_RAt := .cons (e_RAt G) .nil

end
end Go.Proofs.YtamlbiaakogahaaDoor
