/- Contracts of functions by the evaluator (C15). -/
import Derived.Test.YtamlbiaakogahaaDoorC14
import Derived.Test.YtamlbiaakogahaaDoorProg
namespace Go.Proofs.YtamlbiaakogahaaDoor
open Go Go.Mo
noncomputable section

/-! For -/
theorem zerR_ok (x : BitVec 64) : ObsOk [(decide (-1 ≤ zerR x), true), (decide (zerR x ≤ 64), true)] := by
  have := (zerGo_spec 64 x).1
  intro q hq
  simp only [List.mem_cons, List.not_mem_nil, or_false] at hq
  unfold zerR at hq
  rcases hq with rfl | rfl
  · show decide (-1 ≤ ((zerGo 64 x : Nat) : Int)) = true
    exact decide_eq_true (by omega)
  · show decide (((zerGo 64 x : Nat) : Int) ≤ 64) = true
    exact decide_eq_true (by omega)
def sp_RFor : List V → Option V
  | [.a [.b8 16 s], .s (.b64 n)] => some (.a [.b8 16 (refAt dblR s (zerR n))])
  | _ => none
theorem e_RFor (G : Gl) : EntryOk G Tryd.prog 28 (pureSp sp_RFor) := by
  refine entry_pure (Go.Mo.enters_of Tryd.func28 (by kernel_rfl)) ?_
  intro args v h π vargs ha fresh m
  unfold sp_RFor at h
  split at h
  · rename_i s n
    cases h
    exact fitsP (K := cxC Tryd.prog C_RAt E_RStar) (obs := [(decide (-1 ≤ zerR n), true), (decide (zerR n ≤ 64), true)]) ((cond_RAt G).good (good_RStar G) mixed) 80 _ [] Tryd.func28 (by kernel_rfl) (zerR_ok n) (by kernel_rfl) rfl rfl fresh m
  · cases h
def E_RFor : List (Nat × Mo.Spec) := (28, pureSp sp_RFor) :: E_RStar
def K_RFor : Cx := cxOf Tryd.prog E_RFor
theorem good_RFor (G : Gl) : EnvL G Tryd.prog E_RFor := .cons (e_RFor G) (good_RStar G)

/-! Shift: what it calls kept as names. -/
noncomputable abbrev shF := Tryd.f48
def spS_Bits (B : List B8 → List Int) : Mo.Spec := fun args fresh =>
  match args with
  | [.s (.slice b 0 24 24)] => rd1 b fun g => match g with | [.b8 24 l] => some (.s (.osl fresh 0 192 1), [[.is 192 (B l)]]) | _ => none
  | _ => .fail
def spS_Of (F : List Int → List B8) : Mo.Spec := fun args _fresh =>
  match args with
  | [.s (.osl b o 128 1)] => rd1 b fun g => match g with | [.is 192 L] => (bif Nat.ble (o + 128) 192 then some (.a [.b8 16 (F ((L.drop o).take 128))], []) else none) | _ => none
  | _ => .fail
def E_Shn (B : List B8 → List Int) (F : List Int → List B8) : List (Nat × Mo.Spec) := (79, spS_Bits B) :: (80, spS_Of F) :: E_RFor
def K_Shn (B : List B8 → List Int) (F : List Int → List B8) : Cx := cxOf Tryd.prog (E_Shn B F)
theorem eS_Of (G : Gl) : EntryOk G Tryd.prog 80 (spS_Of ofL) := by
  intro args fresh m v news fp hx
  refine e_Of G args fresh m v news fp ?_
  unfold spS_Of at hx
  split at hx
  · rename_i b o
    obtain ⟨x, hb, hk⟩ := rd1_run hx
    split at hk
    · rename_i L hg
      cases hc : Nat.ble (o + 128) 192 <;> simp only [hc, cond_true, cond_false] at hk
      · cases hk
      cases hk
      have hfp : fp = [b] := by
        obtain ⟨y, fp', h1, h2, h3⟩ := read_run hx
        rw [hb] at h1; cases h1
        simp only [hg, hc, cond_true] at h2
        cases h2; exact h3
      subst hfp
      simp only [sp_Of, rd1, Rd.run, hb, hg, hc, cond_true]
      rfl
    · cases hk
  · cases hx
theorem good_Shn (G : Gl) : EnvL G Tryd.prog (E_Shn (fun l => bitsN l 24) ofL) := .cons (show EntryOk G Tryd.prog _ sp_Bits24 from e_Bits24 G) (.cons (eS_Of G) (good_RFor G))
def shf (B : List B8 → List Int) (F : List Int → List B8) (l : List B8) (k : Nat) : Option (V × List (Bool × Bool) × List (Option Blk)) := evalE (K_Shn B F) 60 shF [.a [.b8 24 l], .s (.si (.ofNat k))] [] [] []
def shg (B : List B8 → List Int) (F : List Int → List B8) (l : List B8) (k : Nat) : Option (V × List (Bool × Bool) × List (Option Blk)) := some (.a [.b8 16 (F (((B l).drop k).take 128))], [], [])
theorem l_RShift0 (B : List B8 → List Int) (F : List Int → List B8) (l : List B8) : tabL (shf B F l) 65 = tabR (shg B F l) 65 := by kernel_rfl
def sp_RSh : Mo.Spec := fun args _fresh =>
  match args with
  | [.a [.b8 24 l], .s ix] => (match ixI ix with | some n => .pure (.a [.b8 16 (shiftR l n)], []) | none => .fail)
  | _ => .fail
def ob_RSh : Ob := fun args =>
  match args with
  | [_, .s ix] => (match ixI ix with | some n => [(decide (0 ≤ n), true), (decide (n ≤ 64), true)] | none => [])
  | _ => []
theorem e_RSh (G : Gl) : EntryOkO G Tryd.prog 48 sp_RSh ob_RSh := by
  intro args fresh m v news fp hx ho
  unfold sp_RSh at hx
  split at hx
  · rename_i l ix
    split at hx
    · rename_i n hn
      cases hx
      simp only [ob_RSh, hn] at ho
      have h1 := of_decide_eq_true (ho _ (List.mem_cons_self ..))
      have h2 := of_decide_eq_true (ho _ (List.mem_cons_of_mem _ (List.mem_cons_self ..)))
      refine Fits.args (args' := [.a [.b8 24 l], .s (.si n)]) ?_ fun π vargs ha => argsCv_last (l := [.a [.b8 24 l]]) (fun _ hv => ixI_cv hn hv) ha
      have he : shf (fun l => bitsN l 24) ofL l n.toNat = shg (fun l => bitsN l 24) ofL l n.toNat := tab_all (l_RShift0 _ ofL l) _ (by omega)
      unfold shf shg at he
      rw [show (Int.ofNat n.toNat) = n from Int.toNat_of_nonneg h1] at he
      refine Fits.intro (Go.Mo.enters_of Tryd.func48 (by kernel_rfl)) fun π vargs ha => ?_
      exact fitsM (K := K_Shn (fun l => bitsN l 24) ofL) (obs := []) (v := .a [.b8 16 (shiftR l n)]) (gsl := []) ((good_Shn G).good mixed) 60 [.a [.b8 24 l], .s (.si n)] [] [] [] Tryd.func48 he (by intro p hp; cases hp) (by kernel_rfl) (fun i => i) sees0 fresh rfl rfl rfl
    · cases hx
  · cases hx
def C_RSh : List (Nat × Mo.Spec × Ob) := (48, sp_RSh, ob_RSh) :: C_RAt
theorem cond_RSh (G : Gl) : CondL G Tryd.prog C_RSh := .cons (e_RSh G) (cond_RAt G)

end
end Go.Proofs.YtamlbiaakogahaaDoor
