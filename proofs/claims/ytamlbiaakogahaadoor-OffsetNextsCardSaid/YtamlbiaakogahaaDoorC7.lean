/- Contracts of functions by the evaluator (C7). -/
import Derived.Test.YtamlbiaakogahaaDoorC6
import Derived.Test.YtamlbiaakogahaaDoorProg
namespace Go.Proofs.YtamlbiaakogahaaDoor
open Go Go.Mo
noncomputable section
theorem l_AtT (p : TP) (n : Int) : ∃ orc obs, evalE K_TCipher 60 Tryd.f30 [.s (.ptr 0 0), .s (.si n)] [tabC (.ptr 1 0) p.st p.dl p.bl, ciphC p.kf p.kb p.k p.T] orc [] = some (.a [.b8 16 (atL p.bl n)], obs, []) ∧ ObsOk obs := by
  cases n with
  | ofNat i =>
    rcases Nat.lt_or_ge i 64 with h | h
    · exact ⟨[], [], tab_all (f := fun i => evalE K_TCipher 60 Tryd.f30 [.s (.ptr 0 0), .s (.si (.ofNat i))] [tabC (.ptr 1 0) p.st p.dl p.bl, ciphC p.kf p.kb p.k p.T] [] []) (g := fun i => some (.a [.b8 16 (atL p.bl (.ofNat i))], [], [])) (N := 64) (by kernel_rfl) i h, by intro q hq; cases hq⟩
    · have e : atL p.bl (.ofNat i) = z16 := by
        unfold atL
        cases hb : Nat.blt i 64
        · simp only [hb, cond_false]
        · have := Nat.le_of_ble_eq_true hb; omega
      rw [e]
      refine ⟨[some false, some true], [(decide ((64 : Int) ≤ .ofNat i), true), (decide ((.ofNat i : Int) < 0), false)], by kernel_rfl, ?_⟩
      intro q hq
      simp only [List.mem_cons, List.not_mem_nil, or_false] at hq
      rcases hq with rfl | rfl
      · exact decide_eq_true (by show (64 : Int) ≤ (i : Int); omega)
      · exact decide_eq_false (by show ¬ ((i : Int) < 0); omega)
  | negSucc i =>
    refine ⟨[some true], [(decide ((Int.negSucc i : Int) < 0), true)], by kernel_rfl, ?_⟩
    intro q hq
    simp only [List.mem_cons, List.not_mem_nil, or_false] at hq
    subst hq
    exact decide_eq_true (Int.negSucc_lt_zero i)

theorem l_AtN (n : Int) : ∃ orc obs, evalE K_TCipher 60 Tryd.f30 [.s .nil, .s (.si n)] [] orc [] = some (.a [.b8 16 (atL (splD dblL star0 64) n)], obs, []) ∧ ObsOk obs := by
  cases n with
  | ofNat i =>
    rcases Nat.lt_or_ge i 64 with h | h
    · exact ⟨[], [], tab_all (f := fun i => evalE K_TCipher 60 Tryd.f30 [.s .nil, .s (.si (.ofNat i))] [] [] []) (g := fun i => some (.a [.b8 16 (atL (splD dblL star0 64) (.ofNat i))], [], [])) (N := 64) (by kernel_rfl) i h, by intro q hq; cases hq⟩
    · have e : atL (splD dblL star0 64) (.ofNat i) = z16 := by
        unfold atL
        cases hb : Nat.blt i 64
        · simp only [hb, cond_false]
        · have := Nat.le_of_ble_eq_true hb; omega
      rw [e]
      refine ⟨[some false, some true], [(decide ((64 : Int) ≤ .ofNat i), true), (decide ((.ofNat i : Int) < 0), false)], by kernel_rfl, ?_⟩
      intro q hq
      simp only [List.mem_cons, List.not_mem_nil, or_false] at hq
      rcases hq with rfl | rfl
      · exact decide_eq_true (by show (64 : Int) ≤ (i : Int); omega)
      · exact decide_eq_false (by show ¬ ((i : Int) < 0); omega)
  | negSucc i =>
    refine ⟨[some true], [(decide ((Int.negSucc i : Int) < 0), true)], by kernel_rfl, ?_⟩
    intro q hq
    simp only [List.mem_cons, List.not_mem_nil, or_false] at hq
    subst hq
    exact decide_eq_true (Int.negSucc_lt_zero i)


def sp_AtT : Mo.Spec := fun args _fresh =>
  match args with
  | [.s (.ptr t 0), .s ix] => (match ixI ix with | some n => rdT t fun _c p => some (.a [.b8 16 (atL p.bl n)], []) | none => .fail)
  | _ => .fail
theorem e_AtT (G : Gl) (hG : DB G) : EntryOk G Tryd.prog 30 sp_AtT := by
  intro args fresh m v news fp hx
  unfold sp_AtT at hx
  split at hx
  · rename_i t ix
    split at hx
    · rename_i n hn
      obtain ⟨c, p, x, y, h1, h2, h3, h4, hk⟩ := rdT_run hx
      cases hk
      refine Fits.args (args' := [.s (.ptr t 0), .s (.si n)]) ?_ fun π vargs ha => argsCv_last (l := [.s (.ptr t 0)]) (fun _ hv => ixI_cv hn hv) ha
      obtain ⟨orc, obs, he, ho⟩ := l_AtT p n
      exact fitsM (K := K_TCipher) (obs := obs) (v := .a [.b8 16 (atL p.bl n)]) (gsl := []) ((good_TCipher G hG).good mixed) 60 [.s (.ptr 0 0), .s (.si n)] [tabC (.ptr 1 0) p.st p.dl p.bl, ciphC p.kf p.kb p.k p.T] orc [] Tryd.func30 he ho (by kernel_rfl) (at2 t c) (seesT h1 h2 h3 h4) fresh rfl rfl rfl
    · cases hx
  · cases hx
def sp_AtN : Mo.Spec := fun args _fresh =>
  match args with
  | [.s .nil, .s ix] => (match ixI ix with | some n => .pure (.a [.b8 16 (atL (splD dblL star0 64) n)], []) | none => .fail)
  | _ => .fail
theorem e_AtN (G : Gl) (hG : DB G) : EntryOk G Tryd.prog 30 sp_AtN := by
  intro args fresh m v news fp hx
  unfold sp_AtN at hx
  split at hx
  · rename_i ix
    split at hx
    · rename_i n hn
      cases hx
      refine Fits.args (args' := [.s .nil, .s (.si n)]) ?_ fun π vargs ha => argsCv_last (l := [.s .nil]) (fun _ hv => ixI_cv hn hv) ha
      obtain ⟨orc, obs, he, ho⟩ := l_AtN n
      exact fitsM (K := K_TCipher) (obs := obs) (v := .a [.b8 16 (atL (splD dblL star0 64) n)]) (gsl := []) ((good_TCipher G hG).good mixed) 60 [.s .nil, .s (.si n)] [] orc [] Tryd.func30 he ho (by kernel_rfl) (fun i => i) sees0 fresh rfl rfl rfl
    · cases hx
  · cases hx

def sp_At : Mo.Spec := altSp firstNil sp_AtN sp_AtT
theorem e_At (G : Gl) (hG : DB G) : EntryOk G Tryd.prog 30 sp_At := EntryOk.alt firstNil (e_AtN G hG) (e_AtT G hG)
def E_At : List (Nat × Mo.Spec) := (30, sp_At) :: E_TCipher
def K_At : Cx := cxOf Tryd.prog E_At
theorem good_At (G : Gl) (hG : DB G) : EnvL G Tryd.prog E_At := .cons (e_At G hG) (good_TCipher G hG)
def sp_ForN : Mo.Spec := fun args _fresh =>
  match args with
  | [.s .nil, .s (.b64 n)] => .pure (.a [.b8 16 (atL (splD dblL star0 64) (tzI n))], [])
  | _ => .fail
theorem e_ForN (G : Gl) (hG : DB G) : EntryOk G Tryd.prog 25 sp_ForN := by
  intro args fresh m v news fp hx
  unfold sp_ForN at hx
  split at hx
  · rename_i n
    cases hx
    refine Fits.intro (Go.Mo.enters_of Tryd.func25 (by kernel_rfl)) fun π vargs ha => ?_
    exact fitsM (K := K_At) (obs := []) (v := .a [.b8 16 (atL (splD dblL star0 64) (tzI n))]) (gsl := []) ((good_At G hG).good mixed) 100 [.s .nil, .s (.b64 n)] [] [] [] Tryd.func25 (by kernel_rfl) (by intro p hp; cases hp) (by kernel_rfl) (fun i => i) sees0 fresh (by kernel_rfl) (by kernel_rfl) (by kernel_rfl)
  · cases hx
def sp_ForT : Mo.Spec := fun args _fresh =>
  match args with
  | [.s (.ptr t 0), .s (.b64 n)] => rdT t fun _c p => some (.a [.b8 16 (atL p.bl (tzI n))], [])
  | _ => .fail
theorem e_ForT (G : Gl) (hG : DB G) : EntryOk G Tryd.prog 25 sp_ForT := by
  intro args fresh m v news fp hx
  unfold sp_ForT at hx
  split at hx
  · rename_i t n
    obtain ⟨c, p, x, y, h1, h2, h3, h4, hk⟩ := rdT_run hx
    cases hk
    refine Fits.intro (Go.Mo.enters_of Tryd.func25 (by kernel_rfl)) fun π vargs ha => ?_
    exact fitsM (K := K_At) (obs := []) (v := .a [.b8 16 (atL p.bl (tzI n))]) (gsl := []) ((good_At G hG).good mixed) 60 [.s (.ptr 0 0), .s (.b64 n)] [tabC (.ptr 1 0) p.st p.dl p.bl, ciphC p.kf p.kb p.k p.T] [] [] Tryd.func25 (by kernel_rfl) (by intro p hp; cases hp) (by kernel_rfl) (at2 t c) (seesT h1 h2 h3 h4) fresh rfl rfl rfl
  · cases hx
def sp_For : Mo.Spec := altSp firstNil sp_ForN sp_ForT
theorem e_For (G : Gl) (hG : DB G) : EntryOk G Tryd.prog 25 sp_For := EntryOk.alt firstNil (e_ForN G hG) (e_ForT G hG)
def E_For : List (Nat × Mo.Spec) := (25, sp_For) :: E_At
def K_For : Cx := cxOf Tryd.prog E_For
theorem good_For (G : Gl) (hG : DB G) : EnvL G Tryd.prog E_For := .cons (e_For G hG) (good_At G hG)
end
end Go.Proofs.YtamlbiaakogahaaDoor
