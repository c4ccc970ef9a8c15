/- Contracts of functions by the evaluator (C20). -/
import Derived.Test.YtamlbiaakogahaaDoorC18
import Derived.Test.YtamlbiaakogahaaDoorC19
import Derived.Test.YtamlbiaakogahaaDoorProg

namespace Go.Proofs.YtamlbiaakogahaaDoor
open Go Go.Mo
noncomputable section

/-! A loop whose tests' answers are picked. -/
def dnO (tb : Nat → Bool) : Nat → Nat → List (Bool × Bool) → List (Bool × Bool)
  | _, 0, ob => ob
  | j, m + 1, ob => dnO tb (j + 1) m ((tb j, true) :: ob)
theorem dnO_ok {tb : Nat → Bool} : ∀ (m j : Nat) {ob : List (Bool × Bool)}, ObsOk ob → (∀ i, i < m → tb (j + i) = true) → ObsOk (dnO tb j m ob)
  | 0, _, _, h, _ => h
  | m + 1, j, ob, h, ht => by
    refine dnO_ok m (j + 1) (ob := (tb j, true) :: ob) ?_ fun i hi => by rw [show j + 1 + i = j + (i + 1) by omega]; exact ht _ (by omega)
    intro q hq
    rcases List.mem_cons.1 hq with rfl | hq
    · exact ht 0 (by omega)
    · exact h q hq
theorem aloop_orc {body : St → Option (Ex × St)} {S : List (Option Bool) → List (Bool × Bool) → Nat → St} {tb : Nat → Bool} {N : Nat}
    (hs : ∀ j, j < N → ∀ o ob, body (S (some true :: o) ob j) = some (.normal, S o ((tb j, true) :: ob) (j + 1))) : ∀ (m j n : Nat) (o : List (Option Bool)) (ob : List (Bool × Bool)), j + m ≤ N →
      aloop body (m + n) (S (List.replicate m (some true) ++ o) ob j) = aloop body n (S o (dnO tb j m ob) (j + m))
  | 0, j, n, o, ob, _ => by rw [Nat.zero_add]; rfl
  | m + 1, j, n, o, ob, h => by
    rw [show m + 1 + n = (m + n) + 1 by omega]
    have := hs j (by omega) (List.replicate m (some true) ++ o) ob
    show aloop body (m + n + 1) (S (some true :: (List.replicate m (some true) ++ o)) ob j) = _
    rw [aloop_normal this, aloop_orc hs m (j + 1) n o _ (by omega), show j + 1 + m = j + (m + 1) by omega]
    rfl


def sN_Start (St' : TP → List B8 → List B8) : Mo.Spec := fun args _fresh =>
  match args with
  | [.s (.ptr t 0), .a [.b8 12 n]] => rdT t fun _c p => some (.a [.b8 16 (St' p n)], [])
  | _ => .fail
def sN_Next (X : List B8 → List B8 → List B8) (TZ : BitVec 64 → Int) : Mo.Spec := fun args _fresh =>
  match args with
  | [.s (.ptr t 0), .a [.b8 16 l], .s (.b64 i)] => rdT t fun _c p => some (.a [.b8 16 (X l (atL p.bl (TZ i)))], [])
  | _ => .fail
def E_OA (St' : TP → List B8 → List B8) (X : List B8 → List B8 → List B8) (TZ : BitVec 64 → Int) : List (Nat × Mo.Spec) := (41, sN_Start St') :: (47, sN_Next X TZ) :: E_ONext
def K_OA (St' : TP → List B8 → List B8) (X : List B8 → List B8 → List B8) (TZ : BitVec 64 → Int) : Cx := cxOf Tryd.prog (E_OA St' X TZ)
def stO1 (p : TP) (n : List B8) : List B8 := Mo.shF (strL (runF 0 1 sb p.T p.kf (topL n))) (botI n)
theorem good_OA (G : Gl) (hG : DB G) : EnvL G Tryd.prog (E_OA stO1 xorL tzI) := .cons (show EntryOk G Tryd.prog _ sp_Start from e_Start G hG) (.cons (show EntryOk G Tryd.prog _ sp_ONext from e_ONext G hG) (good_ONext G hG))


section
noncomputable abbrev oaF := Tryd.f45
noncomputable abbrev oaL := tl 2 (bodyOf oaF)
variable (St' : TP → List B8 → List B8) (X : List B8 → List B8 → List B8) (TZ : BitVec 64 → Int) (p : TP) (n : List B8) (i : Int)
def oaM (j : Nat) : List (Option Blk) := [some ⟨tabC (.ptr 1 0) p.st p.dl p.bl, false⟩, some ⟨ciphC p.kf p.kb p.k p.T, false⟩, some ⟨[.b8 12 n], true⟩, some ⟨[.b8 16 (List.replicate 16 0)], true⟩, some ⟨[.b8 16 (offIt X (fun m => atL p.bl (TZ (numO m))) (St' p n) j)], true⟩]
def oa0 (o : List (Option Bool)) : St := init oaF [.s (.ptr 0 0), .a [.b8 12 n], .s (.si i)] [tabC (.ptr 1 0) p.st p.dl p.bl, ciphC p.kf p.kb p.k p.T] o
def oaA (o : List (Option Bool)) : St := stO (runHeads (K_OA St' X TZ) 400 2 (bodyOf oaF) (oa0 p n i o))
def oafr : Fr := frAfter (K_OA St' X TZ) 400 (cB oaL) (oaA St' X TZ p n i [])
def oaS (o : List (Option Bool)) (ob : List (Bool × Bool)) : Nat → St
  | 0 => ⟨oafr St' X TZ p n i, oaF.ntmps, oaM St' X TZ p n 0, o, ob⟩
  | j + 1 => ⟨frAfter (K_OA St' X TZ) 400 (cL oaL) ⟨(oafr St' X TZ p n i).set 14 (.s (.i .i64 (.ofNat j))), oaF.ntmps, oaM St' X TZ p n j, [some true], []⟩, oaF.ntmps, oaM St' X TZ p n (j + 1), o, ob⟩
theorem oastep (j : Nat) (h : j < 302) (o : List (Option Bool)) (ob : List (Bool × Bool)) : acode (K_OA St' X TZ) 400 (cL oaL) (oaS St' X TZ p n i (some true :: o) ob j) = some (.normal, oaS St' X TZ p n i o ((decide (Int.ofNat j < posI i), true) :: ob) (j + 1)) :=
  tab_all (f := fun j => acode (K_OA St' X TZ) 400 (cL oaL) (oaS St' X TZ p n i (some true :: o) ob j)) (g := fun j => some (.normal, oaS St' X TZ p n i o ((decide (Int.ofNat j < posI i), true) :: ob) (j + 1))) (N := 302) (by kernel_rfl) j h
def oaE (o : List (Option Bool)) (ob : List (Bool × Bool)) (j : Nat) : St := stOf (acode (K_OA St' X TZ) 400 (cL oaL) (oaS St' X TZ p n i (some false :: o) ob j))
theorem oaexit (j : Nat) (h : j < 303) (o : List (Option Bool)) (ob : List (Bool × Bool)) : acode (K_OA St' X TZ) 400 (cL oaL) (oaS St' X TZ p n i (some false :: o) ob j) = some (.exit 0, oaE St' X TZ p n i o ob j) :=
  tab_all (f := fun j => acode (K_OA St' X TZ) 400 (cL oaL) (oaS St' X TZ p n i (some false :: o) ob j)) (g := fun j => some (.exit 0, oaE St' X TZ p n i o ob j)) (N := 303) (by kernel_rfl) j h
theorem oafin (j : Nat) (h : j < 303) (o : List (Option Bool)) (ob : List (Bool × Bool)) : endOf (K_OA St' X TZ) oaF [] (acode (K_OA St' X TZ) 400 (cT oaL) (oaE St' X TZ p n i o ob j)) = some (.a [.b8 16 (offIt X (fun m => atL p.bl (TZ (numO m))) (St' p n) j)], (decide (Int.ofNat j < posI i), false) :: ob, []) :=
  tab_all (f := fun j => endOf (K_OA St' X TZ) oaF [] (acode (K_OA St' X TZ) 400 (cT oaL) (oaE St' X TZ p n i o ob j))) (g := fun j => some (.a [.b8 16 (offIt X (fun m => atL p.bl (TZ (numO m))) (St' p n) j)], (decide (Int.ofNat j < posI i), false) :: ob, [])) (N := 303) (by kernel_rfl) j h
theorem oacut1 (o : List (Option Bool)) : runHeads (K_OA St' X TZ) 400 2 (bodyOf oaF) (oa0 p n i o) = some (oaA St' X TZ p n i o) := by kernel_rfl
theorem oacut2 : oaL = .seq (.seq (cB oaL) (.block 0 (.loop (cL oaL)))) (cT oaL) := by kernel_rfl
theorem oacut3 (o : List (Option Bool)) : acode (K_OA St' X TZ) 400 (cB oaL) (oaA St' X TZ p n i o) = some (.normal, oaS St' X TZ p n i o [] 0) := by kernel_rfl
theorem oaeval (m : Nat) (h : m ≤ 302) : evalE (K_OA St' X TZ) 400 oaF [.s (.ptr 0 0), .a [.b8 12 n], .s (.si i)] [tabC (.ptr 1 0) p.st p.dl p.bl, ciphC p.kf p.kb p.k p.T] (List.replicate m (some true) ++ [some false]) [] =
    some (.a [.b8 16 (offIt X (fun m => atL p.bl (TZ (numO m))) (St' p n) m)], (decide (Int.ofNat m < posI i), false) :: dnO (fun j => decide (Int.ofNat j < posI i)) 0 m [], []) := by
  rw [evalE_end (c := bodyOf oaF) (by kernel_rfl)]
  show endOf (K_OA St' X TZ) oaF [] (acode (K_OA St' X TZ) 400 (bodyOf oaF) (oa0 p n i (List.replicate m (some true) ++ [some false]))) = _
  rw [acode_heads 2 (oacut1 St' X TZ p n i _)]
  have hl : acode (K_OA St' X TZ) 400 (.loop (cL oaL)) (oaS St' X TZ p n i (List.replicate m (some true) ++ [some false]) [] 0) = some (.exit 0, oaE St' X TZ p n i [] (dnO (fun j => decide (Int.ofNat j < posI i)) 0 m []) m) := by
    rw [acode_loop_eq]
    have h1 := aloop_orc (S := oaS St' X TZ p n i) (tb := fun j => decide (Int.ofNat j < posI i)) (N := 302) (oastep St' X TZ p n i) m 0 (400 - m) [some false] [] (by omega)
    rw [show m + (400 - m) = 400 by omega, Nat.zero_add] at h1
    rw [h1, show 400 - m = (399 - m) + 1 by omega]
    exact aloop_exit (oaexit St' X TZ p n i m (by omega) [] _)
  have hm : acode (K_OA St' X TZ) 400 (.seq (cB oaL) (.block 0 (.loop (cL oaL)))) (oaA St' X TZ p n i (List.replicate m (some true) ++ [some false])) = some (.normal, oaE St' X TZ p n i [] (dnO (fun j => decide (Int.ofNat j < posI i)) 0 m []) m) := by
    rw [acode_seq_normal (oacut3 St' X TZ p n i _)]
    exact acode_block_exit hl
  show endOf (K_OA St' X TZ) oaF [] (acode (K_OA St' X TZ) 400 oaL _) = _
  rw [oacut2, acode_seq_normal hm]
  exact oafin St' X TZ p n i m (by omega) [] _
end

end
end Go.Proofs.YtamlbiaakogahaaDoor


namespace Go.Proofs.YtamlbiaakogahaaDoor
open Go Go.Mo
noncomputable section

def sp_OAt : Mo.Spec := fun args _fresh =>
  match args with
  | [.s (.ptr t 0), .a [.b8 12 n], .s ix] => (match ixI ix with | some i => rdT t fun _c p => some (.a [.b8 16 (offIt xorL (fun m => atL p.bl (tzI (numO m))) (stO1 p n) (posI i).toNat)], []) | none => .fail)
  | _ => .fail
def ob_OAt : Ob := fun args =>
  match args with
  | [_, _, .s ix] => (match ixI ix with | some i => [(decide (i ≤ 302), true)] | none => [])
  | _ => []
theorem e_OAt (G : Gl) (hG : DB G) : EntryOkO G Tryd.prog 45 sp_OAt ob_OAt := by
  intro args fresh m v news fp hx ho
  unfold sp_OAt at hx
  split at hx
  · rename_i t n ix
    split at hx
    · rename_i i hi
      obtain ⟨c, p, x, y, h1, h2, h3, h4, hk⟩ := rdT_run hx
      cases hk
      simp only [ob_OAt, hi] at ho
      have hle := of_decide_eq_true (ho _ (List.mem_cons_self ..))
      refine Fits.args (args' := [.s (.ptr t 0), .a [.b8 12 n], .s (.si i)]) ?_ fun π vargs ha => argsCv_last (l := [.s (.ptr t 0), .a [.b8 12 n]]) (fun _ hv => ixI_cv hi hv) ha
      have hp : 0 ≤ posI i ∧ posI i ≤ 302 := by unfold posI; split <;> omega
      have he := oaeval stO1 xorL tzI p n i (posI i).toNat (by omega)
      refine Fits.intro (Go.Mo.enters_of Tryd.func45 (by kernel_rfl)) fun π vargs ha => ?_
      refine fitsM (K := K_OA stO1 xorL tzI) (v := .a [.b8 16 (offIt xorL (fun m => atL p.bl (tzI (numO m))) (stO1 p n) (posI i).toNat)]) (gsl := []) ((good_OA G hG).good mixed) 400 [.s (.ptr 0 0), .a [.b8 12 n], .s (.si i)] [tabC (.ptr 1 0) p.st p.dl p.bl, ciphC p.kf p.kb p.k p.T] _ [] Tryd.func45 he ?_ (by kernel_rfl) (at2 t c) (seesT h1 h2 h3 h4) fresh rfl rfl rfl
      intro q hq
      rcases List.mem_cons.1 hq with rfl | hq
      · exact decide_eq_false (by show ¬ (((posI i).toNat : Int) < posI i); omega)
      · exact dnO_ok (tb := fun j => decide (Int.ofNat j < posI i)) _ 0 (fun q hq => by cases hq) (fun j hj => decide_eq_true (by rw [Nat.zero_add]; show (j : Int) < posI i; omega)) q hq
    · cases hx
  · cases hx


/-! mooringref10.At -/
def sM_Star (RE : List B8 → List B8 → List B8) : Mo.Spec := fun args _fresh =>
  match args with
  | [.a [.b8 176 e, .b8 256 T]] => .pure (.a [.b8 16 (RE e T)], [])
  | _ => .fail
def sM_Start (St' : List B8 → List B8 → List B8 → List B8) : List V → Option V
  | [.a [.b8 176 e, .b8 256 T], .a [.b8 12 n]] => some (.a [.b8 16 (St' e T n)])
  | _ => none
def sM_For (FR : List B8 → BitVec 64 → List B8) : List V → Option V
  | [.a [.b8 16 s], .s (.b64 n)] => some (.a [.b8 16 (FR s n)])
  | _ => none
def sM_Xor (X : List B8 → List B8 → List B8) : List V → Option V
  | [.a [.b8 16 a], .a [.b8 16 b]] => some (.a [.b8 16 (X a b)])
  | _ => none
def E_RA (RE : List B8 → List B8 → List B8) (St' : List B8 → List B8 → List B8 → List B8) (FR : List B8 → BitVec 64 → List B8) (X : List B8 → List B8 → List B8) : List (Nat × Mo.Spec) :=
  (26, sM_Star RE) :: (42, pureSp (sM_Start St')) :: (28, pureSp (sM_For FR)) :: (49, pureSp (sM_Xor X)) :: E_RStart
def K_RA (RE : List B8 → List B8 → List B8) (St' : List B8 → List B8 → List B8 → List B8) (FR : List B8 → BitVec 64 → List B8) (X : List B8 → List B8 → List B8) : Cx := cxOf Tryd.prog (E_RA RE St' FR X)
def rStar (e T : List B8) : List B8 := refEnc e T z16
def rStart (e T n : List B8) : List B8 := shiftR (strL (refEnc e T (rtopL n))) (rbotI n)
def rFor (s : List B8) (n : BitVec 64) : List B8 := refAt dblR s (zerR n)
theorem good_RA (G : Gl) : EnvL G Tryd.prog (E_RA rStar rStart rFor xorL) :=
  .cons (show EntryOk G Tryd.prog _ sp_RStar from e_RStar G) (.cons (show EntryOk G Tryd.prog _ (pureSp sp_RStart) from e_RStart G) (.cons (show EntryOk G Tryd.prog _ (pureSp sp_RFor) from e_RFor G) (.cons (show EntryOk G Tryd.prog _ (pureSp sp_RXor) from e_RXor G) (good_RStart G))))


section
noncomputable abbrev raF := Tryd.f46
noncomputable abbrev raL := tl 3 (bodyOf raF)
variable (RE : List B8 → List B8 → List B8) (St' : List B8 → List B8 → List B8 → List B8) (FR : List B8 → BitVec 64 → List B8) (X : List B8 → List B8 → List B8) (e T n : List B8) (i : Int)
def raM (j : Nat) : List (Option Blk) := [some ⟨[.b8 176 e, .b8 256 T], true⟩, some ⟨[.b8 12 n], true⟩, some ⟨[.b8 16 (List.replicate 16 0)], true⟩, some ⟨[.b8 16 (RE e T)], true⟩, some ⟨[.b8 16 (offIt X (fun m => FR (RE e T) (numR m)) (St' e T n) j)], true⟩]
def ra0 (o : List (Option Bool)) : St := init raF [.a [.b8 176 e, .b8 256 T], .a [.b8 12 n], .s (.si i)] [] o
def raA (o : List (Option Bool)) : St := stO (runHeads (K_RA RE St' FR X) 400 3 (bodyOf raF) (ra0 e T n i o))
def rafr : Fr := frAfter (K_RA RE St' FR X) 400 (cB raL) (raA RE St' FR X e T n i [])
def raS (o : List (Option Bool)) (ob : List (Bool × Bool)) : Nat → St
  | 0 => ⟨rafr RE St' FR X e T n i, raF.ntmps, raM RE St' FR X e T n 0, o, ob⟩
  | j + 1 => ⟨frAfter (K_RA RE St' FR X) 400 (cL raL) ⟨(rafr RE St' FR X e T n i).set 9 (.s (.i .i64 (.ofNat (j + 1)))), raF.ntmps, raM RE St' FR X e T n j, [some true], []⟩, raF.ntmps, raM RE St' FR X e T n (j + 1), o, ob⟩
theorem rastep (j : Nat) (h : j < 302) (o : List (Option Bool)) (ob : List (Bool × Bool)) : acode (K_RA RE St' FR X) 400 (cL raL) (raS RE St' FR X e T n i (some true :: o) ob j) = some (.normal, raS RE St' FR X e T n i o ((decide (Int.ofNat (j + 1) ≤ i), true) :: ob) (j + 1)) :=
  tab_all (f := fun j => acode (K_RA RE St' FR X) 400 (cL raL) (raS RE St' FR X e T n i (some true :: o) ob j)) (g := fun j => some (.normal, raS RE St' FR X e T n i o ((decide (Int.ofNat (j + 1) ≤ i), true) :: ob) (j + 1))) (N := 302) (by kernel_rfl) j h
def raE (o : List (Option Bool)) (ob : List (Bool × Bool)) (j : Nat) : St := stOf (acode (K_RA RE St' FR X) 400 (cL raL) (raS RE St' FR X e T n i (some false :: o) ob j))
theorem raexit (j : Nat) (h : j < 303) (o : List (Option Bool)) (ob : List (Bool × Bool)) : acode (K_RA RE St' FR X) 400 (cL raL) (raS RE St' FR X e T n i (some false :: o) ob j) = some (.exit 0, raE RE St' FR X e T n i o ob j) :=
  tab_all (f := fun j => acode (K_RA RE St' FR X) 400 (cL raL) (raS RE St' FR X e T n i (some false :: o) ob j)) (g := fun j => some (.exit 0, raE RE St' FR X e T n i o ob j)) (N := 303) (by kernel_rfl) j h
theorem rafin (j : Nat) (h : j < 303) (o : List (Option Bool)) (ob : List (Bool × Bool)) : endOf (K_RA RE St' FR X) raF [] (acode (K_RA RE St' FR X) 400 (cT raL) (raE RE St' FR X e T n i o ob j)) = some (.a [.b8 16 (offIt X (fun m => FR (RE e T) (numR m)) (St' e T n) j)], (decide (Int.ofNat (j + 1) ≤ i), false) :: ob, []) :=
  tab_all (f := fun j => endOf (K_RA RE St' FR X) raF [] (acode (K_RA RE St' FR X) 400 (cT raL) (raE RE St' FR X e T n i o ob j))) (g := fun j => some (.a [.b8 16 (offIt X (fun m => FR (RE e T) (numR m)) (St' e T n) j)], (decide (Int.ofNat (j + 1) ≤ i), false) :: ob, [])) (N := 303) (by kernel_rfl) j h
theorem racut1 (o : List (Option Bool)) : runHeads (K_RA RE St' FR X) 400 3 (bodyOf raF) (ra0 e T n i o) = some (raA RE St' FR X e T n i o) := by kernel_rfl
theorem racut2 : raL = .seq (.seq (cB raL) (.block 0 (.loop (cL raL)))) (cT raL) := by kernel_rfl
theorem racut3 (o : List (Option Bool)) : acode (K_RA RE St' FR X) 400 (cB raL) (raA RE St' FR X e T n i o) = some (.normal, raS RE St' FR X e T n i o [] 0) := by kernel_rfl
theorem raeval (m : Nat) (h : m ≤ 302) : evalE (K_RA RE St' FR X) 400 raF [.a [.b8 176 e, .b8 256 T], .a [.b8 12 n], .s (.si i)] [] (List.replicate m (some true) ++ [some false]) [] =
    some (.a [.b8 16 (offIt X (fun m => FR (RE e T) (numR m)) (St' e T n) m)], (decide (Int.ofNat (m + 1) ≤ i), false) :: dnO (fun j => decide (Int.ofNat (j + 1) ≤ i)) 0 m [], []) := by
  rw [evalE_end (c := bodyOf raF) (by kernel_rfl)]
  show endOf (K_RA RE St' FR X) raF [] (acode (K_RA RE St' FR X) 400 (bodyOf raF) (ra0 e T n i (List.replicate m (some true) ++ [some false]))) = _
  rw [acode_heads 3 (racut1 RE St' FR X e T n i _)]
  have hl : acode (K_RA RE St' FR X) 400 (.loop (cL raL)) (raS RE St' FR X e T n i (List.replicate m (some true) ++ [some false]) [] 0) = some (.exit 0, raE RE St' FR X e T n i [] (dnO (fun j => decide (Int.ofNat (j + 1) ≤ i)) 0 m []) m) := by
    rw [acode_loop_eq]
    have h1 := aloop_orc (S := raS RE St' FR X e T n i) (tb := fun j => decide (Int.ofNat (j + 1) ≤ i)) (N := 302) (rastep RE St' FR X e T n i) m 0 (400 - m) [some false] [] (by omega)
    rw [show m + (400 - m) = 400 by omega, Nat.zero_add] at h1
    rw [h1, show 400 - m = (399 - m) + 1 by omega]
    exact aloop_exit (raexit RE St' FR X e T n i m (by omega) [] _)
  have hm : acode (K_RA RE St' FR X) 400 (.seq (cB raL) (.block 0 (.loop (cL raL)))) (raA RE St' FR X e T n i (List.replicate m (some true) ++ [some false])) = some (.normal, raE RE St' FR X e T n i [] (dnO (fun j => decide (Int.ofNat (j + 1) ≤ i)) 0 m []) m) := by
    rw [acode_seq_normal (racut3 RE St' FR X e T n i _)]
    exact acode_block_exit hl
  show endOf (K_RA RE St' FR X) raF [] (acode (K_RA RE St' FR X) 400 raL _) = _
  rw [racut2, acode_seq_normal hm]
  exact rafin RE St' FR X e T n i m (by omega) [] _
end


def sp_ROAt : Mo.Spec := fun args _fresh =>
  match args with
  | [.a [.b8 176 e, .b8 256 T], .a [.b8 12 n], .s ix] => (match ixI ix with | some i => .pure (.a [.b8 16 (offIt xorL (fun m => rFor (rStar e T) (numR m)) (rStart e T n) i.toNat)], []) | none => .fail)
  | _ => .fail
def ob_ROAt : Ob := fun args =>
  match args with
  | [_, _, .s ix] => (match ixI ix with | some i => [(decide (0 ≤ i), true), (decide (i ≤ 302), true)] | none => [])
  | _ => []
theorem e_ROAt (G : Gl) : EntryOkO G Tryd.prog 46 sp_ROAt ob_ROAt := by
  intro args fresh m v news fp hx ho
  unfold sp_ROAt at hx
  split at hx
  · rename_i e T n ix
    split at hx
    · rename_i i hi
      cases hx
      simp only [ob_ROAt, hi] at ho
      have h0 := of_decide_eq_true (ho _ (List.mem_cons_self ..))
      have h1 := of_decide_eq_true (ho _ (List.mem_cons_of_mem _ (List.mem_cons_self ..)))
      refine Fits.args (args' := [.a [.b8 176 e, .b8 256 T], .a [.b8 12 n], .s (.si i)]) ?_ fun π vargs ha => argsCv_last (l := [.a [.b8 176 e, .b8 256 T], .a [.b8 12 n]]) (fun _ hv => ixI_cv hi hv) ha
      have he := raeval rStar rStart rFor xorL e T n i i.toNat (by omega)
      refine Fits.intro (Go.Mo.enters_of Tryd.func46 (by kernel_rfl)) fun π vargs ha => ?_
      refine fitsM (K := K_RA rStar rStart rFor xorL) (v := .a [.b8 16 (offIt xorL (fun m => rFor (rStar e T) (numR m)) (rStart e T n) i.toNat)]) (gsl := []) ((good_RA G).good mixed) 400 [.a [.b8 176 e, .b8 256 T], .a [.b8 12 n], .s (.si i)] [] _ [] Tryd.func46 he ?_ (by kernel_rfl) (fun i => i) sees0 fresh rfl rfl rfl
      intro q hq
      rcases List.mem_cons.1 hq with rfl | hq
      · exact decide_eq_false (by show ¬ (((i.toNat + 1 : Nat) : Int) ≤ i); omega)
      · exact dnO_ok (tb := fun j => decide (Int.ofNat (j + 1) ≤ i)) _ 0 (fun q hq => by cases hq) (fun j hj => decide_eq_true (by rw [Nat.zero_add]; show ((j + 1 : Nat) : Int) ≤ i; omega)) q hq
    · cases hx
  · cases hx

end
end Go.Proofs.YtamlbiaakogahaaDoor

