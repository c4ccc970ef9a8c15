/- Contracts of functions by the evaluator (C5). -/
import Derived.Test.YtamlbiaakogahaaDoorC4
import Derived.Test.YtamlbiaakogahaaDoorMo13
import Derived.Test.YtamlbiaakogahaaDoorSp1
import Derived.Test.YtamlbiaakogahaaDoorProg
namespace Go.Proofs.YtamlbiaakogahaaDoor
open Go Go.Mo
noncomputable section
theorem l_pick (s : List B32) (n : Nat) (h : n < 64) : evalE K_New 60 Tryd.f113 [.a [.b32 4 s], .s (.i .i64 (.ofNat (n % 4))), .s (.i .i64 (.ofNat (n / 4 % 4))), .s (.ptr 0 0)] [[.s (.i .i64 (.ofNat (n / 16)))]] [] [] =
    some (.s (.b8 (pickB s (n % 4) (n / 4 % 4) (n / 16))), [], []) :=
  tab_all (f := fun n => evalE K_New 60 Tryd.f113 [.a [.b32 4 s], .s (.i .i64 (.ofNat (n % 4))), .s (.i .i64 (.ofNat (n / 4 % 4))), .s (.ptr 0 0)] [[.s (.i .i64 (.ofNat (n / 16)))]] [] [])
    (g := fun n => some (.s (.b8 (pickB s (n % 4) (n / 4 % 4) (n / 16))), [], [])) (N := 64) (by kernel_rfl) n h
theorem l_pick' (s : List B32) (c r st : Nat) (h : (Nat.blt c 4 && Nat.blt r 4 && Nat.blt st 4) = true) : evalE K_New 60 Tryd.f113 [.a [.b32 4 s], .s (.i .i64 (.ofNat c)), .s (.i .i64 (.ofNat r)), .s (.ptr 0 0)] [[.s (.i .i64 (.ofNat st))]] [] [] =
    some (.s (.b8 (pickB s c r st)), [], []) := by
  simp only [Bool.and_eq_true] at h
  have h1 : c < 4 := Nat.le_of_ble_eq_true h.1.1
  have h2 : r < 4 := Nat.le_of_ble_eq_true h.1.2
  have h3 : st < 4 := Nat.le_of_ble_eq_true h.2
  have := l_pick s (c + 4 * r + 16 * st) (by omega)
  rw [show (c + 4 * r + 16 * st) % 4 = c by omega, show (c + 4 * r + 16 * st) / 4 % 4 = r by omega, show (c + 4 * r + 16 * st) / 16 = st by omega] at this
  exact this

def sp_pick : Mo.Spec := fun args _fresh =>
  match args with
  | [.a [.b32 4 s], .s (.i .i64 (.ofNat c)), .s (.i .i64 (.ofNat r)), .s (.ptr b 0)] => rd1 b fun g0 => match g0 with | [.s (.i .i64 (.ofNat st))] => bif Nat.blt c 4 && Nat.blt r 4 && Nat.blt st 4 then some (.s (.b8 (pickB s c r st)), []) else none | _ => none
  | _ => .fail
theorem e_pick (G : Gl) : EntryOk G Tryd.prog 113 sp_pick := by
  intro args fresh m v news fp hx
  unfold sp_pick at hx
  split at hx
  · rename_i s c r b
    obtain ⟨x0, hb0, hk⟩ := rd1_run hx
    split at hk
    · rename_i st hg0
      cases hc : Nat.blt c 4 && Nat.blt r 4 && Nat.blt st 4 <;> simp only [hc, cond_true, cond_false] at hk
      · cases hk
      cases hk
      refine Fits.intro (Go.Mo.enters_of Tryd.func113 (by kernel_rfl)) fun π vargs ha => ?_
      exact fitsM (K := K_New) (obs := []) (v := .s (.b8 (pickB s c r st))) (gsl := []) ((good_New G).good mixed) 60 [.a [.b32 4 s], .s (.i .i64 (.ofNat c)), .s (.i .i64 (.ofNat r)), .s (.ptr 0 0)] [[.s (.i .i64 (.ofNat st))]] [] [] Tryd.func113 (l_pick' _ _ _ _ hc) (by intro p hp; cases hp) (by kernel_rfl) (at1 b) (sees1 hb0 hg0) fresh rfl rfl rfl
    · cases hk
  · cases hx
def E_pick : List (Nat × Mo.Spec) := (113, sp_pick) :: E_New
def K_pick : Cx := cxOf Tryd.prog E_pick
theorem good_pick (G : Gl) : EnvL G Tryd.prog E_pick := .cons (e_pick G) (good_New G)
noncomputable abbrev rF_runE := tl 4 (bodyOf Tryd.f98)
def r0_runE (b : List B8) (kf kb : List B32) (k : List B8) (T : List B32) : St := init Tryd.f98 [.a [.b8 16 b], .s (.ptr 0 1), .s (.ptr 0 105), .s (.i .i64 (.ofNat 1)), .s (.fn 99 [])] [[.s (.bool true), .b32 44 kf, .b32 44 kb, .b8 16 k, .b32 512 T]] []
def rA_runE (b : List B8) (kf kb : List B32) (k : List B8) (T : List B32) : St := stO (runHeads K_pick 60 4 (bodyOf Tryd.f98) (r0_runE b kf kb k T))
def rfr_runE (b : List B8) (kf kb : List B32) (k : List B8) (T : List B32) : Fr := frAfter K_pick 60 (cB rF_runE) (rA_runE b kf kb k T)
def rM_runE (b : List B8) (kf kb : List B32) (k : List B8) (T : List B32) (j : Nat) : List (Option Blk) :=
  [some ⟨[.s (.bool true), .b32 44 kf, .b32 44 kb, .b8 16 k, .b32 512 T], false⟩, some ⟨[.b8 16 b], true⟩, some ⟨[.s (.i .i64 1)], true⟩, some ⟨[.b8 16 (List.replicate 16 0)], true⟩, some ⟨[.b32 4 (roundsF 0 1 T kf b j)], true⟩] ++ upL (fun i => some ⟨[.b32 4 (roundsF 0 1 T kf b (i + 1))], true⟩) j 0
def rS_runE (b : List B8) (kf kb : List B32) (k : List B8) (T : List B32) : Nat → St
  | 0 => ⟨rfr_runE b kf kb k T, Tryd.f98.ntmps, rM_runE b kf kb k T 0, [], []⟩
  | j + 1 => ⟨frAfter K_pick 60 (cL rF_runE) ⟨(rfr_runE b kf kb k T).set 14 (.s (.i .i64 (.ofNat (j + 1)))), Tryd.f98.ntmps, rM_runE b kf kb k T j, [], []⟩, Tryd.f98.ntmps, rM_runE b kf kb k T (j + 1), [], []⟩
theorem rstep_runE (b : List B8) (kf kb : List B32) (k : List B8) (T : List B32) (j : Nat) (h : j < 9) : runK (acode K_pick 60 (cL rF_runE)) 1 (rS_runE b kf kb k T j) = some (rS_runE b kf kb k T (j + 1)) :=
  tab_all (f := fun j => runK (acode K_pick 60 (cL rF_runE)) 1 (rS_runE b kf kb k T j)) (g := fun j => some (rS_runE b kf kb k T (j + 1))) (N := 9) (by kernel_rfl) j h
def rE_runE (b : List B8) (kf kb : List B32) (k : List B8) (T : List B32) : St := stOf (acode K_pick 60 (cL rF_runE) (rS_runE b kf kb k T 9))
def rT_runE (b : List B8) (kf kb : List B32) (k : List B8) (T : List B32) : Ex × St := exO (acode K_pick 60 (cT rF_runE) (rE_runE b kf kb k T))
theorem l_runE (b : List B8) (kf kb : List B32) (k : List B8) (T : List B32) : evalE K_pick 60 Tryd.f98 [.a [.b8 16 b], .s (.ptr 0 1), .s (.ptr 0 105), .s (.i .i64 (.ofNat 1)), .s (.fn 99 [])] [[.s (.bool true), .b32 44 kf, .b32 44 kb, .b8 16 k, .b32 512 T]] [] [] = some (.a [.b8 16 (runF 0 1 sb T kf b)], [], []) :=
  evalE_cut 4 (S := rS_runE b kf kb k T) (k := 1) (J := 9) (n := 50) (sA := rA_runE b kf kb k T) (sE := rE_runE b kf kb k T) (x := rT_runE b kf kb k T) (b := cB rF_runE) (l := cL rF_runE) (t := cT rF_runE) (id := 2) (by kernel_rfl) (by kernel_rfl) (by kernel_rfl) (by kernel_rfl) (rstep_runE b kf kb k T) rfl
    (by kernel_rfl) (by kernel_rfl) (by kernel_rfl)

def sp_runE : Mo.Spec := fun args _fresh =>
  match args with
  | [.a [.b8 16 b], .s (.ptr c 1), .s (.ptr c' 105), .s (.i .i64 (.ofNat 1)), .s (.fn 99 [])] => rd1 c fun g0 => match g0 with | [.s (.bool true), .b32 44 kf, .b32 44 _, .b8 16 _, .b32 512 T] => bif Nat.beq c' c then some (.a [.b8 16 (runF 0 1 sb T kf b)], []) else none | _ => none
  | _ => .fail
theorem e_runE (G : Gl) : EntryOk G Tryd.prog 98 sp_runE := by
  intro args fresh m v news fp hx
  unfold sp_runE at hx
  split at hx
  · rename_i b c c'
    obtain ⟨x0, hb0, hk⟩ := rd1_run hx
    split at hk
    · rename_i kf kb k T hg0
      cases hc : Nat.beq c' c <;> simp only [hc, cond_true, cond_false] at hk
      · cases hk
      cases hk
      have hq := (Nat.eq_of_beq_eq_true hc).symm
      subst hq
      refine Fits.intro (Go.Mo.enters_of Tryd.func98 (by kernel_rfl)) fun π vargs ha => ?_
      exact fitsM (K := K_pick) (obs := []) (v := .a [.b8 16 (runF 0 1 sb T kf b)]) (gsl := []) ((good_pick G).good mixed) 60 [.a [.b8 16 b], .s (.ptr 0 1), .s (.ptr 0 105), .s (.i .i64 (.ofNat 1)), .s (.fn 99 [])] [[.s (.bool true), .b32 44 kf, .b32 44 kb, .b8 16 k, .b32 512 T]] [] [] Tryd.func98 (l_runE b kf kb k T) (by intro p hp; cases hp) (by kernel_rfl) (at1 c) (sees1 hb0 hg0) fresh rfl rfl rfl
    · cases hk
  · cases hx
def E_runE : List (Nat × Mo.Spec) := (98, sp_runE) :: E_pick
def K_runE : Cx := cxOf Tryd.prog E_runE
theorem good_runE (G : Gl) : EnvL G Tryd.prog E_runE := .cons (e_runE G) (good_pick G)
def sp_rightN : Mo.Spec := fun args fresh =>
  match args with
  | [.s .nil] => .pure (.s (.ptr fresh 0), [cipherSegs z16])
  | _ => .fail
theorem e_rightN (G : Gl) : EntryOk G Tryd.prog 82 sp_rightN := by
  intro args fresh m v news fp hx
  unfold sp_rightN at hx
  split at hx
  · skip
    cases hx
    refine Fits.intro (Go.Mo.enters_of Tryd.func82 (by kernel_rfl)) fun π vargs ha => ?_
    exact fitsM (K := K_runE) (obs := []) (v := .s (.ptr 0 0)) (gsl := [cipherSegs z16]) ((good_runE G).good mixed) 100 [.s .nil] [] [] [0] Tryd.func82 (by kernel_rfl) (by intro p hp; cases hp) (by kernel_rfl) (fun i => i) sees0 fresh (by kernel_rfl) (by kernel_rfl) (by kernel_rfl)
  · cases hx
def sp_rightP : Mo.Spec := fun args _fresh =>
  match args with
  | [.s (.ptr b 0)] => rd1 b fun g0 => match g0 with | [.s (.bool true), .b32 44 _, .b32 44 _, .b8 16 _, .b32 512 _] => some (.s (.ptr b 0), []) | _ => none
  | _ => .fail
theorem e_rightP (G : Gl) : EntryOk G Tryd.prog 82 sp_rightP := by
  intro args fresh m v news fp hx
  unfold sp_rightP at hx
  split at hx
  · rename_i b
    obtain ⟨x0, hb0, hk⟩ := rd1_run hx
    split at hk
    · rename_i kf kb k T hg0
      cases hk
      refine Fits.intro (Go.Mo.enters_of Tryd.func82 (by kernel_rfl)) fun π vargs ha => ?_
      exact fitsM (K := K_runE) (obs := []) (v := .s (.ptr 0 0)) (gsl := []) ((good_runE G).good mixed) 60 [.s (.ptr 0 0)] [[.s (.bool true), .b32 44 kf, .b32 44 kb, .b8 16 k, .b32 512 T]] [] [] Tryd.func82 (by kernel_rfl) (by intro p hp; cases hp) (by kernel_rfl) (at1 b) (sees1 hb0 hg0) fresh rfl rfl rfl
    · cases hk
  · cases hx
def sp_right : Mo.Spec := altSp firstNil sp_rightN sp_rightP
theorem e_right (G : Gl) : EntryOk G Tryd.prog 82 sp_right := EntryOk.alt firstNil (e_rightN G) (e_rightP G)
def E_right : List (Nat × Mo.Spec) := (82, sp_right) :: E_runE
def K_right : Cx := cxOf Tryd.prog E_right
theorem good_right (G : Gl) : EnvL G Tryd.prog E_right := .cons (e_right G) (good_runE G)
def sp_KeyN : Mo.Spec := fun args _fresh =>
  match args with
  | [.s .nil] => .pure (.a [.b8 16 z16], [])
  | _ => .fail
theorem e_KeyN (G : Gl) : EntryOk G Tryd.prog 35 sp_KeyN := by
  intro args fresh m v news fp hx
  unfold sp_KeyN at hx
  split at hx
  · skip
    cases hx
    refine Fits.intro (Go.Mo.enters_of Tryd.func35 (by kernel_rfl)) fun π vargs ha => ?_
    exact fitsM (K := K_right) (obs := []) (v := .a [.b8 16 z16]) (gsl := []) ((good_right G).good mixed) 100 [.s .nil] [] [] [] Tryd.func35 (by kernel_rfl) (by intro p hp; cases hp) (by kernel_rfl) (fun i => i) sees0 fresh (by kernel_rfl) (by kernel_rfl) (by kernel_rfl)
  · cases hx
def sp_KeyP : Mo.Spec := fun args _fresh =>
  match args with
  | [.s (.ptr b 0)] => rd1 b fun g0 => match g0 with | [.s (.bool true), .b32 44 _, .b32 44 _, .b8 16 k, .b32 512 _] => some (.a [.b8 16 k], []) | _ => none
  | _ => .fail
theorem e_KeyP (G : Gl) : EntryOk G Tryd.prog 35 sp_KeyP := by
  intro args fresh m v news fp hx
  unfold sp_KeyP at hx
  split at hx
  · rename_i b
    obtain ⟨x0, hb0, hk⟩ := rd1_run hx
    split at hk
    · rename_i kf kb k T hg0
      cases hk
      refine Fits.intro (Go.Mo.enters_of Tryd.func35 (by kernel_rfl)) fun π vargs ha => ?_
      exact fitsM (K := K_right) (obs := []) (v := .a [.b8 16 k]) (gsl := []) ((good_right G).good mixed) 60 [.s (.ptr 0 0)] [[.s (.bool true), .b32 44 kf, .b32 44 kb, .b8 16 k, .b32 512 T]] [] [] Tryd.func35 (by kernel_rfl) (by intro p hp; cases hp) (by kernel_rfl) (at1 b) (sees1 hb0 hg0) fresh rfl rfl rfl
    · cases hk
  · cases hx
def sp_Key : Mo.Spec := altSp firstNil sp_KeyN sp_KeyP
theorem e_Key (G : Gl) : EntryOk G Tryd.prog 35 sp_Key := EntryOk.alt firstNil (e_KeyN G) (e_KeyP G)
def E_Key : List (Nat × Mo.Spec) := (35, sp_Key) :: E_right
def K_Key : Cx := cxOf Tryd.prog E_Key
theorem good_Key (G : Gl) : EnvL G Tryd.prog E_Key := .cons (e_Key G) (good_right G)
def sp_EncN : Mo.Spec := fun args _fresh =>
  match args with
  | [.s .nil, .a [.b8 16 x]] => .pure (.a [.b8 16 (encF z16 x)], [])
  | _ => .fail
theorem e_EncN (G : Gl) : EntryOk G Tryd.prog 69 sp_EncN := by
  intro args fresh m v news fp hx
  unfold sp_EncN at hx
  split at hx
  · rename_i x
    cases hx
    refine Fits.intro (Go.Mo.enters_of Tryd.func69 (by kernel_rfl)) fun π vargs ha => ?_
    exact fitsM (K := K_Key) (obs := []) (v := .a [.b8 16 (encF z16 x)]) (gsl := []) ((good_Key G).good mixed) 100 [.s .nil, .a [.b8 16 x]] [] [] [] Tryd.func69 (by kernel_rfl) (by intro p hp; cases hp) (by kernel_rfl) (fun i => i) sees0 fresh (by kernel_rfl) (by kernel_rfl) (by kernel_rfl)
  · cases hx
def sp_EncP : Mo.Spec := fun args _fresh =>
  match args with
  | [.s (.ptr b 0), .a [.b8 16 x]] => rd1 b fun g0 => match g0 with | [.s (.bool true), .b32 44 kf, .b32 44 _, .b8 16 _, .b32 512 T] => some (.a [.b8 16 (runF 0 1 sb T kf x)], []) | _ => none
  | _ => .fail
theorem e_EncP (G : Gl) : EntryOk G Tryd.prog 69 sp_EncP := by
  intro args fresh m v news fp hx
  unfold sp_EncP at hx
  split at hx
  · rename_i b x
    obtain ⟨x0, hb0, hk⟩ := rd1_run hx
    split at hk
    · rename_i kf kb k T hg0
      cases hk
      refine Fits.intro (Go.Mo.enters_of Tryd.func69 (by kernel_rfl)) fun π vargs ha => ?_
      exact fitsM (K := K_Key) (obs := []) (v := .a [.b8 16 (runF 0 1 sb T kf x)]) (gsl := []) ((good_Key G).good mixed) 60 [.s (.ptr 0 0), .a [.b8 16 x]] [[.s (.bool true), .b32 44 kf, .b32 44 kb, .b8 16 k, .b32 512 T]] [] [] Tryd.func69 (by kernel_rfl) (by intro p hp; cases hp) (by kernel_rfl) (at1 b) (sees1 hb0 hg0) fresh rfl rfl rfl
    · cases hk
  · cases hx
def sp_Enc : Mo.Spec := altSp firstNil sp_EncN sp_EncP
theorem e_Enc (G : Gl) : EntryOk G Tryd.prog 69 sp_Enc := EntryOk.alt firstNil (e_EncN G) (e_EncP G)
def E_Enc : List (Nat × Mo.Spec) := (69, sp_Enc) :: E_Key
def K_Enc : Cx := cxOf Tryd.prog E_Enc
theorem good_Enc (G : Gl) : EnvL G Tryd.prog E_Enc := .cons (e_Enc G) (good_Key G)
end
end Go.Proofs.YtamlbiaakogahaaDoor
