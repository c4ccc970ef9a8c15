/- Contracts of functions by the evaluator (C5). -/
import Derived.Test.YtamlbiaakogahaaDoorC4
import Derived.Test.YtamlbiaakogahaaDoorMo13
import Derived.Test.YtamlbiaakogahaaDoorSp1
import Derived.Test.YtamlbiaakogahaaDoorProg
import Derived.Shelf.Spec.TrailingZeros

namespace Go.Proofs.YtamlbiaakogahaaDoor
open Go Go.Mo
noncomputable section
theorem l_pick (s : List B32) (n : Nat) (h : n < 64) : evalE K_New 60 Tryd.f113 [.a [.b32 4 s], .s (.i .i64 (.ofNat (n % 4))), .s (.i .i64 (.ofNat (n / 4 % 4))), .s (.ptr 0 0)] [[.s (.i .i64 (.ofNat (n / 16)))]] [] [] =
    some (.s (.b8 (pickB s (n % 4) (n / 4 % 4) (n / 16))), [], []) :=
  tab_all (f := fun n => evalE K_New 60 Tryd.f113 [.a [.b32 4 s], .s (.i .i64 (.ofNat (n % 4))), .s (.i .i64 (.ofNat (n / 4 % 4))), .s (.ptr 0 0)] [[.s (.i .i64 (.ofNat (n / 16)))]] [] [])
    (g := fun n => some (.s (.b8 (pickB s (n % 4) (n / 4 % 4) (n / 16))), [], [])) (N := 64) (by kernel_rfl) n h
theorem l_pick' (s : List B32) (c r st : Nat) (h : (Nat.blt c 4 && Nat.blt r 4 && Nat.blt st 4) = true) : evalE K_New 60 Tryd.f113 [.a [.b32 4 s], .s (.i .i64 (.ofNat c)), .s (.i .i64 (.ofNat r)), .s (.ptr 0 0)] [[.s (.i .i64 (.ofNat st))]] [] [] =
    some (.s (.b8 (pickB s c r st)), [], []) := by
  simp only [Bool.and_eq_true] at h
  have h1 : c < 4 := Nat.le_of_ble_eq_true h.1.1
  have h2 : r < 4 := Nat.le_of_ble_eq_true h.1.2
  have h3 : st < 4 := Nat.le_of_ble_eq_true h.2
  have := l_pick s (c + 4 * r + 16 * st) (by omega)
  rw [show (c + 4 * r + 16 * st) % 4 = c by omega, show (c + 4 * r + 16 * st) / 4 % 4 = r by omega, show (c + 4 * r + 16 * st) / 16 = st by omega] at this
  exact this

def sp_pick : Mo.Spec := fun args _fresh =>
  match args with
  | [.a [.b32 4 s], .s (.i .i64 (.ofNat c)), .s (.i .i64 (.ofNat r)), .s (.ptr b 0)] => rd1 b fun g0 => match g0 with | [.s (.i .i64 (.ofNat st))] => bif Nat.blt c 4 && Nat.blt r 4 && Nat.blt st 4 then some (.s (.b8 (pickB s c r st)), []) else none | _ => none
  | _ => .fail
theorem e_pick (G : Gl) : EntryOk G Tryd.prog 113 sp_pick := by
  intro args fresh m v news fp hx
  unfold sp_pick at hx
  split at hx
  · rename_i s c r b
    obtain ⟨x0, hb0, hk⟩ := rd1_run hx
    split at hk
    · rename_i st hg0
      cases hc : Nat.blt c 4 && Nat.blt r 4 && Nat.blt st 4 <;> simp only [hc, cond_true, cond_false] at hk
      · cases hk
      cases hk
      refine Fits.intro (Go.Mo.enters_of Tryd.func113 (by kernel_rfl)) fun π vargs ha => ?_
      exact fitsM (K := K_New) (obs := []) (v := .s (.b8 (pickB s c r st))) (gsl := []) ((good_New G).good mixed) 60 [.a [.b32 4 s], .s (.i .i64 (.ofNat c)), .s (.i .i64 (.ofNat r)), .s (.ptr 0 0)] [[.s (.i .i64 (.ofNat st))]] [] [] Tryd.func113 (l_pick' _ _ _ _ hc) (by intro p hp; cases hp) (by kernel_rfl) (at1 b) (sees1 hb0 hg0) fresh rfl rfl rfl
    · cases hk
  · cases hx
def E_pick : List (Nat × Mo.Spec) := (113, sp_pick) :: E_New
def K_pick : Cx := cxOf Tryd.prog E_pick
theorem good_pick (G : Gl) : EnvL G Tryd.prog E_pick := .cons (e_pick G) (good_New G)
noncomputable abbrev rF_runE := tl 4 (bodyOf Tryd.f98)
def r0_runE (b : List B8) (kf kb : List B32) (k : List B8) (T : List B32) : St := init Tryd.f98 [.a [.b8 16 b], .s (.ptr 0 1), .s (.ptr 0 105), .s (.i .i64 (.ofNat 1)), .s (.fn 99 [])] [[.s (.bool true), .b32 44 kf, .b32 44 kb, .b8 16 k, .b32 512 T]] []
def rA_runE (b : List B8) (kf kb : List B32) (k : List B8) (T : List B32) : St := stO (runHeads K_pick 60 4 (bodyOf Tryd.f98) (r0_runE b kf kb k T))
def rfr_runE (b : List B8) (kf kb : List B32) (k : List B8) (T : List B32) : Fr := frAfter K_pick 60 (cB rF_runE) (rA_runE b kf kb k T)
def rM_runE (b : List B8) (kf kb : List B32) (k : List B8) (T : List B32) (j : Nat) : List (Option Blk) :=
  [some ⟨[.s (.bool true), .b32 44 kf, .b32 44 kb, .b8 16 k, .b32 512 T], false⟩, some ⟨[.b8 16 b], true⟩, some ⟨[.s (.i .i64 1)], true⟩, some ⟨[.b8 16 (List.replicate 16 0)], true⟩, some ⟨[.b32 4 (roundsF 0 1 T kf b j)], true⟩] ++ upL (fun i => some ⟨[.b32 4 (roundsF 0 1 T kf b (i + 1))], true⟩) j 0
def rS_runE (b : List B8) (kf kb : List B32) (k : List B8) (T : List B32) : Nat → St
  | 0 => ⟨rfr_runE b kf kb k T, Tryd.f98.ntmps, rM_runE b kf kb k T 0, [], []⟩
  | j + 1 => ⟨frAfter K_pick 60 (cL rF_runE) ⟨(rfr_runE b kf kb k T).set 14 (.s (.i .i64 (.ofNat (j + 1)))), Tryd.f98.ntmps, rM_runE b kf kb k T j, [], []⟩, Tryd.f98.ntmps, rM_runE b kf kb k T (j + 1), [], []⟩
theorem rstep_runE (b : List B8) (kf kb : List B32) (k : List B8) (T : List B32) (j : Nat) (h : j < 9) : runK (acode K_pick 60 (cL rF_runE)) 1 (rS_runE b kf kb k T j) = some (rS_runE b kf kb k T (j + 1)) :=
  tab_all (f := fun j => runK (acode K_pick 60 (cL rF_runE)) 1 (rS_runE b kf kb k T j)) (g := fun j => some (rS_runE b kf kb k T (j + 1))) (N := 9) (by kernel_rfl) j h
def rE_runE (b : List B8) (kf kb : List B32) (k : List B8) (T : List B32) : St := stOf (acode K_pick 60 (cL rF_runE) (rS_runE b kf kb k T 9))
def rT_runE (b : List B8) (kf kb : List B32) (k : List B8) (T : List B32) : Ex × St := exO (acode K_pick 60 (cT rF_runE) (rE_runE b kf kb k T))
theorem l_runE (b : List B8) (kf kb : List B32) (k : List B8) (T : List B32) : evalE K_pick 60 Tryd.f98 [.a [.b8 16 b], .s (.ptr 0 1), .s (.ptr 0 105), .s (.i .i64 (.ofNat 1)), .s (.fn 99 [])] [[.s (.bool true), .b32 44 kf, .b32 44 kb, .b8 16 k, .b32 512 T]] [] [] = some (.a [.b8 16 (runF 0 1 sb T kf b)], [], []) :=
  evalE_cut 4 (S := rS_runE b kf kb k T) (k := 1) (J := 9) (n := 50) (sA := rA_runE b kf kb k T) (sE := rE_runE b kf kb k T) (x := rT_runE b kf kb k T) (b := cB rF_runE) (l := cL rF_runE) (t := cT rF_runE) (id := 2) (by kernel_rfl) (by kernel_rfl) (by kernel_rfl) (by kernel_rfl) (rstep_runE b kf kb k T) rfl
    (by kernel_rfl) (by kernel_rfl) (by kernel_rfl)

def sp_runE : Mo.Spec := fun args _fresh =>
  match args with
  | [.a [.b8 16 b], .s (.ptr c 1), .s (.ptr c' 105), .s (.i .i64 (.ofNat 1)), .s (.fn 99 [])] => rd1 c fun g0 => match g0 with | [.s (.bool true), .b32 44 kf, .b32 44 _, .b8 16 _, .b32 512 T] => bif Nat.beq c' c then some (.a [.b8 16 (runF 0 1 sb T kf b)], []) else none | _ => none
  | _ => .fail
theorem e_runE (G : Gl) : EntryOk G Tryd.prog 98 sp_runE := by
  intro args fresh m v news fp hx
  unfold sp_runE at hx
  split at hx
  · rename_i b c c'
    obtain ⟨x0, hb0, hk⟩ := rd1_run hx
    split at hk
    · rename_i kf kb k T hg0
      cases hc : Nat.beq c' c <;> simp only [hc, cond_true, cond_false] at hk
      · cases hk
      cases hk
      have hq := (Nat.eq_of_beq_eq_true hc).symm
      subst hq
      refine Fits.intro (Go.Mo.enters_of Tryd.func98 (by kernel_rfl)) fun π vargs ha => ?_
      exact fitsM (K := K_pick) (obs := []) (v := .a [.b8 16 (runF 0 1 sb T kf b)]) (gsl := []) ((good_pick G).good mixed) 60 [.a [.b8 16 b], .s (.ptr 0 1), .s (.ptr 0 105), .s (.i .i64 (.ofNat 1)), .s (.fn 99 [])] [[.s (.bool true), .b32 44 kf, .b32 44 kb, .b8 16 k, .b32 512 T]] [] [] Tryd.func98 (l_runE b kf kb k T) (by intro p hp; cases hp) (by kernel_rfl) (at1 c) (sees1 hb0 hg0) fresh rfl rfl rfl
    · cases hk
  · cases hx
def E_runE : List (Nat × Mo.Spec) := (98, sp_runE) :: E_pick
def K_runE : Cx := cxOf Tryd.prog E_runE
theorem good_runE (G : Gl) : EnvL G Tryd.prog E_runE := .cons (e_runE G) (good_pick G)
def sp_rightN : Mo.Spec := fun args fresh =>
  match args with
  | [.s .nil] => .pure (.s (.ptr fresh 0), [cipherSegs z16])
  | _ => .fail
theorem e_rightN (G : Gl) : EntryOk G Tryd.prog 82 sp_rightN := by
  intro args fresh m v news fp hx
  unfold sp_rightN at hx
  split at hx
  · skip
    cases hx
    refine Fits.intro (Go.Mo.enters_of Tryd.func82 (by kernel_rfl)) fun π vargs ha => ?_
    exact fitsM (K := K_runE) (obs := []) (v := .s (.ptr 0 0)) (gsl := [cipherSegs z16]) ((good_runE G).good mixed) 100 [.s .nil] [] [] [0] Tryd.func82 (by kernel_rfl) (by intro p hp; cases hp) (by kernel_rfl) (fun i => i) sees0 fresh (by kernel_rfl) (by kernel_rfl) (by kernel_rfl)
  · cases hx
def sp_rightP : Mo.Spec := fun args _fresh =>
  match args with
  | [.s (.ptr b 0)] => rd1 b fun g0 => match g0 with | [.s (.bool true), .b32 44 _, .b32 44 _, .b8 16 _, .b32 512 _] => some (.s (.ptr b 0), []) | _ => none
  | _ => .fail
theorem e_rightP (G : Gl) : EntryOk G Tryd.prog 82 sp_rightP := by
  intro args fresh m v news fp hx
  unfold sp_rightP at hx
  split at hx
  · rename_i b
    obtain ⟨x0, hb0, hk⟩ := rd1_run hx
    split at hk
    · rename_i kf kb k T hg0
      cases hk
      refine Fits.intro (Go.Mo.enters_of Tryd.func82 (by kernel_rfl)) fun π vargs ha => ?_
      exact fitsM (K := K_runE) (obs := []) (v := .s (.ptr 0 0)) (gsl := []) ((good_runE G).good mixed) 60 [.s (.ptr 0 0)] [[.s (.bool true), .b32 44 kf, .b32 44 kb, .b8 16 k, .b32 512 T]] [] [] Tryd.func82 (by kernel_rfl) (by intro p hp; cases hp) (by kernel_rfl) (at1 b) (sees1 hb0 hg0) fresh rfl rfl rfl
    · cases hk
  · cases hx
def sp_right : Mo.Spec := altSp firstNil sp_rightN sp_rightP
theorem e_right (G : Gl) : EntryOk G Tryd.prog 82 sp_right := EntryOk.alt firstNil (e_rightN G) (e_rightP G)
def E_right : List (Nat × Mo.Spec) := (82, sp_right) :: E_runE
def K_right : Cx := cxOf Tryd.prog E_right
theorem good_right (G : Gl) : EnvL G Tryd.prog E_right := .cons (e_right G) (good_runE G)
def sp_KeyN : Mo.Spec := fun args _fresh =>
  match args with
  | [.s .nil] => .pure (.a [.b8 16 z16], [])
  | _ => .fail
theorem e_KeyN (G : Gl) : EntryOk G Tryd.prog 35 sp_KeyN := by
  intro args fresh m v news fp hx
  unfold sp_KeyN at hx
  split at hx
  · skip
    cases hx
    refine Fits.intro (Go.Mo.enters_of Tryd.func35 (by kernel_rfl)) fun π vargs ha => ?_
    exact fitsM (K := K_right) (obs := []) (v := .a [.b8 16 z16]) (gsl := []) ((good_right G).good mixed) 100 [.s .nil] [] [] [] Tryd.func35 (by kernel_rfl) (by intro p hp; cases hp) (by kernel_rfl) (fun i => i) sees0 fresh (by kernel_rfl) (by kernel_rfl) (by kernel_rfl)
  · cases hx
def sp_KeyP : Mo.Spec := fun args _fresh =>
  match args with
  | [.s (.ptr b 0)] => rd1 b fun g0 => match g0 with | [.s (.bool true), .b32 44 _, .b32 44 _, .b8 16 k, .b32 512 _] => some (.a [.b8 16 k], []) | _ => none
  | _ => .fail
theorem e_KeyP (G : Gl) : EntryOk G Tryd.prog 35 sp_KeyP := by
  intro args fresh m v news fp hx
  unfold sp_KeyP at hx
  split at hx
  · rename_i b
    obtain ⟨x0, hb0, hk⟩ := rd1_run hx
    split at hk
    · rename_i kf kb k T hg0
      cases hk
      refine Fits.intro (Go.Mo.enters_of Tryd.func35 (by kernel_rfl)) fun π vargs ha => ?_
      exact fitsM (K := K_right) (obs := []) (v := .a [.b8 16 k]) (gsl := []) ((good_right G).good mixed) 60 [.s (.ptr 0 0)] [[.s (.bool true), .b32 44 kf, .b32 44 kb, .b8 16 k, .b32 512 T]] [] [] Tryd.func35 (by kernel_rfl) (by intro p hp; cases hp) (by kernel_rfl) (at1 b) (sees1 hb0 hg0) fresh rfl rfl rfl
    · cases hk
  · cases hx
def sp_Key : Mo.Spec := altSp firstNil sp_KeyN sp_KeyP
theorem e_Key (G : Gl) : EntryOk G Tryd.prog 35 sp_Key := EntryOk.alt firstNil (e_KeyN G) (e_KeyP G)
def E_Key : List (Nat × Mo.Spec) := (35, sp_Key) :: E_right
def K_Key : Cx := cxOf Tryd.prog E_Key
theorem good_Key (G : Gl) : EnvL G Tryd.prog E_Key := .cons (e_Key G) (good_right G)
def sp_EncN : Mo.Spec := fun args _fresh =>
  match args with
  | [.s .nil, .a [.b8 16 x]] => .pure (.a [.b8 16 (encF z16 x)], [])
  | _ => .fail
theorem e_EncN (G : Gl) : EntryOk G Tryd.prog 69 sp_EncN := by
  intro args fresh m v news fp hx
  unfold sp_EncN at hx
  split at hx
  · rename_i x
    cases hx
    refine Fits.intro (Go.Mo.enters_of Tryd.func69 (by kernel_rfl)) fun π vargs ha => ?_
    exact fitsM (K := K_Key) (obs := []) (v := .a [.b8 16 (encF z16 x)]) (gsl := []) ((good_Key G).good mixed) 100 [.s .nil, .a [.b8 16 x]] [] [] [] Tryd.func69 (by kernel_rfl) (by intro p hp; cases hp) (by kernel_rfl) (fun i => i) sees0 fresh (by kernel_rfl) (by kernel_rfl) (by kernel_rfl)
  · cases hx
def sp_EncP : Mo.Spec := fun args _fresh =>
  match args with
  | [.s (.ptr b 0), .a [.b8 16 x]] => rd1 b fun g0 => match g0 with | [.s (.bool true), .b32 44 kf, .b32 44 _, .b8 16 _, .b32 512 T] => some (.a [.b8 16 (runF 0 1 sb T kf x)], []) | _ => none
  | _ => .fail
theorem e_EncP (G : Gl) : EntryOk G Tryd.prog 69 sp_EncP := by
  intro args fresh m v news fp hx
  unfold sp_EncP at hx
  split at hx
  · rename_i b x
    obtain ⟨x0, hb0, hk⟩ := rd1_run hx
    split at hk
    · rename_i kf kb k T hg0
      cases hk
      refine Fits.intro (Go.Mo.enters_of Tryd.func69 (by kernel_rfl)) fun π vargs ha => ?_
      exact fitsM (K := K_Key) (obs := []) (v := .a [.b8 16 (runF 0 1 sb T kf x)]) (gsl := []) ((good_Key G).good mixed) 60 [.s (.ptr 0 0), .a [.b8 16 x]] [[.s (.bool true), .b32 44 kf, .b32 44 kb, .b8 16 k, .b32 512 T]] [] [] Tryd.func69 (by kernel_rfl) (by intro p hp; cases hp) (by kernel_rfl) (at1 b) (sees1 hb0 hg0) fresh rfl rfl rfl
    · cases hk
  · cases hx
def sp_Enc : Mo.Spec := altSp firstNil sp_EncN sp_EncP
theorem e_Enc (G : Gl) : EntryOk G Tryd.prog 69 sp_Enc := EntryOk.alt firstNil (e_EncN G) (e_EncP G)
def E_Enc : List (Nat × Mo.Spec) := (69, sp_Enc) :: E_Key
def K_Enc : Cx := cxOf Tryd.prog E_Enc
theorem good_Enc (G : Gl) : EnvL G Tryd.prog E_Enc := .cons (e_Enc G) (good_Key G)
end
end Go.Proofs.YtamlbiaakogahaaDoor


namespace Go.Proofs.YtamlbiaakogahaaDoor
open Go Go.Mo Go.Shelf Go.RowKit
noncomputable section
def tzRen : Ren := ⟨fun _ => 105, fun n => if n = 22 then 23 else if n = 25 then 136 else if n = 54 then 154 else n, fun _ => 0⟩
theorem tzLays : Lays7.n29 Tryd.prog tzRen where
  mixed := mixed
  f29 := by kernel_rfl
  t0 := by kernel_rfl
  a0 := fun w => by kernel_rfl
  z0 := fun w => by kernel_rfl
  v0 := fun w => by kernel_rfl
  i0 := by kernel_rfl
  t3 := by kernel_rfl
  a3 := fun w => by kernel_rfl
  z3 := fun w => by kernel_rfl
  v3 := fun w => by kernel_rfl
  i3 := by kernel_rfl
  t4 := by kernel_rfl
  a4 := fun w => by kernel_rfl
  z4 := fun w => by kernel_rfl
  v4 := fun w => by kernel_rfl
  i4 := by kernel_rfl
  t5 := by kernel_rfl
  a5 := fun w => by kernel_rfl
  z5 := fun w => by kernel_rfl
  v5 := fun w => by kernel_rfl
  i5 := by kernel_rfl
  t22 := by kernel_rfl
  a22 := fun w => by kernel_rfl
  z22 := fun w => by kernel_rfl
  v22 := fun w => by kernel_rfl
  i22 := by kernel_rfl
  t25 := by kernel_rfl
  a25 := fun w => by kernel_rfl
  z25 := fun w => by kernel_rfl
  v25 := fun w => by kernel_rfl
  i25 := by kernel_rfl
  t54 := by kernel_rfl
  a54 := fun w => by kernel_rfl
  z54 := fun w => by kernel_rfl
  g1 := by kernel_rfl
/-- The known package-level block is the table of math/bits. -/
def DB (G : Gl) : Prop := G.g = 0 ∧ ∃ cs T fz, G.obj = .cells cs T fz ∧ ∀ j, j < 64 → cs[j]? = some (.int .u8 ((Lib.deBruijn64tab.getD j 0 : Nat) : Int))
def tzI (x : BitVec 64) : Int := (Lib.ctz 64 x.toNat : Nat)
def sp_TZ : List V → Option V
  | [.s (.b64 x)] => some (.s (.si (tzI x)))
  | _ => none
theorem e_TZ (G : Gl) (hG : DB G) : EntryOk G Tryd.prog 105 (pureSp sp_TZ) := by
  refine entry_pure (Go.Mo.enters_of Tryd.func105 (by kernel_rfl)) ?_
  intro args v h π vargs ha fresh m
  unfold sp_TZ at h
  split at h
  · rename_i x
    cases h
    refine ⟨Go.Mo.enters_of Tryd.func105 (by kernel_rfl), fun π w vargs _ _ hg ha _ => ?_⟩
    obtain ⟨v1, vr, rfl, h1, h2⟩ := ha
    have h2 : vr = [] := h2
    have h1 : v1 = .int .u64 (x.toNat : Int) := h1
    subst h1; subst h2
    have := Any7.bits_TrailingZeros64 tzLays x.toNat x.isLt w (fun _ j hj => by
      obtain ⟨e1, cs, T, fz, e2, e3⟩ := hG
      rw [e1, e2] at hg
      have e4 := e3 j hj
      show w.cell? ⟨0, j, none⟩ = _
      simp [World.cell?, hg, e4])
    refine this.mono ?_
    rintro e w' ⟨rfl, rfl⟩
    exact ⟨_, [], rfl, ⟨rfl, List.nodup_nil, by simp, Below.refl _ _, rfl, by simp⟩⟩
  · cases h
def E_TZ : List (Nat × Mo.Spec) := (105, pureSp sp_TZ) :: E_Enc
def K_TZ : Cx := cxOf Tryd.prog E_TZ
theorem good_TZ (G : Gl) (hG : DB G) : EnvL G Tryd.prog E_TZ := .cons (e_TZ G hG) (good_Enc G)
end
end Go.Proofs.YtamlbiaakogahaaDoor


namespace Go.Proofs.YtamlbiaakogahaaDoor
open Go Go.Mo
noncomputable section
def sp_Zeros : List V → Option V
  | [.s (.b64 x)] => some (.s (.si (tzI x)))
  | _ => none
theorem e_Zeros (G : Gl) (hG : DB G) : EntryOk G Tryd.prog 75 (pureSp sp_Zeros) := by
  refine entry_pure (Go.Mo.enters_of Tryd.func75 (by kernel_rfl)) ?_
  intro args v h π vargs ha fresh m
  unfold sp_Zeros at h
  split at h
  · rename_i x
    cases h
    exact fitsP (K := K_TZ) (obs := []) ((good_TZ G hG).good mixed) 60 _ [] Tryd.func75 (by kernel_rfl) (by intro p hp; cases hp) (by kernel_rfl) rfl rfl fresh m
  · cases h
def E_Zeros : List (Nat × Mo.Spec) := (75, pureSp sp_Zeros) :: E_TZ
def K_Zeros : Cx := cxOf Tryd.prog E_Zeros
theorem good_Zeros (G : Gl) (hG : DB G) : EnvL G Tryd.prog E_Zeros := .cons (e_Zeros G hG) (good_TZ G hG)
def sp_Dbl : List V → Option V
  | [.a [.b8 16 l]] => some (.a [.b8 16 (dblL l)])
  | _ => none
theorem e_Dbl (G : Gl) (hG : DB G) : EntryOk G Tryd.prog 70 (pureSp sp_Dbl) := by
  refine entry_pure (Go.Mo.enters_of Tryd.func70 (by kernel_rfl)) ?_
  intro args v h π vargs ha fresh m
  unfold sp_Dbl at h
  split at h
  · rename_i l
    cases h
    obtain ⟨k0, k1, k2, k3, k4, k5, k6, k7, k8, k9, k10, k11, k12, k13, k14, k15, rfl⟩ := list16 (args_b8 ha)
    exact fitsP (K := K_Zeros) (obs := []) ((good_Zeros G hG).good mixed) 60 _ [] Tryd.func70 (by kernel_rfl) (by intro p hp; cases hp) (by kernel_rfl) rfl rfl fresh m
  · cases h
def E_Dbl : List (Nat × Mo.Spec) := (70, pureSp sp_Dbl) :: E_Zeros
def K_Dbl : Cx := cxOf Tryd.prog E_Dbl
theorem good_Dbl (G : Gl) (hG : DB G) : EnvL G Tryd.prog E_Dbl := .cons (e_Dbl G hG) (good_Zeros G hG)
def sp_Xor : List V → Option V
  | [.a [.b8 16 a], .a [.b8 16 b]] => some (.a [.b8 16 (xorL a b)])
  | _ => none
theorem e_Xor (G : Gl) (hG : DB G) : EntryOk G Tryd.prog 85 (pureSp sp_Xor) := by
  refine entry_pure (Go.Mo.enters_of Tryd.func85 (by kernel_rfl)) ?_
  intro args v h π vargs ha fresh m
  unfold sp_Xor at h
  split at h
  · rename_i a b
    cases h
    obtain ⟨k0, k1, k2, k3, k4, k5, k6, k7, k8, k9, k10, k11, k12, k13, k14, k15, rfl⟩ := list16 (args_b8 ha)
    obtain ⟨_, hb⟩ := args_tail ha
    obtain ⟨q0, q1, q2, q3, q4, q5, q6, q7, q8, q9, q10, q11, q12, q13, q14, q15, rfl⟩ := list16 (args_b8 hb)
    exact fitsP (K := K_Dbl) (obs := []) ((good_Dbl G hG).good mixed) 60 _ [] Tryd.func85 (by kernel_rfl) (by intro p hp; cases hp) (by kernel_rfl) rfl rfl fresh m
  · cases h
def E_Xor : List (Nat × Mo.Spec) := (85, pureSp sp_Xor) :: E_Dbl
def K_Xor : Cx := cxOf Tryd.prog E_Xor
theorem good_Xor (G : Gl) (hG : DB G) : EnvL G Tryd.prog E_Xor := .cons (e_Xor G hG) (good_Dbl G hG)

def spA_Enc (R : List B32 → List B32 → List B8 → List B8) : Mo.Spec := fun args _fresh =>
  match args with
  | [.s (.ptr b 0), .a [.b8 16 x]] => rd1 b fun g0 => match g0 with | [.s (.bool true), .b32 44 kf, .b32 44 _, .b8 16 _, .b32 512 T] => some (.a [.b8 16 (R T kf x)], []) | _ => none
  | _ => .fail
def spA_Dbl (D : List B8 → List B8) : List V → Option V
  | [.a [.b8 16 l]] => some (.a [.b8 16 (D l)])
  | _ => none
def spA_EncN (z : List B8) : Mo.Spec := fun args _fresh =>
  match args with
  | [.s .nil, .a [.b8 16 _]] => .pure (.a [.b8 16 z], [])
  | _ => .fail
def E_T (R : List B32 → List B32 → List B8 → List B8) (D : List B8 → List B8) : List (Nat × Mo.Spec) := (69, spA_Enc R) :: (70, pureSp (spA_Dbl D)) :: E_Xor
def K_T (R : List B32 → List B32 → List B8 → List B8) (D : List B8 → List B8) : Cx := cxOf Tryd.prog (E_T R D)
theorem good_T (G : Gl) (hG : DB G) : EnvL G Tryd.prog (E_T (runF 0 1 sb) dblL) := .cons (e_EncP G) (.cons (e_Dbl G hG) (good_Xor G hG))
theorem l_NewP (R : List B32 → List B32 → List B8 → List B8) (D : List B8 → List B8) (kf kb : List B32) (k : List B8) (T : List B32) :
    evalE (K_T R D) 100 Tryd.f23 [.s (.ptr 0 0)] [[.s (.bool true), .b32 44 kf, .b32 44 kb, .b8 16 k, .b32 512 T]] [] [1] = some (.s (.ptr 1 0), [], newBlks [tabE D (.ptr 0 0) (R T kf z16)]) := by kernel_rfl

def sp_TNewP : Mo.Spec := fun args fresh =>
  match args with
  | [.s (.ptr b 0)] => rd1 b fun g0 => match g0 with | [.s (.bool true), .b32 44 kf, .b32 44 _, .b8 16 _, .b32 512 T] => some (.s (.ptr fresh 0), [tabE dblL (.ptr b 0) (runF 0 1 sb T kf z16)]) | _ => none
  | _ => .fail
theorem e_TNewP (G : Gl) (hG : DB G) : EntryOk G Tryd.prog 23 sp_TNewP := by
  intro args fresh m v news fp hx
  unfold sp_TNewP at hx
  split at hx
  · rename_i b
    obtain ⟨x0, hb0, hk⟩ := rd1_run hx
    split at hk
    · rename_i kf kb k T hg0
      cases hk
      refine Fits.intro (Go.Mo.enters_of Tryd.func23 (by kernel_rfl)) fun π vargs ha => ?_
      exact fitsM (K := (K_T (runF 0 1 sb) dblL)) (obs := []) (v := .s (.ptr 1 0)) (gsl := [tabE dblL (.ptr 0 0) (runF 0 1 sb T kf z16)]) ((good_T G hG).good mixed) 100 [.s (.ptr 0 0)] [[.s (.bool true), .b32 44 kf, .b32 44 kb, .b8 16 k, .b32 512 T]] [] [1] Tryd.func23 (l_NewP _ _ _ _ _ _) (by intro p hp; cases hp) (by kernel_rfl) (at1 b) (sees1 hb0 hg0) fresh (by kernel_rfl) (by kernel_rfl) (by kernel_rfl)
    · cases hk
  · cases hx
def spB_EncN (z : List B8 → List B8) : Mo.Spec := fun args _fresh =>
  match args with
  | [.s .nil, .a [.b8 16 x]] => .pure (.a [.b8 16 (z x)], [])
  | _ => .fail
def E_T' (z : List B8 → List B8) (D : List B8 → List B8) : List (Nat × Mo.Spec) := (69, spB_EncN z) :: (70, pureSp (spA_Dbl D)) :: E_Xor
def K_T' (z : List B8 → List B8) (D : List B8 → List B8) : Cx := cxOf Tryd.prog (E_T' z D)
theorem good_T' (G : Gl) (hG : DB G) : EnvL G Tryd.prog (E_T' (encF z16) dblL) := .cons (e_EncN G) (.cons (e_Dbl G hG) (good_Xor G hG))
theorem l_NewN (z D : List B8 → List B8) :
    evalE (K_T' z D) 100 Tryd.f23 [.s .nil] [] [] [0] = some (.s (.ptr 0 0), [], newBlks [tabE D .nil (z z16)]) := by kernel_rfl
/-- The star of a table without a cipher. -/
def star0 : List B8 := encF z16 z16

def sp_TNewN : Mo.Spec := fun args fresh =>
  match args with
  | [.s .nil] => .pure (.s (.ptr fresh 0), [tabE dblL .nil star0])
  | _ => .fail
theorem e_TNewN (G : Gl) (hG : DB G) : EntryOk G Tryd.prog 23 sp_TNewN := by
  intro args fresh m v news fp hx
  unfold sp_TNewN at hx
  split at hx
  · skip
    cases hx
    refine Fits.intro (Go.Mo.enters_of Tryd.func23 (by kernel_rfl)) fun π vargs ha => ?_
    exact fitsM (K := (K_T' (encF z16) dblL)) (obs := []) (v := .s (.ptr 0 0)) (gsl := [tabE dblL .nil star0]) ((good_T' G hG).good mixed) 100 [.s .nil] [] [] [0] Tryd.func23 (l_NewN _ _) (by intro p hp; cases hp) (by kernel_rfl) (fun i => i) sees0 fresh (by kernel_rfl) (by kernel_rfl) (by kernel_rfl)
  · cases hx
def sp_TNew : Mo.Spec := altSp firstNil sp_TNewN sp_TNewP
theorem e_TNew (G : Gl) (hG : DB G) : EntryOk G Tryd.prog 23 sp_TNew := EntryOk.alt firstNil (e_TNewN G hG) (e_TNewP G hG)
def E_TNew : List (Nat × Mo.Spec) := (23, sp_TNew) :: E_Xor
def K_TNew : Cx := cxOf Tryd.prog E_TNew
theorem good_TNew (G : Gl) (hG : DB G) : EnvL G Tryd.prog E_TNew := .cons (e_TNew G hG) (good_Xor G hG)
def sp_TrightN : Mo.Spec := fun args fresh =>
  match args with
  | [.s .nil] => .pure (.s (.ptr fresh 0), [tabE dblL .nil star0])
  | _ => .fail
theorem e_TrightN (G : Gl) (hG : DB G) : EntryOk G Tryd.prog 81 sp_TrightN := by
  intro args fresh m v news fp hx
  unfold sp_TrightN at hx
  split at hx
  · skip
    cases hx
    refine Fits.intro (Go.Mo.enters_of Tryd.func81 (by kernel_rfl)) fun π vargs ha => ?_
    exact fitsM (K := K_TNew) (obs := []) (v := .s (.ptr 0 0)) (gsl := [tabE dblL .nil star0]) ((good_TNew G hG).good mixed) 100 [.s .nil] [] [] [0] Tryd.func81 (by kernel_rfl) (by intro p hp; cases hp) (by kernel_rfl) (fun i => i) sees0 fresh (by kernel_rfl) (by kernel_rfl) (by kernel_rfl)
  · cases hx
def sp_TrightU : Mo.Spec := fun args _fresh =>
  match args with
  | [.s (.ptr b 0)] => rd1 b fun g0 => match g0 with | [.s .nil, .b8 16 _, .b8 16 _, .b8 1024 _] => some (.s (.ptr b 0), []) | _ => none
  | _ => .fail
theorem e_TrightU (G : Gl) (hG : DB G) : EntryOk G Tryd.prog 81 sp_TrightU := by
  intro args fresh m v news fp hx
  unfold sp_TrightU at hx
  split at hx
  · rename_i b
    obtain ⟨x0, hb0, hk⟩ := rd1_run hx
    split at hk
    · rename_i st dl bl hg0
      cases hk
      refine Fits.intro (Go.Mo.enters_of Tryd.func81 (by kernel_rfl)) fun π vargs ha => ?_
      exact fitsM (K := K_TNew) (obs := []) (v := .s (.ptr 0 0)) (gsl := []) ((good_TNew G hG).good mixed) 60 [.s (.ptr 0 0)] [[.s .nil, .b8 16 st, .b8 16 dl, .b8 1024 bl]] [] [] Tryd.func81 (by kernel_rfl) (by intro p hp; cases hp) (by kernel_rfl) (at1 b) (sees1 hb0 hg0) fresh rfl rfl rfl
    · cases hk
  · cases hx
def sp_TrightT : Mo.Spec := fun args _fresh =>
  match args with
  | [.s (.ptr t 0)] => rdT t fun _c _p => some (.s (.ptr t 0), [])
  | _ => .fail
theorem e_TrightT (G : Gl) (hG : DB G) : EntryOk G Tryd.prog 81 sp_TrightT := by
  intro args fresh m v news fp hx
  unfold sp_TrightT at hx
  split at hx
  · rename_i t
    obtain ⟨c, p, x, y, h1, h2, h3, h4, hk⟩ := rdT_run hx
    cases hk
    refine Fits.intro (Go.Mo.enters_of Tryd.func81 (by kernel_rfl)) fun π vargs ha => ?_
    exact fitsM (K := K_TNew) (obs := []) (v := .s (.ptr 0 0)) (gsl := []) ((good_TNew G hG).good mixed) 60 [.s (.ptr 0 0)] [tabC (.ptr 1 0) p.st p.dl p.bl, ciphC p.kf p.kb p.k p.T] [] [] Tryd.func81 (by kernel_rfl) (by intro p hp; cases hp) (by kernel_rfl) (at2 t c) (seesT h1 h2 h3 h4) fresh rfl rfl rfl
  · cases hx
def sp_Tright : Mo.Spec := altSp firstNil sp_TrightN (orU sp_TrightU sp_TrightT)
theorem e_Tright (G : Gl) (hG : DB G) : EntryOk G Tryd.prog 81 sp_Tright := EntryOk.alt firstNil (e_TrightN G hG) (EntryOk.orU (e_TrightU G hG) (e_TrightT G hG))
def E_Tright : List (Nat × Mo.Spec) := (81, sp_Tright) :: E_TNew
def K_Tright : Cx := cxOf Tryd.prog E_Tright
theorem good_Tright (G : Gl) (hG : DB G) : EnvL G Tryd.prog E_Tright := .cons (e_Tright G hG) (good_TNew G hG)
def sp_StarN : Mo.Spec := fun args _fresh =>
  match args with
  | [.s .nil] => .pure (.a [.b8 16 star0], [])
  | _ => .fail
theorem e_StarN (G : Gl) (hG : DB G) : EntryOk G Tryd.prog 32 sp_StarN := by
  intro args fresh m v news fp hx
  unfold sp_StarN at hx
  split at hx
  · skip
    cases hx
    refine Fits.intro (Go.Mo.enters_of Tryd.func32 (by kernel_rfl)) fun π vargs ha => ?_
    exact fitsM (K := K_Tright) (obs := []) (v := .a [.b8 16 star0]) (gsl := []) ((good_Tright G hG).good mixed) 100 [.s .nil] [] [] [] Tryd.func32 (by kernel_rfl) (by intro p hp; cases hp) (by kernel_rfl) (fun i => i) sees0 fresh (by kernel_rfl) (by kernel_rfl) (by kernel_rfl)
  · cases hx
def sp_StarU : Mo.Spec := fun args _fresh =>
  match args with
  | [.s (.ptr b 0)] => rd1 b fun g0 => match g0 with | [.s .nil, .b8 16 st, .b8 16 _, .b8 1024 _] => some (.a [.b8 16 st], []) | _ => none
  | _ => .fail
theorem e_StarU (G : Gl) (hG : DB G) : EntryOk G Tryd.prog 32 sp_StarU := by
  intro args fresh m v news fp hx
  unfold sp_StarU at hx
  split at hx
  · rename_i b
    obtain ⟨x0, hb0, hk⟩ := rd1_run hx
    split at hk
    · rename_i st dl bl hg0
      cases hk
      refine Fits.intro (Go.Mo.enters_of Tryd.func32 (by kernel_rfl)) fun π vargs ha => ?_
      exact fitsM (K := K_Tright) (obs := []) (v := .a [.b8 16 st]) (gsl := []) ((good_Tright G hG).good mixed) 60 [.s (.ptr 0 0)] [[.s .nil, .b8 16 st, .b8 16 dl, .b8 1024 bl]] [] [] Tryd.func32 (by kernel_rfl) (by intro p hp; cases hp) (by kernel_rfl) (at1 b) (sees1 hb0 hg0) fresh rfl rfl rfl
    · cases hk
  · cases hx
def sp_StarT : Mo.Spec := fun args _fresh =>
  match args with
  | [.s (.ptr t 0)] => rdT t fun _c p => some (.a [.b8 16 p.st], [])
  | _ => .fail
theorem e_StarT (G : Gl) (hG : DB G) : EntryOk G Tryd.prog 32 sp_StarT := by
  intro args fresh m v news fp hx
  unfold sp_StarT at hx
  split at hx
  · rename_i t
    obtain ⟨c, p, x, y, h1, h2, h3, h4, hk⟩ := rdT_run hx
    cases hk
    refine Fits.intro (Go.Mo.enters_of Tryd.func32 (by kernel_rfl)) fun π vargs ha => ?_
    exact fitsM (K := K_Tright) (obs := []) (v := .a [.b8 16 p.st]) (gsl := []) ((good_Tright G hG).good mixed) 60 [.s (.ptr 0 0)] [tabC (.ptr 1 0) p.st p.dl p.bl, ciphC p.kf p.kb p.k p.T] [] [] Tryd.func32 (by kernel_rfl) (by intro p hp; cases hp) (by kernel_rfl) (at2 t c) (seesT h1 h2 h3 h4) fresh rfl rfl rfl
  · cases hx
def sp_Star : Mo.Spec := altSp firstNil sp_StarN (orU sp_StarU sp_StarT)
theorem e_Star (G : Gl) (hG : DB G) : EntryOk G Tryd.prog 32 sp_Star := EntryOk.alt firstNil (e_StarN G hG) (EntryOk.orU (e_StarU G hG) (e_StarT G hG))
def E_Star : List (Nat × Mo.Spec) := (32, sp_Star) :: E_Tright
def K_Star : Cx := cxOf Tryd.prog E_Star
theorem good_Star (G : Gl) (hG : DB G) : EnvL G Tryd.prog E_Star := .cons (e_Star G hG) (good_Tright G hG)
def sp_DollarN : Mo.Spec := fun args _fresh =>
  match args with
  | [.s .nil] => .pure (.a [.b8 16 (dblL star0)], [])
  | _ => .fail
theorem e_DollarN (G : Gl) (hG : DB G) : EntryOk G Tryd.prog 33 sp_DollarN := by
  intro args fresh m v news fp hx
  unfold sp_DollarN at hx
  split at hx
  · skip
    cases hx
    refine Fits.intro (Go.Mo.enters_of Tryd.func33 (by kernel_rfl)) fun π vargs ha => ?_
    exact fitsM (K := K_Star) (obs := []) (v := .a [.b8 16 (dblL star0)]) (gsl := []) ((good_Star G hG).good mixed) 100 [.s .nil] [] [] [] Tryd.func33 (by kernel_rfl) (by intro p hp; cases hp) (by kernel_rfl) (fun i => i) sees0 fresh (by kernel_rfl) (by kernel_rfl) (by kernel_rfl)
  · cases hx
def sp_DollarT : Mo.Spec := fun args _fresh =>
  match args with
  | [.s (.ptr t 0)] => rdT t fun _c p => some (.a [.b8 16 p.dl], [])
  | _ => .fail
theorem e_DollarT (G : Gl) (hG : DB G) : EntryOk G Tryd.prog 33 sp_DollarT := by
  intro args fresh m v news fp hx
  unfold sp_DollarT at hx
  split at hx
  · rename_i t
    obtain ⟨c, p, x, y, h1, h2, h3, h4, hk⟩ := rdT_run hx
    cases hk
    refine Fits.intro (Go.Mo.enters_of Tryd.func33 (by kernel_rfl)) fun π vargs ha => ?_
    exact fitsM (K := K_Star) (obs := []) (v := .a [.b8 16 p.dl]) (gsl := []) ((good_Star G hG).good mixed) 60 [.s (.ptr 0 0)] [tabC (.ptr 1 0) p.st p.dl p.bl, ciphC p.kf p.kb p.k p.T] [] [] Tryd.func33 (by kernel_rfl) (by intro p hp; cases hp) (by kernel_rfl) (at2 t c) (seesT h1 h2 h3 h4) fresh rfl rfl rfl
  · cases hx
def sp_Dollar : Mo.Spec := altSp firstNil sp_DollarN sp_DollarT
theorem e_Dollar (G : Gl) (hG : DB G) : EntryOk G Tryd.prog 33 sp_Dollar := EntryOk.alt firstNil (e_DollarN G hG) (e_DollarT G hG)
def E_Dollar : List (Nat × Mo.Spec) := (33, sp_Dollar) :: E_Star
def K_Dollar : Cx := cxOf Tryd.prog E_Dollar
theorem good_Dollar (G : Gl) (hG : DB G) : EnvL G Tryd.prog E_Dollar := .cons (e_Dollar G hG) (good_Star G hG)
def sp_CipherN : Mo.Spec := fun args _fresh =>
  match args with
  | [.s .nil] => .pure (.s .nil, [])
  | _ => .fail
theorem e_CipherN (G : Gl) (hG : DB G) : EntryOk G Tryd.prog 34 sp_CipherN := by
  intro args fresh m v news fp hx
  unfold sp_CipherN at hx
  split at hx
  · skip
    cases hx
    refine Fits.intro (Go.Mo.enters_of Tryd.func34 (by kernel_rfl)) fun π vargs ha => ?_
    exact fitsM (K := K_Dollar) (obs := []) (v := .s .nil) (gsl := []) ((good_Dollar G hG).good mixed) 100 [.s .nil] [] [] [] Tryd.func34 (by kernel_rfl) (by intro p hp; cases hp) (by kernel_rfl) (fun i => i) sees0 fresh (by kernel_rfl) (by kernel_rfl) (by kernel_rfl)
  · cases hx
def sp_CipherT : Mo.Spec := fun args _fresh =>
  match args with
  | [.s (.ptr t 0)] => rdT t fun c _p => some (.s (.ptr c 0), [])
  | _ => .fail
theorem e_CipherT (G : Gl) (hG : DB G) : EntryOk G Tryd.prog 34 sp_CipherT := by
  intro args fresh m v news fp hx
  unfold sp_CipherT at hx
  split at hx
  · rename_i t
    obtain ⟨c, p, x, y, h1, h2, h3, h4, hk⟩ := rdT_run hx
    cases hk
    refine Fits.intro (Go.Mo.enters_of Tryd.func34 (by kernel_rfl)) fun π vargs ha => ?_
    exact fitsM (K := K_Dollar) (obs := []) (v := .s (.ptr 1 0)) (gsl := []) ((good_Dollar G hG).good mixed) 60 [.s (.ptr 0 0)] [tabC (.ptr 1 0) p.st p.dl p.bl, ciphC p.kf p.kb p.k p.T] [] [] Tryd.func34 (by kernel_rfl) (by intro p hp; cases hp) (by kernel_rfl) (at2 t c) (seesT h1 h2 h3 h4) fresh rfl rfl rfl
  · cases hx
def sp_TCipher : Mo.Spec := altSp firstNil sp_CipherN sp_CipherT
theorem e_TCipher (G : Gl) (hG : DB G) : EntryOk G Tryd.prog 34 sp_TCipher := EntryOk.alt firstNil (e_CipherN G hG) (e_CipherT G hG)
def E_TCipher : List (Nat × Mo.Spec) := (34, sp_TCipher) :: E_Dollar
def K_TCipher : Cx := cxOf Tryd.prog E_TCipher
theorem good_TCipher (G : Gl) (hG : DB G) : EnvL G Tryd.prog E_TCipher := .cons (e_TCipher G hG) (good_Dollar G hG)
end
end Go.Proofs.YtamlbiaakogahaaDoor


namespace Go.Proofs.YtamlbiaakogahaaDoor
open Go Go.Mo
noncomputable section
theorem l_AtT (p : TP) (n : Int) : ∃ orc obs, evalE K_TCipher 60 Tryd.f30 [.s (.ptr 0 0), .s (.si n)] [tabC (.ptr 1 0) p.st p.dl p.bl, ciphC p.kf p.kb p.k p.T] orc [] = some (.a [.b8 16 (atL p.bl n)], obs, []) ∧ ObsOk obs := by
  cases n with
  | ofNat i =>
    rcases Nat.lt_or_ge i 64 with h | h
    · exact ⟨[], [], tab_all (f := fun i => evalE K_TCipher 60 Tryd.f30 [.s (.ptr 0 0), .s (.si (.ofNat i))] [tabC (.ptr 1 0) p.st p.dl p.bl, ciphC p.kf p.kb p.k p.T] [] []) (g := fun i => some (.a [.b8 16 (atL p.bl (.ofNat i))], [], [])) (N := 64) (by kernel_rfl) i h, by intro q hq; cases hq⟩
    · have e : atL p.bl (.ofNat i) = z16 := by
        unfold atL
        cases hb : Nat.blt i 64
        · simp only [hb, cond_false]
        · have := Nat.le_of_ble_eq_true hb; omega
      rw [e]
      refine ⟨[some false, some true], [(decide ((64 : Int) ≤ .ofNat i), true), (decide ((.ofNat i : Int) < 0), false)], by kernel_rfl, ?_⟩
      intro q hq
      simp only [List.mem_cons, List.not_mem_nil, or_false] at hq
      rcases hq with rfl | rfl
      · exact decide_eq_true (by show (64 : Int) ≤ (i : Int); omega)
      · exact decide_eq_false (by show ¬ ((i : Int) < 0); omega)
  | negSucc i =>
    refine ⟨[some true], [(decide ((Int.negSucc i : Int) < 0), true)], by kernel_rfl, ?_⟩
    intro q hq
    simp only [List.mem_cons, List.not_mem_nil, or_false] at hq
    subst hq
    exact decide_eq_true (Int.negSucc_lt_zero i)

theorem l_AtN (n : Int) : ∃ orc obs, evalE K_TCipher 60 Tryd.f30 [.s .nil, .s (.si n)] [] orc [] = some (.a [.b8 16 (atL (splD dblL star0 64) n)], obs, []) ∧ ObsOk obs := by
  cases n with
  | ofNat i =>
    rcases Nat.lt_or_ge i 64 with h | h
    · exact ⟨[], [], tab_all (f := fun i => evalE K_TCipher 60 Tryd.f30 [.s .nil, .s (.si (.ofNat i))] [] [] []) (g := fun i => some (.a [.b8 16 (atL (splD dblL star0 64) (.ofNat i))], [], [])) (N := 64) (by kernel_rfl) i h, by intro q hq; cases hq⟩
    · have e : atL (splD dblL star0 64) (.ofNat i) = z16 := by
        unfold atL
        cases hb : Nat.blt i 64
        · simp only [hb, cond_false]
        · have := Nat.le_of_ble_eq_true hb; omega
      rw [e]
      refine ⟨[some false, some true], [(decide ((64 : Int) ≤ .ofNat i), true), (decide ((.ofNat i : Int) < 0), false)], by kernel_rfl, ?_⟩
      intro q hq
      simp only [List.mem_cons, List.not_mem_nil, or_false] at hq
      rcases hq with rfl | rfl
      · exact decide_eq_true (by show (64 : Int) ≤ (i : Int); omega)
      · exact decide_eq_false (by show ¬ ((i : Int) < 0); omega)
  | negSucc i =>
    refine ⟨[some true], [(decide ((Int.negSucc i : Int) < 0), true)], by kernel_rfl, ?_⟩
    intro q hq
    simp only [List.mem_cons, List.not_mem_nil, or_false] at hq
    subst hq
    exact decide_eq_true (Int.negSucc_lt_zero i)


def sp_AtT : Mo.Spec := fun args _fresh =>
  match args with
  | [.s (.ptr t 0), .s ix] => (match ixI ix with | some n => rdT t fun _c p => some (.a [.b8 16 (atL p.bl n)], []) | none => .fail)
  | _ => .fail
theorem e_AtT (G : Gl) (hG : DB G) : EntryOk G Tryd.prog 30 sp_AtT := by
  intro args fresh m v news fp hx
  unfold sp_AtT at hx
  split at hx
  · rename_i t ix
    split at hx
    · rename_i n hn
      obtain ⟨c, p, x, y, h1, h2, h3, h4, hk⟩ := rdT_run hx
      cases hk
      refine Fits.args (args' := [.s (.ptr t 0), .s (.si n)]) ?_ fun π vargs ha => argsCv_last (l := [.s (.ptr t 0)]) (fun _ hv => ixI_cv hn hv) ha
      obtain ⟨orc, obs, he, ho⟩ := l_AtT p n
      exact fitsM (K := K_TCipher) (obs := obs) (v := .a [.b8 16 (atL p.bl n)]) (gsl := []) ((good_TCipher G hG).good mixed) 60 [.s (.ptr 0 0), .s (.si n)] [tabC (.ptr 1 0) p.st p.dl p.bl, ciphC p.kf p.kb p.k p.T] orc [] Tryd.func30 he ho (by kernel_rfl) (at2 t c) (seesT h1 h2 h3 h4) fresh rfl rfl rfl
    · cases hx
  · cases hx
def sp_AtN : Mo.Spec := fun args _fresh =>
  match args with
  | [.s .nil, .s ix] => (match ixI ix with | some n => .pure (.a [.b8 16 (atL (splD dblL star0 64) n)], []) | none => .fail)
  | _ => .fail
theorem e_AtN (G : Gl) (hG : DB G) : EntryOk G Tryd.prog 30 sp_AtN := by
  intro args fresh m v news fp hx
  unfold sp_AtN at hx
  split at hx
  · rename_i ix
    split at hx
    · rename_i n hn
      cases hx
      refine Fits.args (args' := [.s .nil, .s (.si n)]) ?_ fun π vargs ha => argsCv_last (l := [.s .nil]) (fun _ hv => ixI_cv hn hv) ha
      obtain ⟨orc, obs, he, ho⟩ := l_AtN n
      exact fitsM (K := K_TCipher) (obs := obs) (v := .a [.b8 16 (atL (splD dblL star0 64) n)]) (gsl := []) ((good_TCipher G hG).good mixed) 60 [.s .nil, .s (.si n)] [] orc [] Tryd.func30 he ho (by kernel_rfl) (fun i => i) sees0 fresh rfl rfl rfl
    · cases hx
  · cases hx

def sp_At : Mo.Spec := altSp firstNil sp_AtN sp_AtT
theorem e_At (G : Gl) (hG : DB G) : EntryOk G Tryd.prog 30 sp_At := EntryOk.alt firstNil (e_AtN G hG) (e_AtT G hG)
def E_At : List (Nat × Mo.Spec) := (30, sp_At) :: E_TCipher
def K_At : Cx := cxOf Tryd.prog E_At
theorem good_At (G : Gl) (hG : DB G) : EnvL G Tryd.prog E_At := .cons (e_At G hG) (good_TCipher G hG)
def sp_ForN : Mo.Spec := fun args _fresh =>
  match args with
  | [.s .nil, .s (.b64 n)] => .pure (.a [.b8 16 (atL (splD dblL star0 64) (tzI n))], [])
  | _ => .fail
theorem e_ForN (G : Gl) (hG : DB G) : EntryOk G Tryd.prog 25 sp_ForN := by
  intro args fresh m v news fp hx
  unfold sp_ForN at hx
  split at hx
  · rename_i n
    cases hx
    refine Fits.intro (Go.Mo.enters_of Tryd.func25 (by kernel_rfl)) fun π vargs ha => ?_
    exact fitsM (K := K_At) (obs := []) (v := .a [.b8 16 (atL (splD dblL star0 64) (tzI n))]) (gsl := []) ((good_At G hG).good mixed) 100 [.s .nil, .s (.b64 n)] [] [] [] Tryd.func25 (by kernel_rfl) (by intro p hp; cases hp) (by kernel_rfl) (fun i => i) sees0 fresh (by kernel_rfl) (by kernel_rfl) (by kernel_rfl)
  · cases hx
def sp_ForT : Mo.Spec := fun args _fresh =>
  match args with
  | [.s (.ptr t 0), .s (.b64 n)] => rdT t fun _c p => some (.a [.b8 16 (atL p.bl (tzI n))], [])
  | _ => .fail
theorem e_ForT (G : Gl) (hG : DB G) : EntryOk G Tryd.prog 25 sp_ForT := by
  intro args fresh m v news fp hx
  unfold sp_ForT at hx
  split at hx
  · rename_i t n
    obtain ⟨c, p, x, y, h1, h2, h3, h4, hk⟩ := rdT_run hx
    cases hk
    refine Fits.intro (Go.Mo.enters_of Tryd.func25 (by kernel_rfl)) fun π vargs ha => ?_
    exact fitsM (K := K_At) (obs := []) (v := .a [.b8 16 (atL p.bl (tzI n))]) (gsl := []) ((good_At G hG).good mixed) 60 [.s (.ptr 0 0), .s (.b64 n)] [tabC (.ptr 1 0) p.st p.dl p.bl, ciphC p.kf p.kb p.k p.T] [] [] Tryd.func25 (by kernel_rfl) (by intro p hp; cases hp) (by kernel_rfl) (at2 t c) (seesT h1 h2 h3 h4) fresh rfl rfl rfl
  · cases hx
def sp_For : Mo.Spec := altSp firstNil sp_ForN sp_ForT
theorem e_For (G : Gl) (hG : DB G) : EntryOk G Tryd.prog 25 sp_For := EntryOk.alt firstNil (e_ForN G hG) (e_ForT G hG)
def E_For : List (Nat × Mo.Spec) := (25, sp_For) :: E_At
def K_For : Cx := cxOf Tryd.prog E_For
theorem good_For (G : Gl) (hG : DB G) : EnvL G Tryd.prog E_For := .cons (e_For G hG) (good_At G hG)
end
end Go.Proofs.YtamlbiaakogahaaDoor

