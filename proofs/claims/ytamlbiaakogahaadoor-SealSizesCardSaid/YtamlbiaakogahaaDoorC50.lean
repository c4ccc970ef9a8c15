/- Contracts of functions by the evaluator (C50): the laws of layer 12. -/
import Derived.Test.YtamlbiaakogahaaDoorC47
namespace Go.Proofs.YtamlbiaakogahaaDoor
open Go Go.Mo
noncomputable section

/-! awake -/
def z12 : List B8 := List.replicate 12 0
def z5 : List B8 := List.replicate 5 0
def pZ (ζ : LZ) (k : List B8) : TP := pK ζ.φ k
def obs_awake12 (ζ : LZ) : List (Bool × Bool) :=
  [tr (ζ.CS (pZ ζ z16) z12 5 z5 = z16.set 5 128), tr (((ζ.SEA (pZ ζ z16) z12 0 [] 5 z5).drop 5).take 16 = ζ.TAG (pZ ζ z16) (ζ.CS (pZ ζ z16) z12 5 z5) (ζ.CD (pZ ζ z16) z12 5 z5) 0 []), tr (((ζ.SEA (pZ ζ z16) z12 0 [] 5 z5).drop 0).take 5 = ζ.CO (pZ ζ z16) z12 5 z5), (true, true), (true, true)]
theorem l_awake12 (ζ : LZ) : ev2 (K_Z ζ) noInl 60 Tryd.f58 [] [] (List.replicate 5 (some true)) [] (.s (.bool true)) [] = (some (.s (.bool true), obs_awake12 ζ, newBlks []), true) := by kernel_rfl

theorem seal_eq (k nc : List B8) {n n' : Nat} {l l' : List B8} (hl : l.length = n) (hn : n ≤ 150) (hl' : l'.length = n') (hn' : n' ≤ 150) : ζ0.SEA (pZ ζ0 k) nc n l n' l' = ζ0.RSEA (ζ0.φ.W k) ζ0.φ.SB nc n l n' l' := by
  have e1 : ζ0.SEA (pZ ζ0 k) nc n l n' l' = (bif Nat.beq n' 0 then tagF τ0 (pk k) (crS κ0 (pk k) nc n' (nzL n' l')) (crD κ0 (pk k) nc n' (nzL n' l')) n l else crO κ0 (pk k) nc n' (nzL n' l') ++ tagF τ0 (pk k) (crS κ0 (pk k) nc n' (nzL n' l')) (crD κ0 (pk k) nc n' (nzL n' l')) n l) := by kernel_rfl
  have e2 : ζ0.RSEA (ζ0.φ.W k) ζ0.φ.SB nc n l n' l' = (bif Nat.beq n' 0 then rtagF υ0 (wk k) sB (rcS δ0 (wk k) sB nc n' (nzL n' l')) (rcD δ0 (wk k) sB nc n' (nzL n' l')) n l else rcO δ0 (wk k) sB nc n' (nzL n' l') ++ rtagF υ0 (wk k) sB (rcS δ0 (wk k) sB nc n' (nzL n' l')) (rcD δ0 (wk k) sB nc n' (nzL n' l')) n l) := by kernel_rfl
  subst hl'
  rw [e1, e2, nzL_len, crS_eq k nc rfl, crD_eq k nc (by omega), crO_eq k nc rfl (by omega), tag_eq k _ _ hl (by omega)]
theorem crO_len0 (k nc l : List B8) : (crO κ0 (pk k) nc 5 l).length = 5 := by kernel_rfl
theorem tag_len (k s o l : List B8) (n : Nat) : (tagF τ0 (pk k) s o n l).length = 16 := rfl
theorem obs_awake12_ok : ObsOk (obs_awake12 ζ0) := by
  have e1 : ζ0.SEA (pZ ζ0 z16) z12 0 [] 5 z5 = crO κ0 (pk z16) z12 5 z5 ++ tagF τ0 (pk z16) (crS κ0 (pk z16) z12 5 z5) (crD κ0 (pk z16) z12 5 z5) 0 [] := by kernel_rfl
  have e2 : ζ0.CO (pZ ζ0 z16) z12 5 z5 = crO κ0 (pk z16) z12 5 z5 := by kernel_rfl
  have e3 : ζ0.TAG (pZ ζ0 z16) (ζ0.CS (pZ ζ0 z16) z12 5 z5) (ζ0.CD (pZ ζ0 z16) z12 5 z5) 0 [] = tagF τ0 (pk z16) (crS κ0 (pk z16) z12 5 z5) (crD κ0 (pk z16) z12 5 z5) 0 [] := by kernel_rfl
  have hl := crO_len0 z16 z12 z5
  unfold obs_awake12
  refine obs_tr ?_ <| obs_tr ?_ <| obs_tr ?_ ?_
  · kernel_rfl
  · rw [e1, e3, List.drop_append_of_le_length (by omega), List.drop_of_length_le (by omega), List.nil_append, List.take_of_length_le (by rw [tag_len]; omega)]
  · rw [e1, e2, List.drop_zero, List.take_append_of_le_length (by omega), List.take_of_length_le (by omega)]
  · intro q hq
    simp only [List.mem_cons, List.not_mem_nil, or_false, or_self] at hq
    subst hq; rfl
theorem e_awake12 (G : Gl) (hG : DB G) : EntryOk G Tryd.prog 58 (pureSp sp_awake11) := by
  refine entry_pure (Go.Mo.enters_of Tryd.func58 (by kernel_rfl)) ?_
  intro args v h π vargs ha fresh m
  unfold sp_awake11 at h
  split at h
  · cases h
    have he := l_awake12 ζ0
    simp only [ev2, Prod.mk.injEq] at he
    exact fitsG (good_Z G hG) noInl_ok 60 60 [] [] 0 _ [] Tryd.func58 he.1 obs_awake12_ok he.2 (σ := fun i => i) (o := fun _ => 0) ⟨fun i _ hi => (by omega), fun i _ _ e => (by simp at e), fun i hi => (by omega), fun i _ hi => (by omega)⟩ fresh
      (fun π w vargs _ => argsW_nil) rfl rfl
  · cases h
noncomputable def K_Z1 (ζ : LZ) : Cx := cxA (cxOf Tryd.prog ((58, pureSp sp_awake11) :: E_Z ζ)) (A_Z ζ)
theorem good_Z1 (G : Gl) (hG : DB G) : Mo.Good G (K_Z1 ζ0) := ((EnvL.cons (e_awake12 G hG) (list_Z G hG)).good mixed).asks (asks_Z G hG)

/-! SealMatchesReference -/
noncomputable abbrev SMR := Tryd.f16
def uk (n N : Nat) : Bool × Bool := (decide (n = n ∧ n ≠ 0 ∧ n ≤ N), true)
def obsSM (ζ : LZ) (k nc : List B8) (n : Nat) (l : List B8) (n' : Nat) (l' : List B8) : List (Bool × Bool) :=
  [tr (nzL n' l' = nzL n' l'), ((decide (n = n ∧ n ≠ 0 ∧ n ≤ 100000)) && ((decide (n = n ∧ n ≠ 0 ∧ n ≤ 100000)) && decide (l = l)), true), tr (ζ.SEA (pZ ζ k) nc n l n' (nzL n' l') = ζ.RSEA (ζ.φ.W k) ζ.φ.SB nc n l n' (nzL n' l')),
   uk n 150, uk n 150, uk n appendLimit, fa ((100 : Int) < (n : Int))]
noncomputable def smEv (ζ : LZ) (k nc : List B8) (n : Nat) (l : List B8) (n' : Nat) (l' : List B8) := ev2 (K_Z1 ζ) noInl 80 SMR ([.a [.b8 16 k], .a [.b8 12 nc]] ++ [argS 0 n, argB 1 n']) [some [.b8 n l], memBy n' l'] ([some false, some true, some true, some true, some true, some true, some true]) [] (.s (.bool true)) []
theorem l_SM (ζ : LZ) (k nc : List B8) (n : Nat) (l l' : List B8) : (List.range 151).map (fun n' => smEv ζ k nc n l n' l') = (List.range 151).map (fun n' => (some (.s (.bool true), obsSM ζ k nc n l n' l', newBlks []), true)) := by kernel_rfl
def obsSM0 (ζ : LZ) (k nc : List B8) (n' : Nat) (l' : List B8) : List (Bool × Bool) :=
  [tr (nzL n' l' = nzL n' l'), (true, true), tr (ζ.SEA (pZ ζ k) nc 0 [] n' (nzL n' l') = ζ.RSEA (ζ.φ.W k) ζ.φ.SB nc 0 [] n' (nzL n' l')), (true, true), (true, true)]
noncomputable def smEv0 (ζ : LZ) (k nc : List B8) (n' : Nat) (l' : List B8) := ev2 (K_Z1 ζ) noInl 80 SMR ([.a [.b8 16 k], .a [.b8 12 nc]] ++ [argB 0 0, argB 1 n']) [memBy 0 [], memBy n' l'] ([some true, some true, some true, some true, some true]) [] (.s (.bool true)) []
theorem l_SM0 (ζ : LZ) (k nc : List B8) (l' : List B8) : (List.range 151).map (fun n' => smEv0 ζ k nc n' l') = (List.range 151).map (fun n' => (some (.s (.bool true), obsSM0 ζ k nc n' l', newBlks []), true)) := by kernel_rfl
/-- Where the data, or the plaintext, are too long. -/
theorem l_SMa (ζ : LZ) (k nc : List B8) (n n' : Nat) (gs gs' : List Seg) : ev2 (K_Z1 ζ) noInl 80 SMR ([.a [.b8 16 k], .a [.b8 12 nc]] ++ [argS 0 n, argS 1 n']) [some gs, some gs'] [some true] [] (.s (.bool true)) [] = (some (.s (.bool true), [tr ((100 : Int) < (n : Int))], newBlks []), true) := by kernel_rfl
theorem l_SMb (ζ : LZ) (k nc : List B8) (n : Nat) (gs : List Seg) : ev2 (K_Z1 ζ) noInl 80 SMR ([.a [.b8 16 k], .a [.b8 12 nc]] ++ [argS 0 n, argB 1 0]) [some gs, memBy 0 []] [some true] [] (.s (.bool true)) [] = (some (.s (.bool true), [tr ((100 : Int) < (n : Int))], newBlks []), true) := by kernel_rfl
theorem l_SMc (ζ : LZ) (k nc : List B8) (n n' : Nat) (gs gs' : List Seg) : ev2 (K_Z1 ζ) noInl 80 SMR ([.a [.b8 16 k], .a [.b8 12 nc]] ++ [argS 0 n, argS 1 n']) [some gs, some gs'] [some false, some true] [] (.s (.bool true)) [] = (some (.s (.bool true), [tr ((150 : Int) < (n' : Int)), fa ((100 : Int) < (n : Int))], newBlks []), true) := by kernel_rfl
theorem l_SMd (ζ : LZ) (k nc : List B8) (n' : Nat) (gs' : List Seg) : ev2 (K_Z1 ζ) noInl 80 SMR ([.a [.b8 16 k], .a [.b8 12 nc]] ++ [argB 0 0, argS 1 n']) [memBy 0 [], some gs'] [some true] [] (.s (.bool true)) [] = (some (.s (.bool true), [tr ((150 : Int) < (n' : Int))], newBlks []), true) := by kernel_rfl
theorem obs_uk {n N : Nat} {l : List (Bool × Bool)} (h0 : n ≠ 0) (h : n ≤ N) (hl : ObsOk l) : ObsOk (uk n N :: l) := by
  intro q hq
  rcases List.mem_cons.1 hq with rfl | hq
  · exact decide_eq_true ⟨rfl, h0, h⟩
  · exact hl q hq
theorem obs_ok1 {b : Bool} {l : List (Bool × Bool)} (h : b = true) (hl : ObsOk l) : ObsOk ((b, true) :: l) := by
  intro q hq
  rcases List.mem_cons.1 hq with rfl | hq
  · exact h
  · exact hl q hq
theorem law_SealMatchesReference (G : Gl) (hG : DB G) (k nc l l' : List B8) : Fits G Tryd.prog 16 [.a [.b8 16 k], .a [.b8 12 nc], argB 0 l.length, argB 1 l'.length] 2 (mBB l l') (.s (.bool true)) [] := by
  have hp : Pures [.a [.b8 16 k], .a [.b8 12 nc]] [.a [.b8 16 k], .a [.b8 12 nc]] := pures_flat rfl (pures_flat rfl pures_nil)
  have hf := Tryd.func16
  rcases Nat.eq_zero_or_pos l.length with h0 | h0
  · have := List.length_eq_zero_iff.1 h0
    subst this
    rcases Nat.lt_or_ge 150 l'.length with h1 | h1
    · exact fits_BS (good_Z1 G hG) noInl_ok hf (by omega) (inB0 [] l') (inB1 [] l') hp (l_SMd ζ0 k nc l'.length _) (fun _ _ => obs_tr (by omega) obs_nil)
    · exact fits_BB (good_Z1 G hG) noInl_ok hf (inB0 [] l') (inB1 [] l') hp (map_at (l_SM0 ζ0 k nc l') (n := l'.length) (by omega)) (fun _ _ => by
        unfold obsSM0
        rw [nzL_len]
        exact obs_tr rfl <| obs_ok1 rfl <| obs_tr (seal_eq k nc rfl (by simp) rfl h1) <| obs_ok1 rfl <| obs_ok1 rfl obs_nil)
  · have hne : l.length ≠ 0 := by omega
    rcases Nat.lt_or_ge 100 l.length with h2 | h2
    · rcases Nat.eq_zero_or_pos l'.length with h1 | h1
      · have := List.length_eq_zero_iff.1 h1
        subst this
        exact fits_SB (good_Z1 G hG) noInl_ok hf hne (inB0 l []) (inB1 l []) hp (l_SMb ζ0 k nc l.length _) (fun _ _ => obs_tr (by omega) obs_nil)
      · exact fits_SS (good_Z1 G hG) noInl_ok hf hne (by omega) (inB0 l l') (inB1 l l') hp (l_SMa ζ0 k nc l.length l'.length _ _) (fun _ _ => obs_tr (by omega) obs_nil)
    · rcases Nat.lt_or_ge 150 l'.length with h1 | h1
      · exact fits_SS (good_Z1 G hG) noInl_ok hf hne (by omega) (inB0 l l') (inB1 l l') hp (l_SMc ζ0 k nc l.length l'.length _ _) (fun _ _ => obs_tr (by omega) (obs_fa (by omega) obs_nil))
      · exact fits_SB (good_Z1 G hG) noInl_ok hf hne (inB0 l l') (inB1 l l') hp (map_at (l_SM ζ0 k nc l.length l l') (n := l'.length) (by omega)) (fun _ _ => by
          unfold obsSM
          rw [nzL_len]
          exact obs_tr rfl <| obs_ok1 (by simp [hne]; omega) <| obs_tr (seal_eq k nc rfl (by omega) rfl h1) <| obs_uk hne (by omega) <| obs_uk hne (by omega) <| obs_uk hne (by unfold appendLimit; omega) <| obs_fa (by omega) obs_nil)
end
end Go.Proofs.YtamlbiaakogahaaDoor
