/- Contracts of functions by the evaluator (C17). -/
import Derived.Test.YtamlbiaakogahaaDoorC16
import Derived.Test.YtamlbiaakogahaaDoorProg
namespace Go.Proofs.YtamlbiaakogahaaDoor
open Go Go.Mo
noncomputable section
/-! What the laws of layer 9 call: awake too. -/
def E_W (φ : LF) : List (Nat × Mo.Spec) := (22, pureSp sp_awake9) :: E_L φ
def K_W (φ : LF) : Cx := cxC Tryd.prog (C_L φ) (E_W φ)
theorem good_W (G : Gl) (hG : DB G) : Mo.Good G (K_W φ0) := (cond_L G).good (.cons (e_awake9 G hG) (list_L G hG)) mixed
/-- The reference's star of a key. -/
def rK (φ : LF) (k : List B8) : List B8 := φ.RE (φ.W k) φ.SB z16
theorem rK_eq (k : List B8) : rK φ0 k = starK k := starK_ref k
/-- The block for a number is the reference's. -/
theorem for_eq (k : List B8) {n : BitVec 64} (h : n.toNat ≠ 0) : bK φ0 k (φ0.TZ n) = refAt φ0.D' (rK φ0 k) (φ0.TZ' n) := by
  rw [bK_eq, rK_eq, D'_eq, TZ_eq, TZ'_eq, tzI_eq]
  exact blk_ref (starK_len k) (zer_ge n) (zer_lt h)
noncomputable abbrev TF := Tryd.f3

def tz0T (n : BitVec 64) : Prop := (n.toNat : Int) = ((BitVec.ofNat 64 0).toNat : Int)
def tbigT (n : BitVec 64) : Prop := ((BitVec.ofNat 64 9223372036854775808).toNat : Int) ≤ (n.toNat : Int)
def tevT (n : BitVec 64) : Prop := ((n % BitVec.ofNat 64 2).toNat : Int) = ((BitVec.ofNat 64 0).toNat : Int)
instance (n : BitVec 64) : Decidable (tz0T n) := by unfold tz0T; exact inferInstance
instance (n : BitVec 64) : Decidable (tbigT n) := by unfold tbigT; exact inferInstance
instance (n : BitVec 64) : Decidable (tevT n) := by unfold tevT; exact inferInstance
theorem t_For0 (φ : LF) (k : List B8) (n : BitVec 64) : evalE (K_W φ) 80 TF [.a [.b8 16 k], .s (.b64 n)] [] [some true] [] = some (.s (.bool true), [tr (tz0T n)], []) := by kernel_rfl
def obA (φ : LF) (k : List B8) (n : BitVec 64) : Bool × Bool := tr (bK φ k (φ.TZ n) = refAt φ.D' (rK φ k) (φ.TZ' n))
def obC (φ : LF) (k : List B8) (n : BitVec 64) : Bool × Bool := tr (bK φ k (φ.TZ (BitVec.ofNat 64 2 * n)) = φ.D' (bK φ k (φ.TZ n)))
def obE (φ : LF) (k : List B8) (n : BitVec 64) : Bool × Bool := tr (bK φ k (φ.TZ n) = bK φ k 0)
theorem t_ForTT (φ : LF) (k : List B8) (n : BitVec 64) : evalE (K_W φ) 80 TF [.a [.b8 16 k], .s (.b64 n)] [] [some false, some true, some true, some true] [] = some (.s (.bool true), [tr (tevT n), tr (tbigT n), obA φ k n, fa (tz0T n)], []) := by kernel_rfl
theorem t_ForTF (φ : LF) (k : List B8) (n : BitVec 64) : evalE (K_W φ) 80 TF [.a [.b8 16 k], .s (.b64 n)] [] [some false, some true, some true, some false, some true] [] = some (.s (.bool true), [obE φ k n, fa (tevT n), tr (tbigT n), obA φ k n, fa (tz0T n)], []) := by kernel_rfl
theorem t_ForFT (φ : LF) (k : List B8) (n : BitVec 64) : evalE (K_W φ) 80 TF [.a [.b8 16 k], .s (.b64 n)] [] [some false, some true, some false, some true, some true] [] = some (.s (.bool true), [tr (tevT n), obC φ k n, fa (tbigT n), obA φ k n, fa (tz0T n)], []) := by kernel_rfl
theorem t_ForFF (φ : LF) (k : List B8) (n : BitVec 64) : evalE (K_W φ) 80 TF [.a [.b8 16 k], .s (.b64 n)] [] [some false, some true, some false, some true, some false, some true] [] = some (.s (.bool true), [obE φ k n, fa (tevT n), obC φ k n, fa (tbigT n), obA φ k n, fa (tz0T n)], []) := by kernel_rfl
theorem o_TableFor (k : List B8) (n : BitVec 64) : ∃ orc obs, evalE (K_W φ0) 80 TF [.a [.b8 16 k], .s (.b64 n)] [] orc [] = some (.s (.bool true), obs, []) ∧ ObsOk obs := by
  by_cases h0 : tz0T n
  · exact ⟨_, _, t_For0 φ0 k n, obs_tr h0 obs_nil⟩
  · have hn : n.toNat ≠ 0 := fun e => h0 (by unfold tz0T; rw [e]; rfl)
    have hA := for_eq k hn
    have hC : ¬ tbigT n → bK φ0 k (φ0.TZ (BitVec.ofNat 64 2 * n)) = φ0.D' (bK φ0 k (φ0.TZ n)) := by
      intro hb
      have hlt : n.toNat < 9223372036854775808 := by
        unfold tbigT at hb
        have : ((BitVec.ofNat 64 9223372036854775808).toNat : Int) = 9223372036854775808 := rfl
        omega
      obtain ⟨z1, z2⟩ := zer_double hn hlt
      have z0 := zer_ge n
      rw [hA, bK_eq, D'_eq, rK_eq, TZ_eq, TZ'_eq, tzI_eq]
      show blk (starK k) (zerR (2 * n)) = _
      rw [z1, blk_ref (starK_len k) (by omega) (by omega), refAt_succ _ _ z0]
    have hE : ¬ tevT n → bK φ0 k (φ0.TZ n) = bK φ0 k 0 := by
      intro he
      have : zerR n = 0 := zer_odd he
      rw [TZ_eq, tzI_eq, this]
    by_cases hb : tbigT n <;> by_cases he : tevT n
    · exact ⟨_, _, t_ForTT φ0 k n, obs_tr he <| obs_tr hb <| obs_tr hA <| obs_fa h0 obs_nil⟩
    · exact ⟨_, _, t_ForTF φ0 k n, obs_tr (hE he) <| obs_fa he <| obs_tr hb <| obs_tr hA <| obs_fa h0 obs_nil⟩
    · exact ⟨_, _, t_ForFT φ0 k n, obs_tr he <| obs_tr (hC hb) <| obs_fa hb <| obs_tr hA <| obs_fa h0 obs_nil⟩
    · exact ⟨_, _, t_ForFF φ0 k n, obs_tr (hE he) <| obs_fa he <| obs_tr (hC hb) <| obs_fa hb <| obs_tr hA <| obs_fa h0 obs_nil⟩

def sp_TableFor : List V → Option V
  | [.a [.b8 16 _], .s (.b64 _)] => some (.s (.bool true))
  | _ => none
theorem e_TableFor (G : Gl) (hG : DB G) : EntryOk G Tryd.prog 3 (pureSp sp_TableFor) := by
  refine entry_pure (Go.Mo.enters_of Tryd.func3 (by kernel_rfl)) ?_
  intro args v h π vargs ha fresh m
  unfold sp_TableFor at h
  split at h
  · rename_i k n
    cases h
    obtain ⟨orc, obs, he, ho⟩ := o_TableFor k n
    exact fitsP (K := K_W φ0) (obs := obs) (good_W G hG) 80 _ orc Tryd.func3 he ho (by kernel_rfl) rfl rfl fresh m
  · cases h

noncomputable abbrev TN := Tryd.f6
def obsNil (φ : LF) (i : Int) (n : BitVec 64) : List (Bool × Bool) :=
  [tr (z16 = z16), tr (φ.S0 = sK φ z16), tr (atL (splD φ.D φ.S0 64) (φ.TZ n) = bK φ z16 (φ.TZ n)), tr (atL (splD φ.D φ.S0 64) i = bK φ z16 i), tr (φ.D φ.S0 = φ.D (sK φ z16)), tr (φ.S0 = sK φ z16)]
theorem t_Nil (φ : LF) (i : Int) (n : BitVec 64) : evalE (K_W φ) 80 TN [.s (.si i), .s (.b64 n)] [] [some true, some true, some true, some true, some true, some true] [] = some (.s (.bool true), obsNil φ i n, []) := by kernel_rfl
theorem S0_eq' : φ0.S0 = star0 := by kernel_rfl
theorem star0_eq (k : List B8) : encF k z16 = starK k := by kernel_rfl
theorem S0_eq : φ0.S0 = sK φ0 z16 := by rw [sK_eq, S0_eq']; exact star0_eq z16
theorem o_TableNil (i : Int) (n : BitVec 64) : ∃ orc obs, evalE (K_W φ0) 80 TN [.s (.si i), .s (.b64 n)] [] orc [] = some (.s (.bool true), obs, []) ∧ ObsOk obs :=
  ⟨_, _, t_Nil φ0 i n, obs_tr rfl <| obs_tr S0_eq <| obs_tr (by rw [S0_eq, bK]) <| obs_tr (by rw [S0_eq, bK]) <| obs_tr (by rw [S0_eq]) <| obs_tr S0_eq obs_nil⟩

def sp_TableNil : List V → Option V
  | [.s (.si _), .s (.b64 _)] => some (.s (.bool true))
  | _ => none
theorem e_TableNil (G : Gl) (hG : DB G) : EntryOk G Tryd.prog 6 (pureSp sp_TableNil) := by
  refine entry_pure (Go.Mo.enters_of Tryd.func6 (by kernel_rfl)) ?_
  intro args v h π vargs ha fresh m
  unfold sp_TableNil at h
  split at h
  · rename_i i n
    cases h
    obtain ⟨orc, obs, he, ho⟩ := o_TableNil i n
    exact fitsP (K := K_W φ0) (obs := obs) (good_W G hG) 80 _ orc Tryd.func6 he ho (by kernel_rfl) rfl rfl fresh m
  · cases h

noncomputable abbrev TM := Tryd.f5
def obl1 (n : Int) : List (Bool × Bool) := [tr (-1 ≤ n), tr (n ≤ 64)]
def obsM (φ : LF) (k : List B8) (i : Int) (want : List B8) : List (Bool × Bool) :=
  tr (k = k) :: tr (bK φ k i = want) :: tr (φ.D (sK φ k) = refAt φ.D' (rK φ k) (-1)) :: (obl1 (-1) ++ [tr (sK φ k = rK φ k)])
theorem t_M0 (φ : LF) (k : List B8) (i : Int) : evalE (K_W φ) 80 TM [.a [.b8 16 k], .s (.si i)] [] [some false, some true, some true, some true, some true] [] = some (.s (.bool true), obsM φ k i z16 ++ [fa ((0 : Int) ≤ i)], []) := by kernel_rfl
theorem t_M1 (φ : LF) (k : List B8) (i : Int) : evalE (K_W φ) 80 TM [.a [.b8 16 k], .s (.si i)] [] [some true, some false, some true, some true, some true, some true] [] = some (.s (.bool true), obsM φ k i z16 ++ [fa (i < 64), tr ((0 : Int) ≤ i)], []) := by kernel_rfl
theorem t_M2 (φ : LF) (k : List B8) (i : Int) : evalE (K_W φ) 80 TM [.a [.b8 16 k], .s (.si i)] [] [some true, some true, some true, some true, some true, some true] [] = some (.s (.bool true), obsM φ k i (refAt φ.D' (rK φ k) i) ++ (obl1 i ++ [tr (i < 64), tr ((0 : Int) ≤ i)]), []) := by kernel_rfl
theorem obs_app {a b : List (Bool × Bool)} (ha : ObsOk a) (hb : ObsOk b) : ObsOk (a ++ b) := fun q hq => (List.mem_append.1 hq).elim (ha q) (hb q)
theorem obl1_ok {n : Int} (h1 : -1 ≤ n) (h2 : n ≤ 64) : ObsOk (obl1 n) := obs_tr h1 <| obs_tr h2 obs_nil
theorem dollar_eq (k : List B8) : φ0.D (sK φ0 k) = refAt φ0.D' (rK φ0 k) (-1) := by
  rw [rK_eq, sK_eq, D'_eq]
  show dblL (starK k) = itD dblR (starK k) 1
  rw [itD_eq (starK_len k)]
  rfl
theorem obsM_ok (k : List B8) (i : Int) (want : List B8) (h : bK φ0 k i = want) : ObsOk (obsM φ0 k i want) :=
  obs_tr rfl <| obs_tr h <| obs_tr (dollar_eq k) <| obs_app (obl1_ok (by omega) (by omega)) <| obs_tr (by rw [sK_eq, rK_eq]) obs_nil
theorem o_TableMatchesReference (k : List B8) (i : Int) : ∃ orc obs, evalE (K_W φ0) 80 TM [.a [.b8 16 k], .s (.si i)] [] orc [] = some (.s (.bool true), obs, []) ∧ ObsOk obs := by
  by_cases h0 : (0 : Int) ≤ i
  · by_cases h1 : i < 64
    · exact ⟨_, _, t_M2 φ0 k i, obs_app (obsM_ok k i _ (by rw [bK_eq, rK_eq, D'_eq]; exact blk_ref (starK_len k) h0 h1)) <| obs_app (obl1_ok (by omega) (by omega)) <| obs_tr h1 <| obs_tr h0 obs_nil⟩
    · exact ⟨_, _, t_M1 φ0 k i, obs_app (obsM_ok k i _ (blk_big _ i (by omega))) <| obs_fa h1 <| obs_tr h0 obs_nil⟩
  · exact ⟨_, _, t_M0 φ0 k i, obs_app (obsM_ok k i _ (blk_neg _ i (by omega))) <| obs_fa h0 obs_nil⟩

def sp_TableMatchesReference : List V → Option V
  | [.a [.b8 16 _], .s (.si _)] => some (.s (.bool true))
  | _ => none
theorem e_TableMatchesReference (G : Gl) (hG : DB G) : EntryOk G Tryd.prog 5 (pureSp sp_TableMatchesReference) := by
  refine entry_pure (Go.Mo.enters_of Tryd.func5 (by kernel_rfl)) ?_
  intro args v h π vargs ha fresh m
  unfold sp_TableMatchesReference at h
  split at h
  · rename_i k i
    cases h
    obtain ⟨orc, obs, he, ho⟩ := o_TableMatchesReference k i
    exact fitsP (K := K_W φ0) (obs := obs) (good_W G hG) 80 _ orc Tryd.func5 he ho (by kernel_rfl) rfl rfl fresh m
  · cases h

noncomputable abbrev TL := Tryd.f4
def m32 (x : B8) : Int := ((x.toNat : Int)).tmod 32
def tL1 (j : B8) (m : Nat) : Prop := (Int.ofNat m) < m32 j
instance (j : B8) (m : Nat) : Decidable (tL1 j m) := by unfold tL1; exact inferInstance
def downL (j : B8) : Nat → List (Bool × Bool)
  | 0 => []
  | m + 1 => tr (tL1 j m) :: downL j m
def sumL (i j : B8) : Int := IntKind.i64.wrap (m32 i + m32 j)
def obsL (φ : LF) (k : List B8) (i j : B8) (m : Nat) : List (Bool × Bool) :=
  tr (itD φ.D' (bK φ k (m32 i)) m = refAt φ.D' (rK φ k) (sumL i j)) :: (obl1 (sumL i j) ++ (tr (itD φ.D' (bK φ k (m32 i)) m = bK φ k (sumL i j)) :: fa (tL1 j m) :: downL j m))
def tlf (φ : LF) (k : List B8) (i j : B8) (m : Nat) := evalE (K_W φ) 80 TL [.a [.b8 16 k], .s (.b8 i), .s (.b8 j)] [] (List.replicate m (some true) ++ [some false, some true, some true]) []
def tlg (φ : LF) (k : List B8) (i j : B8) (m : Nat) : Option (V × List (Bool × Bool) × List (Option Blk)) := some (.s (.bool true), obsL φ k i j m, [])
theorem t_L (φ : LF) (k : List B8) (i j : B8) : tabL (tlf φ k i j) 32 = tabR (tlg φ k i j) 32 := by kernel_rfl
theorem downL_ok (j : B8) : ∀ m : Nat, (m : Int) ≤ m32 j → ObsOk (downL j m)
  | 0, _ => obs_nil
  | m + 1, h => obs_tr (by unfold tL1; show (m : Int) < _; omega) (downL_ok j m (by omega))
theorem m32_eq (x : B8) : m32 x = ((x.toNat % 32 : Nat) : Int) := by
  unfold m32
  rw [Int.tmod_eq_emod_of_nonneg (by omega)]
  omega
theorem o_TableLinear (k : List B8) (i j : B8) : ∃ orc obs, evalE (K_W φ0) 80 TL [.a [.b8 16 k], .s (.b8 i), .s (.b8 j)] [] orc [] = some (.s (.bool true), obs, []) ∧ ObsOk obs := by
  have hi := m32_eq i
  have hj := m32_eq j
  have hl := starK_len k
  have hs : sumL i j = m32 i + m32 j := by
    unfold sumL
    have hw : ∀ x : Int, IntKind.i64.wrap x = (x + 9223372036854775808) % 18446744073709551616 - 9223372036854775808 := fun x => by
      simp [IntKind.wrap, IntKind.bits, IntKind.signed]
      split <;> omega
    rw [hw]
    omega
  have e1 : itD φ0.D' (bK φ0 k (m32 i)) (j.toNat % 32) = refAt dblR (starK k) (m32 i + m32 j) := by
    rw [D'_eq, bK_eq, blk_ref hl (by omega) (by omega), refAt_add _ _ (by omega), hj]
  refine ⟨_, _, tab_all (t_L φ0 k i j) (j.toNat % 32) (by omega), ?_⟩
  unfold obsL
  rw [hs]
  refine obs_tr (by rw [e1, rK_eq, D'_eq]) <| obs_app (obl1_ok (by omega) (by omega)) <| obs_tr (by rw [e1, bK_eq, blk_ref hl (by omega) (by omega)]) <| obs_fa ?_ <| downL_ok j _ (by omega)
  unfold tL1
  show ¬ ((j.toNat % 32 : Nat) : Int) < m32 j
  omega

def sp_TableLinear : List V → Option V
  | [.a [.b8 16 _], .s (.b8 _), .s (.b8 _)] => some (.s (.bool true))
  | _ => none
theorem e_TableLinear (G : Gl) (hG : DB G) : EntryOk G Tryd.prog 4 (pureSp sp_TableLinear) := by
  refine entry_pure (Go.Mo.enters_of Tryd.func4 (by kernel_rfl)) ?_
  intro args v h π vargs ha fresh m
  unfold sp_TableLinear at h
  split at h
  · rename_i k i j
    cases h
    obtain ⟨orc, obs, he, ho⟩ := o_TableLinear k i j
    exact fitsP (K := K_W φ0) (obs := obs) (good_W G hG) 80 _ orc Tryd.func4 he ho (by kernel_rfl) rfl rfl fresh m
  · cases h
end
end Go.Proofs.YtamlbiaakogahaaDoor
