/- Contracts of functions by the evaluator (C23). -/
import Derived.Test.YtamlbiaakogahaaDoorC22
import Derived.Test.YtamlbiaakogahaaDoorProg
import Derived.Test.YtamlbiaakogahaaDoorC17

namespace Go.Proofs.YtamlbiaakogahaaDoor
open Go Go.Mo
noncomputable section

theorem kP_TOP (k n : List B8) : ψ0.TOP (pK φ0 k) n = encF k (topL n) := by kernel_rfl
theorem kP_STA (k n : List B8) : ψ0.STA (pK φ0 k) n = Mo.shF (strL (encF k (topL n))) (botI n) := by kernel_rfl
theorem kP_OA0 (p : TP) (n : List B8) : ψ0.STA p n = ψ0.OA p n 0 := by kernel_rfl
theorem kP_RTO (k n : List B8) : ψ0.RTO (φ0.W k) φ0.SB n = refEnc (wordsR k) sboxL (rtopL n) := by kernel_rfl
theorem kP_RST (k n : List B8) : ψ0.RST (φ0.W k) φ0.SB n = shiftR (strL (refEnc (wordsR k) sboxL (rtopL n))) (rbotI n) := by kernel_rfl
theorem kP_BO (n : List B8) : ψ0.BO n = botI n := by kernel_rfl
theorem kP_BO' (n : List B8) : ψ0.BO' n = rbotI n := by kernel_rfl
theorem kP_SH (l : List B8) (i : Int) : ψ0.SH' l i = shiftR l i := by kernel_rfl
theorem kP_ST (l : List B8) : ψ0.ST l = strL l := by kernel_rfl
theorem kP_φ : ψ0.φ = φ0 := by kernel_rfl
theorem top_ref (k n : List B8) : ψ0.TOP (pK φ0 k) n = ψ0.RTO (φ0.W k) φ0.SB n := by rw [kP_TOP, kP_RTO, enc_eq, top_eq]
theorem start_ref (k n : List B8) : ψ0.STA (pK φ0 k) n = ψ0.RST (φ0.W k) φ0.SB n := by
  rw [kP_STA, kP_RST, enc_eq, top_eq, bot_eq]
  have := botI_range n
  exact (shift_eq (strL_len _) this.1 (by omega)).symm
theorem xor_zero16 {x : List B8} (h : x.length = 16) : xorL z16 x = x := by
  obtain ⟨a0, a1, a2, a3, a4, a5, a6, a7, a8, a9, a10, a11, a12, a13, a14, a15, rfl⟩ := list16 h
  show [0 ^^^ a0, 0 ^^^ a1, 0 ^^^ a2, 0 ^^^ a3, 0 ^^^ a4, 0 ^^^ a5, 0 ^^^ a6, 0 ^^^ a7, 0 ^^^ a8, 0 ^^^ a9, 0 ^^^ a10, 0 ^^^ a11, 0 ^^^ a12, 0 ^^^ a13, 0 ^^^ a14, 0 ^^^ a15] = _
  have z : ∀ x : B8, (0 : B8) ^^^ x = x := fun x => BitVec.zero_xor
  rw [z, z, z, z, z, z, z, z, z, z, z, z, z, z, z, z]
theorem xor_z16 {x : List B8} (h : x.length = 16) : xorL x z16 = x := by
  obtain ⟨a0, a1, a2, a3, a4, a5, a6, a7, a8, a9, a10, a11, a12, a13, a14, a15, rfl⟩ := list16 h
  show [a0 ^^^ 0, a1 ^^^ 0, a2 ^^^ 0, a3 ^^^ 0, a4 ^^^ 0, a5 ^^^ 0, a6 ^^^ 0, a7 ^^^ 0, a8 ^^^ 0, a9 ^^^ 0, a10 ^^^ 0, a11 ^^^ 0, a12 ^^^ 0, a13 ^^^ 0, a14 ^^^ 0, a15 ^^^ 0] = _
  rw [xor0, xor0, xor0, xor0, xor0, xor0, xor0, xor0, xor0, xor0, xor0, xor0, xor0, xor0, xor0, xor0]
theorem xor_twice {x : List B8} (h : x.length = 16) (y : List B8) : xorL (xorL x y) y = x := by
  obtain ⟨a0, a1, a2, a3, a4, a5, a6, a7, a8, a9, a10, a11, a12, a13, a14, a15, rfl⟩ := list16 h
  have z : ∀ x y : B8, (x ^^^ y) ^^^ y = x := fun x y => by rw [BitVec.xor_assoc, BitVec.xor_self, BitVec.xor_zero]
  show [(a0 ^^^ nth 0 y 0) ^^^ nth 0 y 0, (a1 ^^^ nth 0 y 1) ^^^ nth 0 y 1, (a2 ^^^ nth 0 y 2) ^^^ nth 0 y 2, (a3 ^^^ nth 0 y 3) ^^^ nth 0 y 3, (a4 ^^^ nth 0 y 4) ^^^ nth 0 y 4, (a5 ^^^ nth 0 y 5) ^^^ nth 0 y 5, (a6 ^^^ nth 0 y 6) ^^^ nth 0 y 6,
    (a7 ^^^ nth 0 y 7) ^^^ nth 0 y 7, (a8 ^^^ nth 0 y 8) ^^^ nth 0 y 8, (a9 ^^^ nth 0 y 9) ^^^ nth 0 y 9, (a10 ^^^ nth 0 y 10) ^^^ nth 0 y 10, (a11 ^^^ nth 0 y 11) ^^^ nth 0 y 11, (a12 ^^^ nth 0 y 12) ^^^ nth 0 y 12,
    (a13 ^^^ nth 0 y 13) ^^^ nth 0 y 13, (a14 ^^^ nth 0 y 14) ^^^ nth 0 y 14, (a15 ^^^ nth 0 y 15) ^^^ nth 0 y 15] = _
  rw [z, z, z, z, z, z, z, z, z, z, z, z, z, z, z, z]
theorem top_ff : topL nff = topL nc0 := by kernel_rfl
theorem st_b1 : strL b1 = l24 := by kernel_rfl
theorem bo_ff : botI nff = 63 := by kernel_rfl
theorem obs_awake10_ok : ObsOk (obs_awake10 ψ0) := by
  unfold obs_awake10
  rw [kP_φ]
  refine obs_tr ?_ <| obs_tr ?_ <| obs_tr (kP_OA0 _ _) <| obs_tr (by omega) <| obs_tr (by rw [kP_ST]; exact st_b1) <| obs_tr (by rw [kP_BO]; exact bo_ff) obs_nil
  · rw [kP_TOP, kP_TOP, top_ff]
  · rw [X_eq, TZ_eq, tz1, bK_eq, blk0 (starK_len z16)]
    exact xor_zero16 (dblL_len _)
def sp_awake10 : List V → Option V
  | [] => some (.s (.bool true))
  | _ => none
theorem e_awake10 (G : Gl) (hG : DB G) : EntryOk G Tryd.prog 36 (pureSp sp_awake10) := by
  refine entry_pure (Go.Mo.enters_of Tryd.func36 (by kernel_rfl)) ?_
  intro args v h π vargs ha fresh m
  unfold sp_awake10 at h
  split at h
  · cases h
    exact fitsP (K := K_P ψ0) (obs := obs_awake10 ψ0) (good_P G hG) 60 _ _ Tryd.func36 (l_awake10 ψ0) obs_awake10_ok (by kernel_rfl) rfl rfl fresh m
  · cases h
def E_V (ψ : LO) : List (Nat × Mo.Spec) := (36, pureSp sp_awake10) :: E_P ψ
def K_V (ψ : LO) : Cx := cxC Tryd.prog (C_P ψ) (E_V ψ)
theorem good_V (G : Gl) (hG : DB G) : Mo.Good G (K_V ψ0) := (CondL.cons (cP_1 G hG) <| .cons (cP_2 G) <| .cons (cP_3 G) .nil).good (.cons (e_awake10 G hG) (list_P G hG)) mixed


noncomputable abbrev OS := Tryd.f8
theorem t_OS (ψ : LO) (b : List B8) : evalE (K_V ψ) 80 OS [.a [.b8 16 b]] [] [some true] [] = some (.s (.bool true), [tr (ψ.ST b = ψ.ST b)], []) := by kernel_rfl
theorem o_OffsetStretches (b : List B8) : ∃ orc obs, evalE (K_V ψ0) 80 OS [.a [.b8 16 b]] [] orc [] = some (.s (.bool true), obs, []) ∧ ObsOk obs := ⟨_, _, t_OS ψ0 b, obs_tr rfl obs_nil⟩

def sp_OffsetStretches : List V → Option V
  | [.a [.b8 16 _]] => some (.s (.bool true))
  | _ => none
theorem e_OffsetStretches (G : Gl) (hG : DB G) : EntryOk G Tryd.prog 8 (pureSp sp_OffsetStretches) := by
  refine entry_pure (Go.Mo.enters_of Tryd.func8 (by kernel_rfl)) ?_
  intro args v h π vargs ha fresh m
  unfold sp_OffsetStretches at h
  split at h
  · rename_i b
    cases h
    obtain ⟨orc, obs, he, ho⟩ := o_OffsetStretches b
    exact fitsP (K := K_V ψ0) (obs := obs) (good_V G hG) 80 _ orc Tryd.func8 he ho (by kernel_rfl) rfl rfl fresh m
  · cases h

noncomputable abbrev OM := Tryd.f7
theorem t_OM (ψ : LO) (k n : List B8) : evalE (K_V ψ) 80 OM [.a [.b8 16 k], .a [.b8 12 n]] [] [some true, some true, some true] [] =
    some (.s (.bool true), [tr (ψ.STA (pK ψ.φ k) n = ψ.RST (ψ.φ.W k) ψ.φ.SB n), tr (ψ.TOP (pK ψ.φ k) n = ψ.RTO (ψ.φ.W k) ψ.φ.SB n), tr (ψ.BO n = ψ.BO' n)], []) := by kernel_rfl
theorem o_OffsetMatchesReference (k n : List B8) : ∃ orc obs, evalE (K_V ψ0) 80 OM [.a [.b8 16 k], .a [.b8 12 n]] [] orc [] = some (.s (.bool true), obs, []) ∧ ObsOk obs :=
  ⟨_, _, t_OM ψ0 k n, obs_tr (by rw [kP_φ]; exact start_ref k n) <| obs_tr (by rw [kP_φ]; exact top_ref k n) <| obs_tr (by rw [kP_BO, kP_BO', bot_eq]) obs_nil⟩

def sp_OffsetMatchesReference : List V → Option V
  | [.a [.b8 16 _], .a [.b8 12 _]] => some (.s (.bool true))
  | _ => none
theorem e_OffsetMatchesReference (G : Gl) (hG : DB G) : EntryOk G Tryd.prog 7 (pureSp sp_OffsetMatchesReference) := by
  refine entry_pure (Go.Mo.enters_of Tryd.func7 (by kernel_rfl)) ?_
  intro args v h π vargs ha fresh m
  unfold sp_OffsetMatchesReference at h
  split at h
  · rename_i k n
    cases h
    obtain ⟨orc, obs, he, ho⟩ := o_OffsetMatchesReference k n
    exact fitsP (K := K_V ψ0) (obs := obs) (good_V G hG) 80 _ orc Tryd.func7 he ho (by kernel_rfl) rfl rfl fresh m
  · cases h
end
end Go.Proofs.YtamlbiaakogahaaDoor


namespace Go.Proofs.YtamlbiaakogahaaDoor
open Go Go.Mo
noncomputable section

noncomputable abbrev ON := Tryd.f11
theorem t_ON0 (ψ : LO) (k l : List B8) (i : BitVec 64) : evalE (K_V ψ) 80 ON [.a [.b8 16 k], .a [.b8 16 l], .s (.b64 i)] [] [some true, some true] [] =
    some (.s (.bool true), [tr (ψ.φ.X l (bK ψ.φ k (ψ.φ.TZ i)) = l), tr (tz0T i)], []) := by kernel_rfl
theorem t_ON1 (ψ : LO) (k l : List B8) (i : BitVec 64) : evalE (K_V ψ) 80 ON [.a [.b8 16 k], .a [.b8 16 l], .s (.b64 i)] [] [some false, some true, some true] [] =
    some (.s (.bool true), [tr (ψ.φ.X (ψ.φ.X l (bK ψ.φ k (ψ.φ.TZ i))) (bK ψ.φ k (ψ.φ.TZ i)) = l), tr (ψ.φ.X l (bK ψ.φ k (ψ.φ.TZ i)) = ψ.φ.X l (refAt ψ.φ.D' (rK ψ.φ k) (ψ.φ.TZ' i))), fa (tz0T i)], []) := by kernel_rfl
theorem o_OffsetNexts (k l : List B8) (i : BitVec 64) (hl : l.length = 16) : ∃ orc obs, evalE (K_V ψ0) 80 ON [.a [.b8 16 k], .a [.b8 16 l], .s (.b64 i)] [] orc [] = some (.s (.bool true), obs, []) ∧ ObsOk obs := by
  by_cases h0 : tz0T i
  · refine ⟨_, _, t_ON0 ψ0 k l i, obs_tr ?_ <| obs_tr h0 obs_nil⟩
    have hi : i = BitVec.ofNat 64 0 := BitVec.eq_of_toNat_eq (by unfold tz0T at h0; omega)
    rw [kP_φ, X_eq, TZ_eq, hi, tz0, bK_eq, blk_big _ 64 (by omega)]
    exact xor_z16 hl
  · have hn : i.toNat ≠ 0 := fun e => h0 (by unfold tz0T; rw [e]; rfl)
    refine ⟨_, _, t_ON1 ψ0 k l i, obs_tr ?_ <| obs_tr ?_ <| obs_fa h0 obs_nil⟩
    · rw [kP_φ, X_eq]; exact xor_twice hl _
    · rw [kP_φ, for_eq k hn]

def sp_OffsetNexts : List V → Option V
  | [.a [.b8 16 _], .a [.b8 16 _], .s (.b64 _)] => some (.s (.bool true))
  | _ => none
theorem e_OffsetNexts (G : Gl) (hG : DB G) : EntryOk G Tryd.prog 11 (pureSp sp_OffsetNexts) := by
  refine entry_pure (Go.Mo.enters_of Tryd.func11 (by kernel_rfl)) ?_
  intro args v h π vargs ha fresh m
  unfold sp_OffsetNexts at h
  split at h
  · rename_i k l i
    cases h
    obtain ⟨orc, obs, he, ho⟩ := o_OffsetNexts k l i (args_b8 (args_tail ha).choose_spec)
    exact fitsP (K := K_V ψ0) (obs := obs) (good_V G hG) 80 _ orc Tryd.func11 he ho (by kernel_rfl) rfl rfl fresh m
  · cases h

noncomputable abbrev OT := Tryd.f10
def oth (n : List B8) (x : B8) : List B8 := n.set 11 (nth 0 n 11 ^^^ (x % BitVec.ofNat 8 64))
theorem t_OT (ψ : LO) (k n : List B8) (x : B8) : evalE (K_V ψ) 80 OT [.a [.b8 16 k], .a [.b8 12 n], .s (.b8 x)] [] [some true, some true] [] =
    some (.s (.bool true), [tr (ψ.STA (pK ψ.φ k) (oth n x) = ψ.SH' (ψ.ST (ψ.TOP (pK ψ.φ k) n)) (ψ.BO' (oth n x))), tr (0 ≤ ψ.BO' (oth n x)), tr (ψ.BO' (oth n x) ≤ 64), tr (ψ.TOP (pK ψ.φ k) (oth n x) = ψ.TOP (pK ψ.φ k) n)], []) := by kernel_rfl
theorem m64 (x : B8) : x % BitVec.ofNat 8 64 = x &&& BitVec.ofNat 8 63 := byte_all (f := fun x => x % BitVec.ofNat 8 64) (g := fun x => x &&& BitVec.ofNat 8 63) (by kernel_rfl) x
theorem top_low (y x : B8) : (y ^^^ (x % BitVec.ofNat 8 64)) &&& ~~~(BitVec.ofNat 8 63) = y &&& ~~~(BitVec.ofNat 8 63) := by
  rw [m64]
  apply BitVec.eq_of_getLsbD_eq
  intro i hi
  have : i = 0 ∨ i = 1 ∨ i = 2 ∨ i = 3 ∨ i = 4 ∨ i = 5 ∨ i = 6 ∨ i = 7 := by omega
  rcases this with rfl | rfl | rfl | rfl | rfl | rfl | rfl | rfl <;> simp
theorem top_oth {n : List B8} (h : n.length = 12) (x : B8) : topL (oth n x) = topL n := by
  obtain ⟨m0, m1, m2, m3, m4, m5, m6, m7, m8, m9, m10, m11, rfl⟩ := list12 h
  show [0, 0, 0, 1, m0, m1, m2, m3, m4, m5, m6, m7, m8, m9, m10, (m11 ^^^ (x % BitVec.ofNat 8 64)) &&& ~~~(BitVec.ofNat 8 63)] = [0, 0, 0, 1, m0, m1, m2, m3, m4, m5, m6, m7, m8, m9, m10, m11 &&& ~~~(BitVec.ofNat 8 63)]
  rw [top_low]
theorem o_OffsetTops (k n : List B8) (x : B8) (hn : n.length = 12) : ∃ orc obs, evalE (K_V ψ0) 80 OT [.a [.b8 16 k], .a [.b8 12 n], .s (.b8 x)] [] orc [] = some (.s (.bool true), obs, []) ∧ ObsOk obs := by
  have hb := rbotI_range (oth n x)
  refine ⟨_, _, t_OT ψ0 k n x, obs_tr ?_ <| obs_tr ?_ <| obs_tr ?_ <| obs_tr ?_ obs_nil⟩
  · rw [kP_φ, kP_STA, kP_SH, kP_ST, kP_TOP, kP_BO', top_oth hn, bot_eq]
    have := botI_range (oth n x)
    exact (shift_eq (strL_len _) this.1 (by omega)).symm
  · rw [kP_BO']; exact hb.1
  · rw [kP_BO']; omega
  · rw [kP_φ, kP_TOP, kP_TOP, top_oth hn]

def sp_OffsetTops : List V → Option V
  | [.a [.b8 16 _], .a [.b8 12 _], .s (.b8 _)] => some (.s (.bool true))
  | _ => none
theorem e_OffsetTops (G : Gl) (hG : DB G) : EntryOk G Tryd.prog 10 (pureSp sp_OffsetTops) := by
  refine entry_pure (Go.Mo.enters_of Tryd.func10 (by kernel_rfl)) ?_
  intro args v h π vargs ha fresh m
  unfold sp_OffsetTops at h
  split at h
  · rename_i k n x
    cases h
    obtain ⟨orc, obs, he, ho⟩ := o_OffsetTops k n x (args_b8 (args_tail ha).choose_spec)
    exact fitsP (K := K_V ψ0) (obs := obs) (good_V G hG) 80 _ orc Tryd.func10 he ho (by kernel_rfl) rfl rfl fresh m
  · cases h
end
end Go.Proofs.YtamlbiaakogahaaDoor


namespace Go.Proofs.YtamlbiaakogahaaDoor
open Go Go.Mo
noncomputable section

noncomputable abbrev OP := Tryd.f9
def ne (p : Prop) [Decidable p] : Bool × Bool := (!decide p, false)
theorem obs_ne {p : Prop} [Decidable p] {l : List (Bool × Bool)} (h : p) (hl : ObsOk l) : ObsOk (ne p :: l) := by
  intro q hq
  rcases List.mem_cons.1 hq with rfl | hq
  · show (!decide p) = false
    rw [decide_eq_true h]; rfl
  · exact hl q hq
def oaP (ψ : LO) (k n : List B8) (i : Int) : List B8 := ψ.OA (pK ψ.φ k) n i
def obsS (ψ : LO) (k n : List B8) (i : Int) : List (Bool × Bool) :=
  [ne (oaP ψ k n i = ψ.RA (ψ.φ.W k) ψ.φ.SB n (posI i)), tr (0 ≤ posI i), tr (posI i ≤ 302), tr (i ≤ 302), fa ((300 : Int) < i)]
theorem t_OP0 (ψ : LO) (k n : List B8) (i : Int) : evalE (K_V ψ) 80 OP [.a [.b8 16 k], .a [.b8 12 n], .s (.si i)] [] [some true] [] = some (.s (.bool true), [tr ((300 : Int) < i)], []) := by kernel_rfl
theorem t_OP1 (ψ : LO) (k n : List B8) (i : Int) : evalE (K_V ψ) 80 OP [.a [.b8 16 k], .a [.b8 12 n], .s (.si i)] [] [some false, some false, some true] [] = some (.s (.bool true), tr (i < 0) :: obsS ψ k n i, []) := by kernel_rfl
theorem t_OP2 (ψ : LO) (k n : List B8) (i : Int) : evalE (K_V ψ) 80 OP [.a [.b8 16 k], .a [.b8 12 n], .s (.si i)] [] [some false, some false, some false, some true] [] =
    some (.s (.bool true), tr (oaP ψ k n (IntKind.i64.wrap (i + 1)) = ψ.φ.X (oaP ψ k n i) (bK ψ.φ k (ψ.φ.TZ (BitVec.ofInt 64 i + BitVec.ofNat 64 1)))) :: tr (IntKind.i64.wrap (i + 1) ≤ 302) :: fa (i < 0) :: obsS ψ k n i, []) := by kernel_rfl
theorem kP_OA (k n : List B8) (i : Int) : oaP ψ0 k n i = offIt xorL (fun m => blk (starK k) (tzI (numO m))) (ψ0.STA (pK φ0 k) n) (posI i).toNat := by kernel_rfl
theorem kP_RA (k n : List B8) (i : Int) : ψ0.RA (φ0.W k) φ0.SB n i = offIt xorL (fun m => rFor (rK φ0 k) (numR m)) (ψ0.RST (φ0.W k) φ0.SB n) i.toNat := by kernel_rfl
theorem num_eq (j : Nat) (h : j < 1000) : numO j = numR j ∧ (numR j).toNat ≠ 0 := by
  have e1 : (BitVec.ofInt 64 (Int.ofNat j)).toNat = j := by rw [BitVec.toNat_ofInt]; show ((j : Int) % 18446744073709551616).toNat = j; omega
  have e2 : (numR j).toNat = j + 1 := by unfold numR; rw [BitVec.toNat_ofInt]; show (((j + 1 : Nat) : Int) % 18446744073709551616).toNat = j + 1; omega
  have e3 : (numO j).toNat = j + 1 := by
    unfold numO
    rw [BitVec.toNat_add, e1]
    show (j + 1) % 18446744073709551616 = j + 1
    omega
  exact ⟨BitVec.eq_of_toNat_eq (e3.trans e2.symm), by omega⟩
theorem offIt_congr {X : List B8 → List B8 → List B8} {f g : Nat → List B8} {s s' : List B8} (hs : s = s') : ∀ m, (∀ j, j < m → f j = g j) → offIt X f s m = offIt X g s' m
  | 0, _ => hs
  | m + 1, h => by
    show X (offIt X f s m) (f m) = X (offIt X g s' m) (g m)
    rw [offIt_congr hs m fun j hj => h j (by omega), h m (by omega)]
theorem off_ref (k n : List B8) (i : Int) (h : i ≤ 302) : oaP ψ0 k n i = ψ0.RA (φ0.W k) φ0.SB n (posI i) := by
  rw [kP_OA, kP_RA]
  have hp : 0 ≤ posI i ∧ posI i ≤ 302 := by unfold posI; split <;> omega
  refine offIt_congr (start_ref k n) _ fun j hj => ?_
  obtain ⟨h1, h2⟩ := num_eq j (by omega)
  rw [h1, rK_eq, tzI_eq]
  exact blk_ref (starK_len k) (zer_ge _) (zer_lt h2)
theorem obsS_ok (k n : List B8) (i : Int) (h : ¬ (300 : Int) < i) : ObsOk (obsS ψ0 k n i) := by
  have hp : 0 ≤ posI i ∧ posI i ≤ 302 := by unfold posI; split <;> omega
  exact obs_ne (by rw [kP_φ]; exact off_ref k n i (by omega)) <| obs_tr hp.1 <| obs_tr hp.2 <| obs_tr (by omega) <| obs_fa h obs_nil
theorem o_OffsetSteps (k n : List B8) (i : Int) : ∃ orc obs, evalE (K_V ψ0) 80 OP [.a [.b8 16 k], .a [.b8 12 n], .s (.si i)] [] orc [] = some (.s (.bool true), obs, []) ∧ ObsOk obs := by
  by_cases h : (300 : Int) < i
  · exact ⟨_, _, t_OP0 ψ0 k n i, obs_tr h obs_nil⟩
  · by_cases h0 : i < 0
    · exact ⟨_, _, t_OP1 ψ0 k n i, obs_tr h0 (obsS_ok k n i h)⟩
    · have hw : IntKind.i64.wrap (i + 1) = i + 1 := by
        have hw' : ∀ x : Int, IntKind.i64.wrap x = (x + 9223372036854775808) % 18446744073709551616 - 9223372036854775808 := fun x => by
          simp [IntKind.wrap, IntKind.bits, IntKind.signed]
          split <;> omega
        rw [hw']; omega
      refine ⟨_, _, t_OP2 ψ0 k n i, obs_tr ?_ <| obs_tr (by rw [hw]; omega) <| obs_fa h0 (obsS_ok k n i h)⟩
      rw [hw, kP_OA, kP_OA, kP_φ, X_eq, TZ_eq, bK_eq]
      have hpos : ∀ x : Int, 0 ≤ x → posI x = x := fun x hx => by unfold posI; rw [if_neg (by omega)]
      have e1 : (posI (i + 1)).toNat = (posI i).toNat + 1 := by rw [hpos i (by omega), hpos (i + 1) (by omega)]; omega
      have e2 : i = Int.ofNat (posI i).toNat := by unfold posI; split <;> simp only [Int.ofNat_eq_natCast] <;> omega
      rw [e1]
      show xorL (offIt _ _ _ _) (blk (starK k) (tzI (numO (posI i).toNat))) = _
      congr 2
      unfold numO
      rw [← e2]

def sp_OffsetSteps : List V → Option V
  | [.a [.b8 16 _], .a [.b8 12 _], .s (.si _)] => some (.s (.bool true))
  | _ => none
theorem e_OffsetSteps (G : Gl) (hG : DB G) : EntryOk G Tryd.prog 9 (pureSp sp_OffsetSteps) := by
  refine entry_pure (Go.Mo.enters_of Tryd.func9 (by kernel_rfl)) ?_
  intro args v h π vargs ha fresh m
  unfold sp_OffsetSteps at h
  split at h
  · rename_i k n i
    cases h
    obtain ⟨orc, obs, he, ho⟩ := o_OffsetSteps k n i
    exact fitsP (K := K_V ψ0) (obs := obs) (good_V G hG) 80 _ orc Tryd.func9 he ho (by kernel_rfl) rfl rfl fresh m
  · cases h
end
end Go.Proofs.YtamlbiaakogahaaDoor

