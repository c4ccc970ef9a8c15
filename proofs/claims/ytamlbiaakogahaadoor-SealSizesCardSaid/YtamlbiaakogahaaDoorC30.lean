/- Contracts of functions by the evaluator (C30): block.Pad, the hash's parts, the hash. -/
import Derived.Test.YtamlbiaakogahaaDoorC20
import Derived.Test.YtamlbiaakogahaaDoorC16
import Derived.Test.YtamlbiaakogahaaDoorCA
import Derived.Test.YtamlbiaakogahaaDoorMo18
import Derived.Test.YtamlbiaakogahaaDoorProg
namespace Go.Proofs.YtamlbiaakogahaaDoor
open Go Go.Mo
noncomputable section

theorem obs0 : ObsOk [] := by intro p hp; cases hp
theorem le_of_not {n N : Nat} (h : Nat.ble n N = true) : n < N + 1 := Nat.lt_succ_of_le (Nat.le_of_ble_eq_true h)

/-! Pad -/
def padR (n : Nat) (l : List B8) : List B8 := (bif Nat.beq n 0 then z16 else spliceN z16 0 n l).set n 128
def padV (PAD : Nat → List B8 → List B8) (n : Nat) (l : List B8) : V := bif Nat.ble 16 n then .t [(false, [.b8 16 z16]), (true, [.s (.bool false)])] else .t [(false, [.b8 16 (PAD n l)]), (true, [.s (.bool true)])]
noncomputable def K_none : Cx := cxOf Tryd.prog []
theorem good_none (G : Gl) : Mo.Good G K_none := EnvL.nil.good mixed
theorem l_Pad (l : List B8) : (List.range 201).map (fun n => ev2 K_none noInl 60 Tryd.f88 ([] ++ (argB 0 n :: [])) [memBy n l, none] [] [] (padV padR n l) []) = (List.range 201).map (fun n => (some (padV padR n l, [], newBlks []), true)) := by kernel_rfl
def sQ_Pad (PAD : Nat → List B8 → List B8) : Mo.Spec := fun args fresh =>
  match args with
  | [x] => rdBz 1 x fun n l => bif Nat.ble n 200 then .pure ((padV PAD n l).ren (newIdx [] fresh), []) else .fail
  | _ => .fail
theorem e_Pad (G : Gl) : EntryOk G Tryd.prog 88 (sQ_Pad padR) := by
  intro args fresh m v news fp hx
  unfold sQ_Pad at hx
  split at hx
  · obtain ⟨n, l, fp2, hk, hin⟩ := rdBz_run hx
    cases hc : Nat.ble n 200 <;> simp only [hc, cond_true, cond_false] at hk
    · exact (fail_run hk).elim
    cases hk
    exact fits_B (good_none G) noInl_ok Tryd.func88 hin pures_nil pures_nil (map_at (l_Pad l) (le_of_not hc)) (fun _ => obs0)
  · cases hx

/-! The names. -/
structure LH where
  R : List B32 → List B32 → List B8 → List B8
  X : List B8 → List B8 → List B8
  TZ : BitVec 64 → Int
  PAD : Nat → List B8 → List B8
def χ0 : LH := ⟨runF 0 1 sb, xorL, tzI, padR⟩
def sQ_Enc (R : List B32 → List B32 → List B8 → List B8) : Mo.Spec := fun args _fresh =>
  match args with
  | [.s (.ptr b 0), .a [.b8 16 x]] => rd1 b fun g0 => match g0 with | [.s (.bool true), .b32 44 kf, .b32 44 _, .b8 16 _, .b32 512 T] => some (.a [.b8 16 (R T kf x)], []) | _ => none
  | _ => .fail
theorem eQ_Enc (G : Gl) : EntryOk G Tryd.prog 69 (sQ_Enc χ0.R) := by
  have h : sQ_Enc χ0.R = sp_EncP := by kernel_rfl
  rw [h]; exact e_EncP G
theorem eQ_Xor (G : Gl) (hG : DB G) : EntryOk G Tryd.prog 85 (pureSp (sL_2 χ0.X)) := by
  have h : (pureSp (sL_2 χ0.X)) = (pureSp sp_Xor : Mo.Spec) := by kernel_rfl
  rw [h]; exact e_Xor G hG
theorem eQ_Next (G : Gl) (hG : DB G) : EntryOk G Tryd.prog 47 (sN_Next χ0.X χ0.TZ) := by
  have h : (sN_Next χ0.X χ0.TZ) = (sp_ONext : Mo.Spec) := by kernel_rfl
  rw [h]; exact e_ONext G hG
theorem eQ_Pad (G : Gl) : EntryOk G Tryd.prog 88 (sQ_Pad χ0.PAD) := by
  have h : sQ_Pad χ0.PAD = sQ_Pad padR := by kernel_rfl
  rw [h]; exact e_Pad G

def E_H (χ : LH) : List (Nat × Mo.Spec) := (88, sQ_Pad χ.PAD) :: (47, sN_Next χ.X χ.TZ) :: (85, pureSp (sL_2 χ.X)) :: (69, sQ_Enc χ.R) ::
  (34, sp_CipherT) :: (32, sp_StarT) :: (33, sp_DollarT) :: []
noncomputable def K_H (χ : LH) : Cx := cxOf Tryd.prog (E_H χ)
theorem list_H (G : Gl) (hG : DB G) : EnvL G Tryd.prog (E_H χ0) :=
  .cons (eQ_Pad G) <| .cons (eQ_Next G hG) <| .cons (eQ_Xor G hG) <| .cons (eQ_Enc G) <| .cons (e_CipherT G hG) <| .cons (e_StarT G hG) <| .cons (e_DollarT G hG) .nil
theorem good_H (G : Gl) (hG : DB G) : Mo.Good G (K_H χ0) := (list_H G hG).good mixed

/-! hash.Rest -/
def restF (χ : LH) (p : TP) (o : List B8) (n : Nat) (l : List B8) : List B8 := bif Nat.ble 16 n || Nat.beq n 0 then z16 else χ.R p.T p.kf (χ.X (χ.PAD n l) (χ.X o p.st))
theorem l_Rest (χ : LH) (p : TP) (o l : List B8) : (List.range 201).map (fun n => ev2 (K_H χ) noInl 60 Tryd.f55 (.s (.ptr 0 0) :: ([.a [.b8 16 o]] ++ [argZ 1 2 n])) (memT p (memBy (n * 1) l) none) [] [] (.a [.b8 16 (restF χ p o n l)]) []) =
    (List.range 201).map (fun n => (some (.a [.b8 16 (restF χ p o n l)], [], newBlks []), true)) := by kernel_rfl
def sQ_Rest (RS : TP → List B8 → Nat → List B8 → List B8) : Mo.Spec := fun args _fresh =>
  match args with
  | [.s (.ptr t 0), .a [.b8 16 o], x] => rdTK t fun _c p => rdBz 1 x fun n l => bif Nat.ble n 200 then .pure (.a [.b8 16 (RS p o n l)], []) else .fail
  | _ => .fail
theorem e_Rest (G : Gl) (hG : DB G) : EntryOk G Tryd.prog 55 (sQ_Rest (restF χ0)) := by
  intro args fresh m v news fp hx
  unfold sQ_Rest at hx
  split at hx
  · rename_i t o x
    obtain ⟨c, p, x1, y1, fp1, h1, h2, h3, h4, hk1⟩ := rdTK_run hx
    obtain ⟨n, l, fp2, hk, hin⟩ := rdBz_run hk1
    cases hc : Nat.ble n 200 <;> simp only [hc, cond_true, cond_false] at hk
    · exact (fail_run hk).elim
    cases hk
    exact fits_TB (good_H G hG) noInl_ok Tryd.func55 (by omega) h1 h2 h3 h4 hin (pures_flat (x := .a [.b8 16 o]) rfl pures_nil) (map_at (l_Rest χ0 p o l) (le_of_not hc)) (fun _ => obs0)
  · cases hx

/-! (hash.state).add -/
def addF (χ : LH) (p : TP) (so : List B8 × List B8) (i : Int) (q : List B8) : List B8 × List B8 :=
  (χ.X so.1 (χ.R p.T p.kf (χ.X q (χ.X so.2 (atL p.bl (χ.TZ (BitVec.ofInt 64 i)))))), χ.X so.2 (atL p.bl (χ.TZ (BitVec.ofInt 64 i))))
theorem l_add (χ : LH) (p : TP) (s o q : List B8) (i : Int) : ev2 (K_H χ) noInl 60 Tryd.f87 [.a [.b8 16 s, .b8 16 o], .s (.ptr 0 0), .s (.si i), .a [.b8 16 q]] (memT p none none) [] [] (.a [.b8 16 (addF χ p (s, o) i q).1, .b8 16 (addF χ p (s, o) i q).2]) [] =
    (some (.a [.b8 16 (addF χ p (s, o) i q).1, .b8 16 (addF χ p (s, o) i q).2], [], newBlks []), true) := by kernel_rfl
def sQ_add (χ : LH) : Mo.Spec := fun args _fresh =>
  match args with
  | [.a [.b8 16 s, .b8 16 o], .s (.ptr t 0), .s ix, .a [.b8 16 q]] =>
    (match ixI ix with | some i => rdTK t fun _c p => .pure (.a [.b8 16 (addF χ p (s, o) i q).1, .b8 16 (addF χ p (s, o) i q).2], []) | none => .fail)
  | _ => .fail
theorem e_add (G : Gl) (hG : DB G) : EntryOk G Tryd.prog 87 (sQ_add χ0) := by
  intro args fresh m v news fp hx
  unfold sQ_add at hx
  split at hx
  · rename_i s o t ix q
    split at hx
    · rename_i i hi
      obtain ⟨c, p, x1, y1, fp1, h1, h2, h3, h4, hk1⟩ := rdTK_run hx
      cases hk1
      have he := l_add χ0 p s o q i
      simp only [ev2, Prod.mk.injEq] at he
      refine fitsG (good_H G hG) noInl_ok 60 60 _ _ 2 [] [] Tryd.func87 he.1 obs0 he.2 (sees_T (l1 := []) (l2 := []) h1 h2 h3 h4 (byAt_nil (b := 0) (o := 0)) (byAt_nil (b := 0) (o := 0))) fresh
        (fun π w vargs _ => argsW_cons (fun v hv => pure_cv rfl hv) (fun _ => argsW_cons (fun v hv => ?_) (fun _ => argsW_cons (fun v hv => ?_) (fun _ => argsW_cons (fun v hv => pure_cv rfl hv) (fun _ => argsW_nil))))) rfl rfl
      · exact ptr_cv (σ := lk [t, c, 0, 0]) (i := 0) rfl rfl hv
      · exact ixI_cv hi hv
    · cases hx
  · cases hx

/-! hash.Full -/
def hst (χ : LH) (p : TP) (q : Nat → List B8) : Nat → List B8 × List B8
  | 0 => (z16, z16)
  | j + 1 => addF χ p (hst χ p q j) ((j + 1 : Nat) : Int) (q j)
/-- The j-th of n blocks side by side. -/
def partR (n : Nat) (l : List B8) (j : Nat) : List B8 := bif Nat.beq 16 n then l else (l.drop (16 * j)).take 16
noncomputable def K_Ha (χ : LH) : Cx := cxOf Tryd.prog ((87, sQ_add χ) :: (55, sQ_Rest (restF χ)) :: E_H χ)
theorem good_Ha (G : Gl) (hG : DB G) : Mo.Good G (K_Ha χ0) := (EnvL.cons (e_add G hG) (.cons (e_Rest G hG) (list_H G hG))).good mixed
def fullV (HS : TP → (Nat → List B8) → Nat → List B8 × List B8) (p : TP) (n : Nat) (l : List B8) : V := .t [(false, [.b8 16 (HS p (partR (n * 16) l) n).1]), (false, [.b8 16 (HS p (partR (n * 16) l) n).2])]
theorem l_Full (χ : LH) (p : TP) (l : List B8) : (List.range 13).map (fun n => ev2 (K_Ha χ) noInl 60 Tryd.f54 (.s (.ptr 0 0) :: ([] ++ [argZ 16 2 n])) (memT p (memBy (n * 16) l) none) [] [] (fullV (hst χ) p n l) []) =
    (List.range 13).map (fun n => (some (fullV (hst χ) p n l, [], newBlks []), true)) := by kernel_rfl
def sQ_Full (HS : TP → (Nat → List B8) → Nat → List B8 × List B8) : Mo.Spec := fun args _fresh =>
  match args with
  | [.s (.ptr t 0), x] => rdTK t fun _c p => rdBz 16 x fun n l => bif Nat.ble n 12 then .pure (fullV HS p n l, []) else .fail
  | _ => .fail
theorem e_Full (G : Gl) (hG : DB G) : EntryOk G Tryd.prog 54 (sQ_Full (hst χ0)) := by
  intro args fresh m v news fp hx
  unfold sQ_Full at hx
  split at hx
  · rename_i t x
    obtain ⟨c, p, x1, y1, fp1, h1, h2, h3, h4, hk1⟩ := rdTK_run hx
    obtain ⟨n, l, fp2, hk, hin⟩ := rdBz_run hk1
    cases hc : Nat.ble n 12 <;> simp only [hc, cond_true, cond_false] at hk
    · exact (fail_run hk).elim
    cases hk
    exact fits_TB (good_Ha G hG) noInl_ok Tryd.func54 (by omega) h1 h2 h3 h4 hin pures_nil (map_at (l_Full χ0 p l) (le_of_not hc)) (fun _ => obs0)
  · cases hx

/-! hash.Sum -/
noncomputable def inlA : Inl := fun n => bif Nat.beq n 86 then some Tryd.f86 else none
theorem inlA_ok : InlOk Tryd.prog inlA := by
  intro n fn h
  unfold inlA at h
  cases hq : Nat.beq n 86 <;> simp only [hq, cond_true, cond_false] at h
  · cases h
  · have := Nat.eq_of_beq_eq_true hq
    subst this
    cases h
    exact ⟨Tryd.func86, by kernel_rfl⟩
def restB (n : Nat) (l : List B8) : List B8 := bif Nat.beq (n / 16) 0 then l else (l.drop (16 * (n / 16))).take (n - 16 * (n / 16))
def sumF (χ : LH) (p : TP) (n : Nat) (l : List B8) : List B8 := χ.X (hst χ p (part16 l) (n / 16)).1 (restF χ p (hst χ p (part16 l) (n / 16)).2 (n - 16 * (n / 16)) (restB n l))
def slB (i n : Nat) : Sc := bif Nat.beq n 0 then .empty else .osl i 0 n 1
def M_Sum (χ : LH) (p : TP) (n : Nat) (l : List B8) (j : Nat) : List (Option Blk) :=
  givenO (memT p (memBy n l) none) ++ [some ⟨[.s (.ptr 0 0)], true⟩, some ⟨[.b8 16 z16], true⟩, some ⟨[.b8 16 (hst χ p (part16 l) j).1, .b8 16 (hst χ p (part16 l) j).2], true⟩, some ⟨[.s (.i .i64 ((16 * j : Nat) : Int))], true⟩, some ⟨[.s (slB 2 n)], true⟩]
def R_Sum (χ : LH) (p : TP) (n : Nat) (l : List B8) : Rnd := ⟨bif Nat.beq n 0 then [0, 1, 4, 5, 6, 7, 8] else [0, 1, 2, 4, 5, 6, 7, 8], 8, slB 2 n, fun _ => [], fun _ => 9, M_Sum χ p n l⟩
end
end Go.Proofs.YtamlbiaakogahaaDoor
