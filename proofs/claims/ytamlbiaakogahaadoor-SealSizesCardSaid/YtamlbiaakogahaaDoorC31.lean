/- Contracts of functions by the evaluator (C31): the reference's hash. -/
import Derived.Test.YtamlbiaakogahaaDoorC33
import Derived.Test.YtamlbiaakogahaaDoorProg
namespace Go.Proofs.YtamlbiaakogahaaDoor
open Go Go.Mo
noncomputable section

/-! Part -/
theorem l_Part (l : List B8) : (List.range 201).map (fun n => (List.range 13).map fun i => bif Nat.ble (16 * i + 16) n then ev2 K_none noInl 60 Tryd.f53 ([] ++ (argB 0 n :: [.s (.i .i64 (.ofNat i))])) [memBy n l, none] [] [] (.a [.b8 16 (partR n l i)]) [] else (none, true)) =
    (List.range 201).map (fun n => (List.range 13).map fun i => bif Nat.ble (16 * i + 16) n then (some (.a [.b8 16 (partR n l i)], [], newBlks []), true) else (none, true)) := by kernel_rfl
def sQ_Part : Mo.Spec := fun args _fresh =>
  match args with
  | [x, .s (.i .i64 (.ofNat i))] => rdBz 1 x fun n l => bif Nat.ble n 200 && Nat.ble (16 * i + 16) n then .pure (.a [.b8 16 (partR n l i)], []) else .fail
  | _ => .fail
theorem e_Part (G : Gl) : EntryOk G Tryd.prog 53 sQ_Part := by
  intro args fresh m v news fp hx
  unfold sQ_Part at hx
  split at hx
  · rename_i x i
    obtain ⟨n, l, fp2, hk, hin⟩ := rdBz_run hx
    cases hc : (Nat.ble n 200 && Nat.ble (16 * i + 16) n) <;> simp only [hc, cond_true, cond_false] at hk
    · exact (fail_run hk).elim
    cases hk
    simp only [Bool.and_eq_true] at hc
    have hn := le_of_not hc.1
    have hi := Nat.le_of_ble_eq_true hc.2
    have he := map_at (map_at (l_Part l) hn) (n := i) (by omega)
    simp only [hc.2, cond_true] at he
    exact fits_B (good_none G) noInl_ok Tryd.func53 hin pures_nil (pures_flat (x := .s (.i .i64 (.ofNat i))) rfl pures_nil) he (fun _ => obs0)
  · cases hx

/-! The reference's Pad -/
def zap : Nat → List B8 → List B8
  | 0, a => a
  | k + 1, a => zap k (a ++ [0])
def rpadR (n : Nat) (l : List B8) : List B8 := zap (15 - n) (bif Nat.beq n 0 then [128] else l ++ [128])
theorem l_RPad (l : List B8) : (List.range 16).map (fun n => ev2 K_none noInl 60 Tryd.f56 ([] ++ (argB 0 n :: [])) [memBy n l, none] [] [] (.a [.b8 16 (rpadR n l)]) []) =
    (List.range 16).map (fun n => (some (.a [.b8 16 (rpadR n l)], [], newBlks []), true)) := by kernel_rfl
def sQ_RPad (PAD : Nat → List B8 → List B8) : Mo.Spec := fun args _fresh =>
  match args with
  | [x] => rdBz 1 x fun n l => bif Nat.ble n 15 then .pure (.a [.b8 16 (PAD n l)], []) else .fail
  | _ => .fail
theorem e_RPad (G : Gl) : EntryOk G Tryd.prog 56 (sQ_RPad rpadR) := by
  intro args fresh m v news fp hx
  unfold sQ_RPad at hx
  split at hx
  · obtain ⟨n, l, fp2, hk, hin⟩ := rdBz_run hx
    cases hc : Nat.ble n 15 <;> simp only [hc, cond_true, cond_false] at hk
    · exact (fail_run hk).elim
    cases hk
    exact fits_B (good_none G) noInl_ok Tryd.func56 hin pures_nil pures_nil (map_at (l_RPad l) (le_of_not hc)) (fun _ => obs0)
  · cases hx

/-! The names. -/
structure LR where
  RE : List B8 → List B8 → List B8 → List B8
  X : List B8 → List B8 → List B8
  RF : List B8 → BitVec 64 → List B8
  RPAD : Nat → List B8 → List B8
def ρ0 : LR := ⟨φ0.RE, φ0.X, fun s n => refAt φ0.D' s (φ0.TZ' n), rpadR⟩
def sR_Enc (RE : List B8 → List B8 → List B8 → List B8) : Mo.Spec := fun args _fresh =>
  match args with
  | [.a [.b8 176 e, .b8 256 T], .a [.b8 16 b]] => .pure (.a [.b8 16 (RE e T b)], [])
  | _ => .fail
def sR_Star (RE : List B8 → List B8 → List B8 → List B8) : Mo.Spec := fun args _fresh =>
  match args with
  | [.a [.b8 176 e, .b8 256 T]] => .pure (.a [.b8 16 (RE e T z16)], [])
  | _ => .fail
def sR_For (RF : List B8 → BitVec 64 → List B8) : List V → Option V
  | [.a [.b8 16 s], .s (.b64 n)] => some (.a [.b8 16 (RF s n)])
  | _ => none
theorem eR_Enc (G : Gl) : EntryOk G Tryd.prog 57 (sR_Enc ρ0.RE) := by
  have h : sR_Enc ρ0.RE = sL_REnc φ0 := by kernel_rfl
  rw [h]; exact eL_8 G
theorem eR_Star (G : Gl) : EntryOk G Tryd.prog 26 (sR_Star ρ0.RE) := by
  have h : sR_Star ρ0.RE = sL_RStar φ0 := by kernel_rfl
  rw [h]; exact eL_9 G
theorem eR_For (G : Gl) : EntryOk G Tryd.prog 28 (pureSp (sR_For ρ0.RF)) := by
  have h : (pureSp (sR_For ρ0.RF) : Mo.Spec) = pureSp (sL_RFor φ0) := by kernel_rfl
  rw [h]; exact eL_10 G
theorem eR_Xor (G : Gl) : EntryOk G Tryd.prog 49 (pureSp (sL_2 ρ0.X)) := by
  have h : (pureSp (sL_2 ρ0.X) : Mo.Spec) = pureSp (sL_2 φ0.X) := by kernel_rfl
  rw [h]; exact eL_11 G
theorem eR_Pad (G : Gl) : EntryOk G Tryd.prog 56 (sQ_RPad ρ0.RPAD) := by
  have h : sQ_RPad ρ0.RPAD = sQ_RPad rpadR := by kernel_rfl
  rw [h]; exact e_RPad G
def E_R (ρ : LR) : List (Nat × Mo.Spec) := (57, sR_Enc ρ.RE) :: (26, sR_Star ρ.RE) :: (28, pureSp (sR_For ρ.RF)) :: (49, pureSp (sL_2 ρ.X)) ::
  (56, sQ_RPad ρ.RPAD) :: (53, sQ_Part) :: []
noncomputable def K_R (ρ : LR) : Cx := cxOf Tryd.prog (E_R ρ)
theorem list_R (G : Gl) : EnvL G Tryd.prog (E_R ρ0) := .cons (eR_Enc G) <| .cons (eR_Star G) <| .cons (eR_For G) <| .cons (eR_Xor G) <| .cons (eR_Pad G) <| .cons (e_Part G) .nil
theorem good_R (G : Gl) : Mo.Good G (K_R ρ0) := (list_R G).good mixed

/-! mooringref11.Sum -/
def hstR (ρ : LR) (e T : List B8) (q : Nat → List B8) : Nat → List B8 × List B8
  | 0 => (z16, z16)
  | j + 1 => (ρ.X (hstR ρ e T q j).1 (ρ.RE e T (ρ.X (q j) (ρ.X (hstR ρ e T q j).2 (ρ.RF (ρ.RE e T z16) (BitVec.ofInt 64 ((j + 1 : Nat) : Int)))))), ρ.X (hstR ρ e T q j).2 (ρ.RF (ρ.RE e T z16) (BitVec.ofInt 64 ((j + 1 : Nat) : Int))))
def rsumF (ρ : LR) (e T : List B8) (n : Nat) (l : List B8) : List B8 :=
  bif Nat.beq (n % 16) 0 then (hstR ρ e T (partR n l) (n / 16)).1
  else ρ.X (hstR ρ e T (partR n l) (n / 16)).1 (ρ.RE e T (ρ.X (ρ.RPAD (n - 16 * (n / 16)) (restB n l)) (ρ.X (hstR ρ e T (partR n l) (n / 16)).2 (ρ.RE e T z16))))
end
end Go.Proofs.YtamlbiaakogahaaDoor
