/-
  The statement of SealSizes, proved: whatever the input, the law returns true and each argument reads as it read before. Under the condition of its row: the table of math/bits (deBruijn64tab) lies as its initialiser lays it; the card ties that to the program's text.
-/
import Derived.Test.YtamlbiaakogahaaDoorRow2
import Derived.Test.YtamlbiaakogahaaDoorC54
import Derived.Test.YtamlbiaakogahaaDoorCards
import Derived.Test.YtamlbiaakogahaaDoorTie
import Derived.SevenTiedAt
import Derived.Test.YtamlbiaakogahaaDoorFa
import Derived.Test.YtamlbiaakogahaaDoorFb
namespace Go.Proofs.YtamlbiaakogahaaDoor.sealSizes
open Go.ChangeShapes Go.WideShapes Go.ChangeAt Go.RowKit
theorem own : ownKnob Tryd.prog.godebug = none := by kernel_rfl
abbrev laid : List (String × DataW Unit) := [("math/bits.deBruijn64tab", Rows.laid_math_bits_deBruijn64tab)]
/-- A start that fits: the settled world with the table laid. -/
noncomputable def laidWorld (os : Os) : World :=
  let w0 := World.holding Tryd.prog os ⟨#[], #[], []⟩
  { w0 with heap := w0.heap.modify 0 fun
      | .cells _ t frozen => .cells (Lib.deBruijn64tab.map fun (n : Nat) => Value.int .u8 n).toArray t frozen
      | o => o }
theorem laidWorld_met (os : Os) (args : Array Value) : laidMet Tryd.prog laid ((laidWorld os).forCall (fun _ _ => 0) ⟨#[], args, []⟩).memory :=
  laidMet_of_run (ps := (List.range 64).map fun i => .cell 0 i) 8 (by kernel_rfl) (by kernel_rfl) (by kernel_rfl)
set_option maxRecDepth 100000 in
theorem lifted (os : Os) (started : os.Started) (H : Type) (enc : TypeId × Value → H) :
    ReturnsInHanded {} Tryd.checked os 20 .any (fun w args => (Rows.sealSizesSpec.pre enc Tryd.prog Tryd.f20 Rows.sealSizesRow.domain false w args ∧ laidMet Tryd.prog laid w) ∧ sizedMet enc Tryd.prog Tryd.f20 (OpenSpec.ofChange Rows.sealSizesSpec) false w args)
      (Rows.sealSizesSpec.post enc Tryd.prog Tryd.f20 false true false false) := by
  refine returnsInHanded_of_change_and (C := Tryd.checked) (X := fun w _ => laidMet Tryd.prog laid w) (fun _ _ _ hh h => h.of_heap hh) own started (by kernel_rfl) Tryd.func20
    (ChangeSpec.witness_at (enc := enc) (C := Tryd.checked) (os := os) (X := fun w _ => laidMet Tryd.prog laid w) false (laidWorld os) #[.int .i16 0] 8 rfl (by kernel_rfl) (by kernel_rfl) (by kernel_rfl) (by kernel_rfl) (by kernel_rfl) (laidWorld_met os _)) ?_
  intro W base args ds gs before hval0 hW _ _ hL _
  have hval : ∀ (j : Nat) t v, Tryd.f20.params[j]? = some t → args[j]? = some v → Value.okWide Tryd.prog W .any base t v := hval0
  have hW' := hW
  obtain ⟨p, q, hA0, hV, rfl, _, _⟩ := hW
  have hA : DataW.TrodAll enc Tryd.prog W 0 (fun _ => true) true Tryd.f20.params.toList args.toList ds p := hA0
  rw [Tryd.params20] at hA hval
  obtain ⟨v0, vs0, d0, ds0, p0, q0, hargs, rfl, rfl, h0, r0⟩ := trodAll_cons hA
  obtain ⟨rfl, rfl, rfl⟩ := trodAll_nil r0
  obtain rfl : args = #[v0] := by cases args; simp_all
  obtain ⟨rfl, rfl⟩ := trodVars_none hV
  obtain ⟨n0, rfl, rfl, rfl, w0⟩ := open_int (show Tryd.prog.underlying 87 = some (.int .i16) by kernel_rfl) (hval 0 87 v0 rfl rfl) h0
  clear hA0 hval0
  simp only [List.append_nil] at hW'
  obtain ⟨hdb, hg1, hg2⟩ := db_of hL
  have hb16 := bounds_i16 w0
  refine (sizes_run hdb n0 hb16.1 hb16.2 W hg1 hg2).mono fun e W' ⟨he, hnx⟩ => ?_
  subst he
  refine ⟨_, rfl, post_of_below (pa := []) (pv := []) hW' (fun _ _ _ => trodAll_mk1 (shut_bool Tryd.underlying4 true)) (fun sp _ => ?_) (fun _ _ => rfl) rfl hnx (ok_one (by kernel_rfl) rfl (okWide_bool_mk Tryd.underlying4 _))⟩
  exact trodAll_mk1 (shut_int (show Tryd.prog.underlying 87 = some (.int .i16) by kernel_rfl) w0)
theorem cl1 : Tryd.prog.inPlace 20 = Rows.sealSizesRow.inPlace := by kernel_rfl
theorem cl2 : Tryd.prog.unfollowed 20 = Rows.sealSizesRow.unfollowed := by kernel_rfl
theorem cl3 : Tryd.prog.recurses 20 = Rows.sealSizesRow.recurses := by kernel_rfl
theorem cl4 : Tryd.prog.varsNamed 20 = Rows.sealSizesRow.named := by kernel_rfl
theorem closed : joinedFacts Tryd.prog 20 Tryd.f20 Rows.sealSizesSpec Rows.sealSizesRow = true := by
  unfold joinedFacts
  rw [mayEnterF, liftsF, stopsHeardF, laidOutF, mapsRowedF, plainKeysF, cl1, cl2, cl3, cl4]
  kernel_rfl
theorem row_holds : Rows.sealSizesRow.holds Tryd.pinned (OpenSpec.ofChange Rows.sealSizesSpec) :=
  OpenClaim.holds_of_wide 20 Tryd.f20 rfl rfl rfl rfl rfl rfl rfl ⟨rfl, rfl, rfl, rfl, rfl⟩ rfl rfl rfl rfl rfl (by kernel_rfl) Tryd.func20 closed
    (of_decide_eq_true (by kernel_rfl)) (by unfold Func.isWrapper; first | (rw [if_pos (by decide +kernel)]; kernel_rfl) | (rw [if_neg (by decide +kernel)]; exact ⟨rfl, rfl⟩))
    (fun os started H enc _ => lifted os started H enc)
#print axioms row_holds
end Go.Proofs.YtamlbiaakogahaaDoor.sealSizes
