/-
  The statement of SealParts, proved: whatever the input, the law returns true and each argument reads as it read before. Under the condition of its row: the table of math/bits (deBruijn64tab) lies as its initialiser lays it; the card ties that to the program's text.
-/
import Derived.Test.YtamlbiaakogahaaDoorRow2
import Derived.Test.YtamlbiaakogahaaDoorC51
import Derived.Test.YtamlbiaakogahaaDoorCards
import Derived.Test.YtamlbiaakogahaaDoorTie
import Derived.SevenTiedAt
import Derived.Test.YtamlbiaakogahaaDoorFa
import Derived.Test.YtamlbiaakogahaaDoorFb
namespace Go.Proofs.YtamlbiaakogahaaDoor.sealParts
open Go.ChangeShapes Go.WideShapes Go.ChangeAt Go.RowKit
theorem own : ownKnob Tryd.prog.godebug = none := by kernel_rfl
abbrev laid : List (String × DataW Unit) := [("math/bits.deBruijn64tab", Rows.laid_math_bits_deBruijn64tab)]
/-- A start that fits: the settled world with the table laid. -/
noncomputable def laidWorld (os : Os) : World :=
  let w0 := World.holding Tryd.prog os ⟨#[], #[], []⟩
  { w0 with heap := w0.heap.modify 0 fun
      | .cells _ t frozen => .cells (Lib.deBruijn64tab.map fun (n : Nat) => Value.int .u8 n).toArray t frozen
      | o => o }
theorem laidWorld_met (os : Os) (args : Array Value) : laidMet Tryd.prog laid ((laidWorld os).forCall (fun _ _ => 0) ⟨#[], args, []⟩).memory :=
  laidMet_of_run (ps := (List.range 64).map fun i => .cell 0 i) 8 (by kernel_rfl) (by kernel_rfl) (by kernel_rfl)
set_option maxRecDepth 100000 in
theorem lifted (os : Os) (started : os.Started) (H : Type) (enc : TypeId × Value → H) :
    ReturnsInHanded {} Tryd.checked os 17 .any (fun w args => (Rows.sealPartsSpec.pre enc Tryd.prog Tryd.f17 Rows.sealPartsRow.domain false w args ∧ laidMet Tryd.prog laid w) ∧ sizedMet enc Tryd.prog Tryd.f17 (OpenSpec.ofChange Rows.sealPartsSpec) false w args)
      (Rows.sealPartsSpec.post enc Tryd.prog Tryd.f17 false true false false) := by
  refine returnsInHanded_of_change_and (C := Tryd.checked) (X := fun w _ => laidMet Tryd.prog laid w) (fun _ _ _ hh h => h.of_heap hh) own started (by kernel_rfl) Tryd.func17
    (ChangeSpec.witness_at (enc := enc) (C := Tryd.checked) (os := os) (X := fun w _ => laidMet Tryd.prog laid w) false (laidWorld os) #[.agg (Array.replicate 16 (.int .u8 0)), .agg (Array.replicate 12 (.int .u8 0)), .slice none 0 0, .agg (Array.replicate 16 (.int .u8 0))] 8 rfl (by kernel_rfl) (by kernel_rfl) (by kernel_rfl) (by kernel_rfl) (by kernel_rfl) (laidWorld_met os _)) ?_
  intro W base args ds gs before hval0 hW _ _ hL _
  have hval : ∀ (j : Nat) t v, Tryd.f17.params[j]? = some t → args[j]? = some v → Value.okWide Tryd.prog W .any base t v := hval0
  have hW' := hW
  obtain ⟨p, q, hA0, hV, rfl, _, _⟩ := hW
  have hA : DataW.TrodAll enc Tryd.prog W 0 (fun _ => true) true Tryd.f17.params.toList args.toList ds p := hA0
  rw [Tryd.params17] at hA hval
  have hA1 := hA0
  obtain ⟨v0, vs0, d0, ds0, p0, q0, hargs, rfl, rfl, h0, r0⟩ := trodAll_cons hA
  obtain ⟨v1, vs1, d1, ds1, p1, q1, rfl, rfl, rfl, h1, r1⟩ := trodAll_cons r0
  obtain ⟨v2, vs2, d2, ds2, p2, q2, rfl, rfl, rfl, h2, r2⟩ := trodAll_cons r1
  obtain ⟨v3, vs3, d3, ds3, p3, q3, rfl, rfl, rfl, h3, r3⟩ := trodAll_cons r2
  obtain ⟨rfl, rfl, rfl⟩ := trodAll_nil r3
  obtain rfl : args = #[v0, v1, v2, v3] := by cases args; simp_all
  obtain ⟨rfl, rfl⟩ := trodVars_none hV
  obtain ⟨l0, e0, rfl, _, _⟩ := open_bytes (e := 5) (n := 16) (by kernel_rfl) (by kernel_rfl) (by kernel_rfl) (by kernel_rfl) (hval 0 22 v0 rfl rfl) h0
  obtain ⟨l1, e1, rfl, _, _⟩ := open_bytes (e := 5) (n := 12) (by kernel_rfl) (by kernel_rfl) (by kernel_rfl) (by kernel_rfl) (hval 1 46 v1 rfl rfl) h1
  obtain ⟨l2, e2⟩ := open_bytesArg (P := Tryd.prog) (t := 62) (e := 5) (by kernel_rfl) (by kernel_rfl) (by kernel_rfl) (slice_cells (P := Tryd.prog) (t := 62) (e := 5) (by kernel_rfl) (hval 2 62 v2 rfl rfl)) h2
  obtain ⟨l3, e3, rfl, _, _⟩ := open_bytes (e := 5) (n := 16) (by kernel_rfl) (by kernel_rfl) (by kernel_rfl) (by kernel_rfl) (hval 3 22 v3 rfl rfl) h3
  obtain ⟨π, hm, c0, _⟩ := mem_bytes e2 (show BytesArg W (.slice none 0 0) [] from .inl ⟨rfl, none, 0, rfl⟩)
  obtain ⟨hdb, hg1, hg2⟩ := db_of hL
  refine (law_run2 (law_SealParts (glOf W) hdb l0 l1 l2 l3) hm hg1 hg2 ⟨_, _, rfl, ⟨_, rfl, _, [], by rw [List.append_nil], ⟨e0, rfl⟩, rfl⟩, ⟨_, _, rfl, ⟨_, rfl, _, [], by rw [List.append_nil], ⟨e1, rfl⟩, rfl⟩, ⟨_, _, rfl, c0, ⟨_, _, rfl, ⟨_, rfl, _, [], by rw [List.append_nil], ⟨e3, rfl⟩, rfl⟩, rfl⟩⟩⟩⟩).mono fun e W' ⟨he, hnx⟩ => ?_
  subst he
  refine ⟨_, rfl, post_of_below (pa := (p0 ++ (p1 ++ (p2 ++ (p3 ++ []))))) (pv := []) hW' (fun _ _ _ => trodAll_mk1 (shut_bool Tryd.underlying4 true)) (fun sp hsp => ?_) (fun _ _ => rfl) (by simp) hnx (ok_one (by kernel_rfl) rfl (okWide_bool_mk Tryd.underlying4 _))⟩
  exact args_again laidOutF mapsRowedF (slices_full slicesFullF) (by rw [Tryd.params17]; decide +kernel) hA1 hnx (fun p hp => hW'.lt p (by simpa using hp)) sp (fun p hp => hsp p (by simpa using hp))
theorem cl1 : Tryd.prog.inPlace 17 = Rows.sealPartsRow.inPlace := by kernel_rfl
theorem cl2 : Tryd.prog.unfollowed 17 = Rows.sealPartsRow.unfollowed := by kernel_rfl
theorem cl3 : Tryd.prog.recurses 17 = Rows.sealPartsRow.recurses := by kernel_rfl
theorem cl4 : Tryd.prog.varsNamed 17 = Rows.sealPartsRow.named := by kernel_rfl
theorem closed : joinedFacts Tryd.prog 17 Tryd.f17 Rows.sealPartsSpec Rows.sealPartsRow = true := by
  unfold joinedFacts
  rw [mayEnterF, liftsF, stopsHeardF, laidOutF, mapsRowedF, plainKeysF, cl1, cl2, cl3, cl4]
  kernel_rfl
theorem row_holds : Rows.sealPartsRow.holds Tryd.pinned (OpenSpec.ofChange Rows.sealPartsSpec) :=
  OpenClaim.holds_of_wide 17 Tryd.f17 rfl rfl rfl rfl rfl rfl rfl ⟨rfl, rfl, rfl, rfl, rfl⟩ rfl rfl rfl rfl rfl (by kernel_rfl) Tryd.func17 closed
    (of_decide_eq_true (by kernel_rfl)) (by unfold Func.isWrapper; first | (rw [if_pos (by decide +kernel)]; kernel_rfl) | (rw [if_neg (by decide +kernel)]; exact ⟨rfl, rfl⟩))
    (fun os started H enc _ => lifted os started H enc)
#print axioms row_holds
end Go.Proofs.YtamlbiaakogahaaDoor.sealParts
