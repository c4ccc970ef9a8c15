/- What every law's row asks: arguments opened and shut, the library's table out of the row's condition, a law's contract as a walk. -/
import Derived.Test.YtamlbiaakogahaaDoorRows
import Derived.Test.YtamlbiaakogahaaDoorC16
import Derived.Lib.LaidTab
import Derived.WalkKit
import Derived.ProofKit
import Derived.OpenShut
import Derived.SizedLaws
import Derived.ChangeSame
import Derived.ChangeVars
import Derived.JoinedOf
import Derived.JoinedAt
import Derived.RowKit
import Derived.RowKit3
import Derived.LaidLaws
namespace Go.Proofs.YtamlbiaakogahaaDoor
open Go Go.ChangeShapes Go.WideShapes Go.ChangeAt Go.RowKit

section
variable {H : Type} {enc : TypeId × Value → H} {P : Program} {w w' : World} {base base' : Nat} {spare spare' : Nat → Bool} {held held' : Bool}

def lit8 (x : BitVec 8) : DataW H := .lit (.int .u8 (x.toNat : Int))

theorem mapM_all {α β : Type} {f : α → Option β} {g : α → β} : ∀ {l : List α}, (∀ a ∈ l, f a = some (g a)) → l.mapM f = some (l.map g)
  | [], _ => rfl
  | a :: l, h => by
    rw [List.mapM_cons, h a (List.mem_cons_self ..), mapM_all (l := l) fun b hb => h b (List.mem_cons_of_mem _ hb)]
    rfl

theorem open_bytes {r : Reach} {b0 n : Nat} {t e : TypeId} {v : Value} {d : DataW H} {ps : List MemPlace} (ht : P.underlying t = some (.array n e)) (he : P.underlying e = some (.int .u8)) (hce : P.cellsOf e = 1)
    (hct : P.cellsOf t = n) (hval : Value.okWide P w r b0 t v) (hd : DataW.Trod enc P w base spare held t v d ps) :
    ∃ l : List (BitVec 8), l.length = n ∧ v = .agg (l.map Mo.v8).toArray ∧ d = .agg (l.map lit8) ∧ ps = [] := by
  have hv : ∃ cs : Array Value, v = .agg cs ∧ cs.size = P.cellsOf t := by
    simp only [Value.okWide, ht] at hval
    obtain ⟨cs, h1, h2, _⟩ := hval
    exact ⟨cs, h1, h2⟩
  obtain ⟨cs, rfl, hsz⟩ := hv
  obtain ⟨fuel, hf⟩ := hd
  obtain ⟨xs, m, rfl, hx, hl, hn, hat⟩ := DataW.trod_array ht hf
  have hcells : (Value.agg cs).cells.toList = cs.toList := by simp [Value.cells]
  rw [hcells, hct] at hl
  rw [hcells, hce] at hat
  have key : ∀ i, i < n → ∃ x : BitVec 8, cs.toList[i]? = some (Mo.v8 x) ∧ xs[i]? = some (lit8 x, []) := by
    intro i hi
    have h1 := hat i hi
    rw [Nat.mul_one] at h1
    have hxi : xs[i]? = some xs[i] := by simp [hn, hi]
    rw [hxi] at h1
    obtain ⟨z, e1, e2, hw⟩ := DataW.trod_int he h1
    have hb := bounds_u8 hw
    have hci : cs.toList[i]? = some (Value.int .u8 z) := by
      have : (cs.toList.drop i).take 1 = [Value.int .u8 z] := e1
      have h2 := congrArg (·[0]?) this
      simpa using h2
    have hz : (((BitVec.ofInt 8 z).toNat : Nat) : Int) = z := by
      rw [BitVec.toNat_ofInt]
      omega
    refine ⟨BitVec.ofInt 8 z, ?_, ?_⟩
    · rw [hci]; unfold Mo.v8; rw [hz]
    · rw [hxi, e2]; unfold lit8; rw [hz]
  refine ⟨cs.toList.map fun v => match v with | .int _ z => BitVec.ofInt 8 z | _ => 0, by simp [← hl], ?_, ?_, ?_⟩
  · congr 1
    apply Array.ext'
    apply List.ext_getElem?
    intro i
    rcases Nat.lt_or_ge i n with hi | hi
    · obtain ⟨x, h1, _⟩ := key i hi
      simp only [List.map_map, List.getElem?_map, h1, Option.map_some, Function.comp]
      simp [Mo.v8]
    · rw [List.getElem?_eq_none (by omega), List.getElem?_eq_none (by simp only [List.length_map]; omega)]
  · rw [Prod.mk.injEq] at hx
    rw [hx.1]
    congr 1
    apply List.ext_getElem?
    intro i
    rcases Nat.lt_or_ge i n with hi | hi
    · obtain ⟨x, h1, h2⟩ := key i hi
      simp only [List.getElem?_map, h1, h2, Option.map_some]
      simp [Mo.v8]
    · rw [List.getElem?_eq_none (by simp only [List.length_map]; omega), List.getElem?_eq_none (by simp only [List.length_map]; omega)]
  · rw [Prod.mk.injEq] at hx
    rw [hx.2, List.flatMap_eq_nil_iff]
    intro y hy
    obtain ⟨i, hi, rfl⟩ := List.getElem_of_mem hy
    obtain ⟨x, _, h2⟩ := key i (by omega)
    have : xs[i]? = some xs[i] := by simp [hi]
    rw [this] at h2
    rw [Option.some.inj h2]

theorem shut_bytes {n : Nat} {t e : TypeId} {l : List (BitVec 8)} (ht : P.underlying t = some (.array n e)) (he : P.underlying e = some (.int .u8)) (hce : P.cellsOf e = 1) (hct : P.cellsOf t = n) (hl : l.length = n) :
    DataW.Trod enc P w base spare held t (.agg (l.map Mo.v8).toArray) (.agg (l.map lit8)) [] := by
  refine ⟨2, ?_⟩
  have hcells : (Value.agg (l.map Mo.v8).toArray).cells.toList = l.map Mo.v8 := by simp [Value.cells]
  rw [hcells]
  unfold DataW.trod
  rw [ht]
  dsimp only
  rw [if_pos (by simp [hct, hl])]
  have hm : (List.range n).mapM (fun i => DataW.trod enc P w base spare held 1 e (((l.map Mo.v8).drop (i * P.cellsOf e)).take (P.cellsOf e))) = some ((List.range n).map fun i => (lit8 (l.getD i 0), ([] : List MemPlace))) := by
    apply mapM_all
    intro i hi
    have hi : i < l.length := by rw [hl]; exact List.mem_range.1 hi
    rw [hce, Nat.mul_one]
    have e1 : ((l.map Mo.v8).drop i).take 1 = [Mo.v8 (l.getD i 0)] := by
      rw [List.drop_eq_getElem_cons (by simpa using hi)]
      simp [List.getD, hi]
    rw [e1]
    have hx := (l.getD i 0).isLt
    simp only [DataW.trod, he, Mo.v8, lit8]
    simp [Lit.wf, IntKind.min, IntKind.max, IntKind.signed, IntKind.bits]
    omega
  rw [hm]
  simp only [Option.map_some, Option.some.injEq, Prod.mk.injEq, List.map_map]
  constructor
  · congr 1
    apply List.ext_getElem?
    intro i
    rcases Nat.lt_or_ge i n with hi | hi
    · have : i < l.length := by omega
      simp [hi, this, List.getD]
    · rw [List.getElem?_eq_none (by simpa using hi), List.getElem?_eq_none (by simpa [hl] using hi)]
  · rw [List.flatMap_eq_nil_iff]
    intro y hy
    obtain ⟨i, _, rfl⟩ := List.mem_map.1 hy
    rfl
end

theorem u64_of {n : Int} (h : (Lit.int .u64 n).wf = true) : ((BitVec.ofInt 64 n).toNat : Int) = n := by
  have := bounds_u64 h
  rw [BitVec.toNat_ofInt]; omega
theorem u8_of {n : Int} (h : (Lit.int .u8 n).wf = true) : ((BitVec.ofInt 8 n).toNat : Int) = n := by
  have := bounds_u8 h
  rw [BitVec.toNat_ofInt]; omega

theorem post_of_below {H : Type} {enc : TypeId × Value → H} {P : Program} {f : Func} {s : ChangeSpec} {apart fresh handsOn again : Bool} {W W' : World} {args : Array Value} {v : Value} {ds gs : List (DataW H)} {before pa pv : List MemPlace}
    (hW : DataW.Whole enc P f.params.toList s.vars apart W args.toList ds gs before)
    (hres : ∀ (b : Nat) (sp : Nat → Bool) (hd : Bool), DataW.TrodAll enc P W' b sp hd f.resultTypes.toList (v.resultList f.resultTypes.size) (s.fn H (ds ++ gs)).results [])
    (hargs : ∀ sp : Nat → Bool, (∀ p ∈ before, sp p.block = true) → DataW.TrodAll enc P W' 0 sp true f.params.toList args.toList (s.fn H (ds ++ gs)).args pa)
    (hvars : ∀ sp : Nat → Bool, (∀ p ∈ before, sp p.block = true) → DataW.TrodVars enc P W' sp s.vars (s.fn H (ds ++ gs)).vars pv)
    (hps : before = pa ++ pv) (hb : Below W.heap.size W W')
    (hok : ∀ (j : Nat) (t : TypeId) (r : Value), f.resultTypes[j]? = some t → (v.resultList f.resultTypes.size)[j]? = some r → Value.okWide P W' .any 0 t r) :
    s.post enc P f apart fresh handsOn again W args v W' := by
  have hlt : ∀ p ∈ before, p.block < W.heap.size := fun p hp => hW.lt p hp
  have hold : ∀ p ∈ before, (fun b => decide (b < W.heap.size)) p.block = true := fun p hp => by simpa using hlt p hp
  refine ⟨ds, gs, before, [], pa, pv, hW, hres _ _ _, hargs _ hold, hvars _ hold, hb.frame _, fun _ => ?_⟩
  obtain ⟨_, _, _, _, _, hz, hn⟩ := hW
  refine ⟨hok, _, _, ([] ++ pa) ++ pv, ⟨[] ++ pa, pv, trodAll_append (hargs _ (fun _ _ => rfl)) (hres _ _ _), hvars _ (fun _ _ => rfl), rfl, ?_, ?_⟩, ?_⟩
  · intro b off hp
    have hp' : MemPlace.cell b off ∈ before := by rw [hps]; simpa using hp
    rw [hb.frozen (hlt _ hp')]
    exact hz b off hp'
  · intro ha
    have := hn ha
    rw [hps] at this
    simpa using this
  · intro p hp _
    rw [hps]
    simpa using hp

/-- The known block: the table of math/bits as it lies. -/
noncomputable def glOf (W : World) : Mo.Gl := ⟨0, W.heap[0]?.getD default, fun _ => none⟩

theorem tabEq : (Rows.laid_math_bits_deBruijn64tab : DataW Unit) = Lib.tabData .u8 (Lib.deBruijn64tab.map fun (n : Nat) => (n : Int)) := by kernel_rfl

theorem db_of {W : World} {r : List (String × DataW Unit)} (h : laidMet Tryd.prog (("math/bits.deBruijn64tab", Rows.laid_math_bits_deBruijn64tab) :: r) W) :
    DB (glOf W) ∧ (glOf W).g < W.heap.size ∧ W.heap[(glOf W).g]? = some (glOf W).obj := by
  rw [tabEq] at h
  have ht := Lib.tabIs_of_head (P := Tryd.prog) (g := 0) (t := 154) (e := 5) (n := 64) (by kernel_rfl) (by kernel_rfl) (by kernel_rfl) (by kernel_rfl) (by kernel_rfl) (by kernel_rfl) h
  have hc : ∀ j, j < 64 → W.cell? ⟨0, j, none⟩ = some (.int .u8 ((Lib.deBruijn64tab.getD j 0 : Nat) : Int)) := by
    intro j hj
    have hlen : Lib.deBruijn64tab.length = 64 := rfl
    have := ht.cell (g := 0) (by kernel_rfl) j (by rw [List.length_map, hlen]; exact hj)
    rw [this]
    simp [List.getD, hlen, hj]
  have h0 := hc 0 (by omega)
  cases hh : W.heap[0]? with
  | none => simp [World.cell?, hh] at h0
  | some o =>
    have hg : (glOf W).obj = o := by simp [glOf, hh]
    refine ⟨⟨rfl, ?_⟩, (Array.getElem?_eq_some_iff.1 hh).1, by rw [hg]; exact hh⟩
    cases o with
    | cells cs T fz =>
      refine ⟨cs, T, fz, hg, fun j hj => ?_⟩
      have := hc j hj
      simpa [World.cell?, hh] using this
    | _ => simp [World.cell?, hh] at h0

/-- A law's contract as a walk. -/
theorem law_run {G : Mo.Gl} {P : Program} {f : Nat} {sp : List Mo.V → Option Mo.V} (h : Mo.EntryOk G P f (Mo.pureSp sp)) {args : List Mo.V} (hs : sp args = some (.s (.bool true))) {vargs : List Value} {W : World}
    (hg : G.g < W.heap.size) (ho : W.heap[G.g]? = some G.obj) (ha : Mo.argsCv (fun _ => none) args vargs) :
    Calls P f vargs.toArray W fun e w' => e = .returned (.bool true) ∧ Below W.heap.size W w' := by
  have hf := h args 0 (fun _ => none) (.s (.bool true)) [] [] (by simp only [Mo.pureSp, hs]; rfl)
  refine (hf.2 (fun _ => none) W vargs (fun i b hi => by cases hi) hg ho ha (fun _ _ => rfl)).mono ?_
  rintro e w' ⟨rv, ns, rfl, hp⟩
  have hrv : rv = .bool true := hp.cv
  subst hrv
  exact ⟨rfl, hp.below⟩
end Go.Proofs.YtamlbiaakogahaaDoor
