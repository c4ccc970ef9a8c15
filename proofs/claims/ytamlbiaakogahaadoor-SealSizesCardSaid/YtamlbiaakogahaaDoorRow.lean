/- What every law's row asks: arguments opened and shut, the library's table out of the row's condition, a law's contract as a walk. -/
import Derived.Test.YtamlbiaakogahaaDoorRows
import Derived.Test.YtamlbiaakogahaaDoorC16
import Derived.Lib.LaidTab
import Derived.WalkKit
import Derived.ProofKit
import Derived.OpenShut
import Derived.SizedLaws
import Derived.ChangeSame
import Derived.ChangeVars
import Derived.JoinedOf
import Derived.JoinedAt
import Derived.RowKit
import Derived.RowKit3
import Derived.LaidLaws
import Derived.ReadAgain
import Derived.Deep.Slices
import Derived.Test.YtamlbiaakogahaaDoorMo17
namespace Go.Proofs.YtamlbiaakogahaaDoor
open Go Go.ChangeShapes Go.WideShapes Go.ChangeAt Go.RowKit

section
variable {H : Type} {enc : TypeId × Value → H} {P : Program} {w w' : World} {base base' : Nat} {spare spare' : Nat → Bool} {held held' : Bool}

def lit8 (x : BitVec 8) : DataW H := .lit (.int .u8 (x.toNat : Int))

theorem mapM_all {α β : Type} {f : α → Option β} {g : α → β} : ∀ {l : List α}, (∀ a ∈ l, f a = some (g a)) → l.mapM f = some (l.map g)
  | [], _ => rfl
  | a :: l, h => by
    rw [List.mapM_cons, h a (List.mem_cons_self ..), mapM_all (l := l) fun b hb => h b (List.mem_cons_of_mem _ hb)]
    rfl

theorem open_bytes {r : Reach} {b0 n : Nat} {t e : TypeId} {v : Value} {d : DataW H} {ps : List MemPlace} (ht : P.underlying t = some (.array n e)) (he : P.underlying e = some (.int .u8)) (hce : P.cellsOf e = 1)
    (hct : P.cellsOf t = n) (hval : Value.okWide P w r b0 t v) (hd : DataW.Trod enc P w base spare held t v d ps) :
    ∃ l : List (BitVec 8), l.length = n ∧ v = .agg (l.map Mo.v8).toArray ∧ d = .agg (l.map lit8) ∧ ps = [] := by
  have hv : ∃ cs : Array Value, v = .agg cs ∧ cs.size = P.cellsOf t := by
    simp only [Value.okWide, ht] at hval
    obtain ⟨cs, h1, h2, _⟩ := hval
    exact ⟨cs, h1, h2⟩
  obtain ⟨cs, rfl, hsz⟩ := hv
  obtain ⟨fuel, hf⟩ := hd
  obtain ⟨xs, m, rfl, hx, hl, hn, hat⟩ := DataW.trod_array ht hf
  have hcells : (Value.agg cs).cells.toList = cs.toList := by simp [Value.cells]
  rw [hcells, hct] at hl
  rw [hcells, hce] at hat
  have key : ∀ i, i < n → ∃ x : BitVec 8, cs.toList[i]? = some (Mo.v8 x) ∧ xs[i]? = some (lit8 x, []) := by
    intro i hi
    have h1 := hat i hi
    rw [Nat.mul_one] at h1
    have hxi : xs[i]? = some xs[i] := by simp [hn, hi]
    rw [hxi] at h1
    obtain ⟨z, e1, e2, hw⟩ := DataW.trod_int he h1
    have hb := bounds_u8 hw
    have hci : cs.toList[i]? = some (Value.int .u8 z) := by
      have : (cs.toList.drop i).take 1 = [Value.int .u8 z] := e1
      have h2 := congrArg (·[0]?) this
      simpa using h2
    have hz : (((BitVec.ofInt 8 z).toNat : Nat) : Int) = z := by
      rw [BitVec.toNat_ofInt]
      omega
    refine ⟨BitVec.ofInt 8 z, ?_, ?_⟩
    · rw [hci]; unfold Mo.v8; rw [hz]
    · rw [hxi, e2]; unfold lit8; rw [hz]
  refine ⟨cs.toList.map fun v => match v with | .int _ z => BitVec.ofInt 8 z | _ => 0, by simp [← hl], ?_, ?_, ?_⟩
  · congr 1
    apply Array.ext'
    apply List.ext_getElem?
    intro i
    rcases Nat.lt_or_ge i n with hi | hi
    · obtain ⟨x, h1, _⟩ := key i hi
      simp only [List.map_map, List.getElem?_map, h1, Option.map_some, Function.comp]
      simp [Mo.v8]
    · rw [List.getElem?_eq_none (by omega), List.getElem?_eq_none (by simp only [List.length_map]; omega)]
  · rw [Prod.mk.injEq] at hx
    rw [hx.1]
    congr 1
    apply List.ext_getElem?
    intro i
    rcases Nat.lt_or_ge i n with hi | hi
    · obtain ⟨x, h1, h2⟩ := key i hi
      simp only [List.getElem?_map, h1, h2, Option.map_some]
      simp [Mo.v8]
    · rw [List.getElem?_eq_none (by simp only [List.length_map]; omega), List.getElem?_eq_none (by simp only [List.length_map]; omega)]
  · rw [Prod.mk.injEq] at hx
    rw [hx.2, List.flatMap_eq_nil_iff]
    intro y hy
    obtain ⟨i, hi, rfl⟩ := List.getElem_of_mem hy
    obtain ⟨x, _, h2⟩ := key i (by omega)
    have : xs[i]? = some xs[i] := by simp [hi]
    rw [this] at h2
    rw [Option.some.inj h2]

theorem shut_bytes {n : Nat} {t e : TypeId} {l : List (BitVec 8)} (ht : P.underlying t = some (.array n e)) (he : P.underlying e = some (.int .u8)) (hce : P.cellsOf e = 1) (hct : P.cellsOf t = n) (hl : l.length = n) :
    DataW.Trod enc P w base spare held t (.agg (l.map Mo.v8).toArray) (.agg (l.map lit8)) [] := by
  refine ⟨2, ?_⟩
  have hcells : (Value.agg (l.map Mo.v8).toArray).cells.toList = l.map Mo.v8 := by simp [Value.cells]
  rw [hcells]
  unfold DataW.trod
  rw [ht]
  dsimp only
  rw [if_pos (by simp [hct, hl])]
  have hm : (List.range n).mapM (fun i => DataW.trod enc P w base spare held 1 e (((l.map Mo.v8).drop (i * P.cellsOf e)).take (P.cellsOf e))) = some ((List.range n).map fun i => (lit8 (l.getD i 0), ([] : List MemPlace))) := by
    apply mapM_all
    intro i hi
    have hi : i < l.length := by rw [hl]; exact List.mem_range.1 hi
    rw [hce, Nat.mul_one]
    have e1 : ((l.map Mo.v8).drop i).take 1 = [Mo.v8 (l.getD i 0)] := by
      rw [List.drop_eq_getElem_cons (by simpa using hi)]
      simp [List.getD, hi]
    rw [e1]
    have hx := (l.getD i 0).isLt
    simp only [DataW.trod, he, Mo.v8, lit8]
    simp [Lit.wf, IntKind.min, IntKind.max, IntKind.signed, IntKind.bits]
    omega
  rw [hm]
  simp only [Option.map_some, Option.some.injEq, Prod.mk.injEq, List.map_map]
  constructor
  · congr 1
    apply List.ext_getElem?
    intro i
    rcases Nat.lt_or_ge i n with hi | hi
    · have : i < l.length := by omega
      simp [hi, this, List.getD]
    · rw [List.getElem?_eq_none (by simpa using hi), List.getElem?_eq_none (by simpa [hl] using hi)]
  · rw [List.flatMap_eq_nil_iff]
    intro y hy
    obtain ⟨i, _, rfl⟩ := List.mem_map.1 hy
    rfl
end

theorem u64_of {n : Int} (h : (Lit.int .u64 n).wf = true) : ((BitVec.ofInt 64 n).toNat : Int) = n := by
  have := bounds_u64 h
  rw [BitVec.toNat_ofInt]; omega
theorem u8_of {n : Int} (h : (Lit.int .u8 n).wf = true) : ((BitVec.ofInt 8 n).toNat : Int) = n := by
  have := bounds_u8 h
  rw [BitVec.toNat_ofInt]; omega

theorem post_of_below {H : Type} {enc : TypeId × Value → H} {P : Program} {f : Func} {s : ChangeSpec} {apart fresh handsOn again : Bool} {W W' : World} {args : Array Value} {v : Value} {ds gs : List (DataW H)} {before pa pv : List MemPlace}
    (hW : DataW.Whole enc P f.params.toList s.vars apart W args.toList ds gs before)
    (hres : ∀ (b : Nat) (sp : Nat → Bool) (hd : Bool), DataW.TrodAll enc P W' b sp hd f.resultTypes.toList (v.resultList f.resultTypes.size) (s.fn H (ds ++ gs)).results [])
    (hargs : ∀ sp : Nat → Bool, (∀ p ∈ before, sp p.block = true) → DataW.TrodAll enc P W' 0 sp true f.params.toList args.toList (s.fn H (ds ++ gs)).args pa)
    (hvars : ∀ sp : Nat → Bool, (∀ p ∈ before, sp p.block = true) → DataW.TrodVars enc P W' sp s.vars (s.fn H (ds ++ gs)).vars pv)
    (hps : before = pa ++ pv) (hb : Below W.heap.size W W')
    (hok : ∀ (j : Nat) (t : TypeId) (r : Value), f.resultTypes[j]? = some t → (v.resultList f.resultTypes.size)[j]? = some r → Value.okWide P W' .any 0 t r) :
    s.post enc P f apart fresh handsOn again W args v W' := by
  have hlt : ∀ p ∈ before, p.block < W.heap.size := fun p hp => hW.lt p hp
  have hold : ∀ p ∈ before, (fun b => decide (b < W.heap.size)) p.block = true := fun p hp => by simpa using hlt p hp
  refine ⟨ds, gs, before, [], pa, pv, hW, hres _ _ _, hargs _ hold, hvars _ hold, hb.frame _, fun _ => ?_⟩
  obtain ⟨_, _, _, _, _, hz, hn⟩ := hW
  refine ⟨hok, _, _, ([] ++ pa) ++ pv, ⟨[] ++ pa, pv, trodAll_append (hargs _ (fun _ _ => rfl)) (hres _ _ _), hvars _ (fun _ _ => rfl), rfl, ?_, ?_⟩, ?_⟩
  · intro b off hp
    have hp' : MemPlace.cell b off ∈ before := by rw [hps]; simpa using hp
    rw [hb.frozen (hlt _ hp')]
    exact hz b off hp'
  · intro ha
    have := hn ha
    rw [hps] at this
    simpa using this
  · intro p hp _
    rw [hps]
    simpa using hp

/-- The known block: the table of math/bits as it lies. -/
noncomputable def glOf (W : World) : Mo.Gl := { g := 0, obj := W.heap[0]?.getD default, base := fun _ => none }

theorem tabEq : (Rows.laid_math_bits_deBruijn64tab : DataW Unit) = Lib.tabData .u8 (Lib.deBruijn64tab.map fun (n : Nat) => (n : Int)) := by kernel_rfl

theorem db_of {W : World} {r : List (String × DataW Unit)} (h : laidMet Tryd.prog (("math/bits.deBruijn64tab", Rows.laid_math_bits_deBruijn64tab) :: r) W) :
    DB (glOf W) ∧ (glOf W).g < W.heap.size ∧ W.heap[(glOf W).g]? = some (glOf W).obj := by
  rw [tabEq] at h
  have ht := Lib.tabIs_of_head (P := Tryd.prog) (g := 0) (t := 154) (e := 5) (n := 64) (by kernel_rfl) (by kernel_rfl) (by kernel_rfl) (by kernel_rfl) (by kernel_rfl) (by kernel_rfl) h
  have hc : ∀ j, j < 64 → W.cell? ⟨0, j, none⟩ = some (.int .u8 ((Lib.deBruijn64tab.getD j 0 : Nat) : Int)) := by
    intro j hj
    have hlen : Lib.deBruijn64tab.length = 64 := rfl
    have := ht.cell (g := 0) (by kernel_rfl) j (by rw [List.length_map, hlen]; exact hj)
    rw [this]
    simp [List.getD, hlen, hj]
  have h0 := hc 0 (by omega)
  cases hh : W.heap[0]? with
  | none => simp [World.cell?, hh] at h0
  | some o =>
    have hg : (glOf W).obj = o := by simp [glOf, hh]
    refine ⟨⟨rfl, ?_⟩, (Array.getElem?_eq_some_iff.1 hh).1, by rw [hg]; exact hh⟩
    cases o with
    | cells cs T fz =>
      refine ⟨cs, T, fz, hg, fun j hj => ?_⟩
      have := hc j hj
      simpa [World.cell?, hh] using this
    | _ => simp [World.cell?, hh] at h0

/-- A law's contract as a walk. -/
theorem law_run {G : Mo.Gl} {P : Program} {f : Nat} {sp : List Mo.V → Option Mo.V} (h : Mo.EntryOk G P f (Mo.pureSp sp)) {args : List Mo.V} (hs : sp args = some (.s (.bool true))) {vargs : List Value} {W : World}
    (hg : G.g < W.heap.size) (ho : W.heap[G.g]? = some G.obj) (ha : Mo.argsCv (fun _ => none) args vargs) :
    Calls P f vargs.toArray W fun e w' => e = .returned (.bool true) ∧ Below W.heap.size W w' := by
  have hf := h args 0 (fun _ => none) (.s (.bool true)) [] [] (by simp only [Mo.pureSp, hs]; rfl)
  refine (hf.2 (fun _ => none) W vargs (fun i b hi => by cases hi) hg ho ha (fun _ _ => rfl)).mono ?_
  rintro e w' ⟨rv, ns, rfl, hp⟩
  have hrv : rv = .bool true := hp.cv
  subst hrv
  exact ⟨rfl, hp.below⟩

/-! ### Arguments that are slices of bytes -/

theorem trodAll_carry {H : Type} {enc : TypeId × Value → H} {P : Program} {w w' : World} {base : Nat} {spare : Nat → Bool} {held : Bool} : ∀ {ts : List TypeId} {vs : List Value} {ds : List (DataW H)} {ps : List MemPlace},
    DataW.TrodAll enc P w base spare held ts vs ds ps → (∀ p ∈ ps, w.sameAt w' p) → DataW.TrodAll enc P w' base spare held ts vs ds ps
  | [], [], [], _, h, _ => h
  | _ :: _, _ :: _, _ :: _, _, ⟨p, q, ⟨n, h⟩, hs, e⟩, hp =>
    ⟨p, q, ⟨n, DataW.trod_carry n _ _ _ h fun x hx => hp x (by rw [e]; exact List.mem_append_left _ hx)⟩, trodAll_carry hs fun x hx => hp x (by rw [e]; exact List.mem_append_right _ hx), e⟩

theorem sameAt_below {W W' : World} (hb : Below W.heap.size W W') {p : MemPlace} (hp : p.block < W.heap.size) : W.sameAt W' p := by
  cases p with
  | cell b off =>
    have := hb.block b hp
    show W'.cell? _ = W.cell? _
    simp only [World.cell?, this]
  | map b => exact hb.block b hp

/-- The arguments read again behind a call that left all old blocks as they lay. -/
theorem args_again {H : Type} {enc : TypeId × Value → H} {P : Program} {W W' : World} {ts : List TypeId} {vs : List Value} {ds : List (DataW H)} {ps : List MemPlace} (hl : laidOutB P = true) (hm : mapsRowed P = true)
    (hz : ∀ t e, t < P.types.size → P.underlying t = some (.slice e) → 0 < P.cellsOf e) (ht : ∀ t ∈ ts, t < P.types.size) (hA : DataW.TrodAll enc P W 0 (fun _ => true) true ts vs ds ps) (hb : Below W.heap.size W W')
    (hlt : ∀ p ∈ ps, p.block < W.heap.size) (sp : Nat → Bool) (hsp : ∀ p ∈ ps, sp p.block = true) : DataW.TrodAll enc P W' 0 sp true ts vs ds ps :=
  trodAll_carry (DataW.TrodAll.respare (kids_rows hl hm) hz ht hA hsp) fun p hp => sameAt_below hb (hlt p hp)

/-- What an argument that is a slice of bytes is. -/
def BytesArg (W : World) (v : Value) (l : List (BitVec 8)) : Prop :=
  (l = [] ∧ ∃ a c, v = .slice a 0 c) ∨ (l ≠ [] ∧ ∃ (b o c : Nat) (vs : List Value) (T : TypeId) (fz : Nat × Nat), v = .slice (some ⟨b, o, none⟩) l.length c ∧ l.length ≤ c ∧ o + c ≤ vs.length ∧ W.heap[b]? = some (.cells vs.toArray T fz) ∧
    (vs.drop o).take l.length = l.map Mo.v8)

theorem cell_heap {W : World} {a : Addr} {v : Value} (h : W.cell? a = some v) : a.spot = none ∧ ∃ (cs : Array Value) (T : TypeId) (fz : Nat × Nat), W.heap[a.block]? = some (.cells cs T fz) ∧ cs[a.off]? = some v := by
  unfold World.cell? at h
  cases hs : a.spot with
  | some s => simp only [hs, Option.isSome_some, if_true] at h; split at h <;> cases h
  | none =>
    refine ⟨rfl, ?_⟩
    simp only [hs, Option.isSome_none, Bool.false_eq_true, if_false] at h
    split at h
    · rename_i cs T fz hh
      exact ⟨cs, T, fz, hh, h⟩
    · cases h

theorem open_bytesArg {H : Type} {enc : TypeId × Value → H} {P : Program} {w : World} {base : Nat} {held : Bool} {t e : TypeId} {v : Value} {d : DataW H} {ps : List MemPlace} (ht : P.underlying t = some (.slice e)) (he : P.underlying e = some (.int .u8)) (hce : P.cellsOf e = 1)
    (hcell : v.cells = #[v]) (hd : DataW.Trod enc P w base (fun _ => true) held t v d ps) : ∃ l, BytesArg w v l := by
  obtain ⟨fuel, hf⟩ := hd
  rcases Go.Deep.open_slice1 ht hce hf with ⟨hc, _⟩ | ⟨a, len, cap, m, n, V, D, Pl, hc, _, hle, _, hm, _, hx⟩
  · rw [hcell] at hc
    have hv : v = .slice none 0 0 := by simpa using hc
    exact ⟨[], .inl ⟨rfl, none, 0, hv⟩⟩
  · rw [hcell] at hc
    have hv : v = .slice (some a) len cap := by simpa using hc
    have hm : m = cap := by simpa using hm
    subst hm
    by_cases h0 : len = 0
    · subst h0; exact ⟨[], .inl ⟨rfl, some a, m, hv⟩⟩
    · have h00 := (hx 0 (by omega)).1
      have ha0 : a.add 0 = a := by simp [Addr.add]
      rw [ha0] at h00
      obtain ⟨hsp, cs, T, fz, hh, hcs⟩ := cell_heap h00
      obtain ⟨ab, ao, asp⟩ := a
      simp only at hsp hh hcs
      subst hsp
      have hcell : ∀ i, i < m → cs[ao + i]? = some (V i) ∧ ∃ x : BitVec 8, V i = Mo.v8 x := by
        intro i hi
        obtain ⟨h1, h2⟩ := hx i hi
        have hadd : (⟨ab, ao, none⟩ : Addr).add i = ⟨ab, ao + i, none⟩ := Mo.addr_add ab ao i
        rw [hadd] at h1
        obtain ⟨_, cs', T', fz', hh', hcs'⟩ := cell_heap h1
        simp only at hh' hcs'
        rw [hh] at hh'
        cases hh'
        refine ⟨hcs', ?_⟩
        obtain ⟨z, e1, _, hw⟩ := DataW.trod_int he h2
        have hb := bounds_u8 hw
        refine ⟨BitVec.ofInt 8 z, ?_⟩
        have e1 : V i = .int .u8 z := by simpa using e1
        rw [e1]
        unfold Mo.v8
        rw [BitVec.toNat_ofInt]
        congr 1
        omega
      have hsz : ao + m ≤ cs.size := by
        have := (hcell (m - 1) (by omega)).1
        have := (Array.getElem?_eq_some_iff.1 this).1
        omega
      refine ⟨(List.range len).map fun i => match V i with | .int _ z => BitVec.ofInt 8 z | _ => 0, .inr ⟨by simp [h0], ab, ao, m, cs.toList, T, fz, by simpa using hv, by simpa using hle, by simpa using hsz, by simpa using hh, ?_⟩⟩
      apply List.ext_getElem?
      intro i
      simp only [List.length_map, List.length_range]
      rcases Nat.lt_or_ge i len with hi | hi
      · obtain ⟨h1, x, h2⟩ := hcell i (by omega)
        have hx8 : BitVec.ofInt 8 (x.toNat : Int) = x := by simp
        rw [List.getElem?_take, if_pos hi, List.getElem?_drop, Array.getElem?_toList, h1]
        simp only [List.getElem?_map, List.getElem?_range hi, Option.map_some, h2, Mo.v8, hx8]
      · rw [List.getElem?_take, if_neg (by omega), List.getElem?_eq_none (by simpa using hi)]

theorem law_run2 {G : Mo.Gl} {P : Program} {f : Nat} {args : List Mo.V} {m : Nat → Option Mo.Blk} (h : Mo.Fits G P f args 2 m (.s (.bool true)) []) {vargs : List Value} {W : World} {π : Mo.Loc} (hm : Mo.MemRel π m W)
    (hg : G.g < W.heap.size) (ho : W.heap[G.g]? = some G.obj) (ha : Mo.argsCv π args vargs) : Calls P f vargs.toArray W fun e w' => e = .returned (.bool true) ∧ Below W.heap.size W w' := by
  refine (h.2 π W vargs hm hg ho ha (fun j hj => by cases hj)).mono ?_
  rintro e w' ⟨rv, ns, rfl, hp⟩
  have hrv : rv = .bool true := hp.cv
  subst hrv
  exact ⟨rfl, hp.below⟩
end Go.Proofs.YtamlbiaakogahaaDoor
