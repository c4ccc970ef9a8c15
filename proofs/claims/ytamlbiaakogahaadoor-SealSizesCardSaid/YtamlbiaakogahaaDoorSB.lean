/- Same: the contract, one that asks. -/
import Derived.Test.YtamlbiaakogahaaDoorSA
import Derived.Test.YtamlbiaakogahaaDoorMo17
namespace Go.Mo
open Go Go.RowKit

theorem byAt_cells {π : Loc} {m : Nat → Option Blk} {w : World} {b o : Nat} {l : List (BitVec 8)} (hm : MemRel π m w) (hb : ByAt m b o l) {p : Pl} (hp : π b = some p) {j : Nat} (hj : j < l.length) :
    w.cell? ⟨p.n, p.base + o + j, none⟩ = some (v8 l[j]) := by
  have hne : l ≠ [] := fun e => by subst e; exact absurd hj (Nat.not_lt_zero _)
  obtain ⟨blk, k1, k2⟩ := hb hne
  obtain ⟨p', vs, T, fz, e1, h1, h2, h3, h4⟩ := hm b blk k1
  rw [hp] at e1; cases e1
  obtain ⟨_, a, r, g2, g3, g4⟩ := getSegs_cv h4 k2
  have g4 : r = [] := g4
  subst g4
  obtain ⟨_, g6⟩ := g3
  rw [List.append_nil, g6] at g2
  have h5 := congrArg (·[j]?) g2
  simp only [cut, List.getElem?_take, hj, if_true, List.getElem?_drop, List.getElem?_map, List.getElem?_eq_getElem hj, Option.map_some] at h5
  split at h5
  · simp only [World.cell?, h1]
    rw [← Nat.add_assoc] at h5
    simpa using h5
  · cases h5

/-- A contract out of a walk that leaves all as it lay. -/
theorem fits_walk {G : Gl} {P : Program} {f : Nat} {args : List V} {fresh : Nat} {m : Nat → Option Blk} {x : Sc} (he : enters P f)
    (h : ∀ (π : Loc) (w : World) (vargs : List Value), MemRel π m w → argsCv π args vargs → Calls P f vargs.toArray w fun e w' => ∃ rv, e = .returned rv ∧ (∀ π', x.cv π' rv) ∧ Below w.heap.size w w') : Fits G P f args fresh m (.s x) [] := by
  refine ⟨he, fun π w vargs hm _ _ ha _ => (h π w vargs hm ha).mono ?_⟩
  rintro e w' ⟨rv, rfl, hv, hB⟩
  exact ⟨rv, [], rfl, ⟨rfl, List.nodup_nil, fun p hp => (by cases hp), hB, hv _, fun j p gs hj => by simp at hj⟩⟩

end Go.Mo
namespace Go.Proofs.YtamlbiaakogahaaDoor
open Go Go.Mo Go.RowKit

theorem same_bytes {π : Mo.Loc} {m : Nat → Option Blk} {w : World} {b o b' o' : Nat} {l l' : List (BitVec 8)} {v v' : Value} (hm : MemRel π m w) (hb : ByAt m b o l) (hb' : ByAt m b' o' l') (hv : BySl π 1 b o l.length v) (hv' : BySl π 1 b' o' l'.length v')
    (hl : l.length ≤ 100000) (hl' : l'.length ≤ 100000) : Calls Tryd.prog 60 #[v, v'] w fun e w' => e = .returned (.bool (decide (l = l'))) ∧ Below w.heap.size w w' := by
  by_cases h0 : l.length = 0 ∨ l'.length = 0
  · have hvv : ∀ {b o : Nat} {l : List (BitVec 8)} {v : Value}, BySl π 1 b o l.length v → ∃ a c, v = .slice a l.length c := by
      rintro b o l v (⟨h, a, c, rfl⟩ | ⟨_, p, c, _, rfl, _, _⟩)
      · exact ⟨a, c, by rw [h]⟩
      · exact ⟨_, c, rfl⟩
    obtain ⟨a, c, rfl⟩ := hvv hv
    obtain ⟨a', c', rfl⟩ := hvv hv'
    refine (same_run0 w l.length l'.length c c' a a' h0).mono ?_
    rintro e w' ⟨rfl, hB⟩
    refine ⟨?_, hB⟩
    congr 2
    refine decide_eq_decide.2 ⟨fun h => ?_, fun h => by rw [h]⟩
    have h1 : l.length = 0 := by omega
    have h2 : l'.length = 0 := by omega
    rw [List.length_eq_zero_iff.1 h1, List.length_eq_zero_iff.1 h2]
  · rcases hv with ⟨q, _⟩ | ⟨_, p, c, hp, rfl, hc, _⟩
    · exact absurd (.inl q) h0
    rcases hv' with ⟨q, _⟩ | ⟨_, p', c', hp', rfl, hc', _⟩
    · exact absurd (.inr q) h0
    have hf : ∀ j, j < l.length → w.cell? ⟨p.n, p.base + o + j, none⟩ = some (.int .u8 ((l.getD j 0).toNat : Int)) := by
      intro j hj
      rw [byAt_cells hm hb hp hj]
      simp [v8, List.getD, hj]
    have hg : ∀ j, j < l'.length → w.cell? ⟨p'.n, p'.base + o' + j, none⟩ = some (.int .u8 ((l'.getD j 0).toNat : Int)) := by
      intro j hj
      rw [byAt_cells hm hb' hp' hj]
      simp [v8, List.getD, hj]
    refine (same_run w l.length l'.length c c' p.n (p.base + o) p'.n (p'.base + o') (fun j => ((l.getD j 0).toNat : Int)) (fun j => ((l'.getD j 0).toNat : Int)) hl hl' hc hc' hf hg).mono ?_
    rintro e w' ⟨rfl, hB⟩
    refine ⟨?_, hB⟩
    congr 2
    refine decide_eq_decide.2 ⟨fun ⟨h1, h2⟩ => ?_, fun h => by rw [h]; exact ⟨rfl, fun _ _ => rfl⟩⟩
    apply List.ext_getElem h1
    intro j hj hj'
    have := h2 j hj
    simp only [List.getD, List.getElem?_eq_getElem hj, List.getElem?_eq_getElem hj', Option.getD_some] at this
    exact BitVec.eq_of_toNat_eq (by omega)

/-- Two strings of bytes are the same: whether they are is a test. -/
def aS_Same : Asp := fun args _fresh =>
  match args with
  | [x, y] => rdS 100000 x fun c _n l => rdS 100000 y fun c' _n' l' => .pure (c && (c' && decide (l = l')), (.s (.bool true), []), (.s (.bool false), []))
  | _ => .fail
theorem a_Same (G : Gl) : AskOk1 G Tryd.prog 60 true aS_Same := by
  intro args fresh m b x y fp hx hb
  have hb := hb rfl
  subst hb
  unfold aS_Same at hx
  split at hx
  · obtain ⟨c, n, l, fp1, h1, h2⟩ := rdS_run hx
    obtain ⟨c', n', l', fp2, h3, h4⟩ := rdS_run h1
    have h5 : (c && (c' && decide (l = l'))) = true ∧ x = (.s (.bool true), []) := by
      simp only [Rd.run, Option.some.injEq, Prod.mk.injEq] at h3
      exact ⟨h3.1.1, h3.1.2.1.symm⟩
    obtain ⟨hc, rfl⟩ := h5
    simp only [Bool.and_eq_true] at hc
    obtain ⟨c1, c2, c3⟩ := hc
    obtain ⟨hn, hin⟩ := h2 c1
    obtain ⟨hn', hin'⟩ := h4 c2
    have c3 := of_decide_eq_true c3
    subst c3
    refine fits_walk (Go.Mo.enters_of Tryd.func60 (by kernel_rfl)) fun π w vargs hm ha => ?_
    obtain ⟨v, vr, rfl, g1, v', vr', rfl, g2, g3⟩ := ha
    have g3 : vr' = [] := g3
    subst g3
    obtain ⟨bb, oo, k1, k2⟩ := hin.win1 hm
    obtain ⟨bb', oo', k1', k2'⟩ := hin'.win1 hm
    obtain ⟨e1, _⟩ := hin.win (by omega) hm
    refine (same_bytes hm k1 k1' (k2 π w v hm g1) (k2' π w v' hm g2) (by omega) (by omega)).mono ?_
    rintro e w' ⟨rfl, hB⟩
    exact ⟨_, rfl, fun π' => by simp [Sc.cv], hB⟩
  · cases hx
end Go.Proofs.YtamlbiaakogahaaDoor
