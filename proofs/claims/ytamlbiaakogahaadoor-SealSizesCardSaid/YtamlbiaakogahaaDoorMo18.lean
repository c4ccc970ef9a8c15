/- The abstract evaluator, part 18: contracts of functions that range over blocks of bytes, reckoned. -/
import Derived.Test.YtamlbiaakogahaaDoorMo17
namespace Go.Mo
open Go Go.RowKit
noncomputable section

/-- The pieces of a body: behind p codes: (r; block { range g over assign, body }); t. -/
structure Pieces where
  r : Code
  id : Nat
  g : Operand
  p0 : Tmp
  p1 : Tmp
  assign : Code
  body : Code
  t : Code

def pieces : Code → Option Pieces
  | .seq (.seq r (.block id (.rangeFunc g ps assign body))) t =>
    match ps.toList with
    | [p0, p1] => some ⟨r, id, g, p0, p1, assign, body, t⟩
    | _ => none
  | _ => none

theorem pieces_some {c : Code} {q : Pieces} (h : pieces c = some q) : c = .seq (.seq q.r (.block q.id (.rangeFunc q.g #[q.p0, q.p1] q.assign q.body))) q.t := by
  unfold pieces at h
  split at h
  · rename_i r id g ps assign body t
    split at h
    · rename_i p0 p1 hp
      cases h
      have : ps = #[p0, p1] := by rw [← hp]
      rw [this]
    · cases h
  · cases h

/-- What the rounds lean on: which blocks are kept; the box; how the memory is cut after each round; the memory after j rounds. -/
structure Rnd where
  L : List Nat
  bx : Nat
  sl : Sc
  ds : Nat → List Nat
  z : Nat → Nat
  M : Nat → List (Option Blk)

def Ex.ends : Ex → Bool
  | .exit _ => false
  | _ => true

/-- All that is to be reckoned of a function that ranges over blocks. -/
structure Rk where
  start : List (Option Blk)
  rounds : List (Option (List (Bool × Bool) × List (Option Blk)))
  side : Bool
  box : List (Option (Option Sc))
  data : List (Option (List (BitVec 8)))
  it : V
  fin : V
  obs : List (Bool × Bool)
  news : List (Option Blk)

def reckon (K : Cx) (inl : Inl) (fuel : Nat) (fn : Func) (p : Nat) (cargs : List V) (cmem : List (Option (List Seg))) (orc : List (Option Bool)) (E : List Nat) (v : V) (gsl : List (List Seg)) (R : Rnd) (k : Nat) (bs : List (BitVec 8)) : Option Rk :=
  let rg := rgL K inl fuel
  match fn.body with
  | none => none
  | some c =>
    match runHeadsG rg fuel p c (St.mk ((Fr.full 12 fn.ntmps).ofArgs 0 cargs) fn.ntmps (givenO cmem) orc []) with
    | none => none
    | some sA =>
      match pieces (tl p c) with
      | none => none
      | some q =>
        match acodeG rg fuel q.r sA with
        | some (.normal, s) =>
          let fr := cleanFr (memB R.L) s.fr
          match acodeG rg fuel q.t ⟨fr, s.n, R.M k, s.orc, s.obs⟩ with
          | some (x, sF) =>
            match aresults K sF fn.results.toList with
            | none => none
            | some w =>
              some ⟨cutM (R.ds 0) (R.z 0) s.mem,
                (List.range k).map fun j => roundG rg fuel q.assign q.body q.p0 q.p1 fr s.n bs j (R.M j) (R.ds (j + 1)) (R.z (j + 1)),
                (List.range (k + 1)).all (fun j => statM R.L (R.M j)) && (x.ends && ((List.range s.n).all fr.has && (Nat.blt q.p0 s.n && (Nat.blt q.p1 s.n && (memB R.L R.bx &&
                  ((List.range cmem.length).all (fun i => !(memL (givenO cmem) i).isSome || memB R.L i) && sideG fn cargs v E gsl)))))),
                (List.range (k + 1)).map fun j => (memL (R.M j) R.bx).map fun b => getSc b.gs 0,
                (List.range (k + 1)).map fun j => bytesOf (memL (R.M j)) R.sl,
                evL s.fr q.g, w, sF.obs, E.map (memL sF.mem)⟩
          | none => none
        | _ => none

/-- What it should be. -/
def should (fA : Nat) (R : Rnd) (k : Nat) (bs : List (BitVec 8)) (v : V) (obs : List (Bool × Bool)) (gsl : List (List Seg)) : Rk :=
  ⟨R.M 0, (List.range k).map fun j => some ([], R.M (j + 1)), true, (List.range (k + 1)).map fun _ => some (some R.sl), (List.range (k + 1)).map fun _ => some bs, .s (.fn fA [(R.bx, 0)]), v, obs, newBlks gsl⟩

section
variable {G : Gl} {K : Cx} {inl : Inl} {m : Nat → Option Blk} {f : Nat} {fn : Func} {fuel : Nat} {orc : List (Option Bool)} {v : V} {obs : List (Bool × Bool)} {E : List Nat} {gsl : List (List Seg)} {fresh : Nat} {px pc : List V}

theorem reckon_calls (hG : Good G K) (hi : InlOk K.P inl) (hf : K.P.funcs[f]? = some fn) {fA p : Nat} (hfA : enters K.P fA) (hAll : AllOk K.P fA) {cargs : List V} {cmem : List (Option (List Seg))} {R : Rnd} {bs : List (BitVec 8)} (hbs : bs.length ≤ 100000)
    (he : reckon K inl fuel fn p cargs cmem orc E v gsl R (bs.length / 16) bs = some (should fA R (bs.length / 16) bs v obs gsl)) (hobs : ObsOk obs) :
    sideG fn cargs v E gsl = true ∧ ∃ mem, E.map (memL mem) = newBlks gsl ∧ ∀ (π0 : Loc) (w : World) (vargs : List Value), Rel { G with base := π0, ro := none, kw := none, ds := [] } π0 (memL (givenO cmem)) w w → argsCv π0 cargs vargs →
      Calls K.P f vargs.toArray w fun e w' => ∃ rv π', e = .returned rv ∧ v.cv π' rv ∧ Rel { G with base := π0, ro := none, kw := none, ds := [] } π' (memL mem) w w' := by
  unfold reckon at he
  simp only at he
  split at he
  · cases he
  · rename_i c hb
    split at he
    · cases he
    · rename_i sA hA
      split at he
      · cases he
      · rename_i q hq
        have hc := pieces_some hq
        split at he
        · rename_i s hr
          split at he
          · rename_i x sF ht
            split at he
            · cases he
            · rename_i w hv
              simp only [should, Option.some.injEq, Rk.mk.injEq] at he
              obtain ⟨e1, e2, e3, e4, e5, e6, rfl, rfl, e9⟩ := he
              simp only [Bool.and_eq_true] at e3
              obtain ⟨a1, a0, a2, a3, a4, a5, a6, a7⟩ := e3
              have hside := a7
              simp only [sideG, Bool.and_eq_true, Bool.not_eq_true'] at a7
              obtain ⟨s1, s2, s3, _⟩ := a7
              have hstat : ∀ j, j ≤ bs.length / 16 → statM R.L (R.M j) = true := fun j hj => List.all_eq_true.1 a1 j (by simpa using Nat.lt_succ_of_le hj)
              refine ⟨hside, sF.mem, e9, fun π0 w0 vargs hR ha => ?_⟩
              have hxx : x = .normal ∨ x = .ret := by
                cases x with
                | normal => exact .inl rfl
                | ret => exact .inr rfl
                | exit id => cases a0
              refine range_calls hG hi p hf hb (Nat.le_of_ble_eq_true s2) (Nat.le_of_ble_eq_true s3) hc hA hr hfA hAll (L := R.L) (sl := R.sl) (bx := R.bx) (bs := bs) (M := R.M) ?_ e6 ?_ ?_ ht hxx hv hobs π0 w0 vargs hR ha
              · refine ⟨hbs, fun j hj => ?_, fun j hj => ?_, fun j i hj hi' => ?_, fun j hj => ?_, fun j hj => ?_, a5, fun i hi' => List.all_eq_true.1 a2 i (by simpa using hi'), Nat.le_of_ble_eq_true a3, Nat.le_of_ble_eq_true a4⟩
                · have := congrArg (·[j]?) e2
                  simp only [List.getElem?_map, List.getElem?_range hj, Option.map_some, Option.some.injEq] at this
                  exact roundG_some this
                · have := hstat j hj
                  simp only [statM, Bool.and_eq_true] at this
                  exact this.1
                · have := hstat j hj
                  simp only [statM, Bool.and_eq_true] at this
                  have h2 := List.all_eq_true.1 this.2 i (memB_iff.1 hi')
                  intro q; rw [q] at h2; cases h2
                · have := congrArg (·[j]?) e4
                  simp only [List.getElem?_map, List.getElem?_range (Nat.lt_succ_of_le hj), Option.map_some, Option.some.injEq, Option.map_eq_some_iff] at this
                  exact this
                · have := congrArg (·[j]?) e5
                  simp only [List.getElem?_map, List.getElem?_range (Nat.lt_succ_of_le hj), Option.map_some, Option.some.injEq] at this
                  exact this
              · intro i b hb'
                rw [← e1] at hb'
                exact cutM_sub hb'
              · intro i hne
                have hlt : i < cmem.length := by
                  rcases Nat.lt_or_ge i cmem.length with q | q
                  · exact q
                  · exfalso; apply hne; rw [givenO_get]; simp [List.getElem?_eq_none q]
                have := List.all_eq_true.1 a6 i (by simpa using hlt)
                simp only [Bool.or_eq_true, Bool.not_eq_true'] at this
                rcases this with q | q
                · cases hm : memL (givenO cmem) i with
                  | none => exact absurd hm hne
                  | some b => rw [hm] at q; cases q
                · exact q
          · cases he
        · cases he

theorem fits_TBR (hG : Good G K) (hi : InlOk K.P inl) (hf : K.P.funcs[f]? = some fn) {fA p' : Nat} (hfA : enters K.P fA) (hAll : AllOk K.P fA) {t c : Nat} {p : TP} {x y : Blk} (h1 : m t = some x) (h2 : x.gs = tabC (.ptr c 0) p.st p.dl p.bl) (h3 : m c = some y) (h4 : y.gs = ciphC p.kf p.kb p.k p.T)
    {b : V} {n : Nat} {l : List (BitVec 8)} (hn : n ≤ 100000) (hin : ByIn m 1 b n l) (hp : Pures px pc) (hent : enters K.P f) {R : Rnd}
    (he : reckon K inl fuel fn p' (.s (.ptr 0 0) :: (pc ++ [argB 2 n])) (memT p (memBy n l) none) orc E v gsl R (n / 16) l = some (should fA R (n / 16) l v obs gsl)) (hobs : l.length = n → ObsOk obs) :
    Fits G K.P f (.s (.ptr t 0) :: (px ++ [b])) fresh m (v.ren (newIdx E fresh)) (gsl.map (renSegs (newIdx E fresh))) := by
  refine Fits.introM hent fun π w vargs hm _ => ?_
  obtain ⟨hl, bb, oo, hb1, hb2⟩ := hin.win (by omega) hm
  rw [Nat.mul_one] at hl
  subst hl
  obtain ⟨hs, mem, hE, hcall⟩ := reckon_calls hG hi hf hfA hAll hn he (hobs rfl)
  simp only [sideG, Bool.and_eq_true, Bool.not_eq_true'] at hs
  obtain ⟨s1, s2, s3, s4, s5, s6⟩ := hs
  refine fits_calls (mem := mem) (E := E) (gsl := gsl) hent hcall hE s4 s5 s6 (sees_T h1 h2 h3 h4 hb1 (byAt_nil (b := 0) (o := 0))) fresh (fun π w vargs hm => argsW_cons (fun v hv => ?_) (fun _ => argsW_app (hp _ _) (fun _ => argsW_cons (fun v hv => ?_) (fun _ => argsW_nil))))
  · exact ptr_cv (σ := lk [t, c, bb, 0]) (i := 0) rfl rfl hv
  · exact argB_cv (σ := lk [t, c, bb, 0]) (o := lk [0, 0, oo, 0]) (i := 2) (hb2 π w v hm hv) (fun hne => by show some (memBy l.length l) = _; rw [memBy_ne hne])
end
end
end Go.Mo
