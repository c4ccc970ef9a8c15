/- The abstract evaluator, part 11: from the evaluation of a function's body to the function's contract. -/
import Derived.Test.YtamlbiaakogahaaDoorMo8
namespace Go.Mo
open Go Go.RowKit

/-! ### Numbers of blocks, renamed -/

def renCaps (σ : Nat → Nat) : List (Nat × Nat) → List (Nat × Nat)
  | [] => []
  | (b, o) :: r => (σ b, o) :: renCaps σ r

def Sc.ren (σ : Nat → Nat) : Sc → Sc
  | .ptr b o => .ptr (σ b) o
  | .pix b o x => .pix (σ b) o x
  | .slice b o l c => .slice (σ b) o l c
  | .osl b o l z => .osl (σ b) o l z
  | .fn f caps => .fn f (renCaps σ caps)
  | x => x

def Seg.ren (σ : Nat → Nat) : Seg → Seg
  | .s x => .s (x.ren σ)
  | g => g

def renSegs (σ : Nat → Nat) : List Seg → List Seg
  | [] => []
  | g :: r => g.ren σ :: renSegs σ r

def renTup (σ : Nat → Nat) : List (Bool × List Seg) → List (Bool × List Seg)
  | [] => []
  | (b, gs) :: r => (b, renSegs σ gs) :: renTup σ r

def V.ren (σ : Nat → Nat) : V → V
  | .s x => .s (x.ren σ)
  | .a gs => .a (renSegs σ gs)
  | .t l => .t (renTup σ l)

def renArgs (σ : Nat → Nat) : List V → List V
  | [] => []
  | x :: r => x.ren σ :: renArgs σ r

/-- All blocks that are named are among these. -/
def capsBelow (ok : Nat → Bool) : List (Nat × Nat) → Bool
  | [] => true
  | (b, _) :: r => ok b && capsBelow ok r

def Sc.below (ok : Nat → Bool) : Sc → Bool
  | .ptr b _ => ok b
  | .pix b _ _ => ok b
  | .slice b _ _ _ => ok b
  | .osl b _ _ _ => ok b
  | .fn _ caps => capsBelow ok caps
  | _ => true

def segsBelow (ok : Nat → Bool) : List Seg → Bool
  | [] => true
  | .s x :: r => x.below ok && segsBelow ok r
  | _ :: r => segsBelow ok r

def tupBelow (ok : Nat → Bool) : List (Bool × List Seg) → Bool
  | [] => true
  | (_, gs) :: r => segsBelow ok gs && tupBelow ok r

def V.below (ok : Nat → Bool) : V → Bool
  | .s x => x.below ok
  | .a gs => segsBelow ok gs
  | .t l => tupBelow ok l

section
variable {π' π : Loc} {σ : Nat → Nat} {ok : Nat → Bool}

theorem ren_caps (h : ∀ i n, ok i = true → (π' i = some n ↔ π (σ i) = some n)) : ∀ {l : List (Nat × Nat)} {vs : List Value}, capsBelow ok l = true → (capsCv π' l vs ↔ capsCv π (renCaps σ l) vs)
  | [], _, _ => Iff.rfl
  | (b, o) :: r, vs, hb => by
    simp only [capsBelow, Bool.and_eq_true] at hb
    have hlt : ok b = true := hb.1
    simp only [capsCv, renCaps]
    constructor
    · rintro ⟨n, vr, h1, h2, h3⟩; exact ⟨n, vr, (h b n hlt).1 h1, h2, (ren_caps h hb.2).1 h3⟩
    · rintro ⟨n, vr, h1, h2, h3⟩; exact ⟨n, vr, (h b n hlt).2 h1, h2, (ren_caps h hb.2).2 h3⟩

theorem ren_sc (h : ∀ i n, ok i = true → (π' i = some n ↔ π (σ i) = some n)) {x : Sc} {v : Value} (hb : x.below ok = true) : x.cv π' v ↔ (x.ren σ).cv π v := by
  cases x <;> simp only [Sc.ren, Sc.cv] <;> simp only [Sc.below] at hb
  · rename_i b o
    have hlt : ok b = true := hb
    simp only [h b _ hlt]
  · rename_i b o x
    have hlt : ok b = true := hb
    simp only [h b _ hlt]
  · rename_i b o l c
    have hlt : ok b = true := hb
    simp only [h b _ hlt]
  · rename_i b o l c
    have hlt : ok b = true := hb
    simp only [h b _ hlt]
  · simp only [ren_caps h hb]

theorem ren_segs (h : ∀ i n, ok i = true → (π' i = some n ↔ π (σ i) = some n)) : ∀ {gs : List Seg} {vs : List Value}, segsBelow ok gs = true → (segsCv π' gs vs ↔ segsCv π (renSegs σ gs) vs)
  | [], _, _ => Iff.rfl
  | .s x :: r, vs, hb => by
    simp only [segsBelow, Bool.and_eq_true] at hb
    simp only [segsCv, renSegs, Seg.cv, Seg.ren, ren_segs h hb.2, ren_sc h hb.1]
  | .b8 n l :: r, vs, hb => by
    simp only [segsBelow] at hb
    simp only [segsCv, renSegs, Seg.cv, Seg.ren, ren_segs h hb]
  | .b32 n l :: r, vs, hb => by
    simp only [segsBelow] at hb
    simp only [segsCv, renSegs, Seg.cv, Seg.ren, ren_segs h hb]
  | .is n l :: r, vs, hb => by
    simp only [segsBelow] at hb
    simp only [segsCv, renSegs, Seg.cv, Seg.ren, ren_segs h hb]

theorem ren_size (σ : Nat → Nat) : ∀ (gs : List Seg), segsSize (renSegs σ gs) = segsSize gs
  | [] => rfl
  | .s _ :: r => by simp only [renSegs, segsSize, Seg.ren, Seg.size, ren_size σ r]
  | .b8 _ _ :: r => by simp only [renSegs, segsSize, Seg.ren, Seg.size, ren_size σ r]
  | .b32 _ _ :: r => by simp only [renSegs, segsSize, Seg.ren, Seg.size, ren_size σ r]
  | .is _ _ :: r => by simp only [renSegs, segsSize, Seg.ren, Seg.size, ren_size σ r]

theorem ren_comp (h : ∀ i n, ok i = true → (π' i = some n ↔ π (σ i) = some n)) {b : Bool} {gs : List Seg} {v : Value} (hb : segsBelow ok gs = true) : compCv π' (b, gs) v ↔ compCv π (b, renSegs σ gs) v := by
  cases b with
  | false => simp only [compCv, ren_segs h hb]
  | true =>
    match gs, hb with
    | [], _ => exact Iff.rfl
    | [.s x], hb =>
      simp only [segsBelow, Bool.and_true] at hb
      simp only [renSegs, Seg.ren, compCv, ren_sc h hb]
    | [.b8 _ _], _ => exact Iff.rfl
    | [.b32 _ _], _ => exact Iff.rfl
    | [.is _ _], _ => exact Iff.rfl
    | .s _ :: _ :: _, _ => exact Iff.rfl
    | .b8 _ _ :: _ :: _, _ => exact Iff.rfl
    | .b32 _ _ :: _ :: _, _ => exact Iff.rfl
    | .is _ _ :: _ :: _, _ => exact Iff.rfl

theorem ren_tup (h : ∀ i n, ok i = true → (π' i = some n ↔ π (σ i) = some n)) : ∀ {l : List (Bool × List Seg)} {vs : List Value}, tupBelow ok l = true → (tupCv π' l vs ↔ tupCv π (renTup σ l) vs)
  | [], _, _ => Iff.rfl
  | (b, gs) :: r, vs, hb => by
    simp only [tupBelow, Bool.and_eq_true] at hb
    simp only [tupCv, renTup, ren_comp h hb.1, ren_tup h hb.2]

theorem ren_v (h : ∀ i n, ok i = true → (π' i = some n ↔ π (σ i) = some n)) {x : V} {v : Value} (hb : x.below ok = true) : x.cv π' v ↔ (x.ren σ).cv π v := by
  cases x with
  | s x => exact ren_sc h hb
  | a gs => simp only [V.cv, V.ren, ren_segs h hb]
  | t l => simp only [V.cv, V.ren, ren_tup h hb]

theorem ren_args (h : ∀ i n, ok i = true → (π' i = some n ↔ π (σ i) = some n)) : ∀ {l : List V} {vs : List Value}, (∀ x ∈ l, x.below ok = true) → (argsCv π' l vs ↔ argsCv π (renArgs σ l) vs)
  | [], _, _ => Iff.rfl
  | x :: r, vs, hb => by
    have ih : ∀ us, argsCv π' r us ↔ argsCv π (renArgs σ r) us := fun us => ren_args h fun y hy => hb y (List.mem_cons_of_mem _ hy)
    simp only [argsCv, renArgs, ren_v h (hb x (by simp)), ih]
end

/-! ### A function's body -/

section
variable {G : Gl} {K : Cx} {π : Loc} {w0 w : World} {P : Program} {n : Nat} {a : Act}

theorem ofArgs_get : ∀ (l : List V) (f : Fr) (k i : Nat), (∀ j, k ≤ j → j < k + l.length → f.has j = true) →
    (f.ofArgs k l).get i = if k ≤ i ∧ i < k + l.length then l.getD (i - k) (.s .any) else f.get i
  | [], f, k, i, _ => by
    simp only [Fr.ofArgs, List.length_nil]
    rw [if_neg (by omega)]
  | x :: r, f, k, i, h => by
    simp only [List.length_cons] at h
    simp only [Fr.ofArgs, List.length_cons]
    rw [ofArgs_get r _ _ _ (fun j h1 h2 => by rw [Fr.has_set]; exact h j (by omega) (by omega)), Fr.get_set _ _ _ _ (h k (by omega) (by omega))]
    by_cases e : i = k
    · subst e
      rw [if_neg (by omega), if_pos rfl, if_pos (by omega)]
      simp
    · by_cases h2 : k + 1 ≤ i ∧ i < k + 1 + r.length
      · rw [if_pos h2, if_pos (by omega), show i - k = (i - (k + 1)) + 1 by omega]
        simp
      · rw [if_neg h2, if_neg e, if_neg (by omega)]

theorem ofArgs_has : ∀ (l : List V) (f : Fr) (k i : Nat), (f.ofArgs k l).has i = f.has i
  | [], _, _, _ => rfl
  | x :: r, f, k, i => by simp only [Fr.ofArgs]; rw [ofArgs_has r, Fr.has_set]

theorem argsCv_length : ∀ {l : List V} {vs : List Value}, argsCv π l vs → vs.length = l.length
  | [], _, e => by subst e; rfl
  | _ :: _, _, ⟨_, _, e, _, h⟩ => by subst e; simp [argsCv_length h]

theorem argsCv_getD : ∀ {l : List V} {vs : List Value} {i : Nat}, argsCv π l vs → i < l.length → (l.getD i (.s .any)).cv π (vs.getD i undef)
  | [], _, _, _, h => by simp at h
  | _ :: _, _, 0, ⟨_, _, e, h, _⟩, _ => by subst e; simpa using h
  | _ :: _, _, i + 1, ⟨_, _, e, _, hr⟩, h => by
    subst e
    have := argsCv_getD (i := i) hr (by simpa using h)
    simpa using this

theorem relS_init {m : Nat → Option Blk} {args : List V} {vargs : List Value} {nt : Nat} (hR : Rel G π m w w) (ha : argsCv π args vargs) (h1 : args.length ≤ nt) (h2 : nt < 4096) :
    RelS G π ⟨((Fr.full 12 nt).ofArgs 0 args).get, m⟩ nt w ⟨vargs.toArray ++ Array.replicate (nt - vargs.toArray.size) undef, []⟩ w := by
  have hl := argsCv_length ha
  refine ⟨hR, rfl, by simp; omega, fun i => ?_⟩
  show (Fr.get _ i).cv π _
  rw [ofArgs_get args _ 0 i (fun j _ hj => Fr.full_has 12 nt j (by simpa using h2) (by omega))]
  have hg : ∀ (j : Nat), (vargs.toArray ++ Array.replicate (nt - vargs.toArray.size) undef).getD j undef = vargs.getD j undef := by
    intro j
    simp only [Array.getD_eq_getD_getElem?, Array.getElem?_append, List.size_toArray, List.getElem?_toArray, List.getD]
    split
    · rfl
    · rename_i hj
      rw [List.getElem?_eq_none (by omega)]
      rw [Array.getElem?_replicate]
      split <;> rfl
  simp only
  rw [hg]
  split
  · rename_i hi
    simpa using argsCv_getD ha (by omega)
  · rename_i hi
    have : vargs.getD i undef = undef := by
      simp only [List.getD]
      rw [List.getElem?_eq_none (by omega)]; rfl
    rw [this]
    rcases Fr.full_get 12 nt i with e | e <;> rw [e]
    · rfl
    · exact True.intro

def resOf (tmps : Array Value) (r : ResultVar) : Sem Value :=
  match r with
  | .tmp t => pure (tmps.getD t undef)
  | .cell a t => do loadVar t (← asAddr (tmps.getD a undef))

theorem results_eq (fn : Func) (tmps : Array Value) : results fn tmps = (do
    let vs ← fn.results.mapM (resOf tmps)
    pure (if h : vs.size = 1 then vs[0] else .tuple vs)) := rfl

theorem aresult_run {s : St} {r : ResultVar} {b : Bool} {gs : List Seg} (h : aresult K s r = some (b, gs)) (hR : RelS G π s.fs n w0 a w) :
    ∃ v, (resOf a.tmps r).run K.P w = .ok v w ∧ compCv π (b, gs) v := by
  unfold aresult at h
  split at h
  · rename_i t
    have hs := hR.slots t
    simp only [St.fs] at hs
    split at h
    · rename_i x hx
      cases h
      rw [hx] at hs
      exact ⟨_, rfl, hs⟩
    · rename_i gs hx
      cases h
      rw [hx] at hs
      exact ⟨_, rfl, hs⟩
    · cases h
  · rename_i c t
    have hs := hR.slots c
    simp only [St.fs] at hs
    split at h
    · rename_i bl off sz hx hty
      rw [hx] at hs
      obtain ⟨n', hn, hv⟩ := hs
      obtain ⟨ha, i, hi, rfl⟩ := tyAgg_true hty
      split at h
      · rename_i blk hb
        split at h
        · rename_i gs' hg
          cases h
          obtain ⟨n'', vs, T, fz, e1, e2, _⟩ := hR.mem.blk bl blk hb
          rw [hn] at e1; cases e1
          obtain ⟨us, h1, hcv⟩ := e2.cells (P := K.P) hg
          refine ⟨.agg us.toArray, ?_, ⟨_, rfl, hcv⟩⟩
          simp only [resOf, hv, asAddr, Sem.run_bind, Sem.run_pure, Result.andThen_ok, loadVar, ha, if_true, run_size hi, h1]
        · cases h
      · cases h
    · rename_i bl off sz hx hty
      rw [hx] at hs
      obtain ⟨n', hn, hv⟩ := hs
      obtain ⟨ha, i, hi, rfl⟩ := tyAgg_false hty
      split at h
      · rename_i blk hb
        split at h
        · rename_i y hg
          cases h
          obtain ⟨n'', vs, T, fz, e1, e2, _⟩ := hR.mem.blk bl blk hb
          rw [hn] at e1; cases e1
          obtain ⟨u, hu, hcv⟩ := e2.cell (P := K.P) hg
          refine ⟨u, ?_, hcv⟩
          simp only [resOf, hv, asAddr, Sem.run_bind, Sem.run_pure, Result.andThen_ok, loadVar, ha, Bool.false_eq_true, if_false, hu]
        · cases h
      · cases h
    · cases h

theorem aresultsL_run {s : St} (hR : RelS G π s.fs n w0 a w) : ∀ {rs : List ResultVar} {l : List (Bool × List Seg)}, aresultsL K s rs = some l →
    ∃ vs, (rs.mapM (resOf a.tmps)).run K.P w = .ok vs w ∧ tupCv π l vs
  | [], l, h => by cases h; exact ⟨[], by simp, rfl⟩
  | r :: rs, l, h => by
    simp only [aresultsL] at h
    split at h
    · rename_i x xs h1 h2
      cases h
      obtain ⟨b, gs⟩ := x
      obtain ⟨v, e1, e2⟩ := aresult_run h1 hR
      obtain ⟨vs, e3, e4⟩ := aresultsL_run hR h2
      refine ⟨v :: vs, ?_, v, vs, rfl, e2, e4⟩
      simp only [List.mapM_cons, Sem.run_bind, e1, e3, Result.andThen_ok, Sem.run_pure]
    · cases h

theorem aresults_run {s : St} {fn : Func} {v : V} (hR : RelS G π s.fs n w0 a w) (h : aresults K s fn.results.toList = some v) : ∃ rv, (results fn a.tmps).run K.P w = .ok rv w ∧ v.cv π rv := by
  unfold aresults at h
  have key : ∀ l vs, (fn.results.toList.mapM (resOf a.tmps)).run K.P w = .ok vs w →
      tupCv π l vs → (results fn a.tmps).run K.P w = .ok (if h : vs.length = 1 then vs[0] else .tuple vs.toArray) w := by
    intro l vs hrun _
    rw [results_eq, Array.mapM_eq_mapM_toList]
    simp only [Sem.run_bind, Sem.run_map]
    rw [hrun]
    simp only [Result.andThen_ok, Sem.run_pure, List.size_toArray, List.getElem_toArray]
  split at h
  · rename_i x hl
    cases h
    obtain ⟨vs, e1, e2⟩ := aresultsL_run hR hl
    refine ⟨_, key _ _ e1 e2, ?_⟩
    obtain ⟨u, ur, rfl, hu, hr⟩ := e2
    have : ur = [] := hr
    subst this
    exact hu
  · rename_i gs hl
    cases h
    obtain ⟨vs, e1, e2⟩ := aresultsL_run hR hl
    refine ⟨_, key _ _ e1 e2, ?_⟩
    obtain ⟨u, ur, rfl, hu, hr⟩ := e2
    have : ur = [] := hr
    subst this
    exact hu
  · cases h
  · rename_i l h1 h2 h3 hl
    cases h
    obtain ⟨vs, e1, e2⟩ := aresultsL_run hR hl
    refine ⟨_, key _ _ e1 e2, ?_⟩
    have hlen : vs.length ≠ 1 := by
      intro hq
      match l, vs, e2, hq with
      | [x], _, _, _ => exact h3 x rfl
      | [], _, e2, hq => have : _ = [] := e2; subst this; simp at hq
      | x :: y :: r, _, ⟨u, ur, e, _, ⟨u2, ur2, e2', _, _⟩⟩, hq => subst e; subst e2'; simp at hq
    rw [dif_neg hlen]
    exact ⟨vs, rfl, e2⟩
  · cases h

/-- A call, by the evaluation of its body. -/
theorem afunc_calls (hG : Good G K) {fuel f : Nat} {fn : Func} {args : List V} {mem : List (Option Blk)} {orc : List (Option Bool)} {v : V} {s' : St} (hf : K.P.funcs[f]? = some fn)
    (h : afunc K fuel fn args mem orc = some (v, s')) (hobs : ObsOk s'.obs) (h1 : args.length ≤ fn.ntmps) (h2 : fn.ntmps < 4096) {vargs : List Value}
    (hR : Rel G π (memL mem) w w) (ha : argsCv π args vargs) :
    Calls K.P f vargs.toArray w (fun e w' => ∃ rv π', e = .returned rv ∧ v.cv π' rv ∧ Rel G π' (memL s'.mem) w w') := by
  unfold afunc at h
  split at h
  · cases h
  · rename_i c hb
    have hinit := relS_init hR ha h1 h2
    have hok : (St.mk ((Fr.full 12 fn.ntmps).ofArgs 0 args) fn.ntmps mem orc []).ok := fun i hi => by
      show (Fr.ofArgs _ _ _).has i = true
      rw [ofArgs_has]; exact Fr.full_has 12 fn.ntmps i (by simpa using h2) hi
    refine calls_of_wp hf hb ?_
    split at h
    · rename_i s1 hc
      split at h
      · rename_i v' hv
        cases h
        obtain ⟨e1, e2, e3⟩ := acode_wp (w0 := w) hG fuel c _ _ _ hok hc
        refine (e3 hobs).2 _ π _ w hinit fun π' a' w' hR' => ?_
        obtain ⟨rv, hrv, hcv⟩ := aresults_run hR' hv
        exact ⟨hR'.defers, rv, hrv, rv, π', rfl, hcv, hR'.mem⟩
      · cases h
    · rename_i s1 hc
      split at h
      · rename_i v' hv
        cases h
        obtain ⟨e1, e2, e3⟩ := acode_wp (w0 := w) hG fuel c _ _ _ hok hc
        refine (e3 hobs).2 _ π _ w hinit fun π' a' w' hR' => ?_
        obtain ⟨rv, hrv, hcv⟩ := aresults_run hR' hv
        exact ⟨hR'.defers, rv, hrv, rv, π', rfl, hcv, hR'.mem⟩
      · cases h
    · cases h

/-! ### Contracts -/

/-- The callee's view of where things lie: its first k blocks are the caller's, by σ. -/
def under (π : Loc) (σ : Nat → Nat) (k : Nat) : Loc := fun i => if i < k then π (σ i) else none

/-- The blocks that a callee is told of, in its own numbers. -/
def given : List (List Seg) → List (Option Blk)
  | [] => []
  | gs :: r => some ⟨gs, false⟩ :: given r

theorem given_get : ∀ (l : List (List Seg)) (i : Nat), memL (given l) i = (l[i]?).map (⟨·, false⟩)
  | [], i => by simp [given, memL_nil]
  | gs :: r, 0 => by simp [given, memL_zero]
  | gs :: r, i + 1 => by
    have := given_get r i
    simp [given, memL_succ, this]

def upTo (k i : Nat) : Bool := Nat.blt i k

theorem upTo_lt {k i : Nat} (h : upTo k i = true) : i < k := Nat.le_of_ble_eq_true h

structure Told (K : Cx) (f : Nat) (fn : Func) (fuel : Nat) (cargs : List V) (cmem : List (List Seg)) (orc : List (Option Bool)) (v : V) (s' : St) : Prop where
  fnat : K.P.funcs[f]? = some fn
  name : (fn.name == "runtime.NumGoroutine") = false
  eval : afunc K fuel fn cargs (given cmem) orc = some (v, s')
  obs : ObsOk s'.obs
  len : Nat.ble cargs.length fn.ntmps = true
  few : Nat.ble (fn.ntmps + 1) 4096 = true
  argsB : (cargs.all (V.below (upTo cmem.length) ·)) = true
  memB : (cmem.all (segsBelow (upTo cmem.length) ·)) = true

theorem Told.enters {f : Nat} {fn : Func} {fuel : Nat} {cargs : List V} {cmem : List (List Seg)} {orc : List (Option Bool)} {v : V} {s' : St} (h : Told K f fn fuel cargs cmem orc v s') : enters K.P f := by
  refine ⟨fn, h.fnat, ?_, h.name⟩
  have := h.eval
  unfold afunc at this
  cases hb : fn.body with
  | none => rw [hb] at this; cases this
  | some c => rfl

/-- What the caller's memory must hold for the callee's view of it. -/
def Sees (σ : Nat → Nat) (m : Nat → Option Blk) (cmem : List (List Seg)) : Prop :=
  ∀ (i : Nat) (gs : List Seg), cmem[i]? = some gs → ∃ b, m (σ i) = some b ∧ b.gs = renSegs σ gs

theorem Told.calls (hG : Good G K) {f : Nat} {fn : Func} {fuel : Nat} {cargs : List V} {cmem : List (List Seg)} {orc : List (Option Bool)} {v : V} {s' : St} (h : Told K f fn fuel cargs cmem orc v s')
    {σ : Nat → Nat} {m : Nat → Option Blk} {vargs : List Value} (hm : MemRel π m w) (hlt : G.g < w.heap.size) (hg : w.heap[G.g]? = some G.obj)
    (hσ : Sees σ m cmem) (ha : argsCv π (renArgs σ cargs) vargs) :
    Calls K.P f vargs.toArray w (fun e w' => ∃ rv π', e = .returned rv ∧ (∀ i n, upTo cmem.length i = true → (π' i = some n ↔ π (σ i) = some n)) ∧ v.cv π' rv ∧
      Rel { G with base := under π σ cmem.length } π' (memL s'.mem) w w') := by
  have hu : ∀ i n, upTo cmem.length i = true → (under π σ cmem.length i = some n ↔ π (σ i) = some n) := fun i n hi => by simp [under, upTo_lt hi]
  have hR : Rel { G with base := under π σ cmem.length } (under π σ cmem.length) (memL (given cmem)) w w := by
    refine ⟨?_, ?_, ?_, hg, hlt, Below.refl _ _, Loc.le_refl _⟩
    · intro i b hb
      rw [given_get, Option.map_eq_some_iff] at hb
      obtain ⟨gs, hgs, rfl⟩ := hb
      obtain ⟨b', hb', e⟩ := hσ i gs hgs
      obtain ⟨p, vs, T, fz, e1, e2⟩ := hm _ _ hb'
      have hi : i < cmem.length := (List.getElem?_eq_some_iff.1 hgs).1
      refine ⟨p, vs, T, fz, (hu i p (Nat.ble_eq_true_of_le hi)).2 e1, ?_, fun q => by cases q⟩
      rw [e] at e2
      obtain ⟨a1, a2, a3, a4⟩ := e2
      rw [ren_size] at a3 a4
      exact ⟨a1, a2, a3, (ren_segs hu (List.all_eq_true.1 h.memB gs (List.mem_of_getElem? hgs))).2 a4⟩
    · intro i j p q bi bj _ hi _ _ _ _ hwr
      rw [given_get, Option.map_eq_some_iff] at hi
      obtain ⟨gs, _, rfl⟩ := hi
      cases hwr
    · intro i hi
      rw [given_get, Option.map_eq_none_iff] at hi
      simp at hi
      simp [under, Nat.not_lt.2 hi]
  have hac : argsCv (under π σ cmem.length) cargs vargs := (ren_args hu (fun x hx => List.all_eq_true.1 h.argsB x hx)).2 ha
  refine (afunc_calls (w := w) (G := { G with base := under π σ cmem.length }) ⟨hG.env, hG.mixed⟩ h.fnat h.eval h.obs (Nat.le_of_ble_eq_true h.len) (Nat.le_of_ble_eq_true h.few) hR hac).mono ?_
  rintro e w' ⟨rv, π', rfl, hcv, hR'⟩
  refine ⟨rv, π', rfl, fun i n hi => ?_, hcv, hR'⟩
  have hi := upTo_lt hi
  obtain ⟨b', hb', _⟩ := hσ i cmem[i] (by simp [hi])
  obtain ⟨n', vs, T, fz, e1, _⟩ := hm _ _ hb'
  have h1 : π' i = some n' := hR'.base i n' (by simp [under, hi, e1])
  rw [h1, e1]

/-- The place of a number in a list. -/
def idx (i : Nat) : List Nat → Nat
  | [] => 0
  | x :: r => bif Nat.beq x i then 0 else idx i r + 1

theorem idx_get : ∀ {E : List Nat} {j : Nat}, E.Nodup → ∀ (h : j < E.length), idx E[j] E = j
  | x :: r, 0, _, _ => by simp [idx]
  | x :: r, j + 1, hn, h => by
    have hn' := List.nodup_cons.1 hn
    have hlt : j < r.length := by simpa using h
    have hne : Nat.beq x r[j] = false := by
      cases q : Nat.beq x r[j]
      · rfl
      · have := Nat.eq_of_beq_eq_true q
        exact absurd (this ▸ List.getElem_mem hlt) hn'.1
    simp only [List.getElem_cons_succ, idx, hne, cond_false]
    rw [idx_get hn'.2 hlt]

theorem idx_mem : ∀ {E : List Nat} {i : Nat}, i ∈ E → E[idx i E]? = some i
  | x :: r, i, h => by
    unfold idx
    cases q : Nat.beq x i
    · have hne : i ≠ x := fun e => by subst e; simp at q
      have := idx_mem (E := r) ((List.mem_cons.1 h).resolve_left hne)
      simpa using this
    · have := Nat.eq_of_beq_eq_true q
      subst this; simp

/-- A callee's numbers in the caller's: the given blocks by σ, the new ones from fresh on. -/
def renE (σ : Nat → Nat) (k : Nat) (E : List Nat) (fresh i : Nat) : Nat := bif Nat.blt i k then σ i else fresh + idx i E

def okE (k : Nat) (E : List Nat) (i : Nat) : Bool := Nat.blt i k || memB E i

def nodupB : List Nat → Bool
  | [] => true
  | x :: r => !(memB r x) && nodupB r

theorem nodupB_iff : ∀ {l : List Nat}, nodupB l = true → l.Nodup
  | [], _ => List.nodup_nil
  | x :: r, h => by
    simp only [nodupB, Bool.and_eq_true, Bool.not_eq_true'] at h
    refine List.nodup_cons.2 ⟨fun q => ?_, nodupB_iff h.2⟩
    rw [memB_iff.2 q] at h; cases h.1

/-- What is to be looked at beside the evaluation. -/
def sideOk (fn : Func) (cargs : List V) (cmem : List (List Seg)) (v : V) (E : List Nat) (gsl : List (List Seg)) : Bool :=
  !(fn.name == "runtime.NumGoroutine") && (Nat.ble cargs.length fn.ntmps && (Nat.ble (fn.ntmps + 1) 4096 && ((cargs.all (V.below (upTo cmem.length) ·)) && ((cmem.all (segsBelow (upTo cmem.length) ·)) &&
    (v.below (okE cmem.length E) && ((gsl.all (segsBelow (okE cmem.length E) ·)) && (nodupB E && E.all (fun i => Nat.ble cmem.length i))))))))

/-- The evaluation's answer: the value, what was taken for granted, the new blocks E. -/
noncomputable def evalE (K : Cx) (fuel : Nat) (fn : Func) (cargs : List V) (cmem : List (List Seg)) (orc : List (Option Bool)) (E : List Nat) : Option (V × List (Bool × Bool) × List (Option Blk)) :=
  match afunc K fuel fn cargs (given cmem) orc with
  | some (v, s) => some (v, s.obs, E.map (memL s.mem))
  | none => none

def newBlks : List (List Seg) → List (Option Blk)
  | [] => []
  | gs :: r => some ⟨gs, true⟩ :: newBlks r

theorem newBlks_get : ∀ (l : List (List Seg)) (j : Nat), (newBlks l)[j]? = (l[j]?).map fun gs => some ⟨gs, true⟩
  | [], j => by simp [newBlks]
  | gs :: r, 0 => by simp [newBlks]
  | gs :: r, j + 1 => by simpa [newBlks] using newBlks_get r j

/-- The contract of a function, by the evaluation of its body. -/
theorem fitsE (hG : Good G K) {f : Nat} {fn : Func} (fuel : Nat) (cargs : List V) (cmem : List (List Seg)) (orc : List (Option Bool)) {v : V} {obs : List (Bool × Bool)} (E : List Nat) {gsl : List (List Seg)}
    (hf : K.P.funcs[f]? = some fn) (he : evalE K fuel fn cargs cmem orc E = some (v, obs, newBlks gsl)) (hobs : ObsOk obs) (hs : sideOk fn cargs cmem v E gsl = true)
    (σ : Nat → Nat) {m : Nat → Option Blk} (hσ : Sees σ m cmem) (fresh : Nat) :
    Fits G K.P f (renArgs σ cargs) fresh m (v.ren (renE σ cmem.length E fresh)) (gsl.map (renSegs (renE σ cmem.length E fresh))) := by
  unfold evalE at he
  split at he
  · rename_i v' s' hev
    simp only [Option.some.injEq, Prod.mk.injEq] at he
    obtain ⟨rfl, rfl, hE⟩ := he
    simp only [sideOk, Bool.and_eq_true, Bool.not_eq_true'] at hs
    obtain ⟨s1, s2, s3, s4, s5, s6, s7, s8, s9⟩ := hs
    have hnd := nodupB_iff s8
    have told : Told K f fn fuel cargs cmem orc v' s' := ⟨hf, s1, hev, hobs, s2, s3, s4, s5⟩
    have hlen : gsl.length = E.length := by
      have := congrArg List.length hE
      have h2 : ∀ l, (newBlks l).length = l.length := by intro l; induction l with | nil => rfl | cons a l ih => simp [newBlks, ih]
      rw [h2] at this; simpa using this.symm
    have hblk : ∀ (j : Nat) (id : Nat) (gs : List Seg), E[j]? = some id → gsl[j]? = some gs → memL s'.mem id = some ⟨gs, true⟩ := by
      intro j id gs h1 h2
      have := congrArg (·[j]?) hE
      simp only [List.getElem?_map, newBlks_get, h1, h2, Option.map_some, Option.some.injEq] at this
      exact this
    refine ⟨told.enters, fun π w vargs hm hlt hg ha hfr => ?_⟩
    refine (told.calls hG hm hlt hg hσ ha).mono ?_
    rintro e w' ⟨rv, π', rfl, hp, hcv, hR'⟩
    -- where the new blocks lie
    have hpl : ∀ j, j < E.length → ∃ p, ∃ gs, gsl[j]? = some gs ∧ π' (E.getD j 0) = some p ∧ w.heap.size ≤ p.n ∧ ∃ vs T, Holds π' p gs w' vs T (0, 0) := by
      intro j hj
      have h1 : E[j]? = some (E.getD j 0) := by simp [List.getD, hj]
      have h2 : gsl[j]? = some gsl[j] := by simp [hlen, hj]
      obtain ⟨p, vs, T, fz, e1, e2, e3⟩ := hR'.blk _ _ (hblk j _ _ h1 h2)
      obtain ⟨rfl, h3⟩ := e3 rfl
      exact ⟨p, _, h2, e1, h3, vs, T, e2⟩
    let pl : Nat → Pl := fun i => (π' i).getD ⟨0, 0, 0⟩
    have hpl' : ∀ j, j < E.length → π' (E.getD j 0) = some (pl (E.getD j 0)) := by
      intro j hj
      obtain ⟨p, gs, _, h2, _⟩ := hpl j hj
      simp only [pl, h2, Option.getD_some]
    have hns : ∀ j (h : j < E.length), (E.map pl)[j]? = some (pl (E.getD j 0)) := by
      intro j h; simp [List.getD, h]
    have hle : π.le (ext π fresh (E.map pl)) := by
      intro i p hi
      rw [ext_spec]
      split
      · rename_i hc
        simp only [List.length_map] at hc
        have := hfr (i - fresh) (by simp [hlen]; omega)
        rw [show fresh + (i - fresh) = i by omega, hi] at this; cases this
      · exact hi
    have hren : ∀ i p, okE cmem.length E i = true → (π' i = some p ↔ ext π fresh (E.map pl) (renE σ cmem.length E fresh i) = some p) := by
      intro i p hi
      unfold renE
      cases hk : Nat.blt i cmem.length
      · simp only [cond_false]
        unfold okE at hi
        rw [hk, Bool.false_or] at hi
        have hmem := memB_iff.1 hi
        have hget := idx_mem hmem
        have hlt' : idx i E < E.length := (List.getElem?_eq_some_iff.1 hget).1
        rw [ext_spec, if_pos (by simp; omega), Nat.add_sub_cancel_left, hns _ hlt']
        have hgd : E.getD (idx i E) 0 = i := by simp [List.getD, hget]
        rw [hgd]
        have := hpl' _ hlt'
        rw [hgd] at this
        rw [this]
      · simp only [cond_true]
        rw [hp i p hk]
        have hil : i < cmem.length := upTo_lt hk
        obtain ⟨b', hb', _⟩ := hσ i cmem[i] (by simp [hil])
        obtain ⟨q, vs, T, fz, e1, _⟩ := hm _ _ hb'
        rw [e1, hle _ _ e1]
    refine ⟨rv, E.map pl, rfl, ⟨by simp [hlen], ?_, ?_, hR'.below, (ren_v hren s6).1 hcv, ?_⟩⟩
    · rw [List.map_map, List.Nodup, List.pairwise_iff_getElem]
      intro i j hi hj hij
      simp only [List.length_map] at hi hj
      simp only [List.getElem_map, Function.comp]
      intro heq
      obtain ⟨p, gs, g1, g2, _, _⟩ := hpl i hi
      obtain ⟨q, hs', k1, k2, _, _⟩ := hpl j hj
      have e1 : E[i]? = some (E.getD i 0) := by simp [List.getD, hi]
      have e2 : E[j]? = some (E.getD j 0) := by simp [List.getD, hj]
      have e3 : E.getD i 0 = E[i] := by simp [List.getD, hi]
      have e4 : E.getD j 0 = E[j] := by simp [List.getD, hj]
      have hne : E.getD i 0 ≠ E.getD j 0 := by
        rw [e3, e4]
        intro q
        have e5 : E[i]? = E[j]? := by rw [List.getElem?_eq_getElem hi, List.getElem?_eq_getElem hj, q]
        have e6 : i = j := (List.getElem?_inj hi hnd).1 e5
        omega
      have heq' : p.n = q.n := by
        have a1 : pl E[i] = p := by rw [← e3]; simp only [pl, g2, Option.getD_some]
        have a2 : pl E[j] = q := by rw [← e4]; simp only [pl, k2, Option.getD_some]
        rw [a1, a2] at heq; exact heq
      have := (hR'.inj _ _ p q _ _ hne (hblk i _ _ e1 g1) (hblk j _ _ e2 k1) g2 k2 heq' rfl).2
      cases this
    · intro p hp'
      obtain ⟨id, hid, rfl⟩ := List.mem_map.1 hp'
      obtain ⟨j, hj, rfl⟩ := List.getElem_of_mem hid
      obtain ⟨p, gs, _, g2, g3, _⟩ := hpl j hj
      have e3 : E.getD j 0 = E[j] := by simp [List.getD, hj]
      rw [e3] at g2
      simp [pl, g2, g3]
    · intro j p gs hj hg'
      rw [List.getElem?_map, Option.map_eq_some_iff] at hg'
      obtain ⟨gs0, hgs0, rfl⟩ := hg'
      have hjl : j < E.length := by rw [← hlen]; exact (List.getElem?_eq_some_iff.1 hgs0).1
      rw [hns j hjl] at hj
      cases hj
      obtain ⟨p, gs1, g1, g2, _, vs, T, hh⟩ := hpl j hjl
      rw [hgs0] at g1; cases g1
      have hpe : pl (E.getD j 0) = p := by simp only [pl, g2, Option.getD_some]
      rw [hpe]
      obtain ⟨a1, a2, a3, a4⟩ := hh
      refine ⟨vs, T, a1, a2, by rw [ren_size]; exact a3, ?_⟩
      rw [ren_size]
      exact (ren_segs hren (List.all_eq_true.1 s7 _ (List.mem_of_getElem? hgs0))).1 a4
  · cases he
end
end Go.Mo
