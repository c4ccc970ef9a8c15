/- The abstract evaluator, part 13: contracts that read blocks they are told of. -/
import Derived.Test.YtamlbiaakogahaaDoorMo12

namespace Go.Mo
open Go Go.RowKit

def rd1 (b : Nat) (k : List Seg → Option (V × List (List Seg))) : Rd (V × List (List Seg)) :=
  .read b fun blk => match k blk.gs with | some r => .pure r | none => .fail
def rd2 (b c : Nat) (k : List Seg → List Seg → Option (V × List (List Seg))) : Rd (V × List (List Seg)) :=
  .read b fun blk => .read c fun blk' => match k blk.gs blk'.gs with | some r => .pure r | none => .fail
def rd3 (b c d : Nat) (k : List Seg → List Seg → List Seg → Option (V × List (List Seg))) : Rd (V × List (List Seg)) :=
  .read b fun x => .read c fun y => .read d fun z => match k x.gs y.gs z.gs with | some r => .pure r | none => .fail

section
variable {G : Gl} {K : Cx} {P : Program} {m : Nat → Option Blk} {b c d : Nat} {v : V} {news : List (List Seg)} {fp : List Nat}

theorem rd1_run {k : List Seg → Option (V × List (List Seg))} (h : (rd1 b k).run m = some ((v, news), fp)) : ∃ x, m b = some x ∧ k x.gs = some (v, news) := by
  obtain ⟨x, fp', h1, h2, _⟩ := read_run h
  refine ⟨x, h1, ?_⟩
  split at h2
  · rename_i r hr
    cases h2; exact hr
  · exact (fail_run h2).elim

theorem rd2_run {k : List Seg → List Seg → Option (V × List (List Seg))} (h : (rd2 b c k).run m = some ((v, news), fp)) :
    ∃ x y, m b = some x ∧ m c = some y ∧ k x.gs y.gs = some (v, news) := by
  obtain ⟨x, fp', h1, h2, _⟩ := read_run h
  obtain ⟨y, fp'', h3, h4, _⟩ := read_run h2
  refine ⟨x, y, h1, h3, ?_⟩
  split at h4
  · rename_i r hr
    cases h4; exact hr
  · exact (fail_run h4).elim

theorem rd3_run {k : List Seg → List Seg → List Seg → Option (V × List (List Seg))} (h : (rd3 b c d k).run m = some ((v, news), fp)) :
    ∃ x y z, m b = some x ∧ m c = some y ∧ m d = some z ∧ k x.gs y.gs z.gs = some (v, news) := by
  obtain ⟨x, fp', h1, h2, _⟩ := read_run h
  obtain ⟨y, fp'', h3, h4, _⟩ := read_run h2
  obtain ⟨z, fp3, h5, h6, _⟩ := read_run h4
  refine ⟨x, y, z, h1, h3, h5, ?_⟩
  split at h6
  · rename_i r hr
    cases h6; exact hr
  · exact (fail_run h6).elim

def at1 (b : Nat) : Nat → Nat := fun _ => b
def at2 (b c : Nat) : Nat → Nat := fun i => bif Nat.beq i 0 then b else c
def at3 (b c d : Nat) : Nat → Nat := fun i => bif Nat.beq i 0 then b else bif Nat.beq i 1 then c else d

theorem sees0 {σ : Nat → Nat} : Sees σ m [] := fun i gs h => by simp at h
theorem sees1 {σ : Nat → Nat} {gs : List Seg} {x : Blk} (h : m (σ 0) = some x) (hg : x.gs = renSegs σ gs) : Sees σ m [gs] := by
  intro i gs' hi
  match i, hi with
  | 0, hi => simp at hi; subst hi; exact ⟨x, h, hg⟩
  | i + 1, hi => simp at hi
theorem sees2 {σ : Nat → Nat} {gs hs : List Seg} {x y : Blk} (h : m (σ 0) = some x) (hg : x.gs = renSegs σ gs) (h' : m (σ 1) = some y) (hg' : y.gs = renSegs σ hs) : Sees σ m [gs, hs] := by
  intro i gs' hi
  match i, hi with
  | 0, hi => simp at hi; subst hi; exact ⟨x, h, hg⟩
  | 1, hi => simp at hi; subst hi; exact ⟨y, h', hg'⟩
  | i + 2, hi => simp at hi
theorem sees3 {σ : Nat → Nat} {gs hs is : List Seg} {x y z : Blk} (h : m (σ 0) = some x) (hg : x.gs = renSegs σ gs) (h' : m (σ 1) = some y) (hg' : y.gs = renSegs σ hs)
    (h'' : m (σ 2) = some z) (hg'' : z.gs = renSegs σ is) : Sees σ m [gs, hs, is] := by
  intro i gs' hi
  match i, hi with
  | 0, hi => simp at hi; subst hi; exact ⟨x, h, hg⟩
  | 1, hi => simp at hi; subst hi; exact ⟨y, h', hg'⟩
  | 2, hi => simp at hi; subst hi; exact ⟨z, h'', hg''⟩
  | i + 3, hi => simp at hi

/-- The contract of a call, by the evaluation; names put in. -/
theorem fitsM (hG : Good G K) {f : Nat} {fn : Func} (fuel : Nat) (cargs : List V) (cmem : List (List Seg)) (orc : List (Option Bool)) {v : V} {obs : List (Bool × Bool)} (E : List Nat) {gsl : List (List Seg)}
    (hf : K.P.funcs[f]? = some fn) (he : evalE K fuel fn cargs cmem orc E = some (v, obs, newBlks gsl)) (hobs : ObsOk obs) (hs : sideOk fn cargs cmem v E gsl = true)
    (σ : Nat → Nat) {m : Nat → Option Blk} (hσ : Sees σ m cmem) (fresh : Nat) {args : List V} {v' : V} {news : List (List Seg)}
    (ha : renArgs σ cargs = args) (hv : v.ren (renE σ cmem.length E fresh) = v') (hn : gsl.map (renSegs (renE σ cmem.length E fresh)) = news) :
    Fits G K.P f args fresh m v' news := by
  subst ha; subst hv; subst hn
  exact fitsE hG fuel cargs cmem orc E hf he hobs hs σ hσ fresh
end
end Go.Mo


namespace Go.Mo
open Go Go.RowKit
section
variable {K : Cx} {fuel : Nat} {a b : Code} {s s' : St}

theorem acode_seq_normal (h : acode K fuel a s = some (.normal, s')) : acode K fuel (.seq a b) s = acode K fuel b s' := by simp only [acode, h]
theorem acode_seq_ret (h : acode K fuel a s = some (.ret, s')) : acode K fuel (.seq a b) s = some (.ret, s') := by simp only [acode, h]
theorem acode_block_ret {n : Nat} (h : acode K fuel a s = some (.ret, s')) : acode K fuel (.block n a) s = some (.ret, s') := by simp only [acode, h]
theorem acode_block_exit {n : Nat} (h : acode K fuel a s = some (.exit n, s')) : acode K fuel (.block n a) s = some (.normal, s') := by
  simp only [acode, h, Nat.beq_refl, cond_true]
theorem acode_loop_eq : acode K fuel (.loop a) s = aloop (acode K fuel a) fuel s := rfl
theorem aloop_normal {body : St → Option (Ex × St)} {n : Nat} (h : body s = some (.normal, s')) : aloop body (n + 1) s = aloop body n s' := by simp only [aloop, h]
theorem aloop_ret {body : St → Option (Ex × St)} {n : Nat} (h : body s = some (.ret, s')) : aloop body (n + 1) s = some (.ret, s') := by simp only [aloop, h]
theorem aloop_exit {body : St → Option (Ex × St)} {n id : Nat} (h : body s = some (.exit id, s')) : aloop body (n + 1) s = some (.exit id, s') := by simp only [aloop, h]

/-- What is left of a run that ended: its results and what was taken for granted. -/
noncomputable def retOf (K : Cx) (fn : Func) : Option (Ex × St) → Option (V × List (Bool × Bool))
  | some (.ret, s) => match aresults K s fn.results.toList with | some v => some (v, s.obs) | none => none
  | _ => none

theorem retOf_some {fn : Func} {x : Option (Ex × St)} {v : V} {obs : List (Bool × Bool)} (h : retOf K fn x = some (v, obs)) :
    ∃ s, x = some (.ret, s) ∧ aresults K s fn.results.toList = some v ∧ s.obs = obs := by
  unfold retOf at h
  split at h
  · rename_i s
    split at h
    · rename_i v' hv
      cases h
      exact ⟨s, rfl, hv, rfl⟩
    · cases h
  · cases h

theorem evalE_ret {fn : Func} {cargs : List V} {cmem : List (List Seg)} {orc : List (Option Bool)} {c : Code} {v : V} (hb : fn.body = some c)
    (h : acode K fuel c { fr := (Fr.full 12 fn.ntmps).ofArgs 0 cargs, n := fn.ntmps, mem := given cmem, orc, obs := [] } = some (.ret, s')) (hv : aresults K s' fn.results.toList = some v) :
    evalE K fuel fn cargs cmem orc [] = some (v, s'.obs, []) := by
  simp only [evalE, afunc, hb, h, hv, List.map_nil]
end
end Go.Mo


namespace Go.Mo
open Go Go.RowKit
noncomputable section

/-- Code of the form 'a; (b; block { loop l }); t'. -/
def lpA (f : Func) : Code := match f.body with | some (.seq a (.seq (.seq _ (.block _ (.loop _))) _)) => a | _ => .skip
def lpB (f : Func) : Code := match f.body with | some (.seq _ (.seq (.seq b (.block _ (.loop _))) _)) => b | _ => .skip
def lpL (f : Func) : Code := match f.body with | some (.seq _ (.seq (.seq _ (.block _ (.loop l))) _)) => l | _ => .skip
def lpT (f : Func) : Code := match f.body with | some (.seq _ (.seq (.seq _ (.block _ (.loop _))) t)) => t | _ => .skip

def runK (body : St → Option (Ex × St)) : Nat → St → Option St
  | 0, s => some s
  | n + 1, s => match body s with | some (.normal, s') => runK body n s' | _ => none

theorem aloop_runK {body : St → Option (Ex × St)} : ∀ (k n : Nat) {s s' : St}, runK body k s = some s' → aloop body (k + n) s = aloop body n s'
  | 0, n, s, s', h => by cases h; rw [Nat.zero_add]
  | k + 1, n, s, s', h => by
    simp only [runK] at h
    split at h
    · rename_i s1 h1
      rw [show k + 1 + n = (k + n) + 1 by omega, aloop_normal h1]
      exact aloop_runK k n h
    · cases h

theorem aloop_chunks {body : St → Option (Ex × St)} (S : Nat → St) (k n : Nat) : ∀ (J : Nat), (∀ j, j < J → runK body k (S j) = some (S (j + 1))) → aloop body (J * k + n) (S 0) = aloop body n (S J)
  | 0, _ => by rw [Nat.zero_mul, Nat.zero_add]
  | J + 1, h => by
    rw [show (J + 1) * k + n = J * k + (k + n) by rw [Nat.succ_mul]; omega, aloop_chunks S k (k + n) J fun j hj => h j (by omega)]
    exact aloop_runK k n (h J (by omega))

/-- The slots after one pass. -/
def frAfter (K : Cx) (fuel : Nat) (l : Code) (s : St) : Fr := match acode K fuel l s with | some (_, s') => s'.fr | none => .nil

def stOf (x : Option (Ex × St)) : St := match x with | some (_, s) => s | none => ⟨.nil, 0, [], [], []⟩

/-- What is left of a run that ended: its results, what was taken for granted, the blocks E. -/
def endOf (K : Cx) (fn : Func) (E : List Nat) : Option (Ex × St) → Option (V × List (Bool × Bool) × List (Option Blk))
  | some (.ret, s) => match aresults K s fn.results.toList with | some v => some (v, s.obs, E.map (memL s.mem)) | none => none
  | some (.normal, s) => match aresults K s fn.results.toList with | some v => some (v, s.obs, E.map (memL s.mem)) | none => none
  | _ => none

theorem evalE_end {K : Cx} {fuel : Nat} {fn : Func} {cargs : List V} {cmem : List (List Seg)} {orc : List (Option Bool)} {E : List Nat} {c : Code} (hb : fn.body = some c) :
    evalE K fuel fn cargs cmem orc E = endOf K fn E (acode K fuel c { fr := (Fr.full 12 fn.ntmps).ofArgs 0 cargs, n := fn.ntmps, mem := given cmem, orc, obs := [] }) := by
  simp only [evalE, afunc, hb]
  split
  · rename_i v s h
    split at h
    · rename_i s' hq
      split at h
      · rename_i v' hv
        cases h
        simp only [hq, endOf, hv]
      · cases h
    · rename_i s' hq
      split at h
      · rename_i v' hv
        cases h
        simp only [hq, endOf, hv]
      · cases h
    · cases h
  · rename_i h
    split at h
    · rename_i s' hq
      split at h
      · cases h
      · rename_i hv
        simp only [hq, endOf, hv]
    · rename_i s' hq
      split at h
      · cases h
      · rename_i hv
        simp only [hq, endOf, hv]
    · rename_i hq1 hq2
      unfold endOf
      split
      · rename_i s' hq; exact absurd hq (hq2 _)
      · rename_i s' hq; exact absurd hq (hq1 _)
      · rfl

/-- A function whose loop is cut into J runs of k passes. -/
theorem evalE_loop {K : Cx} {fuel : Nat} {fn : Func} {cargs : List V} {cmem : List (List Seg)} {orc : List (Option Bool)} {E : List Nat} {id : Nat} {sA : St} {S : Nat → St} {k n J : Nat} {sE : St} {x : Ex × St}
    {r : V × List (Bool × Bool) × List (Option Blk)}
    (hb : fn.body = some (.seq (lpA fn) (.seq (.seq (lpB fn) (.block id (.loop (lpL fn)))) (lpT fn))))
    (h1 : acode K fuel (lpA fn) { fr := (Fr.full 12 fn.ntmps).ofArgs 0 cargs, n := fn.ntmps, mem := given cmem, orc, obs := [] } = some (.normal, sA))
    (h2 : acode K fuel (lpB fn) sA = some (.normal, S 0)) (hS : ∀ j, j < J → runK (acode K fuel (lpL fn)) k (S j) = some (S (j + 1))) (hf : fuel = J * k + (n + 1))
    (h3 : acode K fuel (lpL fn) (S J) = some (.exit id, sE)) (h4 : acode K fuel (lpT fn) sE = some x) (h5 : endOf K fn E (some x) = some r) :
    evalE K fuel fn cargs cmem orc E = some r := by
  rw [evalE_end hb, acode_seq_normal h1]
  have hl : acode K fuel (.loop (lpL fn)) (S 0) = some (.exit id, sE) := by
    rw [acode_loop_eq]
    have := aloop_chunks (body := acode K fuel (lpL fn)) S k (n + 1) J hS
    rw [← hf] at this
    rw [this, aloop_exit h3]
  have hm : acode K fuel (.seq (lpB fn) (.block id (.loop (lpL fn)))) sA = some (.normal, sE) := by
    rw [acode_seq_normal h2]
    exact acode_block_exit hl
  rw [acode_seq_normal hm, h4]
  exact h5
end
end Go.Mo


namespace Go.Mo
open Go Go.RowKit
noncomputable section

def bodyOf (fn : Func) : Code := match fn.body with | some c => c | none => .skip

/-- What is left of a sequence behind its first n parts. -/
def tl : Nat → Code → Code
  | 0, c => c
  | n + 1, .seq _ b => tl n b
  | _ + 1, c => c

def runHeads (K : Cx) (fuel : Nat) : Nat → Code → St → Option St
  | 0, _, s => some s
  | n + 1, .seq a b, s => match acode K fuel a s with | some (.normal, s') => runHeads K fuel n b s' | _ => none
  | _ + 1, _, _ => none

theorem acode_heads {K : Cx} {fuel : Nat} : ∀ (n : Nat) {c : Code} {s s' : St}, runHeads K fuel n c s = some s' → acode K fuel c s = acode K fuel (tl n c) s'
  | 0, c, s, s', h => by cases h; rfl
  | n + 1, c, s, s', h => by
    cases c <;> simp only [runHeads] at h <;> try (cases h; done)
    split at h
    · rename_i s1 h1
      rw [acode_seq_normal h1]
      exact acode_heads n h
    · cases h

def cB (c : Code) : Code := match c with | .seq (.seq b (.block _ (.loop _))) _ => b | _ => .skip
def cL (c : Code) : Code := match c with | .seq (.seq _ (.block _ (.loop l))) _ => l | _ => .skip
def cT (c : Code) : Code := match c with | .seq (.seq _ (.block _ (.loop _))) t => t | _ => .skip

/-- A loop at the head of a sequence, its J runs of k passes done. -/
theorem acode_cut {K : Cx} {fuel : Nat} {c b l t : Code} {id : Nat} {s sE : St} {S : Nat → St} {k n J : Nat} (hc : c = .seq (.seq b (.block id (.loop l))) t)
    (h2 : acode K fuel b s = some (.normal, S 0)) (hS : ∀ j, j < J → runK (acode K fuel l) k (S j) = some (S (j + 1))) (hf : fuel = J * k + (n + 1))
    (h3 : acode K fuel l (S J) = some (.exit id, sE)) : acode K fuel c s = acode K fuel t sE := by
  subst hc
  have hl : acode K fuel (.loop l) (S 0) = some (.exit id, sE) := by
    rw [acode_loop_eq]
    have := aloop_chunks (body := acode K fuel l) S k (n + 1) J hS
    rw [← hf] at this
    rw [this, aloop_exit h3]
  have hm : acode K fuel (.seq b (.block id (.loop l))) s = some (.normal, sE) := by
    rw [acode_seq_normal h2]
    exact acode_block_exit hl
  rw [acode_seq_normal hm]

def init (fn : Func) (cargs : List V) (cmem : List (List Seg)) (orc : List (Option Bool)) : St :=
  { fr := (Fr.full 12 fn.ntmps).ofArgs 0 cargs, n := fn.ntmps, mem := given cmem, orc, obs := [] }

/-- A function whose p parts are followed by a loop that is cut. -/
theorem evalE_cut {K : Cx} {fuel : Nat} {fn : Func} {cargs : List V} {cmem : List (List Seg)} {orc : List (Option Bool)} {E : List Nat} (p : Nat) {id : Nat} {b l t : Code} {sA : St} {S : Nat → St} {k n J : Nat} {sE : St}
    {x : Ex × St} {r : V × List (Bool × Bool) × List (Option Blk)}
    (hb : fn.body = some (bodyOf fn)) (hc : tl p (bodyOf fn) = .seq (.seq b (.block id (.loop l))) t)
    (h1 : runHeads K fuel p (bodyOf fn) (init fn cargs cmem orc) = some sA)
    (h2 : acode K fuel b sA = some (.normal, S 0)) (hS : ∀ j, j < J → runK (acode K fuel l) k (S j) = some (S (j + 1))) (hf : fuel = J * k + (n + 1))
    (h3 : acode K fuel l (S J) = some (.exit id, sE)) (h4 : acode K fuel t sE = some x) (h5 : endOf K fn E (some x) = some r) :
    evalE K fuel fn cargs cmem orc E = some r := by
  rw [evalE_end hb]
  show endOf K fn E (acode K fuel (bodyOf fn) (init fn cargs cmem orc)) = some r
  rw [acode_heads p h1, acode_cut hc h2 hS hf h3, h4]
  exact h5

def stO (x : Option St) : St := match x with | some s => s | none => ⟨.nil, 0, [], [], []⟩
def exO (x : Option (Ex × St)) : Ex × St := match x with | some x => x | none => (.ret, ⟨.nil, 0, [], [], []⟩)

/-! ### A contract out of two -/

def altSp (c : List V → Bool) (a b : Spec) : Spec := fun args fresh => bif c args then a args fresh else b args fresh

theorem EntryOk.alt {G : Gl} {P : Program} {f : Nat} {a b : Spec} (c : List V → Bool) (ha : EntryOk G P f a) (hb : EntryOk G P f b) : EntryOk G P f (altSp c a b) := by
  intro args fresh m v news fp h
  unfold altSp at h
  cases hc : c args <;> simp only [hc, cond_true, cond_false] at h
  · exact hb args fresh m v news fp h
  · exact ha args fresh m v news fp h

def firstNil : List V → Bool
  | .s .nil :: _ => true
  | _ => false
end
end Go.Mo


namespace Go.Mo
open Go Go.RowKit
noncomputable section

/-- A cipher's cells, a table's cells. -/
abbrev ciphC (kf kb : List (BitVec 32)) (k : List (BitVec 8)) (T : List (BitVec 32)) : List Seg := [.s (.bool true), .b32 44 kf, .b32 44 kb, .b8 16 k, .b32 512 T]
abbrev tabC (c : Sc) (st dl bl : List (BitVec 8)) : List Seg := [.s c, .b8 16 st, .b8 16 dl, .b8 1024 bl]

structure TP where
  st : List (BitVec 8)
  dl : List (BitVec 8)
  bl : List (BitVec 8)
  kf : List (BitVec 32)
  kb : List (BitVec 32)
  k : List (BitVec 8)
  T : List (BitVec 32)

def rdT (t : Nat) (f : Nat → TP → Option (V × List (List Seg))) : Rd (V × List (List Seg)) :=
  .read t fun x =>
    match x.gs with
    | [.s (.ptr c 0), .b8 16 st, .b8 16 dl, .b8 1024 bl] =>
      .read c fun y =>
        match y.gs with
        | [.s (.bool true), .b32 44 kf, .b32 44 kb, .b8 16 k, .b32 512 T] =>
          (match f c ⟨st, dl, bl, kf, kb, k, T⟩ with | some r => .pure r | none => .fail)
        | _ => .fail
    | _ => .fail

theorem rdT_run {m : Nat → Option Blk} {t : Nat} {f : Nat → TP → Option (V × List (List Seg))} {v : V} {news : List (List Seg)} {fp : List Nat} (h : (rdT t f).run m = some ((v, news), fp)) :
    ∃ c p x y, m t = some x ∧ x.gs = tabC (.ptr c 0) p.st p.dl p.bl ∧ m c = some y ∧ y.gs = ciphC p.kf p.kb p.k p.T ∧ f c p = some (v, news) := by
  obtain ⟨x, fp', h1, h2, _⟩ := read_run h
  split at h2
  · rename_i c st dl bl hx
    obtain ⟨y, fp2, h3, h4, _⟩ := read_run h2
    split at h4
    · rename_i kf kb k T hy
      split at h4
      · rename_i r hr
        cases h4
        exact ⟨c, ⟨st, dl, bl, kf, kb, k, T⟩, x, y, h1, hx, h3, hy, hr⟩
      · exact (fail_run h4).elim
    · exact (fail_run h4).elim
  · exact (fail_run h2).elim

theorem seesT {m : Nat → Option Blk} {t c : Nat} {p : TP} {x y : Blk} (h : m t = some x) (hg : x.gs = tabC (.ptr c 0) p.st p.dl p.bl) (h' : m c = some y) (hg' : y.gs = ciphC p.kf p.kb p.k p.T) :
    Sees (at2 t c) m [tabC (.ptr 1 0) p.st p.dl p.bl, ciphC p.kf p.kb p.k p.T] :=
  sees2 (σ := at2 t c) (x := x) (y := y) h hg h' hg'

/-- A number, known or not. -/
def ixI : Sc → Option Int
  | .i .i64 n => some n
  | .si n => some n
  | _ => none

theorem ixI_cv {π : Loc} {x : Sc} {n : Int} (h : ixI x = some n) {v : Value} (hv : x.cv π v) : (Sc.si n).cv π v := by
  unfold ixI at h
  split at h
  · cases h; exact hv
  · cases h; exact hv
  · cases h

/-- A contract out of two: of a table without a cipher, of another one. -/
def orU (a b : Spec) : Spec := fun args fresh =>
  match args with
  | .s (.ptr t 0) :: _ => .read t fun x => (match x.gs with | .s .nil :: _ => a args fresh | _ => b args fresh)
  | _ => .fail

theorem EntryOk.orU {G : Gl} {P : Program} {f : Nat} {a b : Spec} (ha : EntryOk G P f a) (hb : EntryOk G P f b) : EntryOk G P f (orU a b) := by
  intro args fresh m v news fp h
  unfold Mo.orU at h
  split at h
  · obtain ⟨x, fp', h1, h2, _⟩ := read_run h
    split at h2
    · exact ha _ fresh m v news _ h2
    · exact hb _ fresh m v news _ h2
  · cases h

/-- Arguments that stand for the same. -/
theorem Fits.args {G : Gl} {P : Program} {f : Nat} {args args' : List V} {fresh : Nat} {m : Nat → Option Blk} {v : V} {news : List (List Seg)}
    (h : Fits G P f args' fresh m v news) (ha : ∀ π vargs, argsCv π args vargs → argsCv π args' vargs) : Fits G P f args fresh m v news :=
  ⟨h.1, fun π w vargs h1 h2 h3 h4 h5 => h.2 π w vargs h1 h2 h3 (ha π vargs h4) h5⟩

theorem argsCv_last {π : Loc} {x y : Sc} (h : ∀ v, x.cv π v → y.cv π v) : ∀ {l : List V} {vargs : List Value}, argsCv π (l ++ [.s x]) vargs → argsCv π (l ++ [.s y]) vargs
  | [], _, ⟨v, vr, e, h1, h2⟩ => ⟨v, vr, e, h v h1, h2⟩
  | _ :: _, _, ⟨v, vr, e, h1, h2⟩ => ⟨v, vr, e, h1, argsCv_last h h2⟩
end
end Go.Mo


namespace Go.Mo
open Go Go.RowKit
noncomputable section

theorem acode_cutB {K : Cx} {fuel : Nat} {c l t : Code} {id : Nat} {sE : St} {S : Nat → St} {k n J : Nat} (hc : c = .seq (.block id (.loop l)) t)
    (hS : ∀ j, j < J → runK (acode K fuel l) k (S j) = some (S (j + 1))) (hf : fuel = J * k + (n + 1))
    (h3 : acode K fuel l (S J) = some (.exit id, sE)) : acode K fuel c (S 0) = acode K fuel t sE := by
  subst hc
  have hl : acode K fuel (.loop l) (S 0) = some (.exit id, sE) := by
    rw [acode_loop_eq]
    have := aloop_chunks (body := acode K fuel l) S k (n + 1) J hS
    rw [← hf] at this
    rw [this, aloop_exit h3]
  rw [acode_seq_normal (acode_block_exit hl)]

def frK (K : Cx) (fuel : Nat) (l : Code) (k : Nat) (s : St) : Fr := match runK (acode K fuel l) k s with | some s' => s'.fr | none => .nil

/-- A value that stands for the same. -/
theorem Fits.val {G : Gl} {P : Program} {f : Nat} {args : List V} {fresh : Nat} {m : Nat → Option Blk} {v v' : V} {news : List (List Seg)}
    (h : Fits G P f args fresh m v news) (hv : ∀ π rv, v.cv π rv → v'.cv π rv) : Fits G P f args fresh m v' news :=
  ⟨h.1, fun π w vargs h1 h2 h3 h4 h5 => (h.2 π w vargs h1 h2 h3 h4 h5).mono (by
    rintro e w' ⟨rv, ns, e1, p⟩
    exact ⟨rv, ns, e1, ⟨p.len, p.nodup, p.new, p.below, hv _ _ p.cv, p.blk⟩⟩)⟩

/-- A segment that names no block. -/
def Seg.flat : Seg → Bool
  | .s _ => false
  | _ => true

theorem flat_cv {π π' : Loc} : ∀ {gs : List Seg} {vs : List Value}, gs.all Seg.flat = true → segsCv π gs vs → segsCv π' gs vs
  | [], _, _, h => h
  | g :: gs, _, hf, ⟨a, b, e, h1, h2⟩ => by
    simp only [List.all_cons, Bool.and_eq_true] at hf
    refine ⟨a, b, e, ?_, flat_cv hf.2 h2⟩
    cases g with
    | s x => cases hf.1
    | _ => exact h1

/-- A call with a part of a slice: as one with a slice of its own. -/
theorem Fits.part {G : Gl} {P : Program} {f : Nat} {b o len sz fresh : Nat} {m : Nat → Option Blk} {blk : Blk} {gs rs : List Seg}
    (h : Fits G P f [.s (.osl 0 0 len sz)] 1 (fun i => if i = 0 then some ⟨gs, false⟩ else none) (.a rs) []) (hm : m b = some blk)
    (hg : getSegs blk.gs o (len * sz) = some gs) (hlen : len * sz ≠ 0) (hfl : gs.all Seg.flat = true) (hrs : rs.all Seg.flat = true) :
    Fits G P f [.s (.osl b o len sz)] fresh m (.a rs) [] := by
  refine ⟨h.1, fun π w vargs h1 h2 h3 h4 h5 => ?_⟩
  obtain ⟨v1, vr, rfl, ha, hr⟩ := h4
  have hr : vr = [] := hr
  subst hr
  obtain ⟨p, c, hp, hz, hlc, rfl⟩ := ha
  obtain ⟨p', vs, T, fz, e1, e2⟩ := h1 b blk hm
  rw [hp] at e1; cases e1
  obtain ⟨g1, g2⟩ := getSegs_cv e2.2.2.2 hg
  have hcl : (cut p (segsSize blk.gs) vs).length = segsSize blk.gs := cut_length (by have := e2.2.1; have := e2.2.2.1; omega)
  rw [hcl] at g1
  have g1' : o + len * sz ≤ segsSize blk.gs := by rcases g1 with q | q; exact absurd q hlen; exact q
  have hsz : segsSize gs = len * sz := by
    have := segsCv_length g2
    rw [List.length_take, List.length_drop, hcl] at this
    omega
  have hq : (List.drop o (cut p (segsSize blk.gs) vs)).take (len * sz) = cut ⟨p.n, p.base + o, p.z⟩ (len * sz) vs := by
    rw [cut_drop, cut_less (by omega)]
  rw [hq] at g2
  have hcall := h.2 (fun i => if i = 0 then some ⟨p.n, p.base + o, p.z⟩ else none) w [.slice (some ⟨p.n, p.base + o, none⟩) len c] (by
    intro i b' hi
    dsimp only at hi
    split at hi
    · rename_i hi0
      subst hi0
      cases hi
      refine ⟨⟨p.n, p.base + o, p.z⟩, vs, T, fz, by simp, e2.1, e2.2.1, ?_, ?_⟩
      · show p.base + o + segsSize gs ≤ p.z
        have := e2.2.2.1; omega
      · show segsCv _ gs (cut _ (segsSize gs) vs)
        rw [hsz]; exact flat_cv hfl g2
    · cases hi) h2 h3 ⟨_, [], rfl, ⟨⟨p.n, p.base + o, p.z⟩, c, by simp, by show p.base + o + 0 + c * sz ≤ p.z; omega, hlc, rfl⟩, rfl⟩ (by simp)
  refine hcall.mono ?_
  rintro e w' ⟨rv, ns, e1, q⟩
  have hns : ns = [] := List.length_eq_zero_iff.1 q.len
  subst hns
  refine ⟨rv, [], e1, ⟨rfl, q.nodup, q.new, q.below, ?_, by simp⟩⟩
  obtain ⟨us, e3, e4⟩ := q.cv
  exact ⟨us, e3, flat_cv hrs e4⟩
end
end Go.Mo

