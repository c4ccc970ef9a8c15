/- The abstract evaluator, part 12: lists of contracts. -/
import Derived.Test.YtamlbiaakogahaaDoorMo11
namespace Go.Mo
open Go Go.RowKit

abbrev Spec := List V → Nat → Rd (V × List (List Seg))

noncomputable def envOf : List (Nat × Spec) → Env
  | [], _, _, _ => .fail
  | (g, e) :: r, f, args, fresh => bif Nat.beq g f then e args fresh else envOf r f args fresh

def EntryOk (G : Gl) (P : Program) (f : Nat) (sp : Spec) : Prop :=
  ∀ args fresh m v news fp, (sp args fresh).run m = some ((v, news), fp) → Fits G P f args fresh m v news

inductive EnvL (G : Gl) (P : Program) : List (Nat × Spec) → Prop
  | nil : EnvL G P []
  | cons {f : Nat} {sp : Spec} {l : List (Nat × Spec)} (h : EntryOk G P f sp) (r : EnvL G P l) : EnvL G P ((f, sp) :: l)

theorem EnvL.append {G : Gl} {P : Program} : ∀ {l l' : List (Nat × Spec)}, EnvL G P l → EnvL G P l' → EnvL G P (l ++ l')
  | [], _, _, h => h
  | _ :: _, _, .cons h r, h' => .cons h (EnvL.append r h')

def noObl : Nat → List V → List (Bool × Bool) := fun _ _ => []
noncomputable def cxOf (P : Program) (l : List (Nat × Spec)) : Cx := ⟨P, envOf l, noObl⟩

theorem EnvL.fits {G : Gl} {P : Program} : ∀ {l : List (Nat × Spec)}, EnvL G P l → ∀ f args fresh m v news fp, (envOf l f args fresh).run m = some ((v, news), fp) → Fits G P f args fresh m v news
  | [], _ => by intro f args fresh m v news fp h; cases h
  | (g, e) :: r, .cons h hr => by
    intro f args fresh m v news fp hx
    simp only [envOf] at hx
    cases hq : Nat.beq g f <;> simp only [hq, cond_true, cond_false] at hx
    · exact hr.fits f args fresh m v news fp hx
    · have := Nat.eq_of_beq_eq_true hq
      subst this
      exact h args fresh m v news fp hx

theorem EnvL.good {G : Gl} {P : Program} {l : List (Nat × Spec)} (h : EnvL G P l) (hm : P.follows .mixedOrders = true) : Good G (cxOf P l) := ⟨fun f args fresh m v news fp hx _ => h.fits f args fresh m v news fp hx, hm⟩

/-! #### Contracts that take something for granted of their arguments -/

abbrev Ob := List V → List (Bool × Bool)

def EntryOkO (G : Gl) (P : Program) (f : Nat) (sp : Spec) (ob : Ob) : Prop :=
  ∀ args fresh m v news fp, (sp args fresh).run m = some ((v, news), fp) → ObsOk (ob args) → Fits G P f args fresh m v news

noncomputable def envC : List (Nat × Spec × Ob) → Env → Env
  | [], e => e
  | (g, s, _) :: r, e => fun f args fresh => bif Nat.beq g f then s args fresh else envC r e f args fresh

def oblC : List (Nat × Spec × Ob) → Nat → List V → List (Bool × Bool)
  | [], _, _ => []
  | (g, _, o) :: r, f, args => bif Nat.beq g f then o args else oblC r f args

noncomputable def cxC (P : Program) (lc : List (Nat × Spec × Ob)) (l : List (Nat × Spec)) : Cx := ⟨P, envC lc (envOf l), oblC lc⟩

inductive CondL (G : Gl) (P : Program) : List (Nat × Spec × Ob) → Prop
  | nil : CondL G P []
  | cons {f : Nat} {sp : Spec} {ob : Ob} {l : List (Nat × Spec × Ob)} (h : EntryOkO G P f sp ob) (r : CondL G P l) : CondL G P ((f, sp, ob) :: l)

theorem CondL.append {G : Gl} {P : Program} : ∀ {l l' : List (Nat × Spec × Ob)}, CondL G P l → CondL G P l' → CondL G P (l ++ l')
  | [], _, _, h => h
  | _ :: _, _, .cons h r, h' => .cons h (CondL.append r h')

theorem CondL.envOk {G : Gl} {P : Program} {l : List (Nat × Spec)} (hl : EnvL G P l) : ∀ {lc : List (Nat × Spec × Ob)}, CondL G P lc →
    ∀ f args fresh m v news fp, (envC lc (envOf l) f args fresh).run m = some ((v, news), fp) → ObsOk (oblC lc f args) → Fits G P f args fresh m v news
  | [], _ => fun f args fresh m v news fp hx _ => hl.fits f args fresh m v news fp hx
  | (g, s, o) :: r, .cons h hr => by
    intro f args fresh m v news fp hx ho
    simp only [envC] at hx
    simp only [oblC] at ho
    cases hq : Nat.beq g f <;> simp only [hq, cond_true, cond_false] at hx ho
    · exact CondL.envOk hl hr f args fresh m v news fp hx ho
    · have := Nat.eq_of_beq_eq_true hq
      subst this
      exact h args fresh m v news fp hx ho

theorem CondL.good {G : Gl} {P : Program} {l : List (Nat × Spec)} {lc : List (Nat × Spec × Ob)} (h : CondL G P lc) (hl : EnvL G P l) (hm : P.follows .mixedOrders = true) : Good G (cxC P lc l) :=
  ⟨CondL.envOk hl h, hm⟩

/-- A contract on values alone. -/
def pureSp (f : List V → Option V) : Spec := fun args _ =>
  match f args with
  | some v => .pure (v, [])
  | none => .fail

section
variable {G : Gl} {K : Cx} {P : Program}

theorem Fits.intro {f : Nat} {args : List V} {fresh : Nat} {m : Nat → Option Blk} {v : V} {news : List (List Seg)} (he : enters P f)
    (h : ∀ π vargs, argsCv π args vargs → Fits G P f args fresh m v news) : Fits G P f args fresh m v news :=
  ⟨he, fun π w vargs hm hl hg ha hf => (h π vargs ha).2 π w vargs hm hl hg ha hf⟩

theorem entry_pure {f : Nat} {sp : List V → Option V} (he : enters P f) (h : ∀ args v, sp args = some v → ∀ π vargs, argsCv π args vargs → ∀ fresh m, Fits G P f args fresh m v []) :
    EntryOk G P f (pureSp sp) := by
  intro args fresh m v news fp hx
  unfold pureSp at hx
  split at hx
  · rename_i v' hv
    cases hx
    exact Fits.intro he fun π vargs ha => h args v hv π vargs ha fresh m
  · cases hx

theorem enters_of {f : Nat} {fn : Func} (hf : P.funcs[f]? = some fn) (h : (fn.body.isSome && !(fn.name == "runtime.NumGoroutine")) = true) : enters P f := by
  simp only [Bool.and_eq_true, Bool.not_eq_true'] at h
  exact ⟨fn, hf, h.1, h.2⟩

/-- The contract of a call without memory, by the evaluation. -/
theorem fitsP (hG : Good G K) {f : Nat} {fn : Func} (fuel : Nat) (cargs : List V) (orc : List (Option Bool)) {v : V} {obs : List (Bool × Bool)}
    (hf : K.P.funcs[f]? = some fn) (he : evalE K fuel fn cargs [] orc [] = some (v, obs, [])) (hobs : ObsOk obs) (hs : sideOk fn cargs [] v [] [] = true)
    (ha : renArgs (fun i => i) cargs = cargs) (hv : v.ren (renE (fun i => i) 0 [] 0) = v) (fresh : Nat) (m : Nat → Option Blk) : Fits G K.P f cargs fresh m v [] := by
  have := fitsE hG fuel cargs [] orc (v := v) (obs := obs) [] (gsl := []) hf he hobs hs (fun i => i) (m := m) (fun i gs h => by simp at h) 0
  rw [ha] at this
  have h2 : v.ren (renE (fun i => i) ([] : List (List Seg)).length [] 0) = v := hv
  rw [h2] at this
  refine ⟨this.1, fun π w vargs h1 h2 h3 h4 h5 => ?_⟩
  refine (this.2 π w vargs h1 h2 h3 h4 (fun j hj => by simp at hj)).mono ?_
  rintro e w' ⟨rv, ns, rfl, hp⟩
  have hns : ns = [] := List.length_eq_zero_iff.1 (by rw [hp.len]; rfl)
  subst hns
  exact ⟨rv, [], rfl, ⟨rfl, hp.nodup, hp.new, hp.below, hp.cv, fun j p gs hj => by simp at hj⟩⟩
end

/-! ### Lengths out of what arguments stand for -/

theorem args_tail {π : Loc} {a : V} {r : List V} {vs : List Value} (h : argsCv π (a :: r) vs) : ∃ vr, argsCv π r vr := let ⟨_, vr, _, _, k⟩ := h; ⟨vr, k⟩
theorem args_b8 {π : Loc} {n : Nat} {x : List (BitVec 8)} {gs : List Seg} {r : List V} {vs : List Value} (h : argsCv π (.a (.b8 n x :: gs) :: r) vs) : x.length = n :=
  let ⟨_, _, _, ⟨_, _, _, _, _, hx, _⟩, _⟩ := h; hx.1
theorem args_b8' {π : Loc} {n k : Nat} {x y : List (BitVec 8)} {gs : List Seg} {r : List V} {vs : List Value} (h : argsCv π (.a (.b8 n x :: .b8 k y :: gs) :: r) vs) : y.length = k :=
  let ⟨_, _, _, ⟨_, _, _, _, _, _, ⟨_, _, _, hy, _⟩⟩, _⟩ := h; hy.1
theorem args_b32 {π : Loc} {n : Nat} {x : List (BitVec 32)} {gs : List Seg} {r : List V} {vs : List Value} (h : argsCv π (.a (.b32 n x :: gs) :: r) vs) : x.length = n :=
  let ⟨_, _, _, ⟨_, _, _, _, _, hx, _⟩, _⟩ := h; hx.1

end Go.Mo
