/- The abstract evaluator, part 17: bytes as arguments. -/
import Derived.Test.YtamlbiaakogahaaDoorMo13
namespace Go.Mo
open Go Go.RowKit
noncomputable section

/-- The cells of a slice of bytes, or of arrays of sz bytes: how many elements, which bytes. -/
def rdBz {α : Type} (sz : Nat) (x : V) (k : Nat → List (BitVec 8) → Rd α) : Rd α :=
  match x with
  | .s .nilSlice => k 0 []
  | .s .empty => k 0 []
  | .s (.osl b o n z) => bif Nat.beq n 0 then k 0 [] else bif Nat.beq z sz then .read b fun blk => (match getSegs blk.gs o (n * sz) with | some [.b8 _ l] => k n l | _ => .fail) else .fail
  | .s (.slice b o n c) => bif Nat.ble n c then
      (bif Nat.beq n 0 then k 0 [] else .read b fun blk => bif Nat.ble (o + c * sz) (segsSize blk.gs) then (match getSegs blk.gs o (n * sz) with | some [.b8 _ l] => k n l | _ => .fail) else .fail)
      else .fail
  | _ => .fail

def rdBy {α : Type} (x : V) (k : List (BitVec 8) → Rd α) : Rd α := rdBz 1 x fun _ l => k l

/-- Where bytes lie. -/
inductive ByIn (m : Nat → Option Blk) (sz : Nat) : V → Nat → List (BitVec 8) → Prop
  | nil {x : V} (h : ∀ π v, x.cv π v → ∃ a c, v = .slice a 0 c) : ByIn m sz x 0 []
  | osl {b o n q : Nat} {blk : Blk} {l : List (BitVec 8)} (hn : n ≠ 0) (hb : m b = some blk) (hg : getSegs blk.gs o (n * sz) = some [.b8 q l]) : ByIn m sz (.s (.osl b o n sz)) n l
  | slice {b o n c q : Nat} {blk : Blk} {l : List (BitVec 8)} (hn : n ≠ 0) (hc : n ≤ c) (hb : m b = some blk) (hz : o + c * sz ≤ segsSize blk.gs) (hg : getSegs blk.gs o (n * sz) = some [.b8 q l]) : ByIn m sz (.s (.slice b o n c)) n l
  | sym {b o n q : Nat} {blk : Blk} {l : List (BitVec 8)} (hs : sz = 1) (hn : n ≠ 0) (hb : m b = some blk) (hg : getSegs blk.gs o (n * sz) = some [.b8 q l]) : ByIn m sz (.s (.osl b o n 0)) n l

section
variable {m : Nat → Option Blk}

theorem rdBz_run {α : Type} {sz : Nat} {x : V} {k : Nat → List (BitVec 8) → Rd α} {r : α} {fp : List Nat} (h : (rdBz sz x k).run m = some (r, fp)) : ∃ n l fp', (k n l).run m = some (r, fp') ∧ ByIn m sz x n l := by
  unfold rdBz at h
  split at h
  · exact ⟨0, [], fp, h, .nil fun _ v hv => ⟨none, 0, hv⟩⟩
  · exact ⟨0, [], fp, h, .nil fun _ v hv => hv⟩
  · rename_i b o n z
    cases hn : Nat.beq n 0 <;> simp only [hn, cond_true, cond_false] at h
    · cases hz : Nat.beq z sz <;> simp only [hz, cond_true, cond_false] at h
      · exact (fail_run h).elim
      have := Nat.eq_of_beq_eq_true hz
      subst this
      obtain ⟨blk, fp', hb, hk, _⟩ := read_run h
      split at hk
      · rename_i q l hg
        exact ⟨n, l, fp', hk, .osl (fun e => by subst e; cases hn) hb hg⟩
      · exact (fail_run hk).elim
    · have := Nat.eq_of_beq_eq_true hn
      subst this
      exact ⟨0, [], fp, h, .nil fun _ v ⟨p, c, _, _, _, hv⟩ => ⟨_, _, hv⟩⟩
  · rename_i b o n c
    cases hc : Nat.ble n c <;> simp only [hc, cond_true, cond_false] at h
    · exact (fail_run h).elim
    cases hn : Nat.beq n 0 <;> simp only [hn, cond_true, cond_false] at h
    · obtain ⟨blk, fp', hb, hk, _⟩ := read_run h
      cases hz : Nat.ble (o + c * sz) (segsSize blk.gs) <;> simp only [hz, cond_true, cond_false] at hk
      · exact (fail_run hk).elim
      split at hk
      · rename_i q l hg
        exact ⟨n, l, fp', hk, .slice (fun e => by subst e; cases hn) (Nat.le_of_ble_eq_true hc) hb (Nat.le_of_ble_eq_true hz) hg⟩
      · exact (fail_run hk).elim
    · have := Nat.eq_of_beq_eq_true hn
      subst this
      exact ⟨0, [], fp, h, .nil fun _ v ⟨p, _, hv⟩ => ⟨_, _, hv⟩⟩
  · exact (fail_run h).elim

theorem rdBy_run {α : Type} {x : V} {k : List (BitVec 8) → Rd α} {r : α} {fp : List Nat} (h : (rdBy x k).run m = some (r, fp)) : ∃ n l fp', (k l).run m = some (r, fp') ∧ ByIn m 1 x n l := rdBz_run h

/-- Bytes whose length may be unknown: that they are all of their block, and at most N, is a test. -/
def rdS {α : Type} (N : Nat) (x : V) (k : Bool → Nat → List (BitVec 8) → Rd α) : Rd α :=
  match x with
  | .s (.osl b 0 n 0) => .read b fun blk => (match blk.gs with | [.b8 q l] => k (decide (n = q ∧ n ≠ 0 ∧ n ≤ N)) n l | _ => .fail)
  | x => rdBz 1 x fun n l => k (Nat.ble n N) n l

theorem rdS_run {α : Type} {N : Nat} {x : V} {k : Bool → Nat → List (BitVec 8) → Rd α} {r : α} {fp : List Nat} (h : (rdS N x k).run m = some (r, fp)) :
    ∃ c n l fp', (k c n l).run m = some (r, fp') ∧ (c = true → n ≤ N ∧ ByIn m 1 x n l) := by
  unfold rdS at h
  split at h
  · rename_i b n
    obtain ⟨blk, fp', hb, hk, _⟩ := read_run h
    split at hk
    · rename_i q l hg
      refine ⟨_, n, l, fp', hk, fun hc => ?_⟩
      obtain ⟨rfl, h2, h3⟩ := of_decide_eq_true hc
      exact ⟨h3, .sym (q := n) rfl h2 hb (by rw [hg]; exact getSegs_all h2)⟩
    · exact (fail_run hk).elim
  · obtain ⟨n, l, fp', h1, h2⟩ := rdBz_run h
    exact ⟨_, n, l, fp', h1, fun hc => ⟨Nat.le_of_ble_eq_true hc, h2⟩⟩

/-- A value that is the slice of these bytes, from the cell o of block b on: n elements. -/
def BySl (π : Loc) (sz b o n : Nat) (v : Value) : Prop :=
  (n = 0 ∧ ∃ a c, v = .slice a 0 c) ∨ (n ≠ 0 ∧ ∃ p c, π b = some p ∧ v = .slice (some ⟨p.n, p.base + o, none⟩) n c ∧ n ≤ c ∧ p.base + o + c * sz ≤ p.z)

/-- Block b holds these bytes from the cell o on. -/
def ByAt (m : Nat → Option Blk) (b o : Nat) (l : List (BitVec 8)) : Prop := l ≠ [] → ∃ blk, m b = some blk ∧ getSegs blk.gs o l.length = some [.b8 l.length l]

theorem getSegs_len {π : Loc} {w : World} (hm : MemRel π m w) {b o n q : Nat} {blk : Blk} {l : List (BitVec 8)} (hn : n ≠ 0) (hb : m b = some blk) (hg : getSegs blk.gs o n = some [.b8 q l]) : l.length = n ∧ q = n := by
  obtain ⟨p, vs, T, fz, e1, e2⟩ := hm b blk hb
  obtain ⟨g1, a, r, g2, g3, g4⟩ := getSegs_cv e2.2.2.2 hg
  have g4 : r = [] := g4
  subst g4
  obtain ⟨g5, g6⟩ := g3
  have hcl : (cut p (segsSize blk.gs) vs).length = segsSize blk.gs := cut_length (by have := e2.2.1; have := e2.2.2.1; omega)
  rw [hcl] at g1
  have g1' : o + n ≤ segsSize blk.gs := by rcases g1 with q | q; exact absurd q hn; exact q
  have h2 := congrArg List.length g2
  rw [List.append_nil, List.length_take, List.length_drop, hcl, g6] at h2
  simp only [List.length_map] at h2
  omega

theorem ByIn.win {π0 : Loc} {w0 : World} {sz : Nat} (hs : sz ≠ 0) (hm : MemRel π0 m w0) {x : V} {n : Nat} {l : List (BitVec 8)} (h : ByIn m sz x n l) :
    l.length = n * sz ∧ ∃ b o, ByAt m b o l ∧ ∀ π w v, MemRel π m w → x.cv π v → BySl π sz b o n v := by
  cases h with
  | nil h => exact ⟨by simp, 0, 0, fun q => absurd rfl q, fun π w v _ hv => .inl ⟨rfl, h π v hv⟩⟩
  | osl hn hb hg =>
    rename_i b o q blk
    obtain ⟨h1, h2⟩ := getSegs_len hm (Nat.mul_ne_zero hn hs) hb hg
    subst h2
    refine ⟨h1, b, o, fun _ => ⟨blk, hb, by rw [h1]; exact hg⟩, fun π w v hmr hv => .inr ⟨hn, ?_⟩⟩
    obtain ⟨p, c, e1, e2, e3, rfl⟩ := hv
    rw [szOf_ne hs] at e2
    exact ⟨p, c, e1, rfl, e3, e2⟩
  | slice hn hc hb hz hg =>
    rename_i b o c q blk
    obtain ⟨h1, h2⟩ := getSegs_len hm (Nat.mul_ne_zero hn hs) hb hg
    subst h2
    refine ⟨h1, b, o, fun _ => ⟨blk, hb, by rw [h1]; exact hg⟩, fun π w v hmr hv => .inr ⟨hn, ?_⟩⟩
    obtain ⟨p, e1, rfl⟩ := hv
    obtain ⟨p', vs, T, fz, f1, f2⟩ := hmr b blk hb
    rw [e1] at f1; cases f1
    exact ⟨p, c, e1, rfl, hc, by have := f2.2.2.1; omega⟩
  | sym h1 hn hb hg =>
    rename_i b o q blk
    subst h1
    obtain ⟨h1, h2⟩ := getSegs_len hm (Nat.mul_ne_zero hn hs) hb hg
    subst h2
    refine ⟨h1, b, o, fun _ => ⟨blk, hb, by rw [h1]; exact hg⟩, fun π w v hmr hv => .inr ⟨hn, ?_⟩⟩
    obtain ⟨p, c, e1, e2, e3, rfl⟩ := hv
    exact ⟨p, c, e1, rfl, e3, e2⟩

theorem ByIn.win1 {π0 : Loc} {w0 : World} (hm : MemRel π0 m w0) {x : V} {n : Nat} {l : List (BitVec 8)} (h : ByIn m 1 x n l) :
    ∃ b o, ByAt m b o l ∧ ∀ π w v, MemRel π m w → x.cv π v → BySl π 1 b o l.length v := by
  obtain ⟨h1, b, o, h2, h3⟩ := h.win (by omega) hm
  rw [Nat.mul_one] at h1
  subst h1
  exact ⟨b, o, h2, h3⟩

/-! ### The callee's view -/

def argZ (sz i n : Nat) : V := bif Nat.beq n 0 then .s .empty else .s (.osl i 0 n sz)
def argB (i n : Nat) : V := argZ 1 i n
def memBy (n : Nat) (l : List (BitVec 8)) : Option (List Seg) := bif Nat.beq n 0 then none else some [.b8 n l]

theorem memBy_nil : memBy 0 [] = none := rfl
theorem memBy_ne {l : List (BitVec 8)} (h : l ≠ []) : memBy l.length l = some [.b8 l.length l] := by
  unfold memBy
  cases hq : Nat.beq l.length 0
  · rfl
  · have := Nat.eq_of_beq_eq_true hq
    exact absurd (List.length_eq_zero_iff.1 this) h
def lk (l : List Nat) (i : Nat) : Nat := l.getD i 0

theorem argZ_cv {π : Loc} {σ o : Nat → Nat} {cmem : List (Option (List Seg))} {sz i n : Nat} {l : List (BitVec 8)} {v : Value} (hl : l.length = n * sz) (hs : sz ≠ 0) (h : BySl π sz (σ i) (o i) n v) (hc : l ≠ [] → cmem[i]? = some (some [.b8 l.length l])) :
    (argZ sz i n).cv (underW π σ o cmem) v := by
  unfold argZ
  rcases h with ⟨rfl, a, c, rfl⟩ | ⟨hne, p, c, h1, rfl, h2, h3⟩
  · exact ⟨a, c, rfl⟩
  · cases hq : Nat.beq n 0
    · have hl' : l ≠ [] := fun e => by
        subst e
        have : n * sz = 0 := hl.symm
        rcases Nat.mul_eq_zero.1 this with q | q
        · exact hne q
        · exact hs q
      refine ⟨⟨p.n, p.base + o i, p.z⟩, c, by rw [underW_some (hc hl'), h1]; rfl, by rw [szOf_ne hs]; show p.base + o i + 0 + c * sz ≤ p.z; omega, h2, rfl⟩
    · exact absurd (Nat.eq_of_beq_eq_true hq) hne

theorem argB_cv {π : Loc} {σ o : Nat → Nat} {cmem : List (Option (List Seg))} {i : Nat} {l : List (BitVec 8)} {v : Value} (h : BySl π 1 (σ i) (o i) l.length v) (hc : l ≠ [] → cmem[i]? = some (some [.b8 l.length l])) : (argB i l.length).cv (underW π σ o cmem) v :=
  argZ_cv (Nat.mul_one _).symm (by omega) h hc

/-- Bytes of unknown length. -/
def argS (i n : Nat) : V := .s (.osl i 0 n 0)
theorem argS_cv {π : Loc} {σ o : Nat → Nat} {cmem : List (Option (List Seg))} {i : Nat} {l : List (BitVec 8)} {v : Value} (h : BySl π 1 (σ i) (o i) l.length v) (hne : l ≠ []) (hc : cmem[i]? = some (some [.b8 l.length l])) : (argS i l.length).cv (underW π σ o cmem) v := by
  rcases h with ⟨h0, _⟩ | ⟨_, p, c, h1, rfl, h2, h3⟩
  · exact absurd (List.length_eq_zero_iff.1 h0) hne
  · exact ⟨⟨p.n, p.base + o i, p.z⟩, c, by rw [underW_some hc, h1]; rfl, by show p.base + o i + 0 + c * 1 ≤ p.z; omega, h2, rfl⟩

theorem pure_cv {π π' : Loc} {x : V} {v : Value} (h : x.below (fun _ => false) = true) (hv : x.cv π v) : x.cv π' v := cv_keep (ok := fun _ => false) (fun i hi => by cases hi) h hv

theorem ptr_cv {π : Loc} {σ o : Nat → Nat} {cmem : List (Option (List Seg))} {i q : Nat} {gs : List Seg} {v : Value} (hc : cmem[i]? = some (some gs)) (ho : o i = 0) (h : (V.s (.ptr (σ i) q)).cv π v) : (V.s (.ptr i q)).cv (underW π σ o cmem) v := by
  obtain ⟨p, h1, rfl⟩ := h
  exact ⟨⟨p.n, p.base + o i, p.z⟩, by rw [underW_some hc, h1]; rfl, by rw [ho]; rfl⟩

theorem argsW_nil {π π' : Loc} {vs : List Value} (h : argsCv π [] vs) : argsCv π' [] vs := h
theorem argsW_cons {π π' : Loc} {x c : V} {xs cs : List V} {vs : List Value} (hx : ∀ v, x.cv π v → c.cv π' v) (hr : ∀ vs, argsCv π xs vs → argsCv π' cs vs) (h : argsCv π (x :: xs) vs) : argsCv π' (c :: cs) vs := by
  obtain ⟨v, vr, e, h1, h2⟩ := h
  exact ⟨v, vr, e, hx v h1, hr vr h2⟩

/-- A table and its cipher, and two strings of bytes. -/
theorem sees_T {t c b1 o1 b2 o2 : Nat} {p : TP} {x y : Blk} (h : m t = some x) (hg : x.gs = tabC (.ptr c 0) p.st p.dl p.bl) (h' : m c = some y) (hg' : y.gs = ciphC p.kf p.kb p.k p.T) {l1 l2 : List (BitVec 8)} (h1 : ByAt m b1 o1 l1) (h2 : ByAt m b2 o2 l2) :
    SeesW (lk [t, c, b1, b2]) (lk [0, 0, o1, o2]) m [some (tabC (.ptr 1 0) p.st p.dl p.bl), some (ciphC p.kf p.kb p.k p.T), memBy l1.length l1, memBy l2.length l2] 2 := by
  refine ⟨fun i gs hi e => ?_, fun i gs hi e => ?_, fun i hi => ?_, fun i gs hi e => ?_⟩
  · match i, hi, e with
    | 0, _, e => simp at e; subst e; exact ⟨rfl, x, h, hg⟩
    | 1, _, e => simp at e; subst e; exact ⟨rfl, y, h', hg'⟩
  · match i, hi, e with
    | 2, _, e =>
      have e : memBy l1.length l1 = some gs := by simpa using e
      by_cases hn : l1 = []
      · subst hn; cases e
      · rw [memBy_ne hn] at e; cases e
        obtain ⟨blk, k1, k2⟩ := h1 hn
        refine ⟨rfl, ?_, blk, k1, ?_⟩
        · show l1.length + 0 ≠ 0
          have : l1.length ≠ 0 := fun q => hn (List.length_eq_zero_iff.1 q)
          omega
        · show getSegs blk.gs o1 (l1.length + 0) = _
          exact k2
    | 3, _, e =>
      have e : memBy l2.length l2 = some gs := by simpa using e
      by_cases hn : l2 = []
      · subst hn; cases e
      · rw [memBy_ne hn] at e; cases e
        obtain ⟨blk, k1, k2⟩ := h2 hn
        refine ⟨rfl, ?_, blk, k1, ?_⟩
        · show l2.length + 0 ≠ 0
          have : l2.length ≠ 0 := fun q => hn (List.length_eq_zero_iff.1 q)
          omega
        · show getSegs blk.gs o2 (l2.length + 0) = _
          exact k2
    | i + 4, _, e => simp at e
  · match i, hi with
    | 0, _ => exact ⟨_, rfl⟩
    | 1, _ => exact ⟨_, rfl⟩
  · match i, hi, e with
    | 0, _, e => simp at e; subst e; rfl
    | 1, _, e => simp at e; subst e; rfl

/-- Two strings of bytes. -/
theorem sees_N {b1 o1 b2 o2 : Nat} {l1 l2 : List (BitVec 8)} (h1 : ByAt m b1 o1 l1) (h2 : ByAt m b2 o2 l2) : SeesW (lk [b1, b2]) (lk [o1, o2]) m [memBy l1.length l1, memBy l2.length l2] 0 := by
  refine ⟨fun i gs hi => (by omega), fun i gs hi e => ?_, fun i hi => (by omega), fun i gs hi => (by omega)⟩
  match i, e with
  | 0, e =>
    have e : memBy l1.length l1 = some gs := by simpa using e
    by_cases hn : l1 = []
    · subst hn; cases e
    · rw [memBy_ne hn] at e; cases e
      obtain ⟨blk, k1, k2⟩ := h1 hn
      refine ⟨rfl, ?_, blk, k1, ?_⟩
      · show l1.length + 0 ≠ 0
        have : l1.length ≠ 0 := fun q => hn (List.length_eq_zero_iff.1 q)
        omega
      · show getSegs blk.gs o1 (l1.length + 0) = _
        exact k2
  | 1, e =>
    have e : memBy l2.length l2 = some gs := by simpa using e
    by_cases hn : l2 = []
    · subst hn; cases e
    · rw [memBy_ne hn] at e; cases e
      obtain ⟨blk, k1, k2⟩ := h2 hn
      refine ⟨rfl, ?_, blk, k1, ?_⟩
      · show l2.length + 0 ≠ 0
        have : l2.length ≠ 0 := fun q => hn (List.length_eq_zero_iff.1 q)
        omega
      · show getSegs blk.gs o2 (l2.length + 0) = _
        exact k2
  | i + 2, e => simp at e

theorem byAt_nil {b o : Nat} : ByAt m b o [] := fun q => absurd rfl q

end

/-- Fits where the caller's memory stands for some world's. -/
theorem Fits.introM {G : Gl} {P : Program} {f : Nat} {args : List V} {fresh : Nat} {m : Nat → Option Blk} {v : V} {news : List (List Seg)} (he : enters P f)
    (h : ∀ π w vargs, MemRel π m w → argsCv π args vargs → Fits G P f args fresh m v news) : Fits G P f args fresh m v news :=
  ⟨he, fun π w vargs hm hl hg ha hf => (h π w vargs hm ha).2 π w vargs hm hl hg ha hf⟩

/-- A row of equations out of one. -/
theorem map_at {α : Type} {f g : Nat → α} {N : Nat} (h : (List.range N).map f = (List.range N).map g) {n : Nat} (hn : n < N) : f n = g n := by
  have := congrArg (·[n]?) h
  simpa [hn] using this

def noInl : Inl := fun _ => none
theorem noInl_ok {P : Program} : InlOk P noInl := fun _ _ h => by cases h

/-! ### Contracts of functions that are handed bytes -/

/-- The evaluation, and what is to be looked at beside it. -/
def ev2 (K : Cx) (inl : Inl) (fuel : Nat) (fn : Func) (cargs : List V) (cmem : List (Option (List Seg))) (orc : List (Option Bool)) (E : List Nat) (v : V) (gsl : List (List Seg)) : Option (V × List (Bool × Bool) × List (Option Blk)) × Bool :=
  (evalG K (rgL K inl fuel) fuel fn cargs cmem orc E, sideG fn cargs v E gsl)

def Pures (xs cs : List V) : Prop := ∀ π π' vs, argsCv π xs vs → argsCv π' cs vs

theorem pures_nil : Pures [] [] := fun _ _ _ h => h
theorem pures_cons {x c : V} {xs cs : List V} (hx : ∀ π π' v, x.cv π v → c.cv π' v) (h : Pures xs cs) : Pures (x :: xs) (c :: cs) := fun π π' _ ha => argsW_cons (hx π π') (h π π') ha
theorem pures_flat {x : V} {xs cs : List V} (hx : x.below (fun _ => false) = true) (h : Pures xs cs) : Pures (x :: xs) (x :: cs) := pures_cons (fun _ _ _ hv => pure_cv hx hv) h

theorem argsW_app {π π' : Loc} : ∀ {xs cs ys ds : List V} {vs : List Value}, (∀ vs, argsCv π xs vs → argsCv π' cs vs) → (∀ vs, argsCv π ys vs → argsCv π' ds vs) → argsCv π (xs ++ ys) vs → argsCv π' (cs ++ ds) vs
  | xs, cs, ys, ds, vs, hx, hy, h => by
    have split : ∀ (xs : List V) (vs : List Value), argsCv π (xs ++ ys) vs → ∃ a b, vs = a ++ b ∧ argsCv π xs a ∧ argsCv π ys b := by
      intro xs
      induction xs with
      | nil => intro vs h; exact ⟨[], vs, rfl, rfl, h⟩
      | cons x r ih =>
        rintro vs ⟨v, vr, rfl, h1, h2⟩
        obtain ⟨a, b, rfl, h3, h4⟩ := ih vr h2
        exact ⟨v :: a, b, rfl, ⟨v, a, rfl, h1, h3⟩, h4⟩
    obtain ⟨a, b, rfl, h1, h2⟩ := split xs vs h
    exact argsCv_append (hx a h1) (hy b h2)

/-- A computation that reads a table and its cipher. -/
def rdTK {α : Type} (t : Nat) (f : Nat → TP → Rd α) : Rd α :=
  .read t fun x =>
    match x.gs with
    | [.s (.ptr c 0), .b8 16 st, .b8 16 dl, .b8 1024 bl] =>
      .read c fun y =>
        match y.gs with
        | [.s (.bool true), .b32 44 kf, .b32 44 kb, .b8 16 k, .b32 512 T] => f c ⟨st, dl, bl, kf, kb, k, T⟩
        | _ => .fail
    | _ => .fail

theorem rdTK_run {α : Type} {m : Nat → Option Blk} {t : Nat} {f : Nat → TP → Rd α} {r : α} {fp : List Nat} (h : (rdTK t f).run m = some (r, fp)) :
    ∃ c p x y fp', m t = some x ∧ x.gs = tabC (.ptr c 0) p.st p.dl p.bl ∧ m c = some y ∧ y.gs = ciphC p.kf p.kb p.k p.T ∧ (f c p).run m = some (r, fp') := by
  obtain ⟨x, fp', h1, h2, _⟩ := read_run h
  split at h2
  · rename_i c st dl bl hx
    obtain ⟨y, fp2, h3, h4, _⟩ := read_run h2
    split at h4
    · rename_i kf kb k T hy
      exact ⟨c, ⟨st, dl, bl, kf, kb, k, T⟩, x, y, fp2, h1, hx, h3, hy, h4⟩
    · exact (fail_run h4).elim
  · exact (fail_run h2).elim

def memT (p : TP) (x y : Option (List Seg)) : List (Option (List Seg)) := [some (tabC (.ptr 1 0) p.st p.dl p.bl), some (ciphC p.kf p.kb p.k p.T), x, y]

section
variable {G : Gl} {K : Cx} {inl : Inl} {m : Nat → Option Blk} {f : Nat} {fn : Func} {fuel : Nat} {orc : List (Option Bool)} {v : V} {obs : List (Bool × Bool)} {E : List Nat} {gsl : List (List Seg)} {fresh : Nat} {px pc : List V}

theorem sideG_name {cargs : List V} (h : sideG fn cargs v E gsl = true) : (fn.name == "runtime.NumGoroutine") = false := by
  simp only [sideG, Bool.and_eq_true, Bool.not_eq_true'] at h
  exact h.1

theorem ev2_enters {cargs : List V} {cmem : List (Option (List Seg))} (hf : K.P.funcs[f]? = some fn) (he : ev2 K inl fuel fn cargs cmem orc E v gsl = (some (v, obs, newBlks gsl), true)) : enters K.P f := by
  simp only [ev2, Prod.mk.injEq] at he
  refine ⟨fn, hf, ?_, sideG_name he.2⟩
  have := he.1
  unfold evalG afuncG at this
  cases hb : fn.body with
  | none => rw [hb] at this; cases this
  | some c => rfl

theorem fits_TB (hG : Good G K) (hi : InlOk K.P inl) (hf : K.P.funcs[f]? = some fn) {sz t c : Nat} (hs : sz ≠ 0) {p : TP} {x y : Blk} (h1 : m t = some x) (h2 : x.gs = tabC (.ptr c 0) p.st p.dl p.bl) (h3 : m c = some y) (h4 : y.gs = ciphC p.kf p.kb p.k p.T)
    {b : V} {n : Nat} {l : List (BitVec 8)} (hin : ByIn m sz b n l) (hp : Pures px pc)
    (he : ev2 K inl fuel fn (.s (.ptr 0 0) :: (pc ++ [argZ sz 2 n])) (memT p (memBy (n * sz) l) none) orc E v gsl = (some (v, obs, newBlks gsl), true)) (hobs : l.length = n * sz → ObsOk obs) :
    Fits G K.P f (.s (.ptr t 0) :: (px ++ [b])) fresh m (v.ren (newIdx E fresh)) (gsl.map (renSegs (newIdx E fresh))) := by
  refine Fits.introM (ev2_enters hf he) fun π w vargs hm _ => ?_
  obtain ⟨hl, bb, oo, hb1, hb2⟩ := hin.win hs hm
  simp only [ev2, Prod.mk.injEq] at he
  rw [← hl] at he
  refine fitsG hG hi fuel fuel _ _ 2 orc E hf he.1 (hobs hl) he.2 (sees_T h1 h2 h3 h4 hb1 (byAt_nil (b := 0) (o := 0))) fresh (fun π w vargs hm => argsW_cons (fun v hv => ?_) (fun _ => argsW_app (hp _ _) (fun _ => argsW_cons (fun v hv => ?_) (fun _ => argsW_nil)))) rfl rfl
  · exact ptr_cv (σ := lk [t, c, bb, 0]) (i := 0) rfl rfl hv
  · exact argZ_cv (σ := lk [t, c, bb, 0]) (o := lk [0, 0, oo, 0]) (i := 2) hl hs (hb2 π w v hm hv) (fun hne => by show some (memBy l.length l) = _; rw [memBy_ne hne])

theorem fits_TBB (hG : Good G K) (hi : InlOk K.P inl) (hf : K.P.funcs[f]? = some fn) {t c : Nat} {p : TP} {x y : Blk} (h1 : m t = some x) (h2 : x.gs = tabC (.ptr c 0) p.st p.dl p.bl) (h3 : m c = some y) (h4 : y.gs = ciphC p.kf p.kb p.k p.T)
    {b b' : V} {n n' : Nat} {l l' : List (BitVec 8)} (hin : ByIn m 1 b n l) (hin' : ByIn m 1 b' n' l') (hp : Pures px pc)
    (he : ev2 K inl fuel fn (.s (.ptr 0 0) :: (pc ++ [argB 2 n, argB 3 n'])) (memT p (memBy n l) (memBy n' l')) orc E v gsl = (some (v, obs, newBlks gsl), true)) (hobs : l.length = n → l'.length = n' → ObsOk obs) :
    Fits G K.P f (.s (.ptr t 0) :: (px ++ [b, b'])) fresh m (v.ren (newIdx E fresh)) (gsl.map (renSegs (newIdx E fresh))) := by
  refine Fits.introM (ev2_enters hf he) fun π w vargs hm _ => ?_
  obtain ⟨hl, bb, oo, hb1, hb2⟩ := hin.win (by omega) hm
  obtain ⟨hl', bb', oo', hb1', hb2'⟩ := hin'.win (by omega) hm
  rw [Nat.mul_one] at hl hl'
  subst hl; subst hl'
  simp only [ev2, Prod.mk.injEq] at he
  refine fitsG hG hi fuel fuel _ _ 2 orc E hf he.1 (hobs rfl rfl) he.2 (sees_T h1 h2 h3 h4 hb1 hb1') fresh (fun π w vargs hm => argsW_cons (fun v hv => ?_) (fun _ => argsW_app (hp _ _) (fun _ => argsW_cons (fun v hv => ?_) (fun _ => argsW_cons (fun v hv => ?_) (fun _ => argsW_nil))))) rfl rfl
  · exact ptr_cv (σ := lk [t, c, bb, bb']) (i := 0) rfl rfl hv
  · exact argB_cv (σ := lk [t, c, bb, bb']) (o := lk [0, 0, oo, oo']) (i := 2) (hb2 π w v hm hv) (fun hne => by show some (memBy l.length l) = _; rw [memBy_ne hne])
  · exact argB_cv (σ := lk [t, c, bb, bb']) (o := lk [0, 0, oo, oo']) (i := 3) (hb2' π w v hm hv) (fun hne => by show some (memBy l'.length l') = _; rw [memBy_ne hne])

theorem fits_B (hG : Good G K) (hi : InlOk K.P inl) (hf : K.P.funcs[f]? = some fn) {b : V} {n : Nat} {l : List (BitVec 8)} (hin : ByIn m 1 b n l) {qx qc : List V} (hp : Pures px pc) (hq : Pures qx qc)
    (he : ev2 K inl fuel fn (pc ++ (argB 0 n :: qc)) [memBy n l, none] orc E v gsl = (some (v, obs, newBlks gsl), true)) (hobs : l.length = n → ObsOk obs) :
    Fits G K.P f (px ++ (b :: qx)) fresh m (v.ren (newIdx E fresh)) (gsl.map (renSegs (newIdx E fresh))) := by
  refine Fits.introM (ev2_enters hf he) fun π w vargs hm _ => ?_
  obtain ⟨hl, bb, oo, hb1, hb2⟩ := hin.win (by omega) hm
  rw [Nat.mul_one] at hl
  subst hl
  simp only [ev2, Prod.mk.injEq] at he
  refine fitsG hG hi fuel fuel _ _ 0 orc E hf he.1 (hobs rfl) he.2 (sees_N hb1 (byAt_nil (b := 0) (o := 0))) fresh (fun π w vargs hm => argsW_app (hp _ _) (fun _ => argsW_cons (fun v hv => ?_) (hq _ _))) rfl rfl
  exact argB_cv (σ := lk [bb, 0]) (o := lk [oo, 0]) (i := 0) (hb2 π w v hm hv) (fun hne => by show some (memBy l.length l) = _; rw [memBy_ne hne])

theorem fits_BB (hG : Good G K) (hi : InlOk K.P inl) (hf : K.P.funcs[f]? = some fn) {b b' : V} {n n' : Nat} {l l' : List (BitVec 8)} (hin : ByIn m 1 b n l) (hin' : ByIn m 1 b' n' l') (hp : Pures px pc)
    (he : ev2 K inl fuel fn (pc ++ [argB 0 n, argB 1 n']) [memBy n l, memBy n' l'] orc E v gsl = (some (v, obs, newBlks gsl), true)) (hobs : l.length = n → l'.length = n' → ObsOk obs) :
    Fits G K.P f (px ++ [b, b']) fresh m (v.ren (newIdx E fresh)) (gsl.map (renSegs (newIdx E fresh))) := by
  refine Fits.introM (ev2_enters hf he) fun π w vargs hm _ => ?_
  obtain ⟨hl, bb, oo, hb1, hb2⟩ := hin.win (by omega) hm
  obtain ⟨hl', bb', oo', hb1', hb2'⟩ := hin'.win (by omega) hm
  rw [Nat.mul_one] at hl hl'
  subst hl; subst hl'
  simp only [ev2, Prod.mk.injEq] at he
  refine fitsG hG hi fuel fuel _ _ 0 orc E hf he.1 (hobs rfl rfl) he.2 (sees_N hb1 hb1') fresh (fun π w vargs hm => argsW_app (hp _ _) (fun _ => argsW_cons (fun v hv => ?_) (fun _ => argsW_cons (fun v hv => ?_) (fun _ => argsW_nil)))) rfl rfl
  · exact argB_cv (σ := lk [bb, bb']) (o := lk [oo, oo']) (i := 0) (hb2 π w v hm hv) (fun hne => by show some (memBy l.length l) = _; rw [memBy_ne hne])
  · exact argB_cv (σ := lk [bb, bb']) (o := lk [oo, oo']) (i := 1) (hb2' π w v hm hv) (fun hne => by show some (memBy l'.length l') = _; rw [memBy_ne hne])

theorem fits_TSB (hG : Good G K) (hi : InlOk K.P inl) (hf : K.P.funcs[f]? = some fn) {t c : Nat} {p : TP} {x y : Blk} (h1 : m t = some x) (h2 : x.gs = tabC (.ptr c 0) p.st p.dl p.bl) (h3 : m c = some y) (h4 : y.gs = ciphC p.kf p.kb p.k p.T)
    {b b' : V} {n n' : Nat} {l l' : List (BitVec 8)} (hn : n ≠ 0) (hin : ByIn m 1 b n l) (hin' : ByIn m 1 b' n' l') (hp : Pures px pc)
    (he : ev2 K inl fuel fn (.s (.ptr 0 0) :: (pc ++ [argS 2 n, argB 3 n'])) (memT p (some [.b8 n l]) (memBy n' l')) orc E v gsl = (some (v, obs, newBlks gsl), true)) (hobs : l.length = n → l'.length = n' → ObsOk obs) :
    Fits G K.P f (.s (.ptr t 0) :: (px ++ [b, b'])) fresh m (v.ren (newIdx E fresh)) (gsl.map (renSegs (newIdx E fresh))) := by
  refine Fits.introM (ev2_enters hf he) fun π w vargs hm _ => ?_
  obtain ⟨hl, bb, oo, hb1, hb2⟩ := hin.win (by omega) hm
  obtain ⟨hl', bb', oo', hb1', hb2'⟩ := hin'.win (by omega) hm
  rw [Nat.mul_one] at hl hl'
  subst hl; subst hl'
  have hne : l ≠ [] := fun e => hn (by rw [e]; rfl)
  simp only [ev2, Prod.mk.injEq] at he
  have hs := sees_T h1 h2 h3 h4 hb1 hb1'
  rw [memBy_ne hne] at hs
  refine fitsG hG hi fuel fuel _ _ 2 orc E hf he.1 (hobs rfl rfl) he.2 hs fresh (fun π w vargs hm => argsW_cons (fun v hv => ?_) (fun _ => argsW_app (hp _ _) (fun _ => argsW_cons (fun v hv => ?_) (fun _ => argsW_cons (fun v hv => ?_) (fun _ => argsW_nil))))) rfl rfl
  · exact ptr_cv (σ := lk [t, c, bb, bb']) (i := 0) rfl rfl hv
  · exact argS_cv (σ := lk [t, c, bb, bb']) (o := lk [0, 0, oo, oo']) (i := 2) (hb2 π w v hm hv) hne rfl
  · exact argB_cv (σ := lk [t, c, bb, bb']) (o := lk [0, 0, oo, oo']) (i := 3) (hb2' π w v hm hv) (fun hne => by show some (memBy l'.length l') = _; rw [memBy_ne hne])

theorem fits_SB (hG : Good G K) (hi : InlOk K.P inl) (hf : K.P.funcs[f]? = some fn) {b b' : V} {n n' : Nat} {l l' : List (BitVec 8)} (hn : n ≠ 0) (hin : ByIn m 1 b n l) (hin' : ByIn m 1 b' n' l') (hp : Pures px pc)
    (he : ev2 K inl fuel fn (pc ++ [argS 0 n, argB 1 n']) [some [.b8 n l], memBy n' l'] orc E v gsl = (some (v, obs, newBlks gsl), true)) (hobs : l.length = n → l'.length = n' → ObsOk obs) :
    Fits G K.P f (px ++ [b, b']) fresh m (v.ren (newIdx E fresh)) (gsl.map (renSegs (newIdx E fresh))) := by
  refine Fits.introM (ev2_enters hf he) fun π w vargs hm _ => ?_
  obtain ⟨hl, bb, oo, hb1, hb2⟩ := hin.win (by omega) hm
  obtain ⟨hl', bb', oo', hb1', hb2'⟩ := hin'.win (by omega) hm
  rw [Nat.mul_one] at hl hl'
  subst hl; subst hl'
  have hne : l ≠ [] := fun e => hn (by rw [e]; rfl)
  simp only [ev2, Prod.mk.injEq] at he
  have hs := sees_N hb1 hb1'
  rw [memBy_ne hne] at hs
  refine fitsG hG hi fuel fuel _ _ 0 orc E hf he.1 (hobs rfl rfl) he.2 hs fresh (fun π w vargs hm => argsW_app (hp _ _) (fun _ => argsW_cons (fun v hv => ?_) (fun _ => argsW_cons (fun v hv => ?_) (fun _ => argsW_nil)))) rfl rfl
  · exact argS_cv (σ := lk [bb, bb']) (o := lk [oo, oo']) (i := 0) (hb2 π w v hm hv) hne rfl
  · exact argB_cv (σ := lk [bb, bb']) (o := lk [oo, oo']) (i := 1) (hb2' π w v hm hv) (fun hne => by show some (memBy l'.length l') = _; rw [memBy_ne hne])

/-- Both lengths unknown. -/
theorem fits_SS (hG : Good G K) (hi : InlOk K.P inl) (hf : K.P.funcs[f]? = some fn) {b b' : V} {n n' : Nat} {l l' : List (BitVec 8)} (hn : n ≠ 0) (hn' : n' ≠ 0) (hin : ByIn m 1 b n l) (hin' : ByIn m 1 b' n' l') (hp : Pures px pc)
    (he : ev2 K inl fuel fn (pc ++ [argS 0 n, argS 1 n']) [some [.b8 n l], some [.b8 n' l']] orc E v gsl = (some (v, obs, newBlks gsl), true)) (hobs : l.length = n → l'.length = n' → ObsOk obs) :
    Fits G K.P f (px ++ [b, b']) fresh m (v.ren (newIdx E fresh)) (gsl.map (renSegs (newIdx E fresh))) := by
  refine Fits.introM (ev2_enters hf he) fun π w vargs hm _ => ?_
  obtain ⟨hl, bb, oo, hb1, hb2⟩ := hin.win (by omega) hm
  obtain ⟨hl', bb', oo', hb1', hb2'⟩ := hin'.win (by omega) hm
  rw [Nat.mul_one] at hl hl'
  subst hl; subst hl'
  have hne : l ≠ [] := fun e => hn (by rw [e]; rfl)
  have hne' : l' ≠ [] := fun e => hn' (by rw [e]; rfl)
  simp only [ev2, Prod.mk.injEq] at he
  have hs := sees_N hb1 hb1'
  rw [memBy_ne hne, memBy_ne hne'] at hs
  refine fitsG hG hi fuel fuel _ _ 0 orc E hf he.1 (hobs rfl rfl) he.2 hs fresh (fun π w vargs hm => argsW_app (hp _ _) (fun _ => argsW_cons (fun v hv => ?_) (fun _ => argsW_cons (fun v hv => ?_) (fun _ => argsW_nil)))) rfl rfl
  · exact argS_cv (σ := lk [bb, bb']) (o := lk [oo, oo']) (i := 0) (hb2 π w v hm hv) hne rfl
  · exact argS_cv (σ := lk [bb, bb']) (o := lk [oo, oo']) (i := 1) (hb2' π w v hm hv) hne' rfl
end
end
end Go.Mo
