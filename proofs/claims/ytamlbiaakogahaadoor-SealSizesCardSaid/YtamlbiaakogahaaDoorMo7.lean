/- The abstract evaluator, part 1: scalars, segments, values; what they stand for; reading and writing segments. No program in sight. -/
import Derived.WalkKit
import Derived.Orders
import Derived.Below
import Derived.Laws.CopyRow
import Derived.Laws.Cells
import Derived.KernelRfl
import Derived.WalkLawsBesides
import Derived.DeepKeys

namespace Go.Mo
open Go

/-- The list without its first n: made so that the kernel keeps what it has reckoned. -/
noncomputable def dropC {α : Type} (l : List α) (n : Nat) : List α := Nat.rec (motive := fun _ => List α) l (fun _ r => List.casesOn r [] (fun _ t => t)) n

noncomputable def nth {α : Type} (d : α) (l : List α) (n : Nat) : α := List.casesOn (dropC l n) d (fun x _ => x)

theorem dropC_eq {α : Type} (l : List α) (n : Nat) : dropC l n = l.drop n := by
  induction n with
  | zero => rfl
  | succ n ih =>
    show List.casesOn (motive := fun _ => List α) (dropC l n) [] (fun _ t => t) = _
    rw [ih]
    cases h : l.drop n with
    | nil => have := List.drop_eq_nil_iff.1 h; rw [List.drop_eq_nil_of_le (by omega)]
    | cons x t =>
      have : l.drop (n + 1) = (l.drop n).drop 1 := by rw [List.drop_drop]
      rw [this, h]; rfl

theorem nth_eq {α : Type} (d : α) (l : List α) (n : Nat) : nth d l n = l.getD n d := by
  unfold nth
  rw [dropC_eq]
  cases h : l.drop n with
  | nil => have := List.drop_eq_nil_iff.1 h; simp [List.getD, List.getElem?_eq_none this]
  | cons x t =>
    have : l[n]? = some x := by
      have := congrArg (·[0]?) h
      simpa using this
    simp [List.getD, this]

/-- One cell, or one slot. -/
inductive Sc where
  | any
  | undef
  | i (k : IntKind) (n : Int)
  | si (n : Int)
  | b8 (x : BitVec 8)
  | b32 (x : BitVec 32)
  | b64 (x : BitVec 64)
  | bool (b : Bool)
  | ptr (b o : Nat)
  | pix (b o : Nat) (x : BitVec 8)
  | nil
  | slice (b o len cap : Nat)
  | osl (b o len sz : Nat)
  | empty
  | nilSlice
  | fn (f : Nat) (caps : List (Nat × Nat))
  | iface (t : Nat) (k : IntKind) (n : Int)
  | nilIface
  deriving Inhabited

/-- Cells side by side: bytes and words as lists. -/
inductive Seg where
  | s (x : Sc)
  | b8 (n : Nat) (l : List (BitVec 8))
  | b32 (n : Nat) (l : List (BitVec 32))
  | is (n : Nat) (l : List Int)
  deriving Inhabited

/-- A value in a slot: a scalar, an array or struct, several results. -/
inductive V where
  | s (x : Sc)
  | a (gs : List Seg)
  | t (l : List (Bool × List Seg))
  deriving Inhabited

/-- Where a block lies: in which real one, from which cell on; how many cells that one has. -/
structure Pl where
  n : Nat
  base : Nat
  z : Nat

abbrev Loc := Nat → Option Pl

def capsCv (π : Loc) : List (Nat × Nat) → List Value → Prop
  | [], vs => vs = []
  | (b, o) :: r, vs => ∃ p vr, π b = some p ∧ vs = Value.pointer (some ⟨p.n, p.base + o, none⟩) :: vr ∧ capsCv π r vr

/-- How many cells an element of a slice has; 0: a slice of bytes of unknown length. -/
def szOf (z : Nat) : Nat := bif Nat.beq z 0 then 1 else z
theorem szOf_ne {z : Nat} (h : z ≠ 0) : szOf z = z := by
  unfold szOf
  cases q : Nat.beq z 0
  · rfl
  · exact absurd (Nat.eq_of_beq_eq_true q) h

def Sc.cv (π : Loc) : Sc → Value → Prop
  | .any, _ => True
  | .undef, v => v = Go.undef
  | .i k n, v => v = .int k n
  | .si n, v => v = .int .i64 n
  | .b8 x, v => v = .int .u8 (x.toNat : Int)
  | .b32 x, v => v = .int .u32 (x.toNat : Int)
  | .b64 x, v => v = .int .u64 (x.toNat : Int)
  | .bool b, v => v = .bool b
  | .ptr b o, v => ∃ p, π b = some p ∧ v = .pointer (some ⟨p.n, p.base + o, none⟩)
  | .pix b o x, v => ∃ p, π b = some p ∧ v = .pointer (some ⟨p.n, p.base + (o + x.toNat), none⟩)
  | .nil, v => v = .pointer none
  | .slice b o len cap, v => ∃ p, π b = some p ∧ v = .slice (some ⟨p.n, p.base + o, none⟩) len cap
  | .osl b o len sz, v => ∃ p c, π b = some p ∧ p.base + o + c * szOf sz ≤ p.z ∧ len ≤ c ∧ v = .slice (some ⟨p.n, p.base + o, none⟩) len c
  | .empty, v => ∃ a c, v = .slice a 0 c
  | .nilSlice, v => v = .slice none 0 0
  | .fn f caps, v => ∃ vs, v = .func (.func f) #[] vs.toArray ∧ capsCv π caps vs
  | .iface t k n, v => v = .iface t (.int k n)
  | .nilIface, v => v = .nilIface

def v8 (x : BitVec 8) : Value := .int .u8 (x.toNat : Int)
def v32 (x : BitVec 32) : Value := .int .u32 (x.toNat : Int)
def v64 (x : Int) : Value := .int .i64 x

def Seg.cv (π : Loc) : Seg → List Value → Prop
  | .s x, vs => ∃ v, vs = [v] ∧ x.cv π v
  | .b8 n l, vs => l.length = n ∧ vs = l.map v8
  | .b32 n l, vs => l.length = n ∧ vs = l.map v32
  | .is n l, vs => l.length = n ∧ vs = l.map v64

def segsCv (π : Loc) : List Seg → List Value → Prop
  | [], vs => vs = []
  | g :: gs, vs => ∃ a b, vs = a ++ b ∧ g.cv π a ∧ segsCv π gs b

def compCv (π : Loc) : Bool × List Seg → Value → Prop
  | (true, [.s x]), v => x.cv π v
  | (true, _), _ => False
  | (false, gs), v => ∃ vs : List Value, v = .agg vs.toArray ∧ segsCv π gs vs

def tupCv (π : Loc) : List (Bool × List Seg) → List Value → Prop
  | [], vs => vs = []
  | c :: cs, vs => ∃ v vr, vs = v :: vr ∧ compCv π c v ∧ tupCv π cs vr

def V.cv (π : Loc) : V → Value → Prop
  | .s x, v => x.cv π v
  | .a gs, v => ∃ vs : List Value, v = .agg vs.toArray ∧ segsCv π gs vs
  | .t l, v => ∃ vs : List Value, v = .tuple vs.toArray ∧ tupCv π l vs

/-- More is known of where things lie. -/
def Loc.le (π π' : Loc) : Prop := ∀ i p, π i = some p → π' i = some p
theorem Loc.le_refl (π : Loc) : π.le π := fun _ _ h => h
theorem Loc.le_trans {a b c : Loc} (h : a.le b) (k : b.le c) : a.le c := fun i n e => k i n (h i n e)

theorem capsCv_mono {π π' : Loc} (h : π.le π') : ∀ (l : List (Nat × Nat)) (vs : List Value), capsCv π l vs → capsCv π' l vs
  | [], _, e => e
  | (_, _) :: r, _, ⟨n, vr, e, e', k⟩ => ⟨n, vr, h _ _ e, e', capsCv_mono h r vr k⟩

theorem Sc.cv_mono {π π' : Loc} (h : π.le π') {x : Sc} {v : Value} (e : x.cv π v) : x.cv π' v := by
  cases x <;> simp only [Sc.cv] at e ⊢ <;> try exact e
  · obtain ⟨n, e1, e2⟩ := e; exact ⟨n, h _ _ e1, e2⟩
  · obtain ⟨n, e1, e2⟩ := e; exact ⟨n, h _ _ e1, e2⟩
  · obtain ⟨n, e1, e2⟩ := e; exact ⟨n, h _ _ e1, e2⟩
  · obtain ⟨n, c, e1, e2⟩ := e; exact ⟨n, c, h _ _ e1, e2⟩
  · obtain ⟨vs, e1, e2⟩ := e; exact ⟨vs, e1, capsCv_mono h _ _ e2⟩

theorem Seg.cv_mono {π π' : Loc} (h : π.le π') {g : Seg} {vs : List Value} (e : g.cv π vs) : g.cv π' vs := by
  cases g with
  | s x => obtain ⟨v, e1, e2⟩ := e; exact ⟨v, e1, Sc.cv_mono h e2⟩
  | _ => exact e

theorem segsCv_mono {π π' : Loc} (h : π.le π') : ∀ {gs : List Seg} {vs : List Value}, segsCv π gs vs → segsCv π' gs vs
  | [], _, e => e
  | _ :: _, _, ⟨a, b, e, ha, hb⟩ => ⟨a, b, e, Seg.cv_mono h ha, segsCv_mono h hb⟩

theorem compCv_mono {π π' : Loc} (h : π.le π') {c : Bool × List Seg} {v : Value} (e : compCv π c v) : compCv π' c v := by
  obtain ⟨b, gs⟩ := c
  cases b with
  | false => obtain ⟨vs, e1, e2⟩ := e; exact ⟨vs, e1, segsCv_mono h e2⟩
  | true =>
    match gs, e with
    | [.s x], e => exact Sc.cv_mono (x := x) h e

theorem tupCv_mono {π π' : Loc} (h : π.le π') : ∀ {l : List (Bool × List Seg)} {vs : List Value}, tupCv π l vs → tupCv π' l vs
  | [], _, e => e
  | _ :: _, _, ⟨v, vr, e, hc, hr⟩ => ⟨v, vr, e, compCv_mono h hc, tupCv_mono h hr⟩

theorem V.cv_mono {π π' : Loc} (h : π.le π') {x : V} {v : Value} (e : x.cv π v) : x.cv π' v := by
  cases x with
  | s x => exact Sc.cv_mono (x := x) h e
  | a gs => obtain ⟨vs, e1, e2⟩ := e; exact ⟨vs, e1, segsCv_mono h e2⟩
  | t l => obtain ⟨vs, e1, e2⟩ := e; exact ⟨vs, e1, tupCv_mono h e2⟩

/-! ### Sizes, reading, writing -/

def Seg.size : Seg → Nat
  | .s _ => 1
  | .b8 n _ => n
  | .b32 n _ => n
  | .is n _ => n

def segsSize : List Seg → Nat
  | [] => 0
  | g :: gs => g.size + segsSize gs

theorem Seg.cv_length {π : Loc} {g : Seg} {vs : List Value} (h : g.cv π vs) : vs.length = g.size := by
  cases g with
  | s x => obtain ⟨v, rfl, _⟩ := h; rfl
  | b8 n l => obtain ⟨e, rfl⟩ := h; simpa [Seg.size] using e
  | b32 n l => obtain ⟨e, rfl⟩ := h; simpa [Seg.size] using e
  | is n l => obtain ⟨e, rfl⟩ := h; simpa [Seg.size] using e

theorem segsCv_length {π : Loc} : ∀ {gs : List Seg} {vs : List Value}, segsCv π gs vs → vs.length = segsSize gs
  | [], _, e => by subst e; rfl
  | _ :: _, _, ⟨a, b, e, ha, hb⟩ => by subst e; simp [segsSize, Seg.cv_length ha, segsCv_length hb]

theorem segsCv_append {π : Loc} : ∀ {gs hs : List Seg} {vs us : List Value}, segsCv π gs vs → segsCv π hs us → segsCv π (gs ++ hs) (vs ++ us)
  | [], _, _, _, e, k => by subst e; exact k
  | _ :: _, _, _, us, ⟨a, b, e, ha, hb⟩, k => ⟨a, b ++ us, by subst e; simp, ha, segsCv_append hb k⟩

/-- A part of a segment. -/
def Seg.sub : Seg → Nat → Nat → Option Seg
  | .s x, 0, 1 => some (.s x)
  | .b8 n l, off, m => bif Nat.ble (off + m) n then some (bif Nat.beq m n then .b8 n l else .b8 m ((l.drop off).take m)) else none
  | .b32 n l, off, m => bif Nat.ble (off + m) n then some (bif Nat.beq m n then .b32 n l else .b32 m ((l.drop off).take m)) else none
  | .is n l, off, m => bif Nat.ble (off + m) n then some (bif Nat.beq m n then .is n l else .is m ((l.drop off).take m)) else none
  | _, _, _ => none

theorem listSub {α : Type} (f : α → Value) {l : List α} {n off m : Nat} (hl : l.length = n) (h : off + m ≤ n) :
    ((l.drop off).take m).length = m ∧ ((l.map f).drop off).take m = ((l.drop off).take m).map f := by
  constructor
  · simp; omega
  · simp [List.map_take, List.map_drop]

theorem listWhole {α : Type} {l : List α} {n off m : Nat} (hl : l.length = n) (h : off + m ≤ n) (hm : m = n) : off = 0 ∧ l.take m = l := by
  refine ⟨by omega, List.take_of_length_le (by omega)⟩

theorem Seg.sub_cv {π : Loc} {g p : Seg} {vs : List Value} {off m : Nat} (hc : g.cv π vs) (h : g.sub off m = some p) :
    off + m ≤ vs.length ∧ p.cv π ((vs.drop off).take m) := by
  cases g with
  | s x =>
    match off, m, h with
    | 0, 1, h => simp only [Seg.sub, Option.some.injEq] at h; subst h; obtain ⟨v, rfl, hv⟩ := hc; exact ⟨by simp, v, by simp, hv⟩
  | b8 n l =>
    simp only [Seg.sub] at h
    cases hb : Nat.ble (off + m) n <;> simp [hb] at h
    have hle := Nat.le_of_ble_eq_true hb
    obtain ⟨hl, rfl⟩ := hc
    refine ⟨by simp; omega, ?_⟩
    cases hq : Nat.beq m n <;> simp [hq] at h <;> subst h
    · have := listSub v8 hl hle; exact ⟨this.1, this.2⟩
    · have e := Nat.eq_of_beq_eq_true hq
      obtain ⟨h0, h1⟩ := listWhole hl hle e
      subst h0; exact ⟨hl, by rw [List.drop_zero, ← List.map_take, h1]⟩
  | b32 n l =>
    simp only [Seg.sub] at h
    cases hb : Nat.ble (off + m) n <;> simp [hb] at h
    have hle := Nat.le_of_ble_eq_true hb
    obtain ⟨hl, rfl⟩ := hc
    refine ⟨by simp; omega, ?_⟩
    cases hq : Nat.beq m n <;> simp [hq] at h <;> subst h
    · have := listSub v32 hl hle; exact ⟨this.1, this.2⟩
    · have e := Nat.eq_of_beq_eq_true hq
      obtain ⟨h0, h1⟩ := listWhole hl hle e
      subst h0; exact ⟨hl, by rw [List.drop_zero, ← List.map_take, h1]⟩
  | is n l =>
    simp only [Seg.sub] at h
    cases hb : Nat.ble (off + m) n <;> simp [hb] at h
    have hle := Nat.le_of_ble_eq_true hb
    obtain ⟨hl, rfl⟩ := hc
    refine ⟨by simp; omega, ?_⟩
    cases hq : Nat.beq m n <;> simp [hq] at h <;> subst h
    · have := listSub v64 hl hle; exact ⟨this.1, this.2⟩
    · have e := Nat.eq_of_beq_eq_true hq
      obtain ⟨h0, h1⟩ := listWhole hl hle e
      subst h0; exact ⟨hl, by rw [List.drop_zero, ← List.map_take, h1]⟩

/-- n cells from off on. -/
def getSegs : List Seg → Nat → Nat → Option (List Seg)
  | gs, off, n =>
    bif Nat.beq n 0 then some [] else
    match gs with
    | [] => none
    | g :: gs =>
      bif Nat.ble g.size off then getSegs gs (off - g.size) n
      else match g.sub off (Nat.min n (g.size - off)) with
        | none => none
        | some p => match getSegs gs 0 (n - Nat.min n (g.size - off)) with
          | none => none
          | some r => some (p :: r)

theorem getSegs_cv {π : Loc} : ∀ {gs rs : List Seg} {vs : List Value} {off n : Nat}, segsCv π gs vs → getSegs gs off n = some rs →
    (n = 0 ∨ off + n ≤ vs.length) ∧ segsCv π rs ((vs.drop off).take n)
  | [], rs, vs, off, n, hc, h => by
    unfold getSegs at h
    cases hn : Nat.beq n 0 <;> simp [hn] at h
    have := Nat.eq_of_beq_eq_true hn
    subst h; subst this; exact ⟨.inl rfl, by simp [segsCv]⟩
  | g :: gs, rs, vs, off, n, hc, h => by
    unfold getSegs at h
    cases hn : Nat.beq n 0 <;> simp only [hn, cond_true, cond_false] at h
    · have hn0 : n ≠ 0 := fun e => by subst e; simp at hn
      obtain ⟨a, b, rfl, ha, hb⟩ := hc
      have hla := Seg.cv_length ha
      cases hs : Nat.ble g.size off <;> simp only [hs, cond_true, cond_false] at h
      · have hlt : off < g.size := by
          rcases Nat.lt_or_ge off g.size with q | q
          · exact q
          · rw [Nat.ble_eq_true_of_le q] at hs; cases hs
        split at h
        · cases h
        · rename_i p hp
          split at h
          · cases h
          · rename_i r hr
            cases h
            obtain ⟨h1, h2⟩ := Seg.sub_cv ha hp
            obtain ⟨h3, h4⟩ := getSegs_cv hb hr
            have hm : Nat.min n (g.size - off) = min n (g.size - off) := rfl
            rw [hm] at h1 h2 h3 h4
            refine ⟨.inr ?_, (List.drop off a).take (min n (g.size - off)), (b.drop 0).take (n - min n (g.size - off)), ?_, h2, h4⟩
            · simp only [List.length_append]; omega
            · rw [List.drop_append_of_le_length (by omega), List.take_append, List.drop_zero]
              simp only [List.length_drop, hla]
              congr 1
              · rcases Nat.le_total n (g.size - off) with q | q
                · rw [Nat.min_eq_left q]
                · rw [Nat.min_eq_right q, List.take_of_length_le (by simp [hla]; omega), List.take_of_length_le (by simp [hla])]
              · congr 1
                omega
      · have hle := Nat.le_of_ble_eq_true hs
        obtain ⟨h1, h2⟩ := getSegs_cv hb h
        refine ⟨.inr ?_, ?_⟩
        · simp only [List.length_append]; omega
        · rw [List.drop_append, List.drop_eq_nil_of_le (by omega), List.nil_append, hla]; exact h2
    · have := Nat.eq_of_beq_eq_true hn
      cases h; subst this; exact ⟨.inl rfl, by simp [segsCv]⟩

theorem getMapD {α : Type} (f : α → Value) {l : List α} {off : Nat} (d : α) (h : off < l.length) : (l.map f)[off]? = some (f (nth d l off)) := by
  rw [nth_eq]; simp [List.getD, h]

/-- The scalar at off. -/
noncomputable def Seg.at : Seg → Nat → Option Sc
  | .s x, 0 => some x
  | .b8 n l, off => bif Nat.ble (off + 1) n then some (.b8 (nth 0 l off)) else none
  | .b32 n l, off => bif Nat.ble (off + 1) n then some (.b32 (nth 0 l off)) else none
  | .is n l, off => bif Nat.ble (off + 1) n then some (.si (nth 0 l off)) else none
  | _, _ => none

theorem Seg.at_cv {π : Loc} {g : Seg} {vs : List Value} {off : Nat} {x : Sc} (hc : g.cv π vs) (h : g.at off = some x) :
    ∃ v, vs[off]? = some v ∧ x.cv π v := by
  cases g with
  | s y =>
    match off, h with
    | 0, h => simp only [Seg.at, Option.some.injEq] at h; subst h; obtain ⟨v, rfl, hv⟩ := hc; exact ⟨v, rfl, hv⟩
  | b8 n l =>
    simp only [Seg.at] at h
    cases hb : Nat.ble (off + 1) n <;> simp [hb] at h
    have hle := Nat.le_of_ble_eq_true hb
    obtain ⟨hl, rfl⟩ := hc
    have ho : off < l.length := by omega
    subst h
    exact ⟨_, getMapD _ _ ho, rfl⟩
  | b32 n l =>
    simp only [Seg.at] at h
    cases hb : Nat.ble (off + 1) n <;> simp [hb] at h
    have hle := Nat.le_of_ble_eq_true hb
    obtain ⟨hl, rfl⟩ := hc
    have ho : off < l.length := by omega
    subst h
    exact ⟨_, getMapD _ _ ho, rfl⟩
  | is n l =>
    simp only [Seg.at] at h
    cases hb : Nat.ble (off + 1) n <;> simp [hb] at h
    have hle := Nat.le_of_ble_eq_true hb
    obtain ⟨hl, rfl⟩ := hc
    have ho : off < l.length := by omega
    subst h
    exact ⟨_, getMapD _ _ ho, rfl⟩

noncomputable def getSc : List Seg → Nat → Option Sc
  | [], _ => none
  | g :: gs, off => bif Nat.ble g.size off then getSc gs (off - g.size) else g.at off

theorem getSc_cv {π : Loc} : ∀ {gs : List Seg} {vs : List Value} {off : Nat} {x : Sc}, segsCv π gs vs → getSc gs off = some x →
    ∃ v, vs[off]? = some v ∧ x.cv π v
  | [], _, _, _, _, h => by cases h
  | g :: gs, _, off, x, ⟨a, b, e, ha, hb⟩, h => by
    subst e
    have hla := Seg.cv_length ha
    unfold getSc at h
    cases hs : Nat.ble g.size off <;> simp only [hs, cond_true, cond_false] at h
    · obtain ⟨v, h1, h2⟩ := Seg.at_cv ha h
      refine ⟨v, ?_, h2⟩
      rw [List.getElem?_append_left (List.getElem?_eq_some_iff.1 h1).1]; exact h1
    · have hle := Nat.le_of_ble_eq_true hs
      obtain ⟨v, h1, h2⟩ := getSc_cv hb h
      refine ⟨v, ?_, h2⟩
      rw [List.getElem?_append_right (by omega), hla]; exact h1

noncomputable def pixAt (base : Nat) (x : BitVec 8) : Nat := bif Nat.beq base 0 then x.toNat else base + x.toNat

theorem pixAt_eq (base : Nat) (x : BitVec 8) : pixAt base x = base + x.toNat := by
  unfold pixAt
  cases h : Nat.beq base 0
  · rfl
  · have := Nat.eq_of_beq_eq_true h
    subst this; simp

/-- The scalar at base + x, where base .. base + 255 lie in one segment. -/
noncomputable def getPix : List Seg → Nat → BitVec 8 → Option Sc
  | [], _, _ => none
  | g :: gs, base, x => bif Nat.ble g.size base then getPix gs (base - g.size) x else
    match g with
    | .b8 n l => bif Nat.ble (base + 256) n then some (.b8 (nth 0 l (pixAt base x))) else none
    | .b32 n l => bif Nat.ble (base + 256) n then some (.b32 (nth 0 l (pixAt base x))) else none
    | _ => none

theorem getPix_cv {π : Loc} : ∀ {gs : List Seg} {vs : List Value} {off : Nat} {x : BitVec 8} {y : Sc}, segsCv π gs vs → getPix gs off x = some y →
    ∃ v, vs[off + x.toNat]? = some v ∧ y.cv π v
  | [], _, _, _, _, _, h => by cases h
  | g :: gs, _, off, x, y, ⟨a, b, e, ha, hb⟩, h => by
    subst e
    have hla := Seg.cv_length ha
    unfold getPix at h
    simp only [pixAt_eq] at h
    cases hs : Nat.ble g.size off <;> simp only [hs, cond_true, cond_false] at h
    · have hx := x.isLt
      cases g with
      | s z => cases h
      | is n l => cases h
      | b8 n l =>
        simp only at h
        cases hq : Nat.ble (off + 256) n <;> simp [hq] at h
        have hle := Nat.le_of_ble_eq_true hq
        obtain ⟨hl, rfl⟩ := ha
        have ho : off + x.toNat < l.length := by omega
        subst h
        exact ⟨_, by rw [List.getElem?_append_left (by simpa using ho)]; exact getMapD _ _ ho, rfl⟩
      | b32 n l =>
        simp only at h
        cases hq : Nat.ble (off + 256) n <;> simp [hq] at h
        have hle := Nat.le_of_ble_eq_true hq
        obtain ⟨hl, rfl⟩ := ha
        have ho : off + x.toNat < l.length := by omega
        subst h
        exact ⟨_, by rw [List.getElem?_append_left (by simpa using ho)]; exact getMapD _ _ ho, rfl⟩
    · have hle := Nat.le_of_ble_eq_true hs
      obtain ⟨v, h1, h2⟩ := getPix_cv hb h
      refine ⟨v, ?_, h2⟩
      rw [List.getElem?_append_right (by omega), hla, show off + x.toNat - g.size = off - g.size + x.toNat by omega]; exact h1

/-! ### Writing -/

def Sc.solid : Sc → Bool
  | .any => false
  | .undef => false
  | _ => true

def Seg.solid : Seg → Bool
  | .s x => x.solid
  | _ => true

def solidSegs : List Seg → Bool
  | [] => true
  | g :: gs => g.solid && solidSegs gs

theorem Sc.solid_cv {π : Loc} {x : Sc} {v : Value} (h : x.cv π v) (hs : x.solid = true) : v.oneCell' = true := by
  cases x <;> simp only [Sc.cv, Sc.solid] at h hs <;> first
    | (cases hs; done)
    | (subst h; rfl)
    | (obtain ⟨n, _, h⟩ := h; subst h; rfl)
    | (obtain ⟨n, h, _⟩ := h; subst h; rfl)
    | (obtain ⟨n, c, _, _, _, h⟩ := h; subst h; rfl)
    | (obtain ⟨a, c, h⟩ := h; subst h; rfl)

theorem Seg.solid_cv {π : Loc} {g : Seg} {vs : List Value} (h : g.cv π vs) (hs : g.solid = true) : ∀ v ∈ vs, v.oneCell' = true := by
  intro v hv
  cases g with
  | s x => obtain ⟨u, rfl, hu⟩ := h; simp at hv; subst hv; exact Sc.solid_cv hu hs
  | b8 n l => obtain ⟨_, rfl⟩ := h; obtain ⟨x, _, rfl⟩ := List.mem_map.1 hv; rfl
  | b32 n l => obtain ⟨_, rfl⟩ := h; obtain ⟨x, _, rfl⟩ := List.mem_map.1 hv; rfl
  | is n l => obtain ⟨_, rfl⟩ := h; obtain ⟨x, _, rfl⟩ := List.mem_map.1 hv; rfl

theorem solidSegs_cv {π : Loc} : ∀ {gs : List Seg} {vs : List Value}, segsCv π gs vs → solidSegs gs = true → ∀ v ∈ vs, v.oneCell' = true
  | [], _, e, _ => by subst e; simp
  | g :: gs, _, ⟨a, b, e, ha, hb⟩, hs => by
    subst e
    simp only [solidSegs, Bool.and_eq_true] at hs
    intro v hv
    rcases List.mem_append.1 hv with h | h
    · exact Seg.solid_cv ha hs.1 v h
    · exact solidSegs_cv hb hs.2 v h

def splice {α : Type} (vs : List α) (off : Nat) (p : List α) : List α := vs.take off ++ (p ++ vs.drop (off + p.length))

theorem splice_length {α : Type} {vs : List α} {off : Nat} {p : List α} (h : off + p.length ≤ vs.length) : (splice vs off p).length = vs.length := by
  simp [splice]; omega

theorem splice_map {α β : Type} (f : α → β) (vs : List α) (off : Nat) (p : List α) : (splice vs off p).map f = splice (vs.map f) off (p.map f) := by
  simp [splice, List.map_take, List.map_drop]

theorem splice_whole {α : Type} {vs : List α} {off : Nat} {p : List α} (h : off + p.length ≤ vs.length) (e : p.length = vs.length) : splice vs off p = p := by
  have : off = 0 := by omega
  subst this
  simp [splice, List.drop_eq_nil_of_le (Nat.le_of_eq e.symm)]

theorem splice_one {α : Type} {vs : List α} {off : Nat} (x : α) (h : off < vs.length) : splice vs off [x] = vs.set off x := by
  rw [List.set_eq_take_append_cons_drop, if_pos h]; rfl

theorem splice_left {α : Type} {a b : List α} {off : Nat} {p : List α} (h : off + p.length ≤ a.length) : splice (a ++ b) off p = splice a off p ++ b := by
  simp only [splice]
  rw [List.take_append_of_le_length (by omega), List.drop_append_of_le_length (by omega)]
  simp

theorem splice_right {α : Type} {a b : List α} {off : Nat} {p : List α} (h : a.length ≤ off) : splice (a ++ b) off p = a ++ splice b (off - a.length) p := by
  simp only [splice]
  rw [List.take_append, List.take_of_length_le h, List.drop_append, List.drop_eq_nil_of_le (by omega)]
  simp [show off + p.length - a.length = off - a.length + p.length by omega]

theorem splice_splice {α : Type} {vs : List α} {off : Nat} {p q : List α} (h : off + p.length + q.length ≤ vs.length) :
    splice (splice vs off p) (off + p.length) q = splice vs off (p ++ q) := by
  have e : (vs.take off ++ p).length = off + p.length := by simp; omega
  have e1 : splice vs off p = (vs.take off ++ p) ++ vs.drop (off + p.length) := by simp [splice]
  rw [e1, splice_right (by omega), e]
  simp [splice, Nat.add_assoc]

/-- The same, where the part's length is known: so that the part is not looked at. -/
def spliceN {α : Type} (vs : List α) (off m : Nat) (p : List α) : List α := vs.take off ++ (p ++ vs.drop (off + m))

theorem spliceN_eq {α : Type} {vs : List α} {off m : Nat} {p : List α} (h : p.length = m) : spliceN vs off m p = splice vs off p := by
  subst h; rfl

def Seg.put : Seg → Nat → Seg → Option Seg
  | .s _, 0, .s x => some (.s x)
  | .b8 n l, off, .b8 m l' => bif Nat.ble (off + m) n then some (.b8 n (bif Nat.beq m n then l' else spliceN l off m l')) else none
  | .b32 n l, off, .b32 m l' => bif Nat.ble (off + m) n then some (.b32 n (bif Nat.beq m n then l' else spliceN l off m l')) else none
  | .is n l, off, .is m l' => bif Nat.ble (off + m) n then some (.is n (bif Nat.beq m n then l' else spliceN l off m l')) else none
  | .b8 n l, off, .s (.b8 x) => bif Nat.ble (off + 1) n then some (.b8 n (l.set off x)) else none
  | .b32 n l, off, .s (.b32 x) => bif Nat.ble (off + 1) n then some (.b32 n (l.set off x)) else none
  | .is n l, off, .s (.i .i64 x) => bif Nat.ble (off + 1) n then some (.is n (l.set off x)) else none
  | .is n l, off, .s (.si x) => bif Nat.ble (off + 1) n then some (.is n (l.set off x)) else none
  | _, _, _ => none

theorem put_list {α : Type} (f : α → Value) {l l' : List α} {n m off : Nat} (hl : l.length = n) (hl' : l'.length = m) (h : off + m ≤ n) :
    off + (l'.map f).length ≤ (l.map f).length ∧ (bif Nat.beq m n then l' else spliceN l off m l').length = n ∧
      splice (l.map f) off (l'.map f) = (bif Nat.beq m n then l' else spliceN l off m l').map f := by
  refine ⟨by simp; omega, ?_⟩
  rw [spliceN_eq hl']
  cases hq : Nat.beq m n
  · exact ⟨by simp only [cond_false]; rw [splice_length (by omega)]; exact hl, by simp only [cond_false]; rw [splice_map]⟩
  · have e := Nat.eq_of_beq_eq_true hq
    refine ⟨by simp only [cond_true]; omega, ?_⟩
    rw [splice_whole (by simp; omega) (by simp; omega)]; rfl

theorem put_one {α : Type} (f : α → Value) {l : List α} {n off : Nat} (x : α) (hl : l.length = n) (h : off + 1 ≤ n) :
    off + 1 ≤ (l.map f).length ∧ (l.set off x).length = n ∧ splice (l.map f) off [f x] = (l.set off x).map f := by
  refine ⟨by simp; omega, by simp [hl], ?_⟩
  rw [splice_one _ (by simp; omega)]
  simp

theorem Seg.put_cv {π : Loc} {g p q : Seg} {vs pv : List Value} {off : Nat} (hc : g.cv π vs) (hp : p.cv π pv) (h : g.put off p = some q) :
    off + pv.length ≤ vs.length ∧ q.cv π (splice vs off pv) := by
  unfold Seg.put at h
  split at h
  · cases h; obtain ⟨v, rfl, hv⟩ := hc; obtain ⟨u, rfl, hu⟩ := hp; exact ⟨by simp, u, by simp [splice], hu⟩
  · rename_i n l m l'
    cases hb : Nat.ble (off + m) n <;> simp only [hb, cond_true, cond_false] at h <;> cases h
    obtain ⟨hl, rfl⟩ := hc; obtain ⟨hl', rfl⟩ := hp
    obtain ⟨h1, h2, h3⟩ := put_list v8 hl hl' (Nat.le_of_ble_eq_true hb)
    exact ⟨h1, h2, h3⟩
  · rename_i n l m l'
    cases hb : Nat.ble (off + m) n <;> simp only [hb, cond_true, cond_false] at h <;> cases h
    obtain ⟨hl, rfl⟩ := hc; obtain ⟨hl', rfl⟩ := hp
    obtain ⟨h1, h2, h3⟩ := put_list v32 hl hl' (Nat.le_of_ble_eq_true hb)
    exact ⟨h1, h2, h3⟩
  · rename_i n l m l'
    cases hb : Nat.ble (off + m) n <;> simp only [hb, cond_true, cond_false] at h <;> cases h
    obtain ⟨hl, rfl⟩ := hc; obtain ⟨hl', rfl⟩ := hp
    obtain ⟨h1, h2, h3⟩ := put_list v64 hl hl' (Nat.le_of_ble_eq_true hb)
    exact ⟨h1, h2, h3⟩
  · rename_i n l x
    cases hb : Nat.ble (off + 1) n <;> simp only [hb, cond_true, cond_false] at h <;> cases h
    obtain ⟨hl, rfl⟩ := hc; obtain ⟨u, rfl, hu⟩ := hp
    simp only [Sc.cv] at hu; subst hu
    obtain ⟨h1, h2, h3⟩ := put_one v8 x hl (Nat.le_of_ble_eq_true hb)
    exact ⟨h1, h2, h3⟩
  · rename_i n l x
    cases hb : Nat.ble (off + 1) n <;> simp only [hb, cond_true, cond_false] at h <;> cases h
    obtain ⟨hl, rfl⟩ := hc; obtain ⟨u, rfl, hu⟩ := hp
    simp only [Sc.cv] at hu; subst hu
    obtain ⟨h1, h2, h3⟩ := put_one v32 x hl (Nat.le_of_ble_eq_true hb)
    exact ⟨h1, h2, h3⟩
  · rename_i n l x
    cases hb : Nat.ble (off + 1) n <;> simp only [hb, cond_true, cond_false] at h <;> cases h
    obtain ⟨hl, rfl⟩ := hc; obtain ⟨u, rfl, hu⟩ := hp
    simp only [Sc.cv] at hu; subst hu
    obtain ⟨h1, h2, h3⟩ := put_one v64 x hl (Nat.le_of_ble_eq_true hb)
    exact ⟨h1, h2, h3⟩
  · rename_i n l x
    cases hb : Nat.ble (off + 1) n <;> simp only [hb, cond_true, cond_false] at h <;> cases h
    obtain ⟨hl, rfl⟩ := hc; obtain ⟨u, rfl, hu⟩ := hp
    simp only [Sc.cv] at hu; subst hu
    obtain ⟨h1, h2, h3⟩ := put_one v64 x hl (Nat.le_of_ble_eq_true hb)
    exact ⟨h1, h2, h3⟩
  · cases h

def putSeg : List Seg → Nat → Seg → Option (List Seg)
  | [], _, _ => none
  | g :: gs, off, p =>
    bif Nat.ble g.size off then
      match putSeg gs (off - g.size) p with
      | some r => some (g :: r)
      | none => none
    else
      match g.put off p with
      | some g' => some (g' :: gs)
      | none => none

theorem putSeg_cv {π : Loc} : ∀ {gs rs : List Seg} {vs pv : List Value} {off : Nat} {p : Seg}, segsCv π gs vs → p.cv π pv → putSeg gs off p = some rs →
    off + pv.length ≤ vs.length ∧ segsCv π rs (splice vs off pv)
  | [], _, _, _, _, _, _, _, h => by cases h
  | g :: gs, rs, _, pv, off, p, ⟨a, b, e, ha, hb⟩, hp, h => by
    subst e
    have hla := Seg.cv_length ha
    unfold putSeg at h
    cases hs : Nat.ble g.size off <;> simp only [hs, cond_true, cond_false] at h
    · split at h
      · rename_i g' hg'
        cases h
        obtain ⟨h1, h2⟩ := Seg.put_cv ha hp hg'
        refine ⟨by simp; omega, _, b, splice_left h1, h2, hb⟩
      · cases h
    · have hle := Nat.le_of_ble_eq_true hs
      split at h
      · rename_i r hr
        cases h
        obtain ⟨h1, h2⟩ := putSeg_cv hb hp hr
        refine ⟨by simp; omega, a, _, splice_right (by omega), ha, ?_⟩
        rw [hla]; exact h2
      · cases h

def putSegs : List Seg → Nat → List Seg → Option (List Seg)
  | gs, _, [] => some gs
  | gs, off, p :: ps =>
    match putSeg gs off p with
    | some gs' => putSegs gs' (off + p.size) ps
    | none => none

theorem putSegs_cv {π : Loc} : ∀ {ps gs rs : List Seg} {vs pv : List Value} {off : Nat}, segsCv π gs vs → segsCv π ps pv → putSegs gs off ps = some rs →
    (ps = [] ∨ off + pv.length ≤ vs.length) ∧ segsCv π rs (splice vs off pv)
  | [], gs, rs, vs, pv, off, hg, hp, h => by
    simp only [putSegs, Option.some.injEq] at h; subst h
    have hp' : pv = [] := hp
    subst hp'
    exact ⟨.inl rfl, by simpa [splice] using hg⟩
  | p :: ps, gs, rs, vs, _, off, hg, ⟨a, b, e, ha, hb⟩, h => by
    subst e
    unfold putSegs at h
    split at h
    · rename_i gs' hgs'
      obtain ⟨h1, h2⟩ := putSeg_cv hg ha hgs'
      obtain ⟨h3, h4⟩ := putSegs_cv h2 hb h
      have hla := Seg.cv_length ha
      rw [splice_length h1] at h3
      have hb' : off + a.length + b.length ≤ vs.length := by
        rcases h3 with h3 | h3
        · subst h3
          have : b = [] := hb
          subst this; simpa using h1
        · omega
      refine ⟨.inr (by simp; omega), ?_⟩
      rw [← hla, splice_splice hb'] at h4
      exact h4
    · cases h

/-! ### Lists of a known length -/

theorem list4 {α : Type} {l : List α} (h : l.length = 4) : ∃ a b c d, l = [a, b, c, d] := by
  match l, h with
  | [a, b, c, d], _ => exact ⟨a, b, c, d, rfl⟩

theorem list12 {α : Type} {l : List α} (h : l.length = 12) : ∃ a0 a1 a2 a3 a4 a5 a6 a7 a8 a9 a10 a11, l = [a0, a1, a2, a3, a4, a5, a6, a7, a8, a9, a10, a11] := by
  match l, h with
  | [a0, a1, a2, a3, a4, a5, a6, a7, a8, a9, a10, a11], _ => exact ⟨_, _, _, _, _, _, _, _, _, _, _, _, rfl⟩

theorem list16 {α : Type} {l : List α} (h : l.length = 16) :
    ∃ a0 a1 a2 a3 a4 a5 a6 a7 a8 a9 a10 a11 a12 a13 a14 a15, l = [a0, a1, a2, a3, a4, a5, a6, a7, a8, a9, a10, a11, a12, a13, a14, a15] := by
  match l, h with
  | [a0, a1, a2, a3, a4, a5, a6, a7, a8, a9, a10, a11, a12, a13, a14, a15], _ => exact ⟨_, _, _, _, _, _, _, _, _, _, _, _, _, _, _, _, rfl⟩

theorem list24 {α : Type} {l : List α} (h : l.length = 24) :
    ∃ a0 a1 a2 a3 a4 a5 a6 a7 a8 a9 a10 a11 a12 a13 a14 a15 a16 a17 a18 a19 a20 a21 a22 a23, l = [a0, a1, a2, a3, a4, a5, a6, a7, a8, a9, a10, a11, a12, a13, a14, a15, a16, a17, a18, a19, a20, a21, a22, a23] := by
  match l, h with
  | [a0, a1, a2, a3, a4, a5, a6, a7, a8, a9, a10, a11, a12, a13, a14, a15, a16, a17, a18, a19, a20, a21, a22, a23], _ =>
    exact ⟨_, _, _, _, _, _, _, _, _, _, _, _, _, _, _, _, _, _, _, _, _, _, _, _, rfl⟩
end Go.Mo


namespace Go.Mo
open Go
noncomputable section

structure Blk where
  gs : List Seg
  wr : Bool

/-- A computation that reads blocks. -/
inductive Rd (α : Type) where
  | pure (a : α)
  | read (id : Nat) (k : Blk → Rd α)
  | fail

def Rd.run {α : Type} (m : Nat → Option Blk) : Rd α → Option (α × List Nat)
  | .pure a => some (a, [])
  | .read id k =>
    match m id with
    | none => none
    | some b =>
      match (k b).run m with
      | none => none
      | some (a, fp) => some (a, id :: fp)
  | .fail => none

/-- What an operation comes to: its value; the blocks that it lays; the block that it writes; what was taken for granted of tests. -/
structure Out where
  v : V
  news : List (List Seg)
  wr : Option (Nat × Blk)
  obs : List (Bool × Bool)

abbrev Env := Nat → List V → Nat → Rd (V × List (List Seg))

/-- The program; its functions' contracts; what a call of one takes for granted of its arguments. -/
structure Cx where
  P : Program
  env : Env
  obl : Nat → List V → List (Bool × Bool)
  ask : Nat → Option (List V → Nat → Rd (Bool × (V × List (List Seg)) × (V × List (List Seg)))) := fun _ => none
  strict : Nat → Bool := fun _ => false

def Rd.ofOpt {α β : Type} (x : Option α) (f : α → Rd β) : Rd β :=
  match x with
  | some a => f a
  | none => .fail

def okV (v : V) : Rd Out := .pure ⟨v, [], none, []⟩
def okS (x : Sc) : Rd Out := .pure ⟨.s x, [], none, []⟩
def okSc (x : Option Sc) : Rd Out :=
  match x with
  | some x => .pure ⟨.s x, [], none, []⟩
  | none => .fail
def okSegs (x : Option (List Seg)) : Rd Out :=
  match x with
  | some gs => .pure ⟨.a gs, [], none, []⟩
  | none => .fail

/-! ### Types -/

def scOf : Value → Sc
  | .int .u8 (.ofNat n) => bif Nat.ble 256 n then .any else .b8 (BitVec.ofNat 8 n)
  | .int .u32 (.ofNat n) => bif Nat.ble 4294967296 n then .any else .b32 (BitVec.ofNat 32 n)
  | .int .u64 (.ofNat n) => bif Nat.ble 18446744073709551616 n then .any else .b64 (BitVec.ofNat 64 n)
  | .int .i64 n => .i .i64 n
  | .int .i8 n => .i .i8 n
  | .int .i16 n => .i .i16 n
  | .int .i32 n => .i .i32 n
  | .int .u16 n => .i .u16 n
  | .bool b => .bool b
  | .pointer none => .nil
  | .slice none 0 0 => .nilSlice
  | .nilIface => .nilIface
  | _ => .any

def zeros (k : IntKind) : List Value → Bool
  | [] => true
  | .int k' (.ofNat 0) :: r => (k == k') && zeros k r
  | _ => false

/-- One segment for the cells of a field. -/
def chunk (vs : List Value) : Option Seg :=
  match vs with
  | [] => none
  | [v] => some (.s (scOf v))
  | v :: _ =>
    match v with
    | .int .u8 _ => bif zeros .u8 vs then some (.b8 vs.length (List.replicate vs.length 0)) else none
    | .int .u32 _ => bif zeros .u32 vs then some (.b32 vs.length (List.replicate vs.length 0)) else none
    | .int .i64 _ => bif zeros .i64 vs then some (.is vs.length (List.replicate vs.length 0)) else none
    | _ => none

def chunks : List Nat → List Value → Option (List Seg)
  | [], [] => some []
  | [], _ => none
  | n :: ns, vs =>
    match chunk (vs.take n), chunks ns (vs.drop n) with
    | some g, some gs => some (g :: gs)
    | _, _ => none

def tySize (P : Program) (t : TypeId) : Option Nat :=
  match P.info? t with
  | some i => some i.size
  | none => none

def tySizes (P : Program) (fs : List Field) : Option (List Nat) :=
  match fs with
  | [] => some []
  | f :: r =>
    match tySize P f.type, tySizes P r with
    | some n, some ns => some (n :: ns)
    | _, _ => none

/-- A type's zero value, cut by its fields. -/
def zeroSegs (P : Program) (t : TypeId) : Option (List Seg) :=
  match P.info? t with
  | none => none
  | some i =>
    match i.zero with
    | none => none
    | some z =>
      match P.underlying t with
      | some (.struct fs) =>
        match tySizes P fs.toList with
        | some ns => chunks ns z.cells.toList
        | none => none
      | some (.array _ _) => chunks [i.size] z.cells.toList
      | _ => chunks [1] z.cells.toList

/-- Is it a struct or an array; its size. -/
def tyAgg (P : Program) (t : TypeId) : Option (Bool × Nat) :=
  match P.info? t with
  | none => none
  | some i =>
    match P.underlying t with
    | some (.struct _) => some (true, i.size)
    | some (.array _ _) => some (true, i.size)
    | some _ => some (false, i.size)
    | none => none

def tyArr (P : Program) (t : TypeId) : Option (Nat × TypeId × Nat) :=
  match P.underlying t with
  | some (.array n e) =>
    match P.info? e with
    | some i => some (n, e, i.size)
    | none => none
  | _ => none

def tySlice (P : Program) (t : TypeId) : Option (TypeId × Nat) :=
  match P.underlying t with
  | some (.slice e) =>
    match P.info? e with
    | some i => some (e, i.size)
    | none => none
  | _ => none

/-! ### Numbers -/

def scInt : Sc → Option (IntKind × Int)
  | .i k n => some (k, n)
  | .si n => some (.i64, n)
  | .b8 x => some (.u8, (x.toNat : Int))
  | .b32 x => some (.u32, (x.toNat : Int))
  | .b64 x => some (.u64, (x.toNat : Int))
  | _ => none

def scNat (x : Sc) : Option Nat :=
  match scInt x with
  | some (_, .ofNat n) => some n
  | _ => none

/-- A number wrapped; one that is within an int's range as it is. -/
def wrapF (k : IntKind) (n : Int) : Int :=
  match k with
  | .i64 =>
    match n with
    | .ofNat m => bif Nat.ble 9223372036854775808 m then IntKind.i64.wrap (.ofNat m) else .ofNat m
    | .negSucc m => IntKind.i64.wrap (.negSucc m)
  | k => k.wrap n

def knownRes (op : BinOp) (k : IntKind) (a b : Int) : Option Int :=
  match op with
  | .add => some (wrapF k (a + b))
  | .sub => some (wrapF k (a - b))
  | .mul => some (wrapF k (a * b))
  | .and => some (wrapF k (BitVec.ofInt k.bits a &&& BitVec.ofInt k.bits b).toNat)
  | .or => some (wrapF k (BitVec.ofInt k.bits a ||| BitVec.ofInt k.bits b).toNat)
  | .xor => some (wrapF k (BitVec.ofInt k.bits a ^^^ BitVec.ofInt k.bits b).toNat)
  | .andNot => some (wrapF k (BitVec.ofInt k.bits a &&& ~~~(BitVec.ofInt k.bits b)).toNat)
  | .quo => match b with | .ofNat 0 => none | _ => some (wrapF k (a.tdiv b))
  | .rem => match b with | .ofNat 0 => none | _ => some (a.tmod b)
  | _ => none

def intRes (op : BinOp) (k : IntKind) (a b : Int) : Option Int :=
  match op with
  | .add => some (k.wrap (a + b))
  | .sub => some (k.wrap (a - b))
  | .mul => some (k.wrap (a * b))
  | .and => some (k.wrap (BitVec.ofInt k.bits a &&& BitVec.ofInt k.bits b).toNat)
  | .or => some (k.wrap (BitVec.ofInt k.bits a ||| BitVec.ofInt k.bits b).toNat)
  | .xor => some (k.wrap (BitVec.ofInt k.bits a ^^^ BitVec.ofInt k.bits b).toNat)
  | .andNot => some (k.wrap (BitVec.ofInt k.bits a &&& ~~~(BitVec.ofInt k.bits b)).toNat)
  | .quo => match b with | .ofNat 0 => none | _ => some (k.wrap (a.tdiv b))
  | .rem => match b with | .ofNat 0 => none | _ => some (a.tmod b)
  | _ => none

def bvRes {w : Nat} (op : BinOp) (x y : BitVec w) : Option (BitVec w) :=
  match op with
  | .add => some (x + y)
  | .sub => some (x - y)
  | .mul => some (x * y)
  | .and => some (x &&& y)
  | .or => some (x ||| y)
  | .xor => some (x ^^^ y)
  | .andNot => some (x &&& ~~~y)
  | .quo => match y.toNat with | 0 => none | _ => some (x / y)
  | .rem => match y.toNat with | 0 => none | _ => some (x % y)
  | _ => none

def shiftRes (op : BinOp) (x : Sc) (n : Nat) : Option Sc :=
  match op, x with
  | .shl, .i k a => some (.i k (wrapF k (a * ((2 ^ Nat.min n k.bits : Nat) : Int))))
  | .shr, .i k a => some (.i k (a.fdiv ((2 ^ Nat.min n k.bits : Nat) : Int)))
  | .shl, .si a => some (.si (IntKind.i64.wrap (a * ((2 ^ Nat.min n 64 : Nat) : Int))))
  | .shr, .si a => some (.si (a.fdiv ((2 ^ Nat.min n 64 : Nat) : Int)))
  | .shl, .b8 a => some (.b8 (a <<< n))
  | .shr, .b8 a => some (.b8 (a >>> n))
  | .shl, .b32 a => some (.b32 (a <<< n))
  | .shr, .b32 a => some (.b32 (a >>> n))
  | .shl, .b64 a => some (.b64 (a <<< n))
  | .shr, .b64 a => some (.b64 (a >>> n))
  | _, _ => none

def cmpRes (op : BinOp) (a b : Int) : Option Bool :=
  match op with
  | .eql => some (decide (a = b))
  | .neq => some (!decide (a = b))
  | .lss => some (decide (a < b))
  | .leq => some (decide (a ≤ b))
  | .gtr => some (decide (b < a))
  | .geq => some (decide (b ≤ a))
  | _ => none

def known : Sc → Bool
  | .i _ _ => true
  | _ => false

/-- A test's answer: reckoned, or taken for granted. -/
def answer (ans : Option Bool) (b : Bool) : Rd Out :=
  match ans with
  | none => .pure ⟨.s (.bool b), [], none, []⟩
  | some c => .pure ⟨.s (.bool c), [], none, [(b, c)]⟩

def binKnown (op : BinOp) (k : IntKind) (a b : Int) : Rd Out :=
  match cmpRes op a b with
  | some r => .pure ⟨.s (.bool r), [], none, []⟩
  | none => match knownRes op k a b with | some r => okS (.i k r) | none => .fail

def binBv {w : Nat} (ans : Option Bool) (op : BinOp) (mk : BitVec w → Sc) (x y : BitVec w) : Rd Out :=
  match cmpRes op (x.toNat : Int) (y.toNat : Int) with
  | some r => answer ans r
  | none => match bvRes op x y with | some r => okS (mk r) | none => .fail

def binSym (ans : Option Bool) (op : BinOp) (a b : Int) : Rd Out :=
  match cmpRes op a b with
  | some r => answer ans r
  | none => match intRes op .i64 a b with | some r => okS (.si r) | none => .fail

def isShift : BinOp → Bool
  | .shl => true
  | .shr => true
  | _ => false

def binInts (ans : Option Bool) (op : BinOp) (x y : Sc) : Rd Out :=
  bif isShift op then
    match scNat y with
    | some n => okSc (shiftRes op x n)
    | none => .fail
  else
    match x with
    | .i k a =>
      match y with
      | .i k' b => bif k == k' then binKnown op k a b else .fail
      | .si b => bif k == .i64 then binSym ans op a b else .fail
      | _ => .fail
    | .si a =>
      match y with
      | .i k b => bif k == .i64 then binSym ans op a b else .fail
      | .si b => binSym ans op a b
      | _ => .fail
    | .b8 x => match y with | .b8 y => binBv ans op .b8 x y | _ => .fail
    | .b32 x => match y with | .b32 y => binBv ans op .b32 x y | _ => .fail
    | .b64 x => match y with | .b64 y => binBv ans op .b64 x y | _ => .fail
    | _ => .fail

def neqB (op : BinOp) (b : Bool) : Option Bool :=
  match op with
  | .eql => some b
  | .neq => some (!b)
  | _ => none

def isPtrTy (P : Program) (t : TypeId) : Bool :=
  match P.underlying t with
  | some (.pointer _) => true
  | _ => false

def isBoolTy (P : Program) (t : TypeId) : Bool :=
  match P.underlying t with
  | some .bool => true
  | _ => false

def u8Arr (P : Program) (t : TypeId) : Option Nat :=
  match P.underlying t with
  | some (.array n e) =>
    match P.underlying e, P.info? e with
    | some (.int .u8), some i => bif Nat.beq i.size 1 && !(P.eqGuardType P.depth t) then some n else none
    | _, _ => none
  | _ => none

def abinA (K : Cx) (ans : Option Bool) (op : BinOp) (t : TypeId) (x y : List Seg) : Rd Out :=
  match x, y with
  | [.b8 n l], [.b8 m l'] =>
    match u8Arr K.P t with
    | some k =>
      bif Nat.beq n k && Nat.beq m k then
        match neqB op (decide (l = l')) with
        | some b => answer ans b
        | none => .fail
      else .fail
    | none => .fail
  | _, _ => .fail

def okBool (x : Option Bool) : Rd Out :=
  match x with
  | some b => okS (.bool b)
  | none => .fail

def isIfaceTy (P : Program) (t : TypeId) : Bool :=
  match P.underlying t with
  | some (.interface _) => true
  | _ => false

/-- Numbers of this type may be compared. -/
def cmpInt (P : Program) (t : TypeId) : Bool :=
  match P.info? t, P.underlying t with
  | some i, some (.int _) => i.comparable
  | _, _ => false

def aifaceEq (K : Cx) (ans : Option Bool) (op : BinOp) (t t1 t2 : Nat) (k1 k2 : IntKind) (n1 n2 : Int) : Rd Out :=
  bif isIfaceTy K.P t then
    bif Nat.beq t1 t2 then
      bif k1 == k2 && cmpInt K.P t1 then
        match neqB op (decide (n1 = n2)) with
        | some b => answer ans b
        | none => .fail
      else .fail
    else okBool (neqB op false)
  else .fail

def abinS (K : Cx) (ans : Option Bool) (op : BinOp) (t : TypeId) (x y : Sc) : Rd Out :=
  match x with
  | .ptr _ _ => match y with | .nil => bif isPtrTy K.P t then okBool (neqB op false) else .fail | _ => .fail
  | .nil =>
    match y with
    | .ptr _ _ => bif isPtrTy K.P t then okBool (neqB op false) else .fail
    | .nil => bif isPtrTy K.P t then okBool (neqB op true) else .fail
    | _ => .fail
  | .bool a => match y with | .bool b => bif isBoolTy K.P t then okBool (neqB op (a == b)) else .fail | _ => .fail
  | .iface t1 k1 n1 =>
    match y with
    | .iface t2 k2 n2 => aifaceEq K ans op t t1 t2 k1 k2 n1 n2
    | .nilIface => bif isIfaceTy K.P t then okBool (neqB op false) else .fail
    | _ => .fail
  | .nilIface =>
    match y with
    | .iface _ _ _ => bif isIfaceTy K.P t then okBool (neqB op false) else .fail
    | _ => .fail
  | x => binInts ans op x y

def abin (K : Cx) (ans : Option Bool) (op : BinOp) (t : TypeId) (x y : V) : Rd Out :=
  match x with
  | .s x => match y with | .s y => abinS K ans op t x y | _ => .fail
  | .a x => match y with | .a y => abinA K ans op t x y | _ => .fail
  | .t _ => .fail

def aun (op : UnOp) (x : V) : Rd Out :=
  match op, x with
  | .not, .s (.bool b) => okS (.bool (!b))
  | .neg, .s (.i k n) => okS (.i k (wrapF k (0 - n)))
  | .neg, .s (.si n) => okS (.si (IntKind.i64.wrap (0 - n)))
  | _, _ => .fail

def convRes (k : IntKind) (x : Sc) : Option Sc :=
  match k, x with
  | .u8, .b8 y => some (.b8 y)
  | .u8, .b32 y => some (.b8 (y.setWidth 8))
  | .u8, .b64 y => some (.b8 (y.setWidth 8))
  | .u8, .i _ n => some (.b8 (BitVec.ofInt 8 n))
  | .u8, .si n => some (.b8 (BitVec.ofInt 8 n))
  | .u32, .b8 y => some (.b32 (y.setWidth 32))
  | .u32, .b32 y => some (.b32 y)
  | .u32, .b64 y => some (.b32 (y.setWidth 32))
  | .u32, .i _ n => some (.b32 (BitVec.ofInt 32 n))
  | .u32, .si n => some (.b32 (BitVec.ofInt 32 n))
  | .u64, .b8 y => some (.b64 (y.setWidth 64))
  | .u64, .b32 y => some (.b64 (y.setWidth 64))
  | .u64, .b64 y => some (.b64 y)
  | .u64, .i _ n => some (.b64 (BitVec.ofInt 64 n))
  | .u64, .si n => some (.b64 (BitVec.ofInt 64 n))
  | .i64, .b8 y => some (.si (y.toNat : Int))
  | .i64, .b32 y => some (.si (y.toNat : Int))
  | .i64, .b64 y => some (.si (IntKind.i64.wrap (y.toNat : Int)))
  | .i64, .si n => some (.si (IntKind.i64.wrap n))
  | k, .i _ n => some (.i k (wrapF k n))
  | k, .b8 y => some (.i k (k.wrap (y.toNat : Int)))
  | _, _ => none

def aconv (K : Cx) (src dst : TypeId) (x : V) : Rd Out :=
  match K.P.underlying src, K.P.underlying dst, x with
  | some _, some (.int k), .s x => okSc (convRes k x)
  | _, _, _ => .fail

/-! ### Memory -/

def newB (fresh : Nat) (gs : List Seg) : Rd Out := .pure ⟨.s (.ptr fresh 0), [gs], none, []⟩

def segsOfV : V → Option (List Seg)
  | .s x => bif x.solid then some [.s x] else none
  | .a gs => bif solidSegs gs then some gs else none
  | .t _ => none

def abox (fresh : Nat) (x : V) : Rd Out :=
  match segsOfV x with
  | some gs => newB fresh gs
  | none => .fail

def aload (K : Cx) (t : TypeId) (x : V) : Rd Out :=
  match x with
  | .s (.ptr b off) =>
    match tyAgg K.P t with
    | some (true, n) => .read b fun blk => okSegs (getSegs blk.gs off n)
    | some (false, _) => .read b fun blk => okSc (getSc blk.gs off)
    | none => .fail
  | .s (.pix b off x) =>
    match tyAgg K.P t with
    | some (false, _) => .read b fun blk => okSc (getPix blk.gs off x)
    | _ => .fail
  | _ => .fail

def astore (K : Cx) (t : TypeId) (x y : V) : Rd Out :=
  match x, segsOfV y, tySize K.P t with
  | .s (.ptr b off), some (p :: ps), some n =>
    bif Nat.beq (segsSize (p :: ps)) n then
      .read b fun blk => bif blk.wr then
        match putSegs blk.gs off (p :: ps) with
        | some gs => .pure ⟨.s .undef, [], some (b, ⟨gs, true⟩), []⟩
        | none => .fail
      else .fail
    else .fail
  | _, _, _ => .fail

/-- A pointer into a row at a byte's place, as any pointer. -/
def unpix : V → V
  | .s (.pix b off x) => .s (.ptr b (off + x.toNat))
  | v => v

def aindexAddr (K : Cx) (t : TypeId) (x ix : V) : Rd Out :=
  match x, ix with
  | .s (.ptr b off), .s ix =>
    match tyArr K.P t with
    | some (n, _, sz) =>
      match ix with
      | .b8 i =>
        bif Nat.ble 256 n && Nat.beq sz 1 then okS (.pix b off i)
        else bif Nat.blt i.toNat n then okS (.ptr b (off + i.toNat * sz)) else .fail
      | ix => match scNat ix with
        | some i => bif Nat.blt i n then okS (.ptr b (off + i * sz)) else .fail
        | none => .fail
    | none => .fail
  | .s (.slice b off len _), .s ix =>
    match tySlice K.P t with
    | some (_, sz) =>
      match scNat ix with
      | some i => bif Nat.blt i len then okS (.ptr b (off + i * sz)) else .fail
      | none => .fail
    | none => .fail
  | .s (.osl b off len _), .s ix =>
    match tySlice K.P t with
    | some (_, sz) =>
      match scNat ix with
      | some i => bif Nat.blt i len then okS (.ptr b (off + i * sz)) else .fail
      | none => .fail
    | none => .fail
  | _, _ => .fail

def afieldAddr (K : Cx) (t : TypeId) (x : V) (f : Nat) : Rd Out :=
  match x, K.P.underlying t with
  | .s (.ptr b off), some (.struct fs) =>
    match fs[f]? with
    | some f =>
      match tySize K.P f.type with
      | some n => bif Nat.beq n 0 then .fail else okS (.ptr b (off + f.offset))
      | none => .fail
    | none => .fail
  | _, _ => .fail

def apart (K : Cx) (t : TypeId) (gs : List Seg) (off : Nat) : Rd Out :=
  match tyAgg K.P t with
  | some (true, n) => okSegs (getSegs gs off n)
  | some (false, _) => okSc (getSc gs off)
  | none => .fail

def aindex (K : Cx) (t : TypeId) (x ix : V) : Rd Out :=
  match x, ix with
  | .a gs, .s ix =>
    match tyArr K.P t with
    | some (n, e, sz) =>
      match ix with
      | .b8 i =>
        bif Nat.ble 256 n && Nat.beq sz 1 then
          match tyAgg K.P e with
          | some (false, _) => okSc (getPix gs 0 i)
          | _ => .fail
        else .fail
      | ix => match scNat ix with
        | some i => bif Nat.blt i n then apart K e gs (i * sz) else .fail
        | none => .fail
    | none => .fail
  | _, _ => .fail

def afield (K : Cx) (t : TypeId) (x : V) (f : Nat) : Rd Out :=
  match x, K.P.underlying t with
  | .a gs, some (.struct fs) =>
    match fs[f]? with
    | some f => apart K f.type gs f.offset
    | none => .fail
  | _, _ => .fail

def aextract (x : V) (i : Nat) : Rd Out :=
  match x with
  | .t l =>
    match l[i]? with
    | some (true, [.s x]) => okS x
    | some (false, gs) => okV (.a gs)
    | _ => .fail
  | _ => .fail

def capsOf (ev : Operand → V) : List Operand → Option (List (Nat × Nat))
  | [] => some []
  | x :: r =>
    match ev x, capsOf ev r with
    | .s (.ptr b o), some l => some ((b, o) :: l)
    | _, _ => none

def amakeFunc (ev : Operand → V) (fn : Fn) (first captured : Array Operand) : Rd Out :=
  match fn, first.toList, capsOf ev captured.toList with
  | .func f, [], some l => okS (.fn f l)
  | _, _, _ => .fail

/-- The bounds of a slice expression; all numbers known. -/
def bnd (ev : Operand → V) (x : Option Operand) (d : Nat) : Option Nat :=
  match x with
  | none => some d
  | some x =>
    match ev x with
    | .s x => scNat x
    | _ => none

/-- A slice of nothing. -/
def aslice0 (K : Cx) (ev : Operand → V) (t : TypeId) (lo hi : Option Operand) : Rd Out :=
  match tySlice K.P t, bnd ev lo 0, bnd ev hi 0 with
  | some _, some l, some h => bif Nat.beq l 0 && Nat.beq h 0 then okS .empty else .fail
  | _, _, _ => .fail

def aslice (K : Cx) (ev : Operand → V) (t : TypeId) (x : V) (lo hi mx : Option Operand) : Rd Out :=
  match mx, x with
  | none, .s (.ptr b off) =>
    match tyArr K.P t with
    | some (n, _, sz) =>
      match bnd ev lo 0, bnd ev hi n with
      | some l, some h => bif Nat.ble l h && Nat.ble h n then okS (.slice b (bif Nat.beq n l then off else off + l * sz) (h - l) (n - l)) else .fail
      | _, _ => .fail
    | none => .fail
  | none, .s (.slice b off len cap) =>
    match tySlice K.P t with
    | some (_, sz) =>
      match bnd ev lo 0, bnd ev hi len with
      | some l, some h => bif Nat.ble l h && Nat.ble h cap then okS (.slice b (bif Nat.beq cap l then off else off + l * sz) (h - l) (cap - l)) else .fail
      | _, _ => .fail
    | none => .fail
  | none, .s (.osl b off len z) =>
    match tySlice K.P t with
    | some (_, sz) =>
      match bnd ev lo 0, bnd ev hi len with
      | some l, some h =>
        bif Nat.ble l h && Nat.ble h len && Nat.beq z sz then
          okS (bif Nat.blt l len then .osl b (off + l * sz) (h - l) sz else .empty)
        else .fail
      | _, _ => .fail
    | none => .fail
  | none, .s .empty => aslice0 K ev t lo hi
  | none, .s .nilSlice => aslice0 K ev t lo hi
  | _, _ => .fail

def atoArr (K : Cx) (t : TypeId) (x : V) : Rd Out :=
  match x, tyArr K.P t with
  | .s (.slice b off len _), some (n, _, _) => bif Nat.ble n len then okS (.ptr b off) else .fail
  | .s (.osl b off len _), some (n, _, _) => bif Nat.ble n len then okS (.ptr b off) else .fail
  | _, _ => .fail

def afill (place : Nat → Option (Nat × Nat)) (ev : Operand → V) : List Seg → List (Nat × Operand) → Option (List Seg)
  | gs, [] => some gs
  | gs, (i, x) :: r =>
    match place i, segsOfV (ev x) with
    | some (off, size), some (p :: ps) =>
      bif Nat.beq (segsSize (p :: ps)) size then
        match putSegs gs off (p :: ps) with
        | some gs' => afill place ev gs' r
        | none => none
      else none
    | _, _ => none

def abuild (K : Cx) (ev : Operand → V) (t : TypeId) (parts : List (Nat × Operand)) : Rd Out :=
  match zeroSegs K.P t, K.P.underlying t with
  | some z, some (.struct fs) =>
    match tySizes K.P fs.toList with
    | some ns => okSegs (afill (fun i => match fs.toList[i]?, ns[i]? with | some f, some n => some (f.offset, n) | _, _ => none) ev z parts)
    | none => .fail
  | some z, some (.array _ e) =>
    match tySize K.P e with
    | some sz => okSegs (afill (fun i => some (i * sz, sz)) ev z parts)
    | none => .fail
  | _, _ => .fail

def zeroRow (n : Nat) : List Seg → Option Seg
  | [.s (.b8 _)] => some (.b8 n (List.replicate n 0))
  | [.s (.i .i64 _)] => some (.is n (List.replicate n 0))
  | [.b8 k _] => some (.b8 (n * k) (List.replicate (n * k) 0))
  | _ => none

/-- The zero of a slice's element: what the row that is laid leans on. -/
def zeroElemOk : List Seg → Bool
  | [.s (.b8 x)] => x.toNat == 0
  | [.s (.i _ x)] => x == 0
  | [.b8 k l] => l == List.replicate k 0
  | _ => false

def abuildSlice (K : Cx) (fresh : Nat) (ev : Operand → V) (t : TypeId) (len : Nat) (parts : List (Nat × Operand)) : Rd Out :=
  match tySlice K.P t with
  | some (e, sz) =>
    bif Nat.beq len 0 then
      match parts with
      | [] => .pure ⟨.s (.slice fresh 0 0 0), [[]], none, []⟩
      | _ => .fail
    else
    match zeroSegs K.P e with
    | some z =>
      bif Nat.ble (len * sz) 16777216 && !(Nat.beq (len * sz) 0) && zeroElemOk z && Nat.beq (segsSize z) sz then
        match zeroRow len z with
        | some g =>
          match afill (fun i => some (i * sz, sz)) ev [g] parts with
          | some gs => .pure ⟨.s (.slice fresh 0 len len), [gs], none, []⟩
          | none => .fail
        | none => .fail
      else .fail
    | none => .fail
  | none => .fail

/-- Make of a slice; both numbers known and the same. -/
def amakeSlice (K : Cx) (fresh : Nat) (t : TypeId) (x y : V) : Rd Out :=
  match x, y with
  | .s x, .s y =>
    match tySlice K.P t, scNat x, scNat y with
    | some (e, sz), some n, some k =>
      match zeroSegs K.P e, K.P.info? e with
      | some z, some i =>
        bif Nat.beq n 0 && Nat.beq k 0 then .pure ⟨.s (.slice fresh 0 0 0), [[]], none, []⟩ else
        bif Nat.beq n k && (Nat.ble (n * sz) 16777216 && (!(Nat.beq (n * sz) 0) && (zeroElemOk z && (Nat.beq (segsSize z) sz && Nat.ble i.bytes 64)))) then
          match zeroRow n z with
          | some g => .pure ⟨.s (.slice fresh 0 n n), [[g]], none, []⟩
          | none => .fail
        else .fail
      | _, _ => .fail
    | _, _, _ => .fail
  | _, _ => .fail

def capArgs : List (Nat × Nat) → List V
  | [] => []
  | (b, o) :: r => .s (.ptr b o) :: capArgs r

def alen (x : V) : Rd Out :=
  match x with
  | .s (.slice _ _ n _) => okS (.i .i64 n)
  | .s (.osl _ _ n z) => okS (bif Nat.beq z 0 then .si n else .i .i64 n)
  | .s .nilSlice => okS (.i .i64 0)
  | .s .empty => okS (.i .i64 0)
  | _ => .fail

def amax (mn : Bool) (x y : V) : Rd Out :=
  match x, y with
  | .s x, .s y =>
    match scInt x, scInt y with
    | some (.i64, a), some (.i64, b) =>
      let r := bif mn then (if b < a then b else a) else (if b > a then b else a)
      bif known x && known y then okS (.i .i64 r) else okS (.si r)
    | _, _ => .fail
  | _, _ => .fail

/-- A slice that is read: where, how many elements. -/
def srcOf : V → Option (Option (Nat × Nat) × Nat)
  | .s (.slice b off len _) => some (some (b, off), len)
  | .s (.osl b off len _) => some (some (b, off), len)
  | .s .nilSlice => some (none, 0)
  | .s .empty => some (none, 0)
  | _ => none

/-- The first n elements of a slice that is read, handed on. -/
def readSrc {α : Type} (x : Option (Nat × Nat)) (cells : Nat) (k : List Seg → Rd α) : Rd α :=
  bif Nat.beq cells 0 then k [] else
  match x with
  | some (b, off) => .read b fun blk =>
    match getSegs blk.gs off cells with
    | some gs => bif solidSegs gs then k gs else .fail
    | none => .fail
  | none => .fail

def acopyTo (b off : Nat) (n : Nat) (gs : List Seg) : Rd Out :=
  match gs with
  | [] => okS (.i .i64 n)
  | p :: ps => .read b fun dst =>
    bif dst.wr then
      match putSegs dst.gs off (p :: ps) with
      | some gs => .pure ⟨.s (.i .i64 n), [], some (b, ⟨gs, true⟩), []⟩
      | none => .fail
    else .fail

def acopy (K : Cx) (t : TypeId) (x y : V) : Rd Out :=
  match tySlice K.P t, srcOf y with
  | some (_, sz), some (src, len') =>
    match x with
    | .s (.slice b off len _) => readSrc src (Nat.min len' len * sz) (acopyTo b off (Nat.min len' len))
    | .s (.osl b off len _) => readSrc src (Nat.min len' len * sz) (acopyTo b off (Nat.min len' len))
    | .s .nilSlice => okS (.i .i64 0)
    | .s .empty => okS (.i .i64 0)
    | _ => .fail
  | _, _ => .fail

/-- Two rows side by side; bytes behind bytes as one. -/
def joinSegs : List Seg → List Seg → List Seg
  | [], hs => hs
  | [.b8 n l], .b8 k l' :: hs => .b8 (n + k) (l ++ l') :: hs
  | [.is n l], .is k l' :: hs => .is (n + k) (l ++ l') :: hs
  | [.is n l], .s (.i .i64 x) :: hs => .is (n + 1) (l ++ [x]) :: hs
  | [.is n l], .s (.si x) :: hs => .is (n + 1) (l ++ [x]) :: hs
  | [.s (.si y)], .s (.si x) :: hs => .is 2 [y, x] :: hs
  | [.s (.si y)], .s (.i .i64 x) :: hs => .is 2 [y, x] :: hs
  | [.b8 n l], .s (.b8 x) :: hs => .b8 (n + 1) (l ++ [x]) :: hs
  | g :: gs, hs => g :: joinSegs gs hs

/-- What is appended to. -/
inductive Dst where
  | none
  | known (b off len cap : Nat)
  | free (b off len : Nat)

def dstOf (sz : Nat) : V → Option Dst
  | .s .nilSlice => some .none
  | .s (.slice b off len cap) => some (.known b off len cap)
  | .s (.osl b off len z) => bif Nat.beq z sz then some (.free b off len) else none
  | _ => none

def appendLimit : Nat := 1000000

/-- A row that was made anew: the old elements and the new ones. -/
def appendNew (fresh sz len : Nat) (kill : Option (Nat × Blk)) (old new : List Seg) : Rd Out :=
  .pure ⟨.s (.osl fresh 0 len sz), [joinSegs old new], kill, []⟩

/-- The cells before off, and the n from there on. -/
def halves (gs : List Seg) (off n : Nat) : Option (List Seg × List Seg) :=
  bif Nat.beq off 0 then some ([], gs) else
  match getSegs gs 0 off, getSegs gs off n with
  | some pre, some old => some (pre, old)
  | _, _ => none

def appendNone (x : V) : Rd Out :=
  match x with
  | .s .nilSlice => okV x
  | .s .empty => okV x
  | .s (.osl _ _ _ _) => okV x
  | .s (.slice _ _ len cap) => bif Nat.ble len cap then okV x else .fail
  | _ => .fail

def aappend (K : Cx) (fresh : Nat) (t : TypeId) (x y : V) : Rd Out :=
  match tySlice K.P t, srcOf y with
  | some (e, sz), some (src, k) =>
    bif Nat.beq k 0 then appendNone x else
    match K.P.info? e, dstOf sz x with
    | some i, some d =>
      match i.zero with
      | none => .fail
      | some zv =>
      bif Nat.ble i.bytes 64 && !(Nat.beq sz 0) && Nat.beq zv.cells.size sz then
        match d with
        | .none => bif Nat.ble k appendLimit then readSrc src (k * sz) fun new => appendNew fresh sz k none [] new else .fail
        | .known b off len cap =>
          bif Nat.ble (len + k) appendLimit then
            bif Nat.ble (len + k) cap then
              readSrc src (k * sz) fun new =>
                match new with
                | [] => .fail
                | p :: ps => .read b fun blk => bif blk.wr then
                  match putSegs blk.gs (off + len * sz) (p :: ps) with
                  | some gs => .pure ⟨.s (.slice b off (len + k) cap), [], some (b, ⟨gs, true⟩), []⟩
                  | none => .fail
                  else .fail
            else readSrc (some (b, off)) (len * sz) fun old => readSrc src (k * sz) fun new => appendNew fresh sz (len + k) none old new
          else .fail
        | .free b off len =>
          bif Nat.ble (len + k) appendLimit then
            .read b fun blk =>
              match halves blk.gs off (len * sz) with
              | some (pre, old) =>
                bif blk.wr && Nat.beq (segsSize blk.gs) (off + len * sz) && solidSegs old then
                  readSrc src (k * sz) fun new => appendNew fresh sz (len + k) (some (b, ⟨pre, false⟩)) old new
                else .fail
              | none => .fail
          else .fail
      else .fail
    | _, _ => .fail
  | _, _ => .fail

/-- Is it a slice of bytes of unknown length, whole? -/
def isSym : V → Bool
  | .s (.osl _ 0 _ 0) => true
  | _ => false

/-- Is it the type of slices of bytes? -/
def isB8 (P : Program) (t : TypeId) : Bool :=
  match tySlice P t with
  | some (e, sz) =>
    (match P.info? e with
     | some i => (match i.zero with | some zv => Nat.ble i.bytes 64 && (Nat.beq sz 1 && Nat.beq zv.cells.size sz) | none => false)
     | none => false)
  | none => false

/-- Nothing that is appended to, and has no room. -/
def bareB : V → Bool
  | .s .nilSlice => true
  | .s (.slice _ _ 0 0) => true
  | _ => false

/-- A copy of bytes whose length is not known: that they are all of their block is taken for granted. -/
def aappendS (K : Cx) (ans : Option Bool) (fresh : Nat) (t : TypeId) (x y : V) : Rd Out :=
  match y, ans with
  | .s (.osl b 0 n 0), some true =>
    bif bareB x && isB8 K.P t then
      .read b fun blk =>
        match blk.gs with
        | [.b8 m l] => .pure ⟨.s (.osl fresh 0 n 0), [[.b8 m l]], none, [(decide (n = m ∧ n ≠ 0 ∧ n ≤ appendLimit), true)]⟩
        | _ => .fail
    else .fail
  | _, _ => .fail

/-- Append of so many zeros to a slice without room for them. -/
def aappendZ (K : Cx) (fresh : Nat) (t t' : TypeId) (x y : V) : Rd Out :=
  match x, y, tySlice K.P t, K.P.underlying t' with
  | .s (.slice b off len cap), .s y, some (e, sz), some (.int _) =>
    match scNat y, zeroSegs K.P e, K.P.info? e with
    | some k, some z, some i =>
      bif Nat.blt cap (len + k) && (Nat.ble (len + k) appendLimit && (!(Nat.beq (k * sz) 0) && (zeroElemOk z && (Nat.beq (segsSize z) sz && (!(Nat.beq len 0) && Nat.ble i.bytes 64))))) then
        match zeroRow k z with
        | some g => readSrc (some (b, off)) (len * sz) fun old => appendNew fresh sz (len + k) none old [g]
        | none => .fail
      else .fail
    | _, _, _ => .fail
  | _, _, _, _ => .fail

def abuiltin (K : Cx) (ans : Option Bool) (fresh : Nat) (b : Builtin) (argTypes : List TypeId) (args : List V) : Rd Out :=
  match b, argTypes, args with
  | .len, t :: _, [x] => match tySlice K.P t with | some _ => alen x | none => .fail
  | .max, _, [x, y] => amax false x y
  | .min, _, [x, y] => amax true x y
  | .copy, t :: _, [x, y] => acopy K t x y
  | .append, t :: t' :: _, [x, y] => (match tySlice K.P t' with | some _ => (bif isSym y then aappendS K ans fresh t x y else aappend K fresh t x y) | none => aappendZ K fresh t t' x y)
  | _, _, _ => .fail

def rdOut (ob : List (Bool × Bool)) : Rd (V × List (List Seg)) → Rd Out
  | .pure (v, news) => .pure ⟨v, news, none, ob⟩
  | .read id k => .read id fun b => rdOut ob (k b)
  | .fail => .fail

/-- A contract that asks: a test, and what comes of either answer. -/
abbrev Asp := List V → Nat → Rd (Bool × (V × List (List Seg)) × (V × List (List Seg)))

def rdAsk (c : Bool) : Rd (Bool × (V × List (List Seg)) × (V × List (List Seg))) → Rd Out
  | .pure (b, x, y) => bif c then .pure ⟨x.1, x.2, none, [(b, true)]⟩ else .pure ⟨y.1, y.2, none, [(b, false)]⟩
  | .read id k => .read id fun b => rdAsk c (k b)
  | .fail => .fail

def acall (K : Cx) (ans : Option Bool) (fresh : Nat) (ev : Operand → V) (c : Call) : Rd Out :=
  match c.callee with
  | .value f =>
    match ev f with
    | .s (.fn n caps) =>
      match K.ask n with
      | none => rdOut (K.obl n (c.args.toList.map ev ++ capArgs caps)) (K.env n (c.args.toList.map ev ++ capArgs caps) fresh)
      | some r =>
        match ans with
        | some a => bif K.strict n && !a then .fail else rdAsk a (r (c.args.toList.map ev ++ capArgs caps) fresh)
        | none => .fail
    | _ => .fail
  | .builtin b => abuiltin K ans fresh b c.argTypes.toList (c.args.toList.map ev)
  | _ => .fail

def amakeIface (K : Cx) (t : TypeId) (x : V) : Rd Out :=
  match x with
  | .s x =>
    match K.P.underlying t, scInt x with
    | some (.int _), some (k, n) => okS (.iface t k n)
    | _, _ => .fail
  | _ => .fail

/-- Is nothing compared with the word for nothing? -/
def bothNil (ev : Operand → V) (x y : Operand) : Bool :=
  match y with
  | .const .nilIface => (match ev x with | .s .nilIface => true | _ => false)
  | _ => false

def aop (K : Cx) (ans : Option Bool) (fresh : Nat) (ev : Operand → V) (o : Oper) : Rd Out :=
  match o.op with
  | .move x => okV (ev x)
  | .assign x => okV (ev x)
  | .pick c a b => match ev c with | .s (.bool t) => okV (bif t then ev a else ev b) | _ => .fail
  | .alloc t => match zeroSegs K.P t with | some gs => newB fresh gs | none => .fail
  | .box _ x => abox fresh (ev x)
  | .load t x => aload K t (ev x)
  | .store t x y => astore K t (unpix (ev x)) (ev y)
  | .nilCheck x => match ev x with | .s (.ptr b o) => okS (.ptr b o) | _ => .fail
  | .binOp op t x y _ => bif bothNil ev x y then (bif isIfaceTy K.P t then okBool (neqB op true) else .fail) else abin K ans op t (ev x) (ev y)
  | .unOp op _ x => aun op (ev x)
  | .convert s d x => aconv K s d (ev x)
  | .makeFunc fn first captured => amakeFunc ev fn first captured
  | .slice t x lo hi mx => aslice K ev t (ev x) lo hi mx
  | .sliceToArrayPointer t x => atoArr K t (ev x)
  | .fieldAddr t x f => afieldAddr K t (ev x) f
  | .field t x f => afield K t (ev x) f
  | .indexAddr t x ix => aindexAddr K t (ev x) (ev ix)
  | .index t x ix => aindex K t (ev x) (ev ix)
  | .extract x i => aextract (ev x) i
  | .build t parts => abuild K ev t parts.toList
  | .buildSlice t len parts => abuildSlice K fresh ev t len parts.toList
  | .makeInterface t x => amakeIface K t (ev x)
  | .makeSlice t l c => amakeSlice K fresh t (ev l) (ev c)
  | .call c => acall K ans fresh ev c
  | _ => .fail

/-! ### Frames, memory, regions -/

def getL {α : Type} (d : α) (l : List α) (n : Nat) : α := nth d l n

/-- Set, the list made longer where it must be. -/
def padSet {α : Type} : List (Option α) → Nat → α → List (Option α)
  | [], 0, y => [some y]
  | [], n + 1, y => none :: padSet [] n y
  | _ :: r, 0, y => some y :: r
  | x :: r, n + 1, y => x :: padSet r n y

/-- The slots: a tree; slot 0 at the root, the odd ones on the left. -/
inductive Fr where
  | nil
  | node (l : Fr) (v : V) (r : Fr)

def Fr.get (f : Fr) : Nat → V :=
  Fr.rec (motive := fun _ => Nat → V) (fun _ => .s .any) (fun _ v _ gl gr i => bif Nat.beq i 0 then v else bif Nat.beq (i % 2) 1 then gl (i / 2) else gr (i / 2 - 1)) f

theorem Fr.get_nil (i : Nat) : Fr.nil.get i = .s .any := rfl
theorem Fr.get_node (l : Fr) (v : V) (r : Fr) (i : Nat) : (Fr.node l v r).get i = bif Nat.beq i 0 then v else bif Nat.beq (i % 2) 1 then l.get (i / 2) else r.get (i / 2 - 1) := rfl

def Fr.set (f : Fr) : Nat → V → Fr :=
  Fr.rec (motive := fun _ => Nat → V → Fr) (fun _ _ => .nil)
    (fun l v r sl sr i y => bif Nat.beq i 0 then .node l y r else bif Nat.beq (i % 2) 1 then .node (sl (i / 2) y) v r else .node l v (sr (i / 2 - 1) y)) f

theorem Fr.set_nil (i : Nat) (y : V) : Fr.nil.set i y = .nil := rfl
theorem Fr.set_node (l : Fr) (v : V) (r : Fr) (i : Nat) (y : V) : (Fr.node l v r).set i y =
    bif Nat.beq i 0 then .node l y r else bif Nat.beq (i % 2) 1 then .node (l.set (i / 2) y) v r else .node l v (r.set (i / 2 - 1) y) := rfl

/-- A tree of n slots. -/
def Fr.full : Nat → Nat → Fr
  | 0, _ => .nil
  | f + 1, n => bif Nat.beq n 0 then .nil else .node (Fr.full f (n / 2)) (.s .undef) (Fr.full f ((n - 1) / 2))

def Fr.ofArgs (f : Fr) : Nat → List V → Fr
  | _, [] => f
  | i, x :: r => Fr.ofArgs (f.set i x) (i + 1) r

structure St where
  fr : Fr
  n : Nat
  mem : List (Option Blk)
  orc : List (Option Bool)
  obs : List (Bool × Bool)

def evL (fr : Fr) : Operand → V
  | .tmp t => fr.get t
  | .const v => .s (scOf v)
  | .global _ => .s .any
  | .func f => .s (.fn f [])

def memL (mem : List (Option Blk)) (i : Nat) : Option Blk := getL none mem i

def layNews (mem : List (Option Blk)) (fresh : Nat) : List (List Seg) → List (Option Blk)
  | [] => mem
  | gs :: r => layNews (padSet mem fresh ⟨gs, true⟩) (fresh + 1) r

def layWr (mem : List (Option Blk)) : Option (Nat × Blk) → List (Option Blk)
  | none => mem
  | some (b, x) => padSet mem b x

/-- Is the operation to be carried out? -/
def guardL (ops : List Oper) (fr : Fr) (o : Oper) : Option Bool :=
  match o.guard with
  | none => some true
  | some (j, want) =>
    match getL none (ops.map some) j with
    | none => none
    | some oj =>
      match oj.dst with
      | none => none
      | some d =>
        match fr.get d with
        | .s (.bool b) => some (b == want)
        | .s .undef => some false
        | _ => none

def bothIface : Sc → Sc → Bool
  | .iface _ _ _, .iface _ _ _ => true
  | _, _ => false

/-- Does the operation take a test's answer? -/
def asksB (K : Cx) (fr : Fr) (o : Oper) : Bool :=
  match o.op with
  | .binOp op _ x y _ =>
    (match op with | .eql => true | .neq => true | .lss => true | .leq => true | .gtr => true | .geq => true | _ => false) &&
    (match evL fr x, evL fr y with
     | .a _, .a _ => true
     | .s x, .s y =>
       match scInt x, scInt y with
       | some _, some _ => !(known x && known y)
       | _, _ => bothIface x y
     | _, _ => false)
  | .call c =>
    match c.callee with
    | .value f => (match evL fr f with | .s (.fn n _) => (K.ask n).isSome | _ => false)
    | .builtin .append => (match c.args.toList with | [_, y] => isSym (evL fr y) | _ => false)
    | _ => false
  | _ => false

structure Info where
  i : Nat
  run : Bool
  ans : Option Bool
  fresh : Nat
  out : Out
  fp : List Nat

def putL (fr : Fr) (dst : Option Tmp) (v : V) : Fr :=
  match dst with
  | none => fr
  | some d => fr.set d v

/-- Is there such a slot in the tree? -/
def Fr.has : Fr → Nat → Bool
  | .nil, _ => false
  | .node l _ r, i => bif Nat.beq i 0 then true else bif Nat.beq (i % 2) 1 then l.has (i / 2) else r.has (i / 2 - 1)

def dstOk (n : Nat) (dst : Option Tmp) : Bool :=
  match dst with
  | none => true
  | some d => Nat.ble (d + 1) n

/-- One operation of a region. -/
def astep (K : Cx) (ops : List Oper) (i : Nat) (o : Oper) (s : St) : Option (Info × St) :=
  bif dstOk s.n o.dst then
    match guardL ops s.fr o with
    | none => none
    | some false => some (⟨i, false, none, 0, ⟨.s .undef, [], none, []⟩, []⟩, { s with fr := putL s.fr o.dst (.s .undef) })
    | some true =>
      let asks := asksB K s.fr o
      let ans : Option Bool := bif asks then (match s.orc with | a :: _ => a | [] => none) else none
      let orc := bif asks then s.orc.tail else s.orc
      let fresh := s.mem.length
      match (aop K ans fresh (evL s.fr) o).run (memL s.mem) with
      | none => none
      | some (out, fp) =>
        some (⟨i, true, ans, fresh, out, fp⟩,
          { fr := putL s.fr o.dst out.v, n := s.n, mem := layNews (layWr s.mem out.wr) fresh out.news, orc, obs := out.obs ++ s.obs })
  else none

/-- The region's operations, in the order of the text. -/
def aops (K : Cx) (ops : List Oper) : Nat → List Oper → St → Option (List Info × St)
  | _, [], s => some ([], s)
  | i, o :: r, s =>
    match astep K ops i o s with
    | none => none
    | some (x, s') =>
      match aops K ops (i + 1) r s' with
      | none => none
      | some (xs, s'') => some (x :: xs, s'')

/-! #### May two operations change places? -/

def memB (l : List Nat) (x : Nat) : Bool := l.any (Nat.beq x)

def Info.lays (x : Info) : List Nat :=
  (match x.out.wr with | some (b, _) => [b] | none => []) ++ (List.range x.out.news.length).map (x.fresh + ·)

def disjB (a b : List Nat) : Bool := a.all fun x => !(memB b x)

def freeB (x y : Info) : Bool :=
  disjB x.lays y.fp && disjB x.lays y.lays && disjB y.lays x.fp

/-- A list, each number once. -/
def uniqGo : Nat → List Nat → List Nat
  | _, [] => []
  | m, x :: r => bif Nat.beq (m / 2 ^ x % 2) 1 then uniqGo m r else x :: uniqGo (m + 2 ^ x) r

/-- The operations that each waits for, straight or through others. -/
def waitsL : List Oper → List (List Nat) → List (List Nat)
  | [], acc => acc
  | o :: r, acc =>
    let ds := o.after.toList.filter (Region.binds .any ·) |>.map (·.on)
    waitsL r (acc ++ [uniqGo 0 (ds ++ ds.flatMap fun d => getL [] acc d)])

def pairOk (ops : Array Oper) (ws : List (List Nat)) (x y : Info) : Bool :=
  memB (getL [] ws y.i) x.i ||
    (freeB x y && (match ops[x.i]?, ops[y.i]? with | some a, some b => a.apart ops b | _, _ => false))

def pairsOk (ops : Array Oper) (ws : List (List Nat)) : List Info → Bool
  | [] => true
  | x :: r => r.all (pairOk ops ws x) && pairsOk ops ws r

/-- Each operation waits for earlier ones alone. -/
def edgesB : Nat → List Oper → Bool
  | _, [] => true
  | i, o :: r => (o.after.toList.all fun e => !(Region.binds .any e) || Nat.blt e.on i) && edgesB (i + 1) r

def aregion (K : Cx) (ops : Array Oper) (draw : Bool) (s : St) : Option St :=
  match aops K ops.toList 0 ops.toList s with
  | none => none
  | some (xs, s') =>
    bif draw then (bif pairsOk ops (waitsL ops.toList []) xs && edgesB 0 ops.toList then some s' else none) else some s'

/-! ### Code -/

inductive Ex where
  | normal
  | exit (id : Nat)
  | ret

def aloop (body : St → Option (Ex × St)) : Nat → St → Option (Ex × St)
  | 0, _ => none
  | n + 1, s =>
    match body s with
    | some (.normal, s') => aloop body n s'
    | r => r

def acode (K : Cx) (fuel : Nat) : Code → St → Option (Ex × St)
  | .skip, s => some (.normal, s)
  | .label _, s => some (.normal, s)
  | .region _ ops draw, s =>
    match aregion K ops draw s with
    | some s' => some (.normal, s')
    | none => none
  | .seq a b, s =>
    match acode K fuel a s with
    | some (.normal, s') => acode K fuel b s'
    | r => r
  | .cond c a b, s =>
    match evL s.fr c with
    | .s (.bool true) => acode K fuel a s
    | .s (.bool false) => acode K fuel b s
    | _ => none
  | .block id a, s =>
    match acode K fuel a s with
    | some (.exit id', s') => bif Nat.beq id' id then some (.normal, s') else some (.exit id', s')
    | r => r
  | .loop a, s => aloop (acode K fuel a) fuel s
  | .scope a, s => acode K fuel a s
  | .exit id, s => some (.exit id, s)
  | .ret, s => some (.ret, s)
  | _, _ => none

def aresult (K : Cx) (s : St) : ResultVar → Option (Bool × List Seg)
  | .tmp t =>
    match s.fr.get t with
    | .s x => some (true, [.s x])
    | .a gs => some (false, gs)
    | .t _ => none
  | .cell a t =>
    match s.fr.get a, tyAgg K.P t with
    | .s (.ptr b off), some (true, n) =>
      match memL s.mem b with
      | some blk => match getSegs blk.gs off n with | some gs => some (false, gs) | none => none
      | none => none
    | .s (.ptr b off), some (false, _) =>
      match memL s.mem b with
      | some blk => match getSc blk.gs off with | some x => some (true, [.s x]) | none => none
      | none => none
    | _, _ => none

def aresultsL (K : Cx) (s : St) : List ResultVar → Option (List (Bool × List Seg))
  | [] => some []
  | r :: rs =>
    match aresult K s r, aresultsL K s rs with
    | some x, some xs => some (x :: xs)
    | _, _ => none

def aresults (K : Cx) (s : St) (rs : List ResultVar) : Option V :=
  match aresultsL K s rs with
  | some [(true, [.s x])] => some (.s x)
  | some [(false, gs)] => some (.a gs)
  | some [_] => none
  | some l => some (.t l)
  | none => none

/-- A call of a function with a body: arguments, the blocks that they point to, the tests' answers. -/
def afunc (K : Cx) (fuel : Nat) (fn : Func) (args : List V) (mem : List (Option Blk)) (orc : List (Option Bool)) : Option (V × St) :=
  match fn.body with
  | none => none
  | some c =>
    match acode K fuel c { fr := (Fr.full 12 fn.ntmps).ofArgs 0 args, n := fn.ntmps, mem, orc, obs := [] } with
    | some (.normal, s) => match aresults K s fn.results.toList with | some v => some (v, s) | none => none
    | some (.ret, s) => match aresults K s fn.results.toList with | some v => some (v, s) | none => none
    | _ => none
end
end Go.Mo


namespace Go.Mo
open Go Go.RowKit

def updM (m : Nat → Option Blk) (i : Nat) (b : Blk) : Nat → Option Blk := fun j => if j = i then some b else m j

def newsM (m : Nat → Option Blk) (fresh : Nat) : List (List Seg) → Nat → Option Blk
  | [] => m
  | gs :: r => newsM (updM m fresh ⟨gs, true⟩) (fresh + 1) r

def wrM (m : Nat → Option Blk) : Option (Nat × Blk) → Nat → Option Blk
  | none => m
  | some (b, x) => updM m b x

def effM (m : Nat → Option Blk) (fresh : Nat) (out : Out) : Nat → Option Blk := newsM (wrM m out.wr) fresh out.news

/-- One package-level block that is known and never written; where the blocks lie that were there at the start. -/
structure Gl where
  g : Nat
  obj : Obj
  base : Loc
  ro : Option Nat := none
  kw : Option World := none
  ds : List Deferred := []

/-- The cells of a block. -/
def cut (p : Pl) (k : Nat) (vs : List Value) : List Value := (vs.drop p.base).take k

/-- The block lies there and holds this. -/
def Holds (π : Loc) (p : Pl) (gs : List Seg) (w : World) (vs : List Value) (T : TypeId) (fz : Nat × Nat) : Prop :=
  w.heap[p.n]? = some (.cells vs.toArray T fz) ∧ vs.length = p.z ∧ p.base + segsSize gs ≤ p.z ∧ segsCv π gs (cut p (segsSize gs) vs)

/-- What is no cells lies as it lay. -/
structure Oth (W W' : World) : Prop where
  size : W.heap.size ≤ W'.heap.size
  same : ∀ (k : Nat) (o : Obj), W.heap[k]? = some o → (∀ cs T fz, o ≠ .cells cs T fz) → W'.heap[k]? = some o

theorem Oth.refl (W : World) : Oth W W := ⟨Nat.le_refl _, fun _ _ h _ => h⟩
theorem Oth.trans {A B C : World} (h : Oth A B) (k : Oth B C) : Oth A C := ⟨Nat.le_trans h.size k.size, fun i o hi ho => k.same i o (h.same i o hi ho) ho⟩
theorem Oth.old {W W' : World} (hs : W.heap.size ≤ W'.heap.size) (h : ∀ n, n < W.heap.size → W'.heap[n]? = W.heap[n]?) : Oth W W' :=
  ⟨hs, fun k _ hk _ => (h k (Array.getElem?_eq_some_iff.1 hk).1).trans hk⟩

structure Rel (G : Gl) (π : Loc) (m : Nat → Option Blk) (w0 w : World) : Prop where
  blk : ∀ i b, m i = some b → ∃ p vs T fz, π i = some p ∧ Holds π p b.gs w vs T fz ∧ (b.wr = true → fz = (0, 0) ∧ w0.heap.size ≤ p.n)
  inj : ∀ i j p q bi bj, i ≠ j → m i = some bi → m j = some bj → π i = some p → π j = some q → p.n = q.n → bi.wr = true → (bj.gs = [] ∨ q.base + segsSize bj.gs ≤ p.base) ∧ bj.wr = false
  dom : ∀ i, m i = none → π i = none
  glob : w.heap[G.g]? = some G.obj
  globOld : G.g < w0.heap.size
  below : Below w0.heap.size w0 w
  base : G.base.le π
  oth : ∀ w1, G.kw = some w1 → Oth w1 w

theorem Holds.lt {π : Loc} {p : Pl} {gs : List Seg} {w : World} {vs : List Value} {T : TypeId} {fz : Nat × Nat} (h : Holds π p gs w vs T fz) : p.n < w.heap.size :=
  (Array.getElem?_eq_some_iff.1 h.1).1

theorem Rel.lt {G : Gl} {π : Loc} {m : Nat → Option Blk} {w0 w : World} (h : Rel G π m w0 w) {i : Nat} {p : Pl} (hi : π i = some p) : p.n < w.heap.size := by
  cases hm : m i with
  | none => rw [h.dom i hm] at hi; cases hi
  | some b =>
    obtain ⟨k, vs, T, fz, e, hh, _⟩ := h.blk i b hm
    rw [hi] at e; cases e
    exact hh.lt

theorem Holds.mono {π π' : Loc} {p : Pl} {gs : List Seg} {w w' : World} {vs : List Value} {T : TypeId} {fz : Nat × Nat} (h : Holds π p gs w vs T fz) (hle : π.le π')
    (hw : w'.heap[p.n]? = w.heap[p.n]?) : Holds π' p gs w' vs T fz := ⟨hw.trans h.1, h.2.1, h.2.2.1, segsCv_mono hle h.2.2.2⟩

def updL (π : Loc) (i : Nat) (p : Pl) : Loc := fun j => if j = i then some p else π j

theorem updL_le {G : Gl} {π : Loc} {m : Nat → Option Blk} {w0 w : World} (h : Rel G π m w0 w) {i : Nat} (hi : m i = none) (p : Pl) : π.le (updL π i p) := by
  intro j n hj
  unfold updL
  split
  · rename_i e; subst e; rw [h.dom j hi] at hj; cases hj
  · exact hj

theorem cut_left (n : Nat) (us rest : List Value) (z k : Nat) (hk : us.length = k) : cut ⟨n, 0, z⟩ k (us ++ rest) = us := by
  unfold cut; simp only [List.drop_zero]; rw [← hk, List.take_left]

/-- A new row: its first cells are known, more may lie behind. -/
theorem Rel.allocRow {G : Gl} {π : Loc} {m : Nat → Option Blk} {w0 w : World} (h : Rel G π m w0 w) {i : Nat} (hi : m i = none) {gs : List Seg} {us : List Value} (hc : segsCv π gs us) (rest : List Value) (T : TypeId) :
    π.le (updL π i ⟨w.heap.size, 0, (us ++ rest).length⟩) ∧ Rel G (updL π i ⟨w.heap.size, 0, (us ++ rest).length⟩) (updM m i ⟨gs, true⟩) w0 (w.alloc (.cells (us ++ rest).toArray T)) := by
  have hle := updL_le h hi ⟨w.heap.size, 0, (us ++ rest).length⟩
  have hold : ∀ n, n < w.heap.size → (w.alloc (.cells (us ++ rest).toArray T)).heap[n]? = w.heap[n]? := fun n hn => Below.heap_alloc _ _ _ hn
  have hl := segsCv_length hc
  refine ⟨hle, ⟨?_, ?_, ?_, ?_, h.globOld, h.below.alloc h.below.size _, Loc.le_trans h.base hle, fun w1 e => (h.oth w1 e).trans (.old (by simp) hold)⟩⟩
  · intro j b hj
    unfold updM at hj
    split at hj
    · rename_i e; subst e; cases hj
      refine ⟨_, us ++ rest, T, (0, 0), by simp [updL]; rfl, ⟨?_, by simp, ?_, ?_⟩, fun _ => ⟨rfl, h.below.size⟩⟩
      · show (w.heap.push _)[w.heap.size]? = _; simp
      · simp only; omega
      · rw [cut_left _ _ _ _ _ hl]; exact segsCv_mono hle hc
    · obtain ⟨p, us', T', fz, e1, e2, e4⟩ := h.blk j b hj
      exact ⟨p, us', T', fz, hle _ _ e1, e2.mono hle (hold p.n e2.lt), e4⟩
  · intro a b p q ba bb hne ha hb pa pb hpq hwr
    unfold updM at ha hb
    unfold updL at pa pb
    split at ha <;> split at hb
    · rename_i e1 e2; exact absurd (e1.trans e2.symm) hne
    · rename_i e1 e2
      rw [if_pos e1] at pa; rw [if_neg e2] at pb; cases pa
      have := h.lt pb
      rw [← hpq] at this; exact absurd this (Nat.lt_irrefl _)
    · rename_i e1 e2
      rw [if_neg e1] at pa; rw [if_pos e2] at pb; cases pb
      have := h.lt pa
      rw [hpq] at this; exact absurd this (Nat.lt_irrefl _)
    · rename_i e1 e2
      rw [if_neg e1] at pa; rw [if_neg e2] at pb
      exact h.inj a b p q ba bb hne ha hb pa pb hpq hwr
  · intro j hj
    unfold updM at hj; unfold updL
    split at hj
    · cases hj
    · rename_i e; rw [if_neg e]; exact h.dom j hj
  · rw [hold _ (Array.getElem?_eq_some_iff.1 h.glob).1]; exact h.glob

theorem Rel.alloc {G : Gl} {π : Loc} {m : Nat → Option Blk} {w0 w : World} (h : Rel G π m w0 w) {i : Nat} (hi : m i = none) {gs : List Seg} {vs : List Value} (hc : segsCv π gs vs) (T : TypeId) :
    π.le (updL π i ⟨w.heap.size, 0, vs.length⟩) ∧ Rel G (updL π i ⟨w.heap.size, 0, vs.length⟩) (updM m i ⟨gs, true⟩) w0 (w.alloc (.cells vs.toArray T)) := by
  have := h.allocRow hi hc [] T
  simpa using this

theorem setRow_other (w : World) (g k : Nat) (cs : Array Value) (h : k ≠ g) : (w.setRow g cs).heap[k]? = w.heap[k]? := by
  simp only [World.setRow, Array.getElem?_modify]
  rw [if_neg (by omega)]

theorem Below.setRow {B : Nat} {a w : World} (h : Below B a w) {g : Nat} (hg : B ≤ g) (cs : Array Value) : Below B a (w.setRow g cs) :=
  h.trans ⟨rfl, rfl, rfl, by simp [World.setRow], fun k hk => setRow_other w g k cs (by omega)⟩

theorem cut_splice {p : Pl} {vs pv : List Value} {off k : Nat} (h1 : off + pv.length ≤ k) (h2 : p.base + k ≤ vs.length) :
    cut p k (splice vs (p.base + off) pv) = splice (cut p k vs) off pv := by
  unfold cut
  have e : vs = vs.take p.base ++ vs.drop p.base := (List.take_append_drop _ _).symm
  have hl : (vs.take p.base).length = p.base := by simp; omega
  conv => lhs; rw [e, splice_right (by omega), hl, Nat.add_sub_cancel_left]
  rw [List.drop_append_of_le_length (by omega), List.drop_eq_nil_of_le (by omega), List.nil_append]
  have e2 : vs.drop p.base = (vs.drop p.base).take k ++ (vs.drop p.base).drop k := (List.take_append_drop _ _).symm
  have hl2 : ((vs.drop p.base).take k).length = k := by simp; omega
  conv => lhs; rw [e2, splice_left (by omega)]
  rw [List.take_append_of_le_length (by rw [splice_length (by omega)]; omega), List.take_of_length_le (by rw [splice_length (by omega)]; omega)]

theorem cut_before {p q : Pl} {k : Nat} {vs us : List Value} (h : q.base + k ≤ p.base) (hpre : vs.take p.base = us.take p.base) : cut q k vs = cut q k us := by
  unfold cut
  have e : ∀ l : List Value, (l.drop q.base).take k = ((l.take p.base).drop q.base).take k := by
    intro l
    rw [List.drop_take, List.take_take, Nat.min_eq_left (by omega)]
  rw [e vs, e us, hpre]

theorem splice_take {vs us : List Value} {n off : Nat} (h : n ≤ off) (h2 : off ≤ vs.length) : (splice vs off us).take n = vs.take n := by
  unfold splice
  rw [List.take_append_of_le_length (by simp; omega), List.take_take, Nat.min_eq_left h]

/-- Block i is written; block j's cells too if it is the same. -/
theorem Rel.write {G : Gl} {π : Loc} {m : Nat → Option Blk} {w0 w : World} (h : Rel G π m w0 w) {i : Nat} {p : Pl} {b : Blk} (hi : m i = some b) (hw : b.wr = true) (hn : π i = some p)
    {gs : List Seg} {us : List Value} {T : TypeId} {fz : Nat × Nat} {vs : List Value} (hh : w.heap[p.n]? = some (.cells us.toArray T fz)) (hl : vs.length = us.length) (hpre : vs.take p.base = us.take p.base) (hb : p.base + segsSize gs ≤ p.z)
    (hc : segsCv π gs (cut p (segsSize gs) vs)) : Rel G π (updM m i ⟨gs, true⟩) w0 (w.setRow p.n vs.toArray) := by
  obtain ⟨p', us', T', fz', e1, e2, e4⟩ := h.blk i b hi
  rw [hn] at e1; cases e1
  obtain ⟨e5, e6⟩ := e4 hw
  subst e5
  have hh' := e2.1
  rw [hh] at hh'
  have hus : us = us' := by
    have := Option.some.inj hh'
    injection this with q
    exact List.toArray_inj q
  have hfz : fz = (0, 0) := by
    have := Option.some.inj hh'
    injection this
  subst hus; subst hfz
  refine ⟨?_, ?_, ?_, ?_, h.globOld, Below.setRow h.below e6 _, h.base, fun w1 e => (h.oth w1 e).trans ⟨by simp [World.setRow], fun k o hk ho => ?_⟩⟩
  rotate_right
  · by_cases hkp : k = p.n
    · subst hkp; rw [hh] at hk; cases hk; exact absurd rfl (ho _ _ _)
    · exact (setRow_other w p.n k _ hkp).trans hk
  · intro j c hj
    unfold updM at hj
    split at hj
    · rename_i e; subst e; cases hj
      exact ⟨p, vs, T, (0, 0), hn, ⟨setRow_heap w p.n _ _ T _ hh, hl.trans e2.2.1, hb, hc⟩, fun _ => ⟨rfl, e6⟩⟩
    · rename_i hne
      obtain ⟨q, ws, Tq, fzq, f1, f2, f4⟩ := h.blk j c hj
      by_cases hk : q.n = p.n
      · have hnil := (h.inj i j p q b c (Ne.symm hne) hi hj hn f1 hk.symm hw).1
        have e7 : us = ws := by
          have := f2.1
          rw [hk, hh] at this
          have := Option.some.inj this
          injection this with q
          exact List.toArray_inj q
        have e8 : fzq = (0, 0) := by
          have := f2.1
          rw [hk, hh] at this
          have := Option.some.inj this
          injection this with _ _ q
          exact q.symm
        subst e7
        refine ⟨q, vs, T, (0, 0), f1, ⟨?_, hl.trans f2.2.1, ?_, ?_⟩, fun hq => ⟨rfl, (f4 hq).2⟩⟩
        · rw [hk]; exact setRow_heap w p.n _ _ T _ hh
        · exact f2.2.2.1
        · rcases hnil with hnil | hnil
          · rw [hnil]; simp [segsSize, cut, segsCv]
          · rw [cut_before hnil hpre]; exact f2.2.2.2
      · exact ⟨q, ws, Tq, fzq, f1, f2.mono π.le_refl (setRow_other w p.n q.n _ hk), f4⟩
  · intro a c q r ba bc hne ha hcm qa qc hqr hwr
    unfold updM at ha hcm
    split at ha <;> split at hcm
    · rename_i x1 x2; exact absurd (x1.trans x2.symm) hne
    · rename_i x1 x2
      subst x1
      exact h.inj a c q r b bc hne hi hcm qa qc hqr hw
    · rename_i x1 x2
      subst x2
      have := (h.inj c a r q b ba (Ne.symm hne) hi ha qc qa hqr.symm hw).2
      rw [this] at hwr; cases hwr
    · exact h.inj a c q r ba bc hne ha hcm qa qc hqr hwr
  · intro j hj
    unfold updM at hj
    split at hj
    · cases hj
    · exact h.dom j hj
  · have : G.g ≠ p.n := by have := h.globOld; omega
    rw [setRow_other w p.n _ _ this]; exact h.glob

theorem Rel.drew {G : Gl} {π : Loc} {m : Nat → Option Blk} {w0 w : World} (h : Rel G π m w0 w) : Rel G π m w0 w.drew :=
  ⟨h.blk, h.inj, h.dom, h.glob, h.globOld, h.below.drew, h.base, fun w1 e => (h.oth w1 e).trans ⟨Nat.le_refl _, fun _ _ h _ => h⟩⟩

/-! ### Cells -/

theorem addr_add (n o k : Nat) : (⟨n, o, none⟩ : Addr).add k = ⟨n, o + k, none⟩ := by
  unfold Addr.add; split <;> simp_all

theorem run_cells {P : Program} {w : World} {n o k : Nat} {vs : List Value} {T : TypeId} {fz : Nat × Nat} (hh : w.heap[n]? = some (.cells vs.toArray T fz)) (hk : k = 0 ∨ o + k ≤ vs.length) :
    (loadCells ⟨n, o, none⟩ k).run P w = .ok ((vs.drop o).take k).toArray w := by
  have hl : ((vs.drop o).take k).length = k := by
    rcases hk with hk | hk
    · subst hk; simp
    · simp; omega
  have := run_loadCells_list (P := P) w ⟨n, o, none⟩ ((vs.drop o).take k) (fun j v hj => by
    rw [addr_add]
    simp only [World.cell?, hh, Option.isSome_none, Bool.false_eq_true, if_false]
    rw [List.getElem?_take] at hj
    split at hj
    · rw [List.getElem?_drop] at hj; simpa using hj
    · cases hj)
  rw [hl] at this; exact this

theorem run_cell1 {P : Program} {w : World} {n o : Nat} {vs : List Value} {T : TypeId} {fz : Nat × Nat} {v : Value} (hh : w.heap[n]? = some (.cells vs.toArray T fz)) (hv : vs[o]? = some v) :
    (load ⟨n, o, none⟩).run P w = .ok v w := by
  have : w.cell? ⟨n, o, none⟩ = some v := by simp [World.cell?, hh, hv]
  rw [run_load, this]

theorem cut_take {p : Pl} {k off n : Nat} {vs : List Value} (h : n = 0 ∨ off + n ≤ (cut p k vs).length) : (vs.drop (p.base + off)).take n = ((cut p k vs).drop off).take n := by
  unfold cut at *
  rcases h with h | h
  · subst h; simp
  · rw [List.drop_take, List.drop_drop, List.take_take]
    congr 1
    simp only [List.length_take, List.length_drop] at h
    omega

theorem cut_get {p : Pl} {k off : Nat} {vs : List Value} {v : Value} (h : (cut p k vs)[off]? = some v) : vs[p.base + off]? = some v := by
  unfold cut at h
  rw [List.getElem?_take] at h
  split at h
  · rwa [List.getElem?_drop] at h
  · cases h

theorem cut_length {p : Pl} {k : Nat} {vs : List Value} (h : p.base + k ≤ vs.length) : (cut p k vs).length = k := by
  unfold cut; simp; omega

theorem Holds.cells {P : Program} {π : Loc} {p : Pl} {gs rs : List Seg} {w : World} {vs : List Value} {T : TypeId} {fz : Nat × Nat} (h : Holds π p gs w vs T fz) {off n : Nat} (hg : getSegs gs off n = some rs) :
    ∃ us, (loadCells ⟨p.n, p.base + off, none⟩ n).run P w = .ok (us : List Value).toArray w ∧ segsCv π rs us := by
  obtain ⟨hle, hcv⟩ := getSegs_cv h.2.2.2 hg
  refine ⟨_, run_cells (o := p.base + off) h.1 ?_, by rw [cut_take hle]; exact hcv⟩
  rcases hle with q | q
  · exact .inl q
  · right
    rw [cut_length (by rw [h.2.1]; exact h.2.2.1)] at q
    have := h.2.1; have := h.2.2.1; omega

theorem Holds.cell {P : Program} {π : Loc} {p : Pl} {gs : List Seg} {w : World} {vs : List Value} {T : TypeId} {fz : Nat × Nat} (h : Holds π p gs w vs T fz) {off : Nat} {x : Sc} (hg : getSc gs off = some x) :
    ∃ v, (load ⟨p.n, p.base + off, none⟩).run P w = .ok v w ∧ x.cv π v := by
  obtain ⟨v, hv, hcv⟩ := getSc_cv h.2.2.2 hg
  exact ⟨v, run_cell1 h.1 (cut_get hv), hcv⟩

theorem Holds.pix {P : Program} {π : Loc} {p : Pl} {gs : List Seg} {w : World} {vs : List Value} {T : TypeId} {fz : Nat × Nat} (h : Holds π p gs w vs T fz) {off : Nat} {i : BitVec 8} {x : Sc} (hg : getPix gs off i = some x) :
    ∃ v, (load ⟨p.n, p.base + (off + i.toNat), none⟩).run P w = .ok v w ∧ x.cv π v := by
  obtain ⟨v, hv, hcv⟩ := getPix_cv h.2.2.2 hg
  exact ⟨v, run_cell1 h.1 (cut_get hv), hcv⟩

theorem run_info {P : Program} {t : TypeId} {i : TypeInfo} (h : P.info? t = some i) (w : World) : (typeInfo t).run P w = .ok i w := by
  simp [typeInfo, h]

theorem run_size {P : Program} {t : TypeId} {i : TypeInfo} (h : P.info? t = some i) (w : World) : (sizeOf t).run P w = .ok i.size w := by
  simp [sizeOf, run_info h]

theorem tyAgg_true {P : Program} {t : TypeId} {n : Nat} (h : tyAgg P t = some (true, n)) :
    (∀ w, (isAgg t).run P w = .ok true w) ∧ ∃ i, P.info? t = some i ∧ i.size = n := by
  unfold tyAgg at h
  split at h
  · cases h
  · rename_i i hi
    split at h <;> first
      | (rename_i hu; cases h; exact ⟨fun w => by simp [isAgg, run_underlying hu], i, hi, rfl⟩)
      | cases h

theorem tyAgg_false {P : Program} {t : TypeId} {n : Nat} (h : tyAgg P t = some (false, n)) :
    (∀ w, (isAgg t).run P w = .ok false w) ∧ ∃ i, P.info? t = some i ∧ i.size = n := by
  unfold tyAgg at h
  split at h
  · cases h
  · rename_i i hi
    split at h
    · cases h
    · cases h
    · rename_i d h1 h2 hu
      cases h
      refine ⟨fun w => ?_, i, hi, rfl⟩
      simp only [isAgg, Sem.run_bind, run_underlying hu, Result.andThen_ok]
      cases d <;> first | rfl | (exact absurd rfl (h1 _)) | (exact absurd rfl (h2 _ _))
    · cases h

theorem tySize_some {P : Program} {t : TypeId} {n : Nat} (h : tySize P t = some n) : ∃ i, P.info? t = some i ∧ i.size = n := by
  unfold tySize at h
  split at h
  · rename_i i hi; cases h; exact ⟨i, hi, rfl⟩
  · cases h

theorem tyArr_some {P : Program} {t : TypeId} {n e sz : Nat} (h : tyArr P t = some (n, e, sz)) :
    P.underlying t = some (.array n e) ∧ ∃ i, P.info? e = some i ∧ i.size = sz := by
  unfold tyArr at h
  split at h
  · rename_i n' e' hu
    split at h
    · rename_i i hi; cases h; exact ⟨hu, i, hi, rfl⟩
    · cases h
  · cases h

theorem tySlice_some {P : Program} {t : TypeId} {e sz : Nat} (h : tySlice P t = some (e, sz)) :
    P.underlying t = some (.slice e) ∧ ∃ i, P.info? e = some i ∧ i.size = sz := by
  unfold tySlice at h
  split at h
  · rename_i e' hu
    split at h
    · rename_i i hi; cases h; exact ⟨hu, i, hi, rfl⟩
    · cases h
  · cases h

/-! ### What an operation comes to -/

/-- The operation's answer: run in w it hands back a value that 'out.v' stands for, in a world that the memory behind it stands for. -/
def Res (G : Gl) (P : Program) (π : Loc) (m : Nat → Option Blk) (w0 : World) (fresh : Nat) (out : Out) (s : Sem Value) (w : World) : Prop :=
  ∃ rv w' π', s.run P w = .ok rv w' ∧ π.le π' ∧ out.v.cv π' rv ∧ Rel G π' (effM m fresh out) w0 w'

section
variable {G : Gl} {K : Cx} {π : Loc} {m : Nat → Option Blk} {w0 w : World} {fresh : Nat} {out : Out} {fp : List Nat}

theorem Res.pure {s : Sem Value} {v : V} {obs : List (Bool × Bool)} {rv : Value} (hR : Rel G π m w0 w) (hs : s.run K.P w = .ok rv w) (hc : v.cv π rv) :
    Res G K.P π m w0 fresh ⟨v, [], none, obs⟩ s w := ⟨rv, w, π, hs, π.le_refl, hc, hR⟩

theorem okV_run {v : V} (h : (okV v).run m = some (out, fp)) : out = ⟨v, [], none, []⟩ := by cases h; rfl
theorem okS_run {x : Sc} (h : (okS x).run m = some (out, fp)) : out = ⟨.s x, [], none, []⟩ := by cases h; rfl
theorem okSc_run {x : Option Sc} (h : (okSc x).run m = some (out, fp)) : ∃ y, x = some y ∧ out = ⟨.s y, [], none, []⟩ := by
  cases x with
  | none => cases h
  | some y => cases h; exact ⟨y, rfl, rfl⟩
theorem okSegs_run {x : Option (List Seg)} (h : (okSegs x).run m = some (out, fp)) : ∃ y, x = some y ∧ out = ⟨.a y, [], none, []⟩ := by
  cases x with
  | none => cases h
  | some y => cases h; exact ⟨y, rfl, rfl⟩
theorem read_run {α : Type} {id : Nat} {k : Blk → Rd α} {a : α} (h : (Rd.read id k).run m = some (a, fp)) :
    ∃ b fp', m id = some b ∧ (k b).run m = some (a, fp') ∧ fp = id :: fp' := by
  simp only [Rd.run] at h
  split at h
  · cases h
  · rename_i b hb
    split at h
    · cases h
    · rename_i a' fp' hk; cases h; exact ⟨b, fp', hb, hk, rfl⟩
theorem fail_run {α : Type} {a : α} (h : (Rd.fail : Rd α).run m = some (a, fp)) : False := by cases h

theorem s_load {t : TypeId} {x : V} {xv : Value} (hR : Rel G π m w0 w) (hx : x.cv π xv) (h : (aload K t x).run m = some (out, fp)) :
    Res G K.P π m w0 fresh out (Instr.loadAt t xv) w := by
  unfold aload at h
  split at h
  · rename_i b off
    obtain ⟨n, hn, rfl⟩ := hx
    split at h
    · rename_i sz hty
      obtain ⟨ha, i, hi, rfl⟩ := tyAgg_true hty
      obtain ⟨blk, fp', hb, hk, _⟩ := read_run h
      obtain ⟨gs, hg, rfl⟩ := okSegs_run hk
      obtain ⟨n', vs, T, fz, e1, e2, _⟩ := hR.blk b blk hb
      rw [hn] at e1; cases e1
      obtain ⟨us, h1, h2⟩ := e2.cells (P := K.P) hg
      exact Res.pure hR (by simp [Instr.loadAt, Instr.sureAddr, loadVar, ha, run_size hi, h1]) ⟨_, rfl, h2⟩
    · rename_i sz hty
      obtain ⟨ha, i, hi, rfl⟩ := tyAgg_false hty
      obtain ⟨blk, fp', hb, hk, _⟩ := read_run h
      obtain ⟨y, hg, rfl⟩ := okSc_run hk
      obtain ⟨n', vs, T, fz, e1, e2, _⟩ := hR.blk b blk hb
      rw [hn] at e1; cases e1
      obtain ⟨v, hv, hcv⟩ := e2.cell (P := K.P) hg
      exact Res.pure hR (by simp only [Instr.loadAt, Instr.sureAddr, loadVar, Sem.run_bind, Sem.run_pure, Result.andThen_ok, ha, hv, Bool.false_eq_true, if_false]) hcv
    · cases h
  · rename_i b off x
    obtain ⟨n, hn, rfl⟩ := hx
    split at h
    · rename_i sz hty
      obtain ⟨ha, i, hi, rfl⟩ := tyAgg_false hty
      obtain ⟨blk, fp', hb, hk, _⟩ := read_run h
      obtain ⟨y, hg, rfl⟩ := okSc_run hk
      obtain ⟨n', vs, T, fz, e1, e2, _⟩ := hR.blk b blk hb
      rw [hn] at e1; cases e1
      obtain ⟨v, hv, hcv⟩ := e2.pix (P := K.P) hg
      exact Res.pure hR (by simp only [Instr.loadAt, Instr.sureAddr, loadVar, Sem.run_bind, Sem.run_pure, Result.andThen_ok, ha, hv, Bool.false_eq_true, if_false]) hcv
    · cases h
  · cases h

/-! #### A store -/

theorem segsOfV_cv {x : V} {xv : Value} {gs : List Seg} (hx : x.cv π xv) (h : segsOfV x = some gs) :
    ∃ vs : List Value, xv.cells = vs.toArray ∧ segsCv π gs vs ∧ ∀ v ∈ vs, v.oneCell' = true := by
  cases x with
  | s y =>
    simp only [segsOfV] at h
    cases hs : y.solid <;> simp [hs] at h
    subst h
    have ho := Sc.solid_cv (x := y) hx hs
    refine ⟨[xv], ?_, ⟨[xv], [], rfl, ⟨xv, rfl, hx⟩, rfl⟩, by simpa using ho⟩
    cases xv <;> first | rfl | (simp [Value.oneCell'] at ho)
  | a gs' =>
    simp only [segsOfV] at h
    cases hs : solidSegs gs' <;> simp [hs] at h
    subst h
    obtain ⟨vs, rfl, hc⟩ := hx
    exact ⟨vs, rfl, hc, solidSegs_cv hc hs⟩
  | t l => cases h

theorem unpix_cv {π : Loc} {x : V} {v : Value} (h : x.cv π v) : (unpix x).cv π v := by
  unfold unpix
  split
  · obtain ⟨p, h1, h2⟩ := h; exact ⟨p, h1, h2⟩
  · exact h

theorem s_store {t : TypeId} {x y : V} {xv yv : Value} (hR : Rel G π m w0 w) (hx : x.cv π xv) (hy : y.cv π yv) (h : (astore K t x y).run m = some (out, fp)) :
    ∃ w', (Instr.storeAt t xv yv).run K.P w = .ok () w' ∧ out.v = .s .undef ∧ Rel G π (effM m fresh out) w0 w' := by
  unfold astore at h
  split at h
  · rename_i x' y' n' b off p ps n hp hn
    obtain ⟨nn, hnn, rfl⟩ := hx
    cases hq : Nat.beq (segsSize (p :: ps)) n <;> simp only [hq, cond_true, cond_false] at h
    · exact (fail_run h).elim
    · obtain ⟨blk, fp', hb, hk, _⟩ := read_run h
      cases hw : blk.wr <;> simp only [hw, cond_true, cond_false] at hk
      · exact (fail_run hk).elim
      · split at hk
        · rename_i gs hgs
          cases hk
          obtain ⟨i, hi, rfl⟩ := tySize_some hn
          have hsz := Nat.eq_of_beq_eq_true hq
          obtain ⟨vs, e1, e2, e3⟩ := segsOfV_cv hy hp
          obtain ⟨n', us, T, fz, f1, f2, f4⟩ := hR.blk b blk hb
          rw [hnn] at f1; cases f1
          obtain ⟨f5, f6⟩ := f4 hw
          subst f5
          obtain ⟨h1, h2⟩ := putSegs_cv f2.2.2.2 e2 hgs
          have hcl := cut_length (p := nn) (k := segsSize blk.gs) (vs := us) (by rw [f2.2.1]; exact f2.2.2.1)
          have hlen := segsCv_length e2
          have hfit0 : off + vs.length ≤ segsSize blk.gs := by
            rcases h1 with h1 | h1
            · cases h1
            · omega
          have hsz2 : segsSize gs = segsSize blk.gs := by
            rw [← segsCv_length h2, splice_length (by omega), hcl]
          have hb1 := f2.2.1
          have hb2 := f2.2.2.1
          have hfit : (nn.base + off) + 0 + vs.length ≤ us.toArray.size := by simp; omega
          have hst := run_storeCells_at K.P nn.n (nn.base + off) T vs 0 us.toArray w f2.1 hfit e3
          refine ⟨_, ?_, rfl, hR.write (vs := splice us (nn.base + off) vs) hb hw hnn f2.1 (splice_length (by omega)) (splice_take (by omega) (by omega)) (by omega) ?_⟩
          · simp only [Instr.storeAt, Instr.sureAddr, storeVar, Sem.run_bind, Sem.run_pure, Result.andThen_ok, run_size hi, e1, List.size_toArray]
            rw [if_neg (by omega)]
            rw [hst]
            simp [splice]
          · rw [hsz2, cut_splice hfit0 (by omega)]; exact h2
        · exact (fail_run hk).elim
  · exact (fail_run h).elim

/-! #### New blocks -/

theorem Res.new {gs : List Seg} {vs : List Value} {s : Sem Value} {T : TypeId} (hR : Rel G π m w0 w) (hf : m fresh = none) (hc : segsCv π gs vs)
    (hs : s.run K.P w = .ok (.pointer (some ⟨w.heap.size, 0, none⟩)) (w.alloc (.cells vs.toArray T))) : Res G K.P π m w0 fresh ⟨.s (.ptr fresh 0), [gs], none, []⟩ s w := by
  obtain ⟨h1, h2⟩ := hR.alloc hf hc T
  exact ⟨_, _, _, hs, h1, ⟨⟨w.heap.size, 0, vs.length⟩, by simp [updL], rfl⟩, h2⟩

theorem run_newVar (P : Program) (t : TypeId) (v : Value) (w : World) : (newVar t v).run P w = .ok ⟨w.heap.size, 0, none⟩ (w.alloc (.cells v.cells t)) := by
  simp [newVar, newRow]

theorem scOf_cv (v : Value) : (scOf v).cv π v := by
  unfold scOf
  split <;> first
    | exact True.intro
    | rfl
    | (rename_i n; cases hb : Nat.ble _ n <;> simp only [cond_true, cond_false]
       · have hlt : ¬ _ ≤ n := fun q => by rw [Nat.ble_eq_true_of_le q] at hb; cases hb
         simp only [Sc.cv, BitVec.toNat_ofNat]
         rw [Nat.mod_eq_of_lt (by omega)]; rfl
       · exact True.intro)

theorem zeros_spec {k : IntKind} : ∀ {vs : List Value}, zeros k vs = true → vs = (List.replicate vs.length (.int k 0))
  | [], _ => rfl
  | v :: r, h => by
    unfold zeros at h
    split at h
    · rename_i e; cases e
    · rename_i k' r' e
      cases e
      simp only [Bool.and_eq_true, beq_iff_eq] at h
      obtain ⟨h1, h2⟩ := h
      subst h1
      rw [List.length_cons, List.replicate_succ, ← zeros_spec h2]; rfl
    · cases h

theorem chunk_cv {vs : List Value} {g : Seg} (h : chunk vs = some g) : g.cv π vs := by
  unfold chunk at h
  split at h
  · cases h
  · cases h; exact ⟨_, rfl, scOf_cv _⟩
  · rename_i v r _
    generalize hl : v :: r = l at h ⊢
    split at h
    · cases hz : zeros .u8 l <;> simp only [hz, cond_true, cond_false] at h <;> cases h
      exact ⟨by simp, by rw [List.map_replicate]; exact zeros_spec hz⟩
    · cases hz : zeros .u32 l <;> simp only [hz, cond_true, cond_false] at h <;> cases h
      exact ⟨by simp, by rw [List.map_replicate]; exact zeros_spec hz⟩
    · cases hz : zeros .i64 l <;> simp only [hz, cond_true, cond_false] at h <;> cases h
      exact ⟨by simp, by rw [List.map_replicate]; exact zeros_spec hz⟩
    · cases h

theorem chunks_cv : ∀ {ns : List Nat} {vs : List Value} {gs : List Seg}, chunks ns vs = some gs → segsCv π gs vs
  | [], vs, gs, h => by
    unfold chunks at h
    split at h <;> first | (cases h; rfl) | cases h | (rename_i e; cases e) | skip
    all_goals simp_all
  | n :: ns, vs, gs, h => by
    unfold chunks at h
    split at h
    · rename_i g gs' h1 h2
      cases h
      exact ⟨_, _, (List.take_append_drop n vs).symm, chunk_cv h1, chunks_cv h2⟩
    · cases h

theorem zeroSegs_cv {P : Program} {t : TypeId} {gs : List Seg} (h : zeroSegs P t = some gs) :
    ∃ i z, P.info? t = some i ∧ i.zero = some z ∧ segsCv π gs z.cells.toList := by
  unfold zeroSegs at h
  split at h
  · cases h
  · rename_i i hi
    split at h
    · cases h
    · rename_i z hz
      refine ⟨i, z, hi, hz, ?_⟩
      split at h
      · split at h
        · exact chunks_cv h
        · cases h
      · exact chunks_cv h
      · exact chunks_cv h

theorem s_alloc {t : TypeId} {gs : List Seg} (hR : Rel G π m w0 w) (hf : m fresh = none) (hz : zeroSegs K.P t = some gs) (h : (newB fresh gs).run m = some (out, fp)) :
    Res G K.P π m w0 fresh out (Instr.alloc t true (.tuple #[])) w := by
  cases h
  obtain ⟨i, z, hi, hzz, hc⟩ := zeroSegs_cv (π := π) hz
  refine Res.new (T := t) hR hf hc ?_
  simp [Instr.alloc, zeroValue, run_info hi, hzz, run_newVar]

theorem s_box {t : TypeId} {x : V} {xv : Value} (hR : Rel G π m w0 w) (hf : m fresh = none) (hx : x.cv π xv) (h : (abox fresh x).run m = some (out, fp)) :
    Res G K.P π m w0 fresh out (Instr.box t xv) w := by
  unfold abox at h
  split at h
  · rename_i gs hg
    cases h
    obtain ⟨vs, e1, e2, _⟩ := segsOfV_cv hx hg
    refine Res.new (T := t) hR hf e2 ?_
    simp [Instr.box, run_newVar, e1]
  · exact (fail_run h).elim
end
end Go.Mo


namespace Go.Mo
open Go Go.RowKit
section
variable {G : Gl} {K : Cx} {π : Loc} {m : Nat → Option Blk} {w0 w : World} {fresh : Nat} {out : Out} {fp : List Nat} {P : Program}

theorem scInt_cv {x : Sc} {k : IntKind} {a : Int} {v : Value} (h : scInt x = some (k, a)) (hx : x.cv π v) : v = .int k a := by
  cases x <;> simp only [scInt, Option.some.injEq, Prod.mk.injEq, reduceCtorEq] at h <;> (obtain ⟨rfl, rfl⟩ := h; exact hx)

theorem eqGuard_int (op : BinOp) (t : TypeId) (ox oy : Operand) (k k' : IntKind) (a b : Int) (w : World) : (eqGuard op t ox oy (.int k a) (.int k' b)).run P w = .ok () w := by
  cases op <;> rfl

theorem wrap_u {k : IntKind} (hs : k.signed = false) (n : Int) : k.wrap n = n % (2 ^ k.bits : Int) := by
  simp [IntKind.wrap, hs]

theorem wrap_lt {k : IntKind} (hs : k.signed = false) {n : Nat} (h : n < 2 ^ k.bits) : k.wrap (n : Int) = n := by
  rw [wrap_u hs]
  have h2 : ((2 : Int) ^ k.bits) = ((2 ^ k.bits : Nat) : Int) := by push_cast; rfl
  rw [h2]
  exact Int.emod_eq_of_lt (by omega) (by exact_mod_cast h)

theorem ofInt_nat {n : Nat} (x : BitVec n) : BitVec.ofInt n (x.toNat : Int) = x := by
  rw [BitVec.ofInt_natCast]; simp

theorem pow_cast (n : Nat) : ((2 : Int) ^ n) = ((2 ^ n : Nat) : Int) := by push_cast; rfl

theorem wrap_nat {k : IntKind} (hs : k.signed = false) (n : Nat) : k.wrap (n : Int) = ((n % 2 ^ k.bits : Nat) : Int) := by
  rw [wrap_u hs, pow_cast]; rfl

theorem bvRes_run {k : IntKind} (hs : k.signed = false) {op : BinOp} {x y r : BitVec k.bits} (h : bvRes op x y = some r) (t : TypeId) :
    (binOp op t (.int k x.toNat) (.int k y.toNat)).run P w = .ok (.int k r.toNat) w := by
  have hx := x.isLt
  have hy := y.isLt
  cases op <;> simp only [bvRes, Option.some.injEq, reduceCtorEq] at h
  case add => subst h; simp [binOp, Op.intArith, ← Int.natCast_add, wrap_nat hs, BitVec.toNat_add]
  case sub =>
    subst h
    simp only [binOp, ne_eq, not_true_eq_false, if_false, Op.intArith, Sem.run_pure, BitVec.toNat_sub]
    rw [wrap_u hs, pow_cast]
    generalize 2 ^ k.bits = M at hx hy
    have e : ((M - y.toNat + x.toNat : Nat) : Int) = ((x.toNat : Int) - y.toNat) + (M : Int) := by omega
    rw [Int.natCast_emod, e, Int.add_emod_right]
  case mul => subst h; simp [binOp, Op.intArith, ← Int.natCast_mul, wrap_nat hs, BitVec.toNat_mul]
  case quo =>
    split at h
    · cases h
    · rename_i hne
      cases h
      have h0 : ¬ ((y.toNat : Int) = 0) := fun e => hne (by exact_mod_cast e)
      have hlt : x.toNat / y.toNat < 2 ^ k.bits := Nat.lt_of_le_of_lt (Nat.div_le_self _ _) hx
      simp only [binOp, ne_eq, not_true_eq_false, if_false, Op.intDiv, h0, Sem.run_pure, BitVec.toNat_udiv]
      rw [← Int.ofNat_tdiv, wrap_lt hs hlt]
  case rem =>
    split at h
    · cases h
    · rename_i hne
      cases h
      have h0 : ¬ ((y.toNat : Int) = 0) := fun e => hne (by exact_mod_cast e)
      simp only [binOp, ne_eq, not_true_eq_false, if_false, Op.intDiv, h0, Sem.run_pure, BitVec.toNat_umod]
      rfl
  case and => subst h; simp only [binOp, ne_eq, not_true_eq_false, if_false, Op.intBits, ofInt_nat, Sem.run_pure]; rw [wrap_lt hs (x &&& y).isLt]
  case or => subst h; simp only [binOp, ne_eq, not_true_eq_false, if_false, Op.intBits, ofInt_nat, Sem.run_pure]; rw [wrap_lt hs (x ||| y).isLt]
  case xor => subst h; simp only [binOp, ne_eq, not_true_eq_false, if_false, Op.intBits, ofInt_nat, Sem.run_pure]; rw [wrap_lt hs (x ^^^ y).isLt]
  case andNot => subst h; simp only [binOp, ne_eq, not_true_eq_false, if_false, Op.intBits, ofInt_nat, Sem.run_pure]; rw [wrap_lt hs (x &&& ~~~y).isLt]

theorem wrapF_eq (k : IntKind) (n : Int) : wrapF k n = k.wrap n := by
  cases k <;> try rfl
  cases n with
  | ofNat m =>
    simp only [wrapF]
    cases h : Nat.ble 9223372036854775808 m
    · have hlt : m < 9223372036854775808 := by
        rcases Nat.lt_or_ge m 9223372036854775808 with q | q
        · exact q
        · rw [Nat.ble_eq_true_of_le q] at h; cases h
      simp only [cond_false]
      unfold IntKind.wrap
      simp only [IntKind.signed, IntKind.bits, Bool.true_and]
      split <;> simp_all <;> omega
    · rfl
  | negSucc m => rfl

theorem knownRes_run {k : IntKind} {op : BinOp} {a b r : Int} (h : knownRes op k a b = some r) (t : TypeId) :
    (binOp op t (.int k a) (.int k b)).run P w = .ok (.int k r) w := by
  cases op <;> simp only [knownRes, Option.some.injEq, reduceCtorEq, wrapF_eq] at h
  case quo =>
    split at h
    · cases h
    · rename_i hne
      cases h
      have h0 : ¬ (b = 0) := fun e => hne e
      simp [binOp, Op.intDiv, h0]
  case rem =>
    split at h
    · cases h
    · rename_i hne
      cases h
      have h0 : ¬ (b = 0) := fun e => hne e
      simp [binOp, Op.intDiv, h0]
  all_goals (subst h; simp [binOp, Op.intArith, Op.intBits])

theorem intRes_run {k : IntKind} {op : BinOp} {a b r : Int} (h : intRes op k a b = some r) (t : TypeId) :
    (binOp op t (.int k a) (.int k b)).run P w = .ok (.int k r) w := by
  cases op <;> simp only [intRes, Option.some.injEq, reduceCtorEq] at h
  case quo =>
    split at h
    · cases h
    · rename_i hne
      cases h
      have h0 : ¬ (b = 0) := fun e => hne e
      simp [binOp, Op.intDiv, h0]
  case rem =>
    split at h
    · cases h
    · rename_i hne
      cases h
      have h0 : ¬ (b = 0) := fun e => hne e
      simp [binOp, Op.intDiv, h0]
  all_goals (subst h; simp [binOp, Op.intArith, Op.intBits])

theorem cmpRes_run {k : IntKind} {op : BinOp} {a b : Int} {r : Bool} (h : cmpRes op a b = some r) (t : TypeId) :
    (binOp op t (.int k a) (.int k b)).run P w = .ok (.bool r) w := by
  cases op <;> simp only [cmpRes, Option.some.injEq, reduceCtorEq] at h
  all_goals (subst h; simp [binOp, Op.intCmp])
  all_goals rfl

theorem shl_min (x n b : Nat) : (x * 2 ^ min n b) % 2 ^ b = (x * 2 ^ n) % 2 ^ b := by
  rcases Nat.le_total n b with h | h
  · rw [Nat.min_eq_left h]
  · rw [Nat.min_eq_right h, Nat.mul_mod_left]
    obtain ⟨d, rfl⟩ := Nat.exists_eq_add_of_le h
    rw [Nat.pow_add, ← Nat.mul_assoc, Nat.mul_right_comm, Nat.mul_mod_left]

theorem shr_min (x n b : Nat) (hx : x < 2 ^ b) : x / 2 ^ min n b = x / 2 ^ n := by
  rcases Nat.le_total n b with h | h
  · rw [Nat.min_eq_left h]
  · rw [Nat.min_eq_right h, Nat.div_eq_of_lt hx, Nat.div_eq_of_lt (Nat.lt_of_lt_of_le hx (Nat.pow_le_pow_right (by omega) h))]

theorem shl_bv {k : IntKind} (hs : k.signed = false) (x : BitVec k.bits) (yk : IntKind) (n : Nat) (t : TypeId) :
    (binOp .shl t (.int k x.toNat) (.int yk n)).run P w = .ok (.int k (x <<< n).toNat) w := by
  have e : (x.toNat : Int) * 2 ^ min n k.bits = ((x.toNat * 2 ^ min n k.bits : Nat) : Int) := by push_cast; rfl
  simp only [binOp, Op.shift, Int.toNat_natCast, BitVec.toNat_shiftLeft, Nat.shiftLeft_eq]
  rw [if_neg (by omega)]
  simp only [Sem.run_pure, e, wrap_nat hs, shl_min]

theorem shr_bv {k : IntKind} (x : BitVec k.bits) (yk : IntKind) (n : Nat) (t : TypeId) :
    (binOp .shr t (.int k x.toNat) (.int yk n)).run P w = .ok (.int k (x >>> n).toNat) w := by
  simp only [binOp, Op.shift, Int.toNat_natCast, BitVec.toNat_ushiftRight, Nat.shiftRight_eq_div_pow]
  rw [if_neg (by omega)]
  simp only [Sem.run_pure]
  rw [pow_cast, Int.fdiv_eq_ediv_of_nonneg _ (Int.natCast_nonneg _), ← Int.natCast_ediv, shr_min _ _ _ x.isLt]

theorem shl_int {k : IntKind} (a : Int) (yk : IntKind) (n : Nat) (t : TypeId) :
    (binOp .shl t (.int k a) (.int yk n)).run P w = .ok (.int k (k.wrap (a * 2 ^ Nat.min n k.bits))) w := by
  simp only [binOp, Op.shift, Int.toNat_natCast]
  rw [if_neg (by omega)]; rfl

theorem shr_int {k : IntKind} (a : Int) (yk : IntKind) (n : Nat) (t : TypeId) :
    (binOp .shr t (.int k a) (.int yk n)).run P w = .ok (.int k (a.fdiv (2 ^ Nat.min n k.bits))) w := by
  simp only [binOp, Op.shift, Int.toNat_natCast]
  rw [if_neg (by omega)]; rfl

theorem scNat_cv {x : Sc} {n : Nat} {v : Value} (h : scNat x = some n) (hx : x.cv π v) : ∃ k, v = .int k (n : Int) := by
  unfold scNat at h
  split at h
  · rename_i k n' hs
    cases h
    exact ⟨k, scInt_cv hs hx⟩
  · cases h

theorem shiftRes_run {op : BinOp} {x y : Sc} {r : Sc} {n : Nat} {xv yv : Value} (h : shiftRes op x n = some r) (hn : scNat y = some n) (hx : x.cv π xv) (hy : y.cv π yv) (t : TypeId) :
    ∃ rv, (binOp op t xv yv).run P w = .ok rv w ∧ r.cv π rv := by
  obtain ⟨yk, rfl⟩ := scNat_cv hn hy
  unfold shiftRes at h
  split at h <;> cases h <;> simp only [Sc.cv] at hx <;> subst hx
  · exact ⟨_, shl_int _ _ _ _, by simp only [Sc.cv, wrapF_eq, pow_cast]⟩
  · exact ⟨_, shr_int _ _ _ _, by simp only [Sc.cv, pow_cast]⟩
  · exact ⟨_, shl_int (k := .i64) _ _ _ _, by simp only [Sc.cv, pow_cast]; rfl⟩
  · exact ⟨_, shr_int (k := .i64) _ _ _ _, by simp only [Sc.cv, pow_cast]; rfl⟩
  · exact ⟨_, shl_bv (k := .u8) rfl _ _ _ _, rfl⟩
  · exact ⟨_, shr_bv (k := .u8) _ _ _ _, rfl⟩
  · exact ⟨_, shl_bv (k := .u32) rfl _ _ _ _, rfl⟩
  · exact ⟨_, shr_bv (k := .u32) _ _ _ _, rfl⟩
  · exact ⟨_, shl_bv (k := .u64) rfl _ _ _ _, rfl⟩
  · exact ⟨_, shr_bv (k := .u64) _ _ _ _, rfl⟩

/-- What was taken for granted holds. -/
def ObsOk (l : List (Bool × Bool)) : Prop := ∀ p ∈ l, p.1 = p.2

theorem answer_run {ans : Option Bool} {b : Bool} (h : (answer ans b).run m = some (out, fp)) (ho : ObsOk out.obs) :
    ∃ obs, out = ⟨.s (.bool b), [], none, obs⟩ := by
  unfold answer at h
  split at h <;> cases h
  · exact ⟨_, rfl⟩
  · rename_i c
    have : b = c := ho (b, c) (by simp)
    subst this
    exact ⟨_, rfl⟩

theorem s_binInts {ans : Option Bool} {op : BinOp} {x y : Sc} {xv yv : Value} {t : TypeId} {ox oy : Operand} (hR : Rel G π m w0 w) (hx : x.cv π xv) (hy : y.cv π yv)
    (h : (binInts ans op x y).run m = some (out, fp)) (ho : ObsOk out.obs) :
    Res G K.P π m w0 fresh out (do eqGuard op t ox oy xv yv; binOp op t xv yv) w := by
  have core : ∀ rv v obs, out = ⟨v, [], none, obs⟩ → v.cv π rv → (∃ k k' a b, xv = .int k a ∧ yv = .int k' b) → (binOp op t xv yv).run K.P w = .ok rv w →
      Res G K.P π m w0 fresh out (do eqGuard op t ox oy xv yv; binOp op t xv yv) w := by
    intro rv v obs e hc hi hrun
    subst e
    obtain ⟨k, k', a, b, rfl, rfl⟩ := hi
    exact Res.pure hR (by rw [Sem.run_bind, eqGuard_int, Result.andThen_ok, hrun]) hc
  have shift : (∃ n r, scNat y = some n ∧ shiftRes op x n = some r ∧ out = ⟨.s r, [], none, []⟩) →
      Res G K.P π m w0 fresh out (do eqGuard op t ox oy xv yv; binOp op t xv yv) w := by
    rintro ⟨n, r, hn, hr, rfl⟩
    obtain ⟨rv, h1, h2⟩ := shiftRes_run (P := K.P) (w := w) hr hn hx hy t
    obtain ⟨yk, hyv⟩ := scNat_cv hn hy
    have hxv : ∃ k a, xv = .int k a := by
      unfold shiftRes at hr
      split at hr <;> first | (cases hr; done) | exact ⟨_, _, hx⟩
    obtain ⟨k, a, hxv⟩ := hxv
    exact core rv _ _ rfl h2 ⟨k, yk, a, n, hxv, hyv⟩ h1
  unfold binInts at h
  cases hs : isShift op <;> simp only [hs, cond_true, cond_false] at h
  · have known : ∀ k a b, xv = .int k a → yv = .int k b → (binKnown op k a b).run m = some (out, fp) → Res G K.P π m w0 fresh out (do eqGuard op t ox oy xv yv; binOp op t xv yv) w := by
      intro k a b e1 e2 h
      unfold binKnown at h
      split at h
      · rename_i r hr
        cases h
        exact core _ _ _ rfl rfl ⟨k, k, a, b, e1, e2⟩ (by rw [e1, e2]; exact cmpRes_run hr t)
      · split at h
        · rename_i r hr
          exact core _ _ _ (okS_run h) rfl ⟨k, k, a, b, e1, e2⟩ (by rw [e1, e2]; exact knownRes_run hr t)
        · exact (fail_run h).elim
    have sym : ∀ a b, xv = .int .i64 a → yv = .int .i64 b → (binSym ans op a b).run m = some (out, fp) → Res G K.P π m w0 fresh out (do eqGuard op t ox oy xv yv; binOp op t xv yv) w := by
      intro a b e1 e2 h
      unfold binSym at h
      split at h
      · rename_i r hr
        obtain ⟨obs, e⟩ := answer_run h ho
        exact core _ _ _ e rfl ⟨_, _, a, b, e1, e2⟩ (by rw [e1, e2]; exact cmpRes_run hr t)
      · split at h
        · rename_i r hr
          exact core _ _ _ (okS_run h) rfl ⟨_, _, a, b, e1, e2⟩ (by rw [e1, e2]; exact intRes_run hr t)
        · exact (fail_run h).elim
    have bv : ∀ (k : IntKind), k.signed = false → ∀ (mk : BitVec k.bits → Sc) (x y : BitVec k.bits), (∀ r, (mk r).cv π (.int k r.toNat)) → xv = .int k x.toNat → yv = .int k y.toNat →
        (binBv ans op mk x y).run m = some (out, fp) → Res G K.P π m w0 fresh out (do eqGuard op t ox oy xv yv; binOp op t xv yv) w := by
      intro k hsg mk x y hmk e1 e2 h
      unfold binBv at h
      split at h
      · rename_i r hr
        obtain ⟨obs, e⟩ := answer_run h ho
        exact core _ _ _ e rfl ⟨_, _, _, _, e1, e2⟩ (by rw [e1, e2]; exact cmpRes_run hr t)
      · split at h
        · rename_i r hr
          exact core _ _ _ (okS_run h) (hmk r) ⟨_, _, _, _, e1, e2⟩ (by rw [e1, e2]; exact bvRes_run hsg hr t)
        · exact (fail_run h).elim
    split at h
    · rename_i k a
      split at h
      · rename_i k' b
        cases hk : (k == k') <;> simp only [hk, cond_true, cond_false] at h
        · exact (fail_run h).elim
        · have hk' : k = k' := by simpa using hk
          subst hk'
          exact known k a b hx hy h
      · rename_i b
        cases hk : (k == .i64) <;> simp only [hk, cond_true, cond_false] at h
        · exact (fail_run h).elim
        · have hk' : k = .i64 := by simpa using hk
          subst hk'
          exact sym a b hx hy h
      · exact (fail_run h).elim
    · rename_i a
      split at h
      · rename_i k b
        cases hk : (k == .i64) <;> simp only [hk, cond_true, cond_false] at h
        · exact (fail_run h).elim
        · have hk' : k = .i64 := by simpa using hk
          subst hk'
          exact sym a b hx hy h
      · exact sym _ _ hx hy h
      · exact (fail_run h).elim
    · split at h
      · exact bv .u8 rfl .b8 _ _ (fun r => rfl) hx hy h
      · exact (fail_run h).elim
    · split at h
      · exact bv .u32 rfl .b32 _ _ (fun r => rfl) hx hy h
      · exact (fail_run h).elim
    · split at h
      · exact bv .u64 rfl .b64 _ _ (fun r => rfl) hx hy h
      · exact (fail_run h).elim
    · exact (fail_run h).elim
  · split at h
    · rename_i n hn
      obtain ⟨r, hr, e⟩ := okSc_run h
      exact shift ⟨n, r, hn, hr, e⟩
    · exact (fail_run h).elim

theorem conv_sw {k : IntKind} (hs : k.signed = false) {a : Nat} (y : BitVec a) : Value.int k (k.wrap (y.toNat : Int)) = Value.int k ((y.setWidth k.bits).toNat : Int) := by
  rw [wrap_nat hs, BitVec.toNat_setWidth]
theorem conv_id {k : IntKind} (hs : k.signed = false) (y : BitVec k.bits) : Value.int k (k.wrap (y.toNat : Int)) = Value.int k (y.toNat : Int) := by
  rw [wrap_lt hs y.isLt]
theorem conv_of {k : IntKind} (hs : k.signed = false) (n : Int) : Value.int k (k.wrap n) = Value.int k ((BitVec.ofInt k.bits n).toNat : Int) := by
  rw [wrap_u hs, BitVec.toNat_ofInt, pow_cast, Int.toNat_of_nonneg (Int.emod_nonneg _ (by have := Nat.two_pow_pos k.bits; omega))]
theorem conv_i64 {n : Nat} (h : n < 4294967296) : Value.int .i64 (IntKind.i64.wrap (n : Int)) = Value.int .i64 (n : Int) := by
  congr 1
  unfold IntKind.wrap
  simp only [IntKind.signed, IntKind.bits, Bool.true_and]
  split <;> simp_all <;> omega

theorem conv_known (k : IntKind) (n : Int) : Value.int k (k.wrap n) = Value.int k (wrapF k n) := by rw [wrapF_eq]

theorem convRes_cv {k : IntKind} {x r : Sc} {xv : Value} (h : convRes k x = some r) (hx : x.cv π xv) :
    ∃ kx n, xv = .int kx n ∧ r.cv π (.int k (k.wrap n)) := by
  unfold convRes at h
  split at h <;> cases h <;> refine ⟨_, _, hx, ?_⟩ <;> simp only [Sc.cv] <;> first
    | exact conv_known _ _
    | exact conv_id (k := .u8) rfl _
    | exact conv_id (k := .u32) rfl _
    | exact conv_id (k := .u64) rfl _
    | exact conv_sw (k := .u8) rfl _
    | exact conv_sw (k := .u32) rfl _
    | exact conv_sw (k := .u64) rfl _
    | exact conv_of (k := .u8) rfl _
    | exact conv_of (k := .u32) rfl _
    | exact conv_of (k := .u64) rfl _
    | (rename_i y; exact conv_i64 (Nat.lt_trans y.isLt (by decide)))
    | (rename_i y; exact conv_i64 y.isLt)
end
end Go.Mo


namespace Go.Mo
open Go Go.RowKit
section
variable {G : Gl} {K : Cx} {π : Loc} {m : Nat → Option Blk} {w0 w : World} {fresh : Nat} {out : Out} {fp : List Nat} {P : Program}

/-! ### Equality -/

theorem u8Arr_some {t : TypeId} {n : Nat} (h : u8Arr P t = some n) :
    ∃ e i, P.underlying t = some (.array n e) ∧ P.underlying e = some (.int .u8) ∧ P.info? e = some i ∧ i.size = 1 ∧ P.eqGuardType P.depth t = false := by
  unfold u8Arr at h
  split at h
  · rename_i n' e hu
    split at h
    · rename_i i he hi
      cases hc : (Nat.beq i.size 1 && !(P.eqGuardType P.depth t)) <;> simp only [hc, cond_true, cond_false] at h <;> cases h
      simp only [Bool.and_eq_true, Bool.not_eq_true'] at hc
      exact ⟨e, i, hu, he, hi, Nat.eq_of_beq_eq_true hc.1, hc.2⟩
    · cases h
  · cases h

theorem part_u8 {e : TypeId} (he : P.underlying e = some (.int .u8)) {l : List (BitVec 8)} {j : Nat} (hj : j < l.length) :
    (part e (l.map v8).toArray j).run P w = .ok (v8 (l.getD j 0)) w := by
  have hv : ((l.map v8).toArray)[j]? = some (v8 (l.getD j 0)) := by rw [← nth_eq]; simpa using getMapD v8 (0 : BitVec 8) hj
  have ha : (isAgg e).run P w = .ok false w := by simp [isAgg, run_underlying he]
  simp only [part, Sem.run_bind, ha, Result.andThen_ok, Bool.false_eq_true, if_false, hv, Sem.run_pure]

theorem eqItems_u8 (d : Nat) {e : TypeId} (he : P.underlying e = some (.int .u8)) {l l' : List (BitVec 8)} : ∀ (is : List Nat), (∀ j ∈ is, j < l.length ∧ j < l'.length) →
    (Op.eqItems (d + 1) e 1 (l.map v8).toArray (l'.map v8).toArray is).run P w = .ok (is.all fun j => decide (l.getD j 0 = l'.getD j 0)) w
  | [], _ => by simp [Op.eqItems]
  | j :: is, h => by
    obtain ⟨h1, h2⟩ := h j (by simp)
    have ih := eqItems_u8 d he (l := l) (l' := l') is (fun k hk => h k (by simp [hk]))
    have hq : (Op.equalIn (d + 1) e (v8 (l.getD j 0)) (v8 (l'.getD j 0))).run P w = .ok (decide (l.getD j 0 = l'.getD j 0)) w := by
      rw [show v8 (l.getD j 0) = .int .u8 ((l.getD j 0).toNat : Int) from rfl, show v8 (l'.getD j 0) = .int .u8 ((l'.getD j 0).toNat : Int) from rfl, run_equalIn_int w d e .u8 .u8 _ _ he]
      congr 1
      rw [Bool.eq_iff_iff, beq_iff_eq, decide_eq_true_iff]
      constructor
      · intro q; exact BitVec.eq_of_toNat_eq (by exact_mod_cast q)
      · intro q; rw [q]
    simp only [Op.eqItems, Nat.mul_one, Sem.run_bind, part_u8 he h1, part_u8 he h2, hq, Result.andThen_ok, List.all_cons]
    cases hb : decide (l.getD j 0 = l'.getD j 0)
    · simp
    · simp only [Bool.not_true, Bool.false_eq_true, if_false, Bool.true_and]; exact ih

theorem all_range {l l' : List (BitVec 8)} {n : Nat} (hl : l.length = n) (hl' : l'.length = n) : ((List.range n).all fun j => decide (l.getD j 0 = l'.getD j 0)) = decide (l = l') := by
  rw [Bool.eq_iff_iff, List.all_eq_true, decide_eq_true_iff]
  constructor
  · intro h
    apply List.ext_getElem (by omega)
    intro j h1 h2
    have := h j (by simp; omega)
    simp only [decide_eq_true_eq] at this
    simpa [List.getD, h1, h2] using this
  · intro h j _; subst h; simp

theorem neqB_some {op : BinOp} {b r : Bool} (h : neqB op b = some r) : (op = .eql ∧ r = b) ∨ (op = .neq ∧ r = !b) := by
  cases op <;> simp only [neqB, Option.some.injEq, reduceCtorEq] at h
  · exact .inl ⟨rfl, h.symm⟩
  · exact .inr ⟨rfl, h.symm⟩

theorem eqIn_nils {d : Nat} {t e : TypeId} (hu : P.underlying t = some (.pointer e)) (b : Option Addr) : (Op.equalIn (d + 1) t (.pointer none) (.pointer b)).run P w = .ok b.isNone w := by
  simp only [Op.equalIn, Sem.run_bind, run_underlying hu, Result.andThen_ok, Sem.run_pure]
theorem eqIn_ptr_nil {d : Nat} {t e : TypeId} (hu : P.underlying t = some (.pointer e)) (a : Addr) : (Op.equalIn (d + 1) t (.pointer (some a)) (.pointer none)).run P w = .ok false w := by
  simp only [Op.equalIn, Sem.run_bind, run_underlying hu, Result.andThen_ok, Sem.run_pure]
theorem eqIn_bool {d : Nat} {t : TypeId} (hu : P.underlying t = some .bool) (a b : Bool) : (Op.equalIn (d + 1) t (.bool a) (.bool b)).run P w = .ok (a == b) w := by
  simp only [Op.equalIn, Sem.run_bind, run_underlying hu, Result.andThen_ok, Sem.run_pure]

theorem run_eql_of {t : TypeId} {x y : Value} {ox oy : Operand} {b : Bool} {op : BinOp} {r : Bool} (hr : neqB op b = some r)
    (hq : (∃ p q, x = .pointer p ∧ y = .pointer q) ∨ ∃ p q, x = .bool p ∧ y = .bool q)
    (h : (Op.equalIn (9999 + 1) t x y).run P w = .ok b w) : (do eqGuard op t ox oy x y; binOp op t x y).run P w = .ok (.bool r) w := by
  have h' : (Op.equal t x y).run P w = .ok b w := h
  rcases hq with ⟨p, q, rfl, rfl⟩ | ⟨p, q, rfl, rfl⟩ <;> rcases neqB_some hr with ⟨rfl, rfl⟩ | ⟨rfl, rfl⟩
  · show (do Pure.pure (Value.bool (← Op.equal t _ _)) : Sem Value).run P w = _
    rw [Sem.run_bind, h']; rfl
  · show (do Pure.pure (Value.bool (!(← Op.equal t _ _))) : Sem Value).run P w = _
    rw [Sem.run_bind, h']; rfl
  · show (do Pure.pure (Value.bool (← Op.equal t _ _)) : Sem Value).run P w = _
    rw [Sem.run_bind, h']; rfl
  · show (do Pure.pure (Value.bool (!(← Op.equal t _ _))) : Sem Value).run P w = _
    rw [Sem.run_bind, h']; rfl

theorem isPtrTy_some {t : TypeId} (h : isPtrTy P t = true) : ∃ e, P.underlying t = some (.pointer e) := by
  unfold isPtrTy at h
  split at h
  · rename_i e hu; exact ⟨e, hu⟩
  · cases h

theorem isBoolTy_some {t : TypeId} (h : isBoolTy P t = true) : P.underlying t = some .bool := by
  unfold isBoolTy at h
  split at h
  · rename_i hu; exact hu
  · cases h

theorem okBool_run {x : Option Bool} (h : (okBool x).run m = some (out, fp)) : ∃ r, x = some r ∧ out = ⟨.s (.bool r), [], none, []⟩ := by
  cases x with
  | none => cases h
  | some r => cases h; exact ⟨r, rfl, rfl⟩

theorem isIfaceTy_some {t : TypeId} (h : isIfaceTy P t = true) : ∃ ms, P.underlying t = some (.interface ms) := by
  unfold isIfaceTy at h
  split at h
  · rename_i ms hu; exact ⟨ms, hu⟩
  · cases h

theorem cmpInt_some {t : TypeId} (h : cmpInt P t = true) : ∃ i k, P.info? t = some i ∧ P.underlying t = some (.int k) ∧ i.comparable = true := by
  unfold cmpInt at h
  split at h
  · rename_i i k hi hu; exact ⟨i, k, hi, hu, h⟩
  · cases h

theorem run_eql_iface {t : TypeId} {x y : Value} {ox oy : Operand} {b : Bool} {op : BinOp} {r : Bool} (hr : neqB op b = some r)
    (hq : (∃ t1 v1 t2 v2, x = .iface t1 v1 ∧ y = .iface t2 v2) ∨ (∃ t1 v1, x = .iface t1 v1 ∧ y = .nilIface) ∨ (∃ t1 v1, x = .nilIface ∧ y = .iface t1 v1) ∨ (x = .nilIface ∧ y = .nilIface ∧ oy = .const .nilIface))
    (h : (Op.equalIn (9999 + 1) t x y).run P w = .ok b w) : (do eqGuard op t ox oy x y; binOp op t x y).run P w = .ok (.bool r) w := by
  have h' : (Op.equal t x y).run P w = .ok b w := h
  have hg : (eqGuard op t ox oy x y).run P w = .ok () w := by
    unfold eqGuard
    rcases hq with ⟨t1, v1, t2, v2, rfl, rfl⟩ | ⟨t1, v1, rfl, rfl⟩ | ⟨t1, v1, rfl, rfl⟩ | ⟨rfl, rfl, rfl⟩ <;> rcases neqB_some hr with ⟨rfl, rfl⟩ | ⟨rfl, rfl⟩ <;> simp
  have hb : (binOp op t x y).run P w = .ok (.bool r) w := by
    rcases hq with ⟨t1, v1, t2, v2, rfl, rfl⟩ | ⟨t1, v1, rfl, rfl⟩ | ⟨t1, v1, rfl, rfl⟩ | ⟨rfl, rfl, rfl⟩ <;> rcases neqB_some hr with ⟨rfl, rfl⟩ | ⟨rfl, rfl⟩
    all_goals first
      | (show (do Pure.pure (Value.bool (← Op.equal t _ _)) : Sem Value).run P w = _
         rw [Sem.run_bind, h']; rfl)
      | (show (do Pure.pure (Value.bool (!(← Op.equal t _ _))) : Sem Value).run P w = _
         rw [Sem.run_bind, h']; rfl)
  rw [Sem.run_bind, hg]
  exact hb

theorem eqIn_iface {d : Nat} {t t1 t2 : TypeId} {ms} (hu : P.underlying t = some (.interface ms)) (v1 v2 : Value) (hne : t1 ≠ t2) : (Op.equalIn (d + 1) t (.iface t1 v1) (.iface t2 v2)).run P w = .ok false w := by
  simp only [Op.equalIn, Sem.run_bind, run_underlying hu, Result.andThen_ok]
  rw [if_pos hne]; rfl
theorem eqIn_iface_same {d : Nat} {t t1 : TypeId} {ms} {i : TypeInfo} {k' k : IntKind} (hu : P.underlying t = some (.interface ms)) (hi : P.info? t1 = some i) (hu1 : P.underlying t1 = some (.int k')) (hc : i.comparable = true) (a b : Int) :
    (Op.equalIn (d + 1 + 1) t (.iface t1 (.int k a)) (.iface t1 (.int k b))).run P w = .ok (decide (a = b)) w := by
  rw [Op.equalIn]
  simp only [Sem.run_bind, run_underlying hu, Result.andThen_ok]
  rw [if_neg (by simp)]
  simp only [Sem.run_bind, run_info hi, Result.andThen_ok, hc]
  simp only [Bool.not_true, Bool.false_eq_true, if_false, Op.equalIn, Sem.run_bind, run_underlying hu1, Result.andThen_ok, if_true, Sem.run_pure, Result.ok.injEq, and_true]
  by_cases e : a = b <;> simp [e]
theorem eqIn_iface_nil {d : Nat} {t t1 : TypeId} {ms} (hu : P.underlying t = some (.interface ms)) (v1 : Value) : (Op.equalIn (d + 1) t (.iface t1 v1) .nilIface).run P w = .ok false w := by
  simp only [Op.equalIn, Sem.run_bind, run_underlying hu, Result.andThen_ok, Sem.run_pure]
theorem eqIn_nil_iface {d : Nat} {t t1 : TypeId} {ms} (hu : P.underlying t = some (.interface ms)) (v1 : Value) : (Op.equalIn (d + 1) t .nilIface (.iface t1 v1)).run P w = .ok false w := by
  simp only [Op.equalIn, Sem.run_bind, run_underlying hu, Result.andThen_ok, Sem.run_pure]
theorem eqIn_nil_nil {d : Nat} {t : TypeId} {ms} (hu : P.underlying t = some (.interface ms)) : (Op.equalIn (d + 1) t .nilIface .nilIface).run P w = .ok true w := by
  simp only [Op.equalIn, Sem.run_bind, run_underlying hu, Result.andThen_ok, Sem.run_pure]

theorem s_ifaceEq {ans : Option Bool} {op : BinOp} {t t1 t2 : Nat} {k1 k2 : IntKind} {n1 n2 : Int} {ox oy : Operand} (hR : Rel G π m w0 w) (h : (aifaceEq K ans op t t1 t2 k1 k2 n1 n2).run m = some (out, fp)) (ho : ObsOk out.obs) :
    Res G K.P π m w0 fresh out (do eqGuard op t ox oy (.iface t1 (.int k1 n1)) (.iface t2 (.int k2 n2)); binOp op t (.iface t1 (.int k1 n1)) (.iface t2 (.int k2 n2))) w := by
  unfold aifaceEq at h
  cases hp : isIfaceTy K.P t <;> simp only [hp, cond_true, cond_false] at h
  · exact (fail_run h).elim
  · obtain ⟨ms, hu⟩ := isIfaceTy_some hp
    cases ht : Nat.beq t1 t2 <;> simp only [ht, cond_true, cond_false] at h
    · obtain ⟨r, hr, rfl⟩ := okBool_run h
      have hne : t1 ≠ t2 := fun e => by subst e; simp at ht
      exact Res.pure hR (run_eql_iface hr (.inl ⟨_, _, _, _, rfl, rfl⟩) (eqIn_iface hu _ _ hne)) rfl
    · have e := Nat.eq_of_beq_eq_true ht
      subst e
      cases hk : (k1 == k2 && cmpInt K.P t1) <;> simp only [hk, cond_true, cond_false] at h
      · exact (fail_run h).elim
      · simp only [Bool.and_eq_true, beq_iff_eq] at hk
        obtain ⟨rfl, hc⟩ := hk
        obtain ⟨i, k', hi, hu1, hci⟩ := cmpInt_some hc
        split at h
        · rename_i r hr
          obtain ⟨obs, rfl⟩ := answer_run h ho
          exact Res.pure hR (run_eql_iface hr (.inl ⟨_, _, _, _, rfl, rfl⟩) (eqIn_iface_same (d := 9998) hu hi hu1 hci _ _)) rfl
        · exact (fail_run h).elim

theorem s_bin {ans : Option Bool} {op : BinOp} {x y : V} {xv yv : Value} {t : TypeId} {ox oy : Operand} (hR : Rel G π m w0 w) (hx : x.cv π xv) (hy : y.cv π yv)
    (h : (abin K ans op t x y).run m = some (out, fp)) (ho : ObsOk out.obs) :
    Res G K.P π m w0 fresh out (do eqGuard op t ox oy xv yv; binOp op t xv yv) w := by
  unfold abin at h
  split at h
  · rename_i xs
    split at h
    · rename_i ys
      have hx : xs.cv π xv := hx
      have hy : ys.cv π yv := hy
      unfold abinS at h
      split at h
      · split at h
        · obtain ⟨n, _, rfl⟩ := hx
          have hy : yv = .pointer none := hy
          subst hy
          cases hp : isPtrTy K.P t <;> simp only [hp, cond_true, cond_false] at h
          · exact (fail_run h).elim
          · obtain ⟨e, hu⟩ := isPtrTy_some hp
            obtain ⟨r, hr, rfl⟩ := okBool_run h
            exact Res.pure hR (run_eql_of hr (.inl ⟨_, _, rfl, rfl⟩) (eqIn_ptr_nil hu _)) rfl
        · exact (fail_run h).elim
      · have hx : xv = .pointer none := hx
        subst hx
        split at h
        · obtain ⟨n, _, rfl⟩ := hy
          cases hp : isPtrTy K.P t <;> simp only [hp, cond_true, cond_false] at h
          · exact (fail_run h).elim
          · obtain ⟨e, hu⟩ := isPtrTy_some hp
            obtain ⟨r, hr, rfl⟩ := okBool_run h
            exact Res.pure hR (run_eql_of hr (.inl ⟨_, _, rfl, rfl⟩) (eqIn_nils hu _)) rfl
        · have hy : yv = .pointer none := hy
          subst hy
          cases hp : isPtrTy K.P t <;> simp only [hp, cond_true, cond_false] at h
          · exact (fail_run h).elim
          · obtain ⟨e, hu⟩ := isPtrTy_some hp
            obtain ⟨r, hr, rfl⟩ := okBool_run h
            exact Res.pure hR (run_eql_of hr (.inl ⟨_, _, rfl, rfl⟩) (eqIn_nils hu _)) rfl
        · exact (fail_run h).elim
      · have hx : xv = .bool _ := hx
        subst hx
        split at h
        · have hy : yv = .bool _ := hy
          subst hy
          cases hp : isBoolTy K.P t <;> simp only [hp, cond_true, cond_false] at h
          · exact (fail_run h).elim
          · have hu := isBoolTy_some hp
            obtain ⟨r, hr, rfl⟩ := okBool_run h
            exact Res.pure hR (run_eql_of hr (.inr ⟨_, _, rfl, rfl⟩) (eqIn_bool hu _ _)) rfl
        · exact (fail_run h).elim
      · have hx : xv = .iface _ (.int _ _) := hx
        subst hx
        split at h
        · have hy : yv = .iface _ (.int _ _) := hy
          subst hy
          exact s_ifaceEq hR h ho
        · have hy : yv = .nilIface := hy
          subst hy
          cases hp : isIfaceTy K.P t <;> simp only [hp, cond_true, cond_false] at h
          · exact (fail_run h).elim
          · obtain ⟨ms, hu⟩ := isIfaceTy_some hp
            obtain ⟨r, hr, rfl⟩ := okBool_run h
            exact Res.pure hR (run_eql_iface hr (.inr (.inl ⟨_, _, rfl, rfl⟩)) (eqIn_iface_nil hu _)) rfl
        · exact (fail_run h).elim
      · have hx : xv = .nilIface := hx
        subst hx
        split at h
        · have hy : yv = .iface _ (.int _ _) := hy
          subst hy
          cases hp : isIfaceTy K.P t <;> simp only [hp, cond_true, cond_false] at h
          · exact (fail_run h).elim
          · obtain ⟨ms, hu⟩ := isIfaceTy_some hp
            obtain ⟨r, hr, rfl⟩ := okBool_run h
            exact Res.pure hR (run_eql_iface hr (.inr (.inr (.inl ⟨_, _, rfl, rfl⟩))) (eqIn_nil_iface hu _)) rfl
        · exact (fail_run h).elim
      · exact s_binInts hR hx hy h ho
    · exact (fail_run h).elim
  · split at h
    · unfold abinA at h
      split at h
      · rename_i n l n' l'
        split at h
        · rename_i k hk
          cases hc : (Nat.beq n k && Nat.beq n' k) <;> simp only [hc, cond_true, cond_false] at h
          · exact (fail_run h).elim
          · simp only [Bool.and_eq_true] at hc
            have hn := Nat.eq_of_beq_eq_true hc.1
            have hn' := Nat.eq_of_beq_eq_true hc.2
            subst hn; subst hn'
            obtain ⟨e, i, hu, he, hi, hsz, hg⟩ := u8Arr_some hk
            obtain ⟨vs, rfl, a, b, rfl, ⟨hl, rfl⟩, hb⟩ := hx
            obtain ⟨us, rfl, a', b', rfl, ⟨hl', rfl⟩, hb'⟩ := hy
            have hb0 : b = [] := hb
            have hb0' : b' = [] := hb'
            subst hb0; subst hb0'
            simp only [List.append_nil]
            have hrun : (Op.equalIn 10000 t (.agg (l.map v8).toArray) (.agg (l'.map v8).toArray)).run K.P w = .ok (decide (l = l')) w := by
              rw [show (10000 : Nat) = 9999 + 1 from rfl, run_equalIn_array w 9999 _ _ hu hi]
              have : K.P.cellsOf e = 1 := by simp [Program.cellsOf, hi, hsz]
              rw [this, show (9999 : Nat) = 9998 + 1 from rfl, eqItems_u8 9998 he _ (fun j hj => by simp at hj; omega), all_range hl hl']
            split at h
            · rename_i r hr
              obtain ⟨obs, rfl⟩ := answer_run h ho
              have hgd : ∀ op, (eqGuard op t ox oy (.agg (l.map v8).toArray) (.agg (l'.map v8).toArray)).run K.P w = .ok () w := fun op => run_eqGuard_agg w op t ox oy _ _ hg
              rcases neqB_some hr with ⟨rfl, rfl⟩ | ⟨rfl, rfl⟩
              · exact Res.pure hR (by rw [Sem.run_bind, hgd, Result.andThen_ok, run_eql_struct, hrun]; rfl) rfl
              · exact Res.pure hR (by rw [Sem.run_bind, hgd, Result.andThen_ok, run_neq_struct, hrun]; rfl) rfl
            · exact (fail_run h).elim
        · exact (fail_run h).elim
      · exact (fail_run h).elim
    · exact (fail_run h).elim
  · exact (fail_run h).elim

/-! ### Small ones -/

theorem s_un {op : UnOp} {x : V} {xv : Value} (hR : Rel G π m w0 w) (hx : x.cv π xv) (h : (aun op x).run m = some (out, fp)) :
    Res G K.P π m w0 fresh out (Op.unary op xv) w := by
  unfold aun at h
  split at h
  · have := okS_run h; subst this
    have hx : xv = .bool _ := hx
    subst hx
    exact Res.pure hR (by simp only [Op.unary, Sem.run_pure]) rfl
  · have := okS_run h; subst this
    have hx : xv = .int _ _ := hx
    subst hx
    exact Res.pure hR (by simp only [Op.unary, Op.intArith, Sem.run_pure, ← wrapF_eq]) rfl
  · have := okS_run h; subst this
    have hx : xv = .int _ _ := hx
    subst hx
    exact Res.pure hR (by simp only [Op.unary, Op.intArith, Sem.run_pure]) rfl
  · exact (fail_run h).elim

theorem s_conv {s d : TypeId} {x : V} {xv : Value} (hR : Rel G π m w0 w) (hx : x.cv π xv) (h : (aconv K s d x).run m = some (out, fp)) :
    Res G K.P π m w0 fresh out (convert s d xv) w := by
  unfold aconv at h
  split at h
  · rename_i ds k x' hs hd
    obtain ⟨r, hr, rfl⟩ := okSc_run h
    obtain ⟨kx, n, rfl, hc⟩ := convRes_cv hr hx
    refine Res.pure hR ?_ hc
    simp only [convert, Sem.run_bind, run_underlying hs, run_underlying hd, Result.andThen_ok]
    cases ds <;> rfl
  · exact (fail_run h).elim

theorem run_index_slice {t e : TypeId} {i : TypeInfo} {n o len cap j : Nat} {k : IntKind} (hu : P.underlying t = some (.slice e)) (hi : P.info? e = some i) (hj : j < len) :
    (Instr.indexAt t (.slice (some ⟨n, o, none⟩) len cap) (.int k (j : Int))).run P w = .ok (.pointer (some ⟨n, o + j * i.size, none⟩)) w := by
  simp only [Instr.indexAt, asIntOf, Sem.run_bind, Sem.run_pure, Result.andThen_ok, run_underlying hu]
  rw [if_pos ⟨by omega, by omega⟩]
  simp only [Sem.run_bind, run_size hi, Result.andThen_ok, Sem.run_pure, addr_add, Int.toNat_natCast]

theorem s_indexAddr {t : TypeId} {x ix : V} {xv iv : Value} (hR : Rel G π m w0 w) (hx : x.cv π xv) (hi : ix.cv π iv) (h : (aindexAddr K t x ix).run m = some (out, fp)) :
    Res G K.P π m w0 fresh out (Instr.indexAt t xv iv) w := by
  unfold aindexAddr at h
  split at h
  · rename_i b off ix
    obtain ⟨n, hn, rfl⟩ := hx
    split at h
    · rename_i len e sz hty
      obtain ⟨hu, i, hi', rfl⟩ := tyArr_some hty
      have go : ∀ (j : Nat) (k : IntKind), iv = .int k (j : Int) → j < len →
          (Instr.indexAt t (.pointer (some ⟨n.n, n.base + off, none⟩)) iv).run K.P w = .ok (.pointer (some ⟨n.n, n.base + (off + j * i.size), none⟩)) w := by
        intro j k e hj
        subst e
        simp only [Instr.indexAt, asIntOf, Sem.run_bind, Sem.run_pure, Result.andThen_ok, run_underlying hu, Instr.sureAddr]
        rw [if_pos ⟨by omega, by omega⟩]
        simp only [Sem.run_bind, run_size hi', Result.andThen_ok, Sem.run_pure, addr_add, Int.toNat_natCast, Nat.add_assoc]
      split at h
      · rename_i y
        have hiv : iv = .int .u8 (y.toNat : Int) := hi
        cases hc : (Nat.ble 256 len && Nat.beq i.size 1) <;> simp only [hc, cond_true, cond_false] at h
        · cases hb : Nat.blt y.toNat len <;> simp only [hb, cond_true, cond_false] at h
          · exact (fail_run h).elim
          · have := okS_run h; subst this
            have hlt : y.toNat < len := Nat.le_of_ble_eq_true hb
            exact Res.pure hR (go y.toNat .u8 hiv hlt) ⟨n, hn, rfl⟩
        · have := okS_run h; subst this
          simp only [Bool.and_eq_true] at hc
          have h1 := Nat.le_of_ble_eq_true hc.1
          have h2 := Nat.eq_of_beq_eq_true hc.2
          have hy := y.isLt
          have := go y.toNat .u8 hiv (by omega)
          rw [h2, Nat.mul_one] at this
          exact Res.pure hR this ⟨n, hn, rfl⟩
      · split at h
        · rename_i j hj
          obtain ⟨k, hk⟩ := scNat_cv hj hi
          cases hb : Nat.blt j len <;> simp only [hb, cond_true, cond_false] at h
          · exact (fail_run h).elim
          · have := okS_run h; subst this
            exact Res.pure hR (go j k hk (Nat.le_of_ble_eq_true hb)) ⟨n, hn, rfl⟩
        · exact (fail_run h).elim
    · exact (fail_run h).elim
  · rename_i b off len cap ix
    obtain ⟨n, hn, rfl⟩ := hx
    split at h
    · rename_i e sz hty
      obtain ⟨hu, i, hi', rfl⟩ := tySlice_some hty
      split at h
      · rename_i j hj
        obtain ⟨k, hk⟩ := scNat_cv hj hi
        cases hb : Nat.blt j len <;> simp only [hb, cond_true, cond_false] at h
        · exact (fail_run h).elim
        · have := okS_run h; subst this
          have hlt : j < len := Nat.le_of_ble_eq_true hb
          subst hk
          exact Res.pure hR (run_index_slice hu hi' hlt) ⟨n, hn, by rw [Nat.add_assoc]⟩
      · exact (fail_run h).elim
    · exact (fail_run h).elim
  · rename_i b off len z ix
    obtain ⟨n, c, hn, _, _, rfl⟩ := hx
    split at h
    · rename_i e sz hty
      obtain ⟨hu, i, hi', rfl⟩ := tySlice_some hty
      split at h
      · rename_i j hj
        obtain ⟨k, hk⟩ := scNat_cv hj hi
        cases hb : Nat.blt j len <;> simp only [hb, cond_true, cond_false] at h
        · exact (fail_run h).elim
        · have := okS_run h; subst this
          have hlt : j < len := Nat.le_of_ble_eq_true hb
          subst hk
          exact Res.pure hR (run_index_slice hu hi' hlt) ⟨n, hn, by rw [Nat.add_assoc]⟩
      · exact (fail_run h).elim
    · exact (fail_run h).elim
  · exact (fail_run h).elim

theorem s_fieldAddr {t : TypeId} {x : V} {xv : Value} {f : Nat} (hR : Rel G π m w0 w) (hx : x.cv π xv) (h : (afieldAddr K t x f).run m = some (out, fp)) :
    Res G K.P π m w0 fresh out (Instr.fieldAt t xv f) w := by
  unfold afieldAddr at h
  split at h
  · rename_i b off fs hu
    obtain ⟨n, hn, rfl⟩ := hx
    split at h
    · rename_i fl hf
      split at h
      · rename_i sz hsz
        obtain ⟨i, hi, rfl⟩ := tySize_some hsz
        cases hb : Nat.beq i.size 0 <;> simp only [hb, cond_true, cond_false] at h
        · have := okS_run h; subst this
          have h0 : ¬ i.size = 0 := fun e => by rw [e] at hb; cases hb
          refine Res.pure hR (rv := .pointer (some ⟨n.n, n.base + (off + fl.offset), none⟩)) ?_ ⟨n, hn, rfl⟩
          simp only [Instr.fieldAt, Sem.run_bind, run_underlying hu, Result.andThen_ok, hf, Instr.sureAddr, Sem.run_pure, fieldPlace, run_size hi, h0, if_false, addr_add, Nat.add_assoc]
        · exact (fail_run h).elim
      · exact (fail_run h).elim
    · exact (fail_run h).elim
  · exact (fail_run h).elim

theorem extract_toArray (vs : List Value) (o k : Nat) : vs.toArray.extract o (o + k) = ((vs.drop o).take k).toArray := by
  apply Array.ext'
  simp [List.extract, Nat.add_sub_cancel_left]

theorem s_part {t : TypeId} {gs : List Seg} {vs : List Value} {off : Nat} (hR : Rel G π m w0 w) (hc : segsCv π gs vs) (h : (apart K t gs off).run m = some (out, fp)) :
    Res G K.P π m w0 fresh out (part t vs.toArray off) w := by
  unfold apart at h
  split at h
  · rename_i sz hty
    obtain ⟨ha, i, hi, rfl⟩ := tyAgg_true hty
    obtain ⟨rs, hg, rfl⟩ := okSegs_run h
    obtain ⟨_, hcv⟩ := getSegs_cv hc hg
    refine Res.pure hR (rv := .agg ((vs.drop off).take i.size).toArray) ?_ ⟨_, rfl, hcv⟩
    simp only [part, Sem.run_bind, ha, Result.andThen_ok, if_true, run_size hi, Sem.run_pure, extract_toArray]
  · rename_i sz hty
    obtain ⟨ha, i, hi, rfl⟩ := tyAgg_false hty
    obtain ⟨y, hg, rfl⟩ := okSc_run h
    obtain ⟨v, hv, hcv⟩ := getSc_cv hc hg
    refine Res.pure hR (rv := v) ?_ hcv
    have : vs.toArray[off]? = some v := by simpa using hv
    simp only [part, Sem.run_bind, ha, Result.andThen_ok, Bool.false_eq_true, if_false, this, Sem.run_pure]
  · exact (fail_run h).elim

theorem s_index {t : TypeId} {x ix : V} {xv iv : Value} (hR : Rel G π m w0 w) (hx : x.cv π xv) (hi : ix.cv π iv) (h : (aindex K t x ix).run m = some (out, fp)) :
    Res G K.P π m w0 fresh out (Instr.index t xv iv) w := by
  unfold aindex at h
  split at h
  · rename_i gs ix
    obtain ⟨vs, rfl, hc⟩ := hx
    split at h
    · rename_i len e sz hty
      obtain ⟨hu, i, hi', rfl⟩ := tyArr_some hty
      split at h
      · rename_i y
        have hiv : iv = .int .u8 (y.toNat : Int) := hi
        cases hc' : (Nat.ble 256 len && Nat.beq i.size 1) <;> simp only [hc', cond_true, cond_false] at h
        · exact (fail_run h).elim
        · simp only [Bool.and_eq_true] at hc'
          have h1 := Nat.le_of_ble_eq_true hc'.1
          have h2 := Nat.eq_of_beq_eq_true hc'.2
          have hy := y.isLt
          split at h
          · rename_i sz' hag
            obtain ⟨ha, _, _, _⟩ := tyAgg_false hag
            obtain ⟨r, hg, rfl⟩ := okSc_run h
            obtain ⟨v, hv, hcv⟩ := getPix_cv hc hg
            refine Res.pure hR (rv := v) ?_ hcv
            subst hiv
            have hv' : vs.toArray[y.toNat]? = some v := by simpa using hv
            simp only [Instr.index, asIntOf, Sem.run_bind, Sem.run_pure, Result.andThen_ok, run_underlying hu]
            rw [if_pos ⟨by omega, by omega⟩]
            simp only [Sem.run_bind, run_size hi', Result.andThen_ok, h2, Nat.mul_one, Int.toNat_natCast, part, ha, Bool.false_eq_true, if_false, hv', Sem.run_pure]
          · exact (fail_run h).elim
      · split at h
        · rename_i j hj
          obtain ⟨k, rfl⟩ := scNat_cv hj hi
          cases hb : Nat.blt j len <;> simp only [hb, cond_true, cond_false] at h
          · exact (fail_run h).elim
          · have hlt : j < len := Nat.le_of_ble_eq_true hb
            obtain ⟨rv, w', π', hrun, h1, h2, h3⟩ := s_part (G := G) (w0 := w0) (w := w) (fresh := fresh) hR hc h
            refine ⟨rv, w', π', ?_, h1, h2, h3⟩
            simp only [Instr.index, asIntOf, Sem.run_bind, Sem.run_pure, Result.andThen_ok, run_underlying hu]
            rw [if_pos ⟨by omega, by omega⟩]
            simp only [Sem.run_bind, run_size hi', Result.andThen_ok, Int.toNat_natCast]
            exact hrun
        · exact (fail_run h).elim
    · exact (fail_run h).elim
  · exact (fail_run h).elim

theorem s_field {t : TypeId} {x : V} {xv : Value} {f : Nat} (hR : Rel G π m w0 w) (hx : x.cv π xv) (h : (afield K t x f).run m = some (out, fp)) :
    Res G K.P π m w0 fresh out (Instr.field t xv f) w := by
  unfold afield at h
  split at h
  · rename_i gs fs hu
    obtain ⟨vs, rfl, hc⟩ := hx
    split at h
    · rename_i fl hf
      obtain ⟨rv, w', π', hrun, h1, h2, h3⟩ := s_part (G := G) (w0 := w0) (w := w) (fresh := fresh) hR hc h
      refine ⟨rv, w', π', ?_, h1, h2, h3⟩
      simp only [Instr.field, Sem.run_bind, run_underlying hu, Result.andThen_ok, hf, asAgg, Sem.run_pure]
      exact hrun
    · exact (fail_run h).elim
  · exact (fail_run h).elim

theorem tupCv_get : ∀ {l : List (Bool × List Seg)} {vs : List Value} {i : Nat} {c : Bool × List Seg}, tupCv π l vs → l[i]? = some c → ∃ v, vs[i]? = some v ∧ compCv π c v
  | [], _, _, _, _, h => by simp at h
  | _ :: _, _, 0, _, ⟨v, vr, e, hc, _⟩, h => by subst e; simp at h; subst h; exact ⟨v, rfl, hc⟩
  | _ :: _, _, i + 1, _, ⟨v, vr, e, _, hr⟩, h => by subst e; simp at h; simpa using tupCv_get hr h

theorem s_extract {x : V} {xv : Value} {i : Nat} (hR : Rel G π m w0 w) (hx : x.cv π xv) (h : (aextract x i).run m = some (out, fp)) :
    Res G K.P π m w0 fresh out (Instr.extract xv i) w := by
  unfold aextract at h
  split at h
  · obtain ⟨vs, rfl, ht⟩ := hx
    split at h
    · rename_i x' hl
      have := okS_run h; subst this
      obtain ⟨v, hv, hc⟩ := tupCv_get ht hl
      have hv' : vs.toArray[i]? = some v := by simpa using hv
      exact Res.pure hR (rv := v) (by simp only [Instr.extract, hv', Sem.run_pure]) hc
    · rename_i gs hl
      have := okV_run h; subst this
      obtain ⟨v, hv, hc⟩ := tupCv_get ht hl
      have hv' : vs.toArray[i]? = some v := by simpa using hv
      exact Res.pure hR (rv := v) (by simp only [Instr.extract, hv', Sem.run_pure]) hc
    · exact (fail_run h).elim
  · exact (fail_run h).elim

theorem capsOf_cv {ev : Operand → V} {ρ : Operand → Value} (hev : ∀ x, (ev x).cv π (ρ x)) : ∀ {l : List Operand} {cs : List (Nat × Nat)}, capsOf ev l = some cs → capsCv π cs (l.map ρ)
  | [], cs, h => by cases h; rfl
  | x :: r, cs, h => by
    unfold capsOf at h
    split at h
    · rename_i b o l h1 h2
      cases h
      have hx := hev x
      rw [h1] at hx
      obtain ⟨n, hn, hv⟩ := hx
      exact ⟨n, r.map ρ, hn, by rw [List.map_cons, hv], capsOf_cv hev h2⟩
    · cases h

theorem s_makeFunc {ev : Operand → V} {ρ : Operand → Value} {fn : Fn} {first captured : Array Operand} (hR : Rel G π m w0 w) (hev : ∀ x, (ev x).cv π (ρ x))
    (h : (amakeFunc ev fn first captured).run m = some (out, fp)) : Res G K.P π m w0 fresh out (Instr.makeFunc fn (first.map ρ) (captured.map ρ)) w := by
  unfold amakeFunc at h
  split at h
  · rename_i f l h1 h2
    have := okS_run h; subst this
    have e : first = #[] := by simpa using h1
    subst e
    refine Res.pure hR (rv := .func (.func f) #[] (captured.map ρ)) (by simp [Instr.makeFunc]) ⟨captured.toList.map ρ, ?_, capsOf_cv hev h2⟩
    congr 1
    apply Array.ext'; simp
  · exact (fail_run h).elim

theorem s_makeIface {t : TypeId} {x : V} {xv : Value} (hR : Rel G π m w0 w) (hx : x.cv π xv) (h : (amakeIface K t x).run m = some (out, fp)) :
    Res G K.P π m w0 fresh out (Instr.makeInterface t xv) w := by
  unfold amakeIface at h
  split at h
  · split at h
    · rename_i k' k n hu hs
      have := okS_run h; subst this
      have := scInt_cv hs hx
      subst this
      exact Res.pure hR (rv := .iface t (.int k n)) (by simp [Instr.makeInterface, run_underlying hu]) rfl
    · exact (fail_run h).elim
  · exact (fail_run h).elim

theorem run_toArr {t e : TypeId} {n len cap : Nat} {a : Addr} (hu : P.underlying t = some (.array n e)) (h : n ≤ len) : (Instr.arrayAt t (.slice (some a) len cap)).run P w = .ok (.pointer (some a)) w := by
  simp only [Instr.arrayAt, Sem.run_bind, run_underlying hu, Result.andThen_ok]
  rw [if_neg (by omega)]; rfl

theorem s_toArr {t : TypeId} {x : V} {xv : Value} (hR : Rel G π m w0 w) (hx : x.cv π xv) (h : (atoArr K t x).run m = some (out, fp)) :
    Res G K.P π m w0 fresh out (Instr.arrayAt t xv) w := by
  unfold atoArr at h
  split at h
  · rename_i b off len cap n e sz hty
    obtain ⟨nn, hn, rfl⟩ := hx
    obtain ⟨hu, _⟩ := tyArr_some hty
    cases hb : Nat.ble n len <;> simp only [hb, cond_true, cond_false] at h
    · exact (fail_run h).elim
    · have := okS_run h; subst this
      exact Res.pure hR (run_toArr hu (Nat.le_of_ble_eq_true hb)) ⟨nn, hn, rfl⟩
  · rename_i b off len cap n e sz hty
    obtain ⟨nn, c, hn, _, _, rfl⟩ := hx
    obtain ⟨hu, _⟩ := tyArr_some hty
    cases hb : Nat.ble n len <;> simp only [hb, cond_true, cond_false] at h
    · exact (fail_run h).elim
    · have := okS_run h; subst this
      exact Res.pure hR (run_toArr hu (Nat.le_of_ble_eq_true hb)) ⟨nn, hn, rfl⟩
  · exact (fail_run h).elim
end
end Go.Mo


namespace Go.Mo
open Go Go.RowKit
section
variable {G : Gl} {K : Cx} {π : Loc} {m : Nat → Option Blk} {w0 w : World} {fresh : Nat} {out : Out} {fp : List Nat} {P : Program}

/-! ### Slices -/

theorem bnd_cv {ev : Operand → V} {ρ : Operand → Value} (hev : ∀ x, (ev x).cv π (ρ x)) {x : Option Operand} {d l : Nat} (h : bnd ev x d = some l) :
    (x = none ∧ l = d) ∨ ∃ o k, x = some o ∧ ρ o = .int k (l : Int) := by
  unfold bnd at h
  split at h
  · cases h; exact .inl ⟨rfl, rfl⟩
  · rename_i o
    split at h
    · rename_i y hy
      have := hev o
      rw [hy] at this
      obtain ⟨k, hk⟩ := scNat_cv h this
      exact .inr ⟨o, k, rfl, hk⟩
    · cases h

theorem run_bounds {ev : Operand → V} {ρ : Operand → Value} (hev : ∀ x, (ev x).cv π (ρ x)) {lo hi : Option Operand} {len cap l h : Nat} (isS : Bool)
    (hl : bnd ev lo 0 = some l) (hh : bnd ev hi len = some h) (h1 : l ≤ h) (h2 : h ≤ cap) :
    (Instr.sliceBounds isS len cap (lo.map ρ) (hi.map ρ) none).run P w = .ok (l, h, cap) w := by
  have run1 : ∀ (k : IntKind) (i y : Nat) (c : BoundsCode), i ≤ y → (Instr.sliceBound (.int k (i : Int)) y c).run P w = .ok i w := fun k i y c hle => by
    rw [run_sliceBound w k i y c (by omega) (by omega)]; rfl
  rcases bnd_cv hev hl with ⟨rfl, rfl⟩ | ⟨ol, kl, rfl, el⟩ <;> rcases bnd_cv hev hh with ⟨rfl, rfl⟩ | ⟨oh, kh, rfl, eh⟩
  · simp [Instr.sliceBounds]
  · simp [Instr.sliceBounds, eh, run1 _ _ _ _ h2]
  · simp [Instr.sliceBounds, el, run1 _ _ _ _ h1]
  · simp [Instr.sliceBounds, el, eh, run1 _ _ _ _ h1, run1 _ _ _ _ h2]

theorem run_slice_slice {ev : Operand → V} {ρ : Operand → Value} (hev : ∀ x, (ev x).cv π (ρ x)) {t e : TypeId} {i : TypeInfo} {lo hi : Option Operand} {n o len cap l h : Nat}
    (hu : P.underlying t = some (.slice e)) (hi' : P.info? e = some i) (hl : bnd ev lo 0 = some l) (hh : bnd ev hi len = some h) (h1 : l ≤ h) (h2 : h ≤ cap) :
    (Instr.sliceAt t (.slice (some ⟨n, o, none⟩) len cap) (lo.map ρ) (hi.map ρ) none).run P w =
      .ok (.slice (some (if cap = l then ⟨n, o, none⟩ else ⟨n, o + l * i.size, none⟩)) (h - l) (cap - l)) w := by
  simp only [Instr.sliceAt, Sem.run_bind, run_underlying hu, Result.andThen_ok, Instr.slice, Sem.run_pure, run_bounds hev true hl hh h1 h2, run_size hi']
  by_cases hq : cap = l
  · simp [hq]
  · simp [hq, addr_add]

theorem s_slice0 {ev : Operand → V} {ρ : Operand → Value} {t : TypeId} {xv : Value} {lo hi : Option Operand} (hR : Rel G π m w0 w) (hev : ∀ x, (ev x).cv π (ρ x))
    (hx : ∃ a c, xv = .slice a 0 c) (h : (aslice0 K ev t lo hi).run m = some (out, fp)) : Res G K.P π m w0 fresh out (Instr.sliceAt t xv (lo.map ρ) (hi.map ρ) none) w := by
  obtain ⟨a, c, rfl⟩ := hx
  unfold aslice0 at h
  split at h
  · rename_i e l hh hty hl hh'
    obtain ⟨hu, i, hi', _⟩ := tySlice_some (e := e.1) (sz := e.2) hty
    cases hc : (Nat.beq l 0 && Nat.beq hh 0) <;> simp only [hc, cond_true, cond_false] at h
    · exact (fail_run h).elim
    · have := okS_run h; subst this
      simp only [Bool.and_eq_true] at hc
      have h1 := Nat.eq_of_beq_eq_true hc.1
      have h2 := Nat.eq_of_beq_eq_true hc.2
      subst h1; subst h2
      refine Res.pure hR (rv := .slice (if c = 0 then a else a.map (·.add (0 * i.size))) 0 (c - 0)) ?_ ⟨_, _, rfl⟩
      simp only [Instr.sliceAt, Sem.run_bind, run_underlying hu, Result.andThen_ok, Instr.slice, Sem.run_pure, run_bounds hev true hl hh' (Nat.le_refl _) (Nat.zero_le c), run_size hi']
  · exact (fail_run h).elim

theorem s_slice {ev : Operand → V} {ρ : Operand → Value} {t : TypeId} {x : V} {xv : Value} {lo hi mx : Option Operand} (hR : Rel G π m w0 w) (hev : ∀ x, (ev x).cv π (ρ x))
    (hx : x.cv π xv) (h : (aslice K ev t x lo hi mx).run m = some (out, fp)) : Res G K.P π m w0 fresh out (Instr.sliceAt t xv (lo.map ρ) (hi.map ρ) (mx.map ρ)) w := by
  unfold aslice at h
  split at h
  · rename_i b off
    obtain ⟨nn, hn, rfl⟩ := hx
    split at h
    · rename_i n e sz hty
      obtain ⟨hu, i, hi', rfl⟩ := tyArr_some hty
      split at h
      · rename_i l hh hl hh'
        cases hc : (Nat.ble l hh && Nat.ble hh n) <;> simp only [hc, cond_true, cond_false] at h
        · exact (fail_run h).elim
        · have := okS_run h; subst this
          simp only [Bool.and_eq_true] at hc
          have h1 := Nat.le_of_ble_eq_true hc.1
          have h2 := Nat.le_of_ble_eq_true hc.2
          refine Res.pure hR (rv := .slice (some ⟨nn.n, nn.base + (bif Nat.beq n l then off else off + l * i.size), none⟩) (hh - l) (n - l)) ?_ ⟨nn, hn, rfl⟩
          simp only [Instr.sliceAt, Sem.run_bind, run_underlying hu, Result.andThen_ok, Instr.sureAddr, Sem.run_pure, Option.map_none, run_bounds hev false hl hh' h1 h2, run_size hi']
          cases hq : Nat.beq n l
          · have : ¬ n = l := fun e => by subst e; simp at hq
            simp [this, addr_add, Nat.add_assoc]
          · have := Nat.eq_of_beq_eq_true hq
            simp [this]
      · exact (fail_run h).elim
    · exact (fail_run h).elim
  · rename_i b off len cap
    obtain ⟨nn, hn, rfl⟩ := hx
    split at h
    · rename_i e sz hty
      obtain ⟨hu, i, hi', rfl⟩ := tySlice_some hty
      split at h
      · rename_i l hh hl hh'
        cases hc : (Nat.ble l hh && Nat.ble hh cap) <;> simp only [hc, cond_true, cond_false] at h
        · exact (fail_run h).elim
        · have := okS_run h; subst this
          simp only [Bool.and_eq_true] at hc
          have h1 := Nat.le_of_ble_eq_true hc.1
          have h2 := Nat.le_of_ble_eq_true hc.2
          refine Res.pure hR (run_slice_slice hev hu hi' hl hh' h1 h2) ⟨nn, hn, ?_⟩
          cases hq : Nat.beq cap l
          · have : ¬ cap = l := fun e => by subst e; simp at hq
            simp [this, Nat.add_assoc]
          · have := Nat.eq_of_beq_eq_true hq
            simp [this]
      · exact (fail_run h).elim
    · exact (fail_run h).elim
  · rename_i b off len z
    obtain ⟨nn, c, hn, hcz, hlc, rfl⟩ := hx
    split at h
    · rename_i e sz hty
      obtain ⟨hu, i, hi', rfl⟩ := tySlice_some hty
      split at h
      · rename_i l hh hl hh'
        cases hc : (Nat.ble l hh && Nat.ble hh len && Nat.beq z i.size) <;> simp only [hc, cond_true, cond_false] at h
        · exact (fail_run h).elim
        · have := okS_run h; subst this
          simp only [Bool.and_eq_true] at hc
          have h1 := Nat.le_of_ble_eq_true hc.1.1
          have h2 := Nat.le_of_ble_eq_true hc.1.2
          have h3 := Nat.eq_of_beq_eq_true hc.2
          subst h3
          refine Res.pure hR (run_slice_slice hev hu hi' hl hh' h1 (by omega)) ?_
          cases hq : Nat.blt l len
          · have hle : ¬ l < len := fun q => by rw [show Nat.blt l len = true from Nat.ble_eq_true_of_le q] at hq; cases hq
            have : hh - l = 0 := by omega
            simp only [cond_false, this]
            exact ⟨_, _, rfl⟩
          · have hlt : l < len := Nat.le_of_ble_eq_true hq
            have hne : ¬ c = l := by omega
            simp only [cond_true, if_neg hne]
            refine ⟨nn, c - l, hn, ?_, by omega, by rw [Nat.add_assoc]⟩
            by_cases hz : i.size = 0
            · have hs : szOf i.size = 1 := by rw [hz]; rfl
              rw [hs] at hcz ⊢
              rw [hz]
              omega
            · rw [szOf_ne hz] at hcz ⊢
              have e : c * i.size = l * i.size + (c - l) * i.size := by rw [← Nat.add_mul]; congr 1; omega
              omega
      · exact (fail_run h).elim
    · exact (fail_run h).elim
  · exact s_slice0 hR hev hx h
  · have hx : xv = .slice none 0 0 := hx
    exact s_slice0 hR hev ⟨none, 0, hx⟩ h
  · exact (fail_run h).elim

/-! ### Literals -/

theorem foldl_splice (off : Nat) : ∀ (vs : List Value) (k : Nat) (cells : Array Value), off + k + vs.length ≤ cells.size →
    (vs.zipIdx k).foldl (fun cs (x : Value × Nat) => cs.setIfInBounds (off + x.2) x.1) cells = (splice cells.toList (off + k) vs).toArray
  | [], k, cells, h => by simp [splice]
  | v :: vs, k, cells, h => by
    simp only [List.length_cons] at h
    rw [List.zipIdx_cons, List.foldl_cons, foldl_splice off vs (k + 1) _ (by simp; omega)]
    simp only [Array.toList_setIfInBounds]
    rw [← splice_one v (by simp; omega), show off + (k + 1) = off + k + [v].length by simp; omega, splice_splice (by simp; omega)]
    rfl

theorem afill_cv {ev : Operand → V} {ρ : Operand → Value} (hev : ∀ x, (ev x).cv π (ρ x)) {place : Nat → Option (Nat × Nat)} :
    ∀ {parts : List (Nat × Operand)} {gs rs : List Seg} {cells : Array Value}, segsCv π gs cells.toList → afill place ev gs parts = some rs →
      ∃ cells', Instr.fill place cells (parts.map fun (i, x) => (i, ρ x)) = some cells' ∧ segsCv π rs cells'.toList
  | [], gs, rs, cells, hc, h => by cases h; exact ⟨cells, rfl, hc⟩
  | (i, x) :: r, gs, rs, cells, hc, h => by
    unfold afill at h
    split at h
    · rename_i off size p ps hp hx
      cases hq : Nat.beq (segsSize (p :: ps)) size <;> simp only [hq, cond_true, cond_false] at h
      · cases h
      · have hsz := Nat.eq_of_beq_eq_true hq
        split at h
        · rename_i gs' hgs'
          obtain ⟨vs, e1, e2, _⟩ := segsOfV_cv (hev x) hx
          obtain ⟨h1, h2⟩ := putSegs_cv hc e2 hgs'
          have hlen := segsCv_length e2
          have hfit : off + vs.length ≤ cells.size := by
            rcases h1 with h1 | h1
            · cases h1
            · simpa using h1
          have hf := foldl_splice off vs 0 cells (by omega)
          simp only [Nat.add_zero] at hf
          obtain ⟨cells', h3, h4⟩ := afill_cv hev (place := place) (parts := r) (cells := (splice cells.toList off vs).toArray) (by simpa using h2) h
          refine ⟨cells', ?_, h4⟩
          simp only [List.map_cons, Instr.fill, hp, e1, List.size_toArray]
          rw [if_neg (by simp; omega)]
          have hz : vs.toArray.zipIdx = (vs.zipIdx 0).toArray := by simp
          rw [hz, List.foldl_toArray', hf]
          · exact h3
          · simp
        · cases h
    · cases h

theorem tySizes_mapM : ∀ {fs : List Field} {ns : List Nat}, tySizes P fs = some ns →
    fs.mapM (fun f => (P.info? f.type).map fun i => (f.offset, i.size)) = some ((fs.zip ns).map fun (f, n) => (f.offset, n)) ∧ ns.length = fs.length
  | [], ns, h => by cases h; exact ⟨rfl, rfl⟩
  | f :: r, ns, h => by
    unfold tySizes at h
    split at h
    · rename_i n ns' h1 h2
      cases h
      obtain ⟨i, hi, rfl⟩ := tySize_some h1
      obtain ⟨h3, h4⟩ := tySizes_mapM h2
      exact ⟨by simp [List.mapM_cons, hi, h3], by simp [h4]⟩
    · cases h

theorem s_build {ev : Operand → V} {ρ : Operand → Value} {t : TypeId} {parts : Array (Nat × Operand)} (hR : Rel G π m w0 w) (hev : ∀ x, (ev x).cv π (ρ x))
    (h : (abuild K ev t parts.toList).run m = some (out, fp)) : Res G K.P π m w0 fresh out (Instr.build t (parts.map fun (i, x) => (i, ρ x))) w := by
  unfold abuild at h
  split at h
  · rename_i z fs hz hu
    obtain ⟨it, zv, hit, hzv, hcz⟩ := zeroSegs_cv (π := π) hz
    split at h
    · rename_i ns hns
      obtain ⟨rs, hr, rfl⟩ := okSegs_run h
      obtain ⟨h3, h4⟩ := tySizes_mapM hns
      obtain ⟨cells, h1, h2⟩ := afill_cv hev (cells := zv.cells) hcz hr
      refine Res.pure hR (rv := .agg cells) (run_build w t _ cells ?_) ⟨cells.toList, by simp, h2⟩
      unfold Program.built
      simp only [hit, hu, hzv, h3]
      rw [← h1]
      congr 1
      · funext i
        simp only [List.getElem?_toArray, List.getElem?_map, List.zip]
        rw [List.getElem?_zipWith]
        cases fs.toList[i]? <;> cases ns[i]? <;> rfl
      · simp
    · exact (fail_run h).elim
  · rename_i z k e hz hu
    obtain ⟨it, zv, hit, hzv, hcz⟩ := zeroSegs_cv (π := π) hz
    split at h
    · rename_i sz hsz
      obtain ⟨ie, hie, rfl⟩ := tySize_some hsz
      obtain ⟨rs, hr, rfl⟩ := okSegs_run h
      obtain ⟨cells, h1, h2⟩ := afill_cv hev (cells := zv.cells) hcz hr
      refine Res.pure hR (rv := .agg cells) (run_build w t _ cells ?_) ⟨cells.toList, by simp, h2⟩
      unfold Program.built
      simp only [hit, hu, hzv, hie]
      rw [← h1]
      simp
    · exact (fail_run h).elim
  · exact (fail_run h).elim

theorem zeroRow_cv {n : Nat} {z : List Seg} {g : Seg} {zs : List Value} (hz : segsCv π z zs) (h : zeroRow n z = some g) (hn : n * zs.length ≠ 0)
    (h0 : ∀ x, z = [.s (.b8 x)] → x = 0) (h1 : ∀ k x, z = [.s (.i k x)] → x = 0) (h2 : ∀ k l, z = [.b8 k l] → l = List.replicate k 0) :
    g.cv π ((Array.range (n * zs.length)).map (zs.toArray[· % zs.length]!)).toList := by
  have key : ∀ (v : Value) (k : Nat), zs = List.replicate k v → ((Array.range (n * zs.length)).map (zs.toArray[· % zs.length]!)).toList = List.replicate (n * k) v := by
    intro v k e
    subst e
    simp only [List.length_replicate] at hn ⊢
    have hk : 0 < k := Nat.pos_of_ne_zero fun e => by subst e; simp at hn
    apply List.ext_getElem (by simp)
    intro j h1 h2
    have : j % k < k := Nat.mod_lt _ hk
    simp [this]
  unfold zeroRow at h
  split at h
  · rename_i x
    cases h
    have := h0 x rfl; subst this
    obtain ⟨a, b, rfl, ⟨v, rfl, hv⟩, hb⟩ := hz
    have hb0 : b = [] := hb
    subst hb0
    rw [key v 1 rfl, Nat.mul_one]
    refine ⟨by simp, ?_⟩
    rw [List.map_replicate]; congr 1
  · rename_i x
    cases h
    have := h1 _ x rfl; subst this
    obtain ⟨a, b, rfl, ⟨v, rfl, hv⟩, hb⟩ := hz
    have hb0 : b = [] := hb
    subst hb0
    rw [key v 1 rfl, Nat.mul_one]
    refine ⟨by simp, ?_⟩
    rw [List.map_replicate]; congr 1
  · rename_i k l
    cases h
    have := h2 k l rfl; subst this
    obtain ⟨a, b, rfl, ⟨_, rfl⟩, hb⟩ := hz
    have hb0 : b = [] := hb
    subst hb0
    rw [key (v8 0) k (by rw [List.append_nil, List.map_replicate])]
    exact ⟨by simp, by rw [List.map_replicate]⟩
  · cases h

theorem Res.newRow {gs : List Seg} {vs : List Value} {s : Sem Value} {T : TypeId} {len cap : Nat} (hR : Rel G π m w0 w) (hf : m fresh = none) (hc : segsCv π gs vs)
    (hs : s.run K.P w = .ok (.slice (some ⟨w.heap.size, 0, none⟩) len cap) (w.alloc (.cells vs.toArray T))) : Res G K.P π m w0 fresh ⟨.s (.slice fresh 0 len cap), [gs], none, []⟩ s w := by
  obtain ⟨h1, h2⟩ := hR.alloc hf hc T
  exact ⟨_, _, _, hs, h1, ⟨⟨w.heap.size, 0, vs.length⟩, by simp [updL], rfl⟩, h2⟩

theorem s_buildSlice {ev : Operand → V} {ρ : Operand → Value} {t : TypeId} {len : Nat} {parts : Array (Nat × Operand)} (hR : Rel G π m w0 w) (hf : m fresh = none) (hev : ∀ x, (ev x).cv π (ρ x))
    (h : (abuildSlice K fresh ev t len parts.toList).run m = some (out, fp)) : Res G K.P π m w0 fresh out (Instr.buildSlice t len (parts.map fun (i, x) => (i, ρ x))) w := by
  unfold abuildSlice at h
  split at h
  · rename_i e sz hty
    obtain ⟨hu, i, hi, rfl⟩ := tySlice_some hty
    cases h0 : Nat.beq len 0 <;> simp only [h0, cond_true, cond_false] at h
    rotate_left
    · have hl0 := Nat.eq_of_beq_eq_true h0
      subst hl0
      split at h
      · rename_i hp
        cases h
        have hp' : parts = #[] := by simpa using hp
        subst hp'
        refine Res.newRow (T := e) (vs := []) hR hf rfl ?_
        simp only [Instr.buildSlice, Sem.run_bind, run_underlying hu, Result.andThen_ok, run_size hi]
        simp [Instr.fill, newRow]
        have e0 : Array.map (fun _ => (default : Value)) (Array.range 0) = #[] := by apply Array.ext'; simp
        rw [e0]
      · exact (fail_run h).elim
    split at h
    · rename_i z hz
      obtain ⟨it, zv, hit, hzv, hcz⟩ := zeroSegs_cv (π := π) hz
      rw [hi] at hit; cases hit
      cases hc : (Nat.ble (len * i.size) 16777216 && !(Nat.beq (len * i.size) 0) && zeroElemOk z && Nat.beq (segsSize z) i.size) <;> simp only [hc, cond_true, cond_false] at h
      · exact (fail_run h).elim
      · simp only [Bool.and_eq_true, Bool.not_eq_true'] at hc
        obtain ⟨⟨⟨c1, c2⟩, c3⟩, c4⟩ := hc
        have c1 := Nat.le_of_ble_eq_true c1
        have c4 := Nat.eq_of_beq_eq_true c4
        have c2 : len * i.size ≠ 0 := fun e => by rw [e] at c2; cases c2
        have hzl := segsCv_length hcz
        split at h
        · rename_i g hg
          split at h
          · rename_i gs hgs
            cases h
            have hg' := zeroRow_cv hcz hg (by rw [hzl, c4]; exact c2)
              (by rintro x rfl; simp only [zeroElemOk, beq_iff_eq] at c3; exact BitVec.eq_of_toNat_eq (by simpa using c3))
              (by rintro k x rfl; simpa [zeroElemOk] using c3)
              (by rintro k l rfl; simpa [zeroElemOk] using c3)
            rw [hzl, c4] at hg'
            obtain ⟨cells, h1, h2⟩ := afill_cv hev (cells := (Array.range (len * i.size)).map (zv.cells[· % i.size]!)) (gs := [g]) ⟨_, [], (List.append_nil _).symm, by simpa using hg', rfl⟩ hgs
            refine Res.newRow (T := e) hR hf h2 ?_
            have hsz : zv.cells.size = i.size := by rw [← Array.length_toList, hzl, c4]
            have h1' : Instr.fill (fun j => some (j * i.size, i.size)) ((Array.range (len * i.size)).map (zv.cells[· % zv.cells.size]!)) (parts.map fun (i, x) => (i, ρ x)).toList = some cells := by
              rw [hsz, ← h1]; simp
            simp only [Instr.buildSlice, Sem.run_bind, run_underlying hu, Result.andThen_ok, run_size hi]
            rw [if_neg (by omega), if_neg c2]
            simp only [zeroValue, Sem.run_bind, run_info hi, Result.andThen_ok, hzv, Sem.run_pure, h1', newRow, run_newObj]
            rfl
          · exact (fail_run h).elim
        · exact (fail_run h).elim
    · exact (fail_run h).elim
  · exact (fail_run h).elim

theorem s_makeSlice {t : TypeId} {x y : V} {xv yv : Value} (hR : Rel G π m w0 w) (hf : m fresh = none) (hx : x.cv π xv) (hy : y.cv π yv)
    (h : (amakeSlice K fresh t x y).run m = some (out, fp)) : Res G K.P π m w0 fresh out (Instr.makeSlice t xv yv) w := by
  unfold amakeSlice at h
  split at h
  · rename_i xs ys
    split at h
    · rename_i e sz n k hty hn hk
      obtain ⟨hu, i, hi, rfl⟩ := tySlice_some hty
      obtain ⟨kx, rfl⟩ := scNat_cv hn hx
      obtain ⟨ky, rfl⟩ := scNat_cv hk hy
      split at h
      · rename_i z i' hz hi'
        rw [hi] at hi'; cases hi'
        obtain ⟨it, zv, hit, hzv, hcz⟩ := zeroSegs_cv (π := π) hz
        rw [hi] at hit; cases hit
        cases hzz : (Nat.beq n 0 && Nat.beq k 0) <;> simp only [hzz, cond_true, cond_false] at h
        rotate_left
        · cases h
          simp only [Bool.and_eq_true] at hzz
          have h1 := Nat.eq_of_beq_eq_true hzz.1
          have h2 := Nat.eq_of_beq_eq_true hzz.2
          subst h1; subst h2
          have hrun := run_make (P := K.P) w t e i zv hu hi hzv kx ky 0 0 (by omega) (by omega) (by omega) (by omega)
          refine Res.newRow (T := e) (vs := []) hR hf rfl ?_
          have e0 : madeCells zv.cells ((0 : Int).toNat * i.size) = #[] := by apply Array.ext'; simp [madeCells]
          rw [e0] at hrun
          exact hrun
        cases hc : (Nat.beq n k && (Nat.ble (n * i.size) 16777216 && (!(Nat.beq (n * i.size) 0) && (zeroElemOk z && (Nat.beq (segsSize z) i.size && Nat.ble i.bytes 64))))) <;> simp only [hc, cond_true, cond_false] at h
        · exact (fail_run h).elim
        · simp only [Bool.and_eq_true, Bool.not_eq_true'] at hc
          obtain ⟨c0, c1, c2, c3, c4, c5⟩ := hc
          have c0 := Nat.eq_of_beq_eq_true c0
          subst c0
          have c1 := Nat.le_of_ble_eq_true c1
          have c4 := Nat.eq_of_beq_eq_true c4
          have c5 := Nat.le_of_ble_eq_true c5
          have c2 : n * i.size ≠ 0 := fun e => by rw [e] at c2; cases c2
          have hzl := segsCv_length hcz
          split at h
          · rename_i g hg
            cases h
            have hg' := zeroRow_cv hcz hg (by rw [hzl, c4]; exact c2)
              (by rintro x rfl; simp only [zeroElemOk, beq_iff_eq] at c3; exact BitVec.eq_of_toNat_eq (by simpa using c3))
              (by rintro k x rfl; simpa [zeroElemOk] using c3)
              (by rintro k l rfl; simpa [zeroElemOk] using c3)
            rw [hzl, c4] at hg'
            have hsz : zv.cells.size = i.size := by rw [← Array.length_toList, hzl, c4]
            have hs1 : 1 ≤ i.size := by rcases Nat.eq_zero_or_pos i.size with q | q; (rw [q] at c2; simp at c2); exact q
            have hn1 : n ≤ 16777216 := Nat.le_trans (by have := Nat.mul_le_mul_left n hs1; rwa [Nat.mul_one] at this) c1
            have hbn : (i.bytes : Int) * (n : Int) ≤ 281474976710656 := by
              have : i.bytes * n ≤ 64 * 16777216 := Nat.mul_le_mul c5 hn1
              have h2 : ((i.bytes * n : Nat) : Int) ≤ 281474976710656 := by omega
              rwa [Int.natCast_mul] at h2
            have hrun := run_make (P := K.P) w t e i zv hu hi hzv kx ky (n : Int) (n : Int) (by omega) (Int.le_refl _) hbn (by omega)
            simp only [Int.toNat_natCast] at hrun
            refine Res.newRow (T := e) hR hf ⟨_, [], (List.append_nil _).symm, hg', rfl⟩ ?_
            rw [hrun]
            congr 2
            congr 1
            apply Array.ext'
            simp only [madeCells, hsz]
          · exact (fail_run h).elim
      · exact (fail_run h).elim
    · exact (fail_run h).elim
  · exact (fail_run h).elim

theorem makeSlice_news {t : TypeId} {x y : V} (h : (amakeSlice K fresh t x y).run m = some (out, fp)) : out.news.length = 1 := by
  unfold amakeSlice at h
  split at h
  · split at h
    · rename_i e sz n k _ _ _
      split at h
      · rename_i z i _ _
        cases hzz : (Nat.beq n 0 && Nat.beq k 0) <;> simp only [hzz, cond_true, cond_false] at h
        rotate_left
        · cases h; rfl
        cases hc : (Nat.beq n k && (Nat.ble (n * sz) 16777216 && (!(Nat.beq (n * sz) 0) && (zeroElemOk z && (Nat.beq (segsSize z) sz && Nat.ble i.bytes 64))))) <;> simp only [hc, cond_true, cond_false] at h
        · exact (fail_run h).elim
        · split at h
          · cases h; rfl
          · exact (fail_run h).elim
      · exact (fail_run h).elim
    · exact (fail_run h).elim
  · exact (fail_run h).elim

/-! ### Built-in functions -/

theorem s_len {t : TypeId} {ts : List TypeId} {x : V} {xv : Value} {ty : TypeId} {e : TypeId × Nat} (hty : tySlice K.P t = some e) (hR : Rel G π m w0 w) (hx : x.cv π xv)
    (h : (alen x).run m = some (out, fp)) : Res G K.P π m w0 fresh out (Builtin.len_ (t :: ts).toArray ty #[xv]) w := by
  obtain ⟨hu, _⟩ := tySlice_some (e := e.1) (sz := e.2) hty
  unfold alen at h
  split at h
  · have := okS_run h; subst this
    obtain ⟨n, _, rfl⟩ := hx
    exact Res.pure hR (by simp [Builtin.len_, run_underlying hu, goInt]) rfl
  · rename_i b o nn z
    have := okS_run h; subst this
    obtain ⟨n, c, _, _, _, rfl⟩ := hx
    refine Res.pure hR (rv := .int .i64 (nn : Int)) (by simp [Builtin.len_, run_underlying hu, goInt]) ?_
    cases Nat.beq z 0 <;> rfl
  · have := okS_run h; subst this
    have hx : xv = .slice none 0 0 := hx
    subst hx
    exact Res.pure hR (by simp [Builtin.len_, run_underlying hu, goInt]) rfl
  · have := okS_run h; subst this
    obtain ⟨a, c, rfl⟩ := hx
    exact Res.pure hR (by simp [Builtin.len_, run_underlying hu, goInt]) rfl
  · exact (fail_run h).elim

theorem amax_run {mn : Bool} {x y : V} {xv yv : Value} (hR : Rel G π m w0 w) (hx : x.cv π xv) (hy : y.cv π yv) (h : (amax mn x y).run m = some (out, fp)) :
    ∃ a b, xv = .int .i64 a ∧ yv = .int .i64 b ∧ ∀ (s : Sem Value), s.run K.P w = .ok (.int .i64 (bif mn then (if b < a then b else a) else (if b > a then b else a))) w →
      Res G K.P π m w0 fresh out s w := by
  unfold amax at h
  split at h
  · rename_i x y
    split at h
    · rename_i a b h1 h2
      refine ⟨a, b, scInt_cv h1 hx, scInt_cv h2 hy, fun s hs => ?_⟩
      dsimp only at h
      cases hk : (known x && known y) <;> simp only [hk, cond_true, cond_false] at h
      · have := okS_run h; subst this
        exact Res.pure hR hs rfl
      · have := okS_run h; subst this
        exact Res.pure hR hs rfl
    · exact (fail_run h).elim
  · exact (fail_run h).elim

theorem run_max (ts : Array TypeId) (ty : TypeId) (a b : Int) : (Builtin.max_ ts ty #[.int .i64 a, .int .i64 b]).run P w = .ok (.int .i64 (if b > a then b else a)) w := by
  simp [Builtin.max_, Builtin.max2]

theorem run_min (ts : Array TypeId) (ty : TypeId) (a b : Int) : (Builtin.min_ ts ty #[.int .i64 a, .int .i64 b]).run P w = .ok (.int .i64 (if b < a then b else a)) w := by
  simp [Builtin.min_, Builtin.min2]

/-- What is known of a slice that is read. -/
def SrcCv (π : Loc) (x : Option (Nat × Nat)) (len : Nat) (v : Value) : Prop :=
  match x with
  | some (b, off) => ∃ p c, π b = some p ∧ v = .slice (some ⟨p.n, p.base + off, none⟩) len c
  | none => len = 0 ∧ ∃ a c, v = .slice a 0 c

theorem srcOf_cv {x : V} {xv : Value} {s : Option (Nat × Nat)} {len : Nat} (h : srcOf x = some (s, len)) (hx : x.cv π xv) : SrcCv π s len xv := by
  unfold srcOf at h
  split at h <;> cases h
  · obtain ⟨p, hp, rfl⟩ := hx; exact ⟨p, _, hp, rfl⟩
  · obtain ⟨p, c, hp, _, _, rfl⟩ := hx; exact ⟨p, c, hp, rfl⟩
  · exact ⟨rfl, none, 0, hx⟩
  · exact ⟨rfl, hx⟩

theorem SrcCv.len {s : Option (Nat × Nat)} {len : Nat} {v : Value} (h : SrcCv π s len v) : ∃ a c, v = .slice a len c := by
  match s, h with
  | some (b, off), ⟨p, c, _, e⟩ => exact ⟨_, c, e⟩
  | none, ⟨e, a, c, hv⟩ => subst e; exact ⟨a, c, hv⟩

/-- Reading the first n elements: firstCells gives the cells. -/
theorem readSrc_run {α : Type} {s : Option (Nat × Nat)} {len n sz : Nat} {k : List Seg → Rd α} {a : α} {xv : Value} (hR : Rel G π m w0 w) (hx : SrcCv π s len xv) (h : (readSrc s (n * sz) k).run m = some (a, fp)) :
    ∃ gs us fp', (k gs).run m = some (a, fp') ∧ segsCv π gs us ∧ us.length = n * sz ∧ (∀ v ∈ us, v.oneCell' = true) ∧ ∀ W : World, W.heap = w.heap → (Builtin.firstCells sz n xv).run P W = .ok (us : List Value).toArray W := by
  unfold readSrc at h
  cases h0 : Nat.beq (n * sz) 0 <;> simp only [h0, cond_true, cond_false] at h
  · split at h
    · rename_i b off
      obtain ⟨p, c, hp, rfl⟩ := hx
      obtain ⟨blk, fp', hb, hk, _⟩ := read_run h
      split at hk
      · rename_i gs hg
        cases hs : solidSegs gs <;> simp only [hs, cond_true, cond_false] at hk
        · exact (fail_run hk).elim
        · obtain ⟨p', vs, T, fz, e1, e2, _⟩ := hR.blk b blk hb
          rw [hp] at e1; cases e1
          obtain ⟨hle, hcv⟩ := getSegs_cv e2.2.2.2 hg
          have hcl := cut_length (p := p) (k := segsSize blk.gs) (vs := vs) (by rw [e2.2.1]; exact e2.2.2.1)
          have hne : n * sz ≠ 0 := fun e => by rw [e] at h0; cases h0
          have hlen : (((cut p (segsSize blk.gs) vs).drop off).take (n * sz)).length = n * sz := by
            rcases hle with q | q
            · exact absurd q hne
            · simp; omega
          refine ⟨gs, _, fp', hk, hcv, hlen, solidSegs_cv hcv hs, fun W hW => ?_⟩
          simp only [Builtin.firstCells]
          rw [run_cells (o := p.base + off) (w := W) (by rw [hW]; exact e2.1), cut_take hle]
          rcases hle with q | q
          · exact .inl q
          · right; have := e2.2.1; have := e2.2.2.1; omega
      · exact (fail_run hk).elim
    · exact (fail_run h).elim
  · have hz := Nat.eq_of_beq_eq_true h0
    refine ⟨[], [], fp, h, rfl, by simpa using hz.symm, by simp, fun W _ => ?_⟩
    obtain ⟨a', c, rfl⟩ := hx.len
    cases a' with
    | none => rfl
    | some a' => simp only [Builtin.firstCells, hz]; rfl

theorem storeCells_nil (a : Addr) (w : World) : (storeCells a [] 0).run P w = .ok () w := rfl

/-- Storing a row's cells. -/
theorem store_run {blk : Blk} {b off : Nat} {p : Pl} {pp : List Seg} {gs : List Seg} {us : List Value} (hR : Rel G π m w0 w) (hb : m b = some blk) (hp : π b = some p) (hw : blk.wr = true)
    (hc : segsCv π pp us) (h1 : ∀ v ∈ us, v.oneCell' = true) (hne : pp ≠ []) (hput : putSegs blk.gs off pp = some gs) :
    ∃ w', (storeCells ⟨p.n, p.base + off, none⟩ us 0).run P w = .ok () w' ∧ Rel G π (updM m b ⟨gs, true⟩) w0 w' := by
  obtain ⟨p', vs, T, fz, f1, f2, f4⟩ := hR.blk b blk hb
  rw [hp] at f1; cases f1
  obtain ⟨f5, f6⟩ := f4 hw
  subst f5
  obtain ⟨q1, q2⟩ := putSegs_cv f2.2.2.2 hc hput
  have hcl := cut_length (p := p) (k := segsSize blk.gs) (vs := vs) (by rw [f2.2.1]; exact f2.2.2.1)
  have hfit0 : off + us.length ≤ segsSize blk.gs := by
    rcases q1 with q1 | q1
    · exact absurd q1 hne
    · omega
  have hsz2 : segsSize gs = segsSize blk.gs := by rw [← segsCv_length q2, splice_length (by omega), hcl]
  have hb1 := f2.2.1
  have hb2 := f2.2.2.1
  have hst := run_storeCells_at P p.n (p.base + off) T us 0 vs.toArray w f2.1 (by simp; omega) h1
  refine ⟨_, ?_, hR.write (vs := splice vs (p.base + off) us) hb hw hp f2.1 (splice_length (by omega)) (splice_take (by omega) (by omega)) (by omega) (by rw [hsz2, cut_splice hfit0 (by omega)]; exact q2)⟩
  rw [hst]; simp [splice]

theorem run_copy {t : TypeId} {ts : List TypeId} {ty e : TypeId} {i : TypeInfo} {a : Option Addr} {len cap len' cap' : Nat} {a' : Option Addr} {us : List Value} {w' : World} (hu : P.underlying t = some (.slice e)) (hi : P.info? e = some i)
    (h1 : (Builtin.firstCells i.size (Nat.min len' len) (.slice a' len' cap')).run P w = .ok us.toArray w) (h2 : match a with | some a => (storeCells a us 0).run P w = .ok () w' | none => w' = w) :
    (Builtin.copy_ (t :: ts).toArray ty #[.slice a len cap, .slice a' len' cap']).run P w = .ok (goInt (Nat.min len' len)) w' := by
  cases a with
  | none => subst h2; simp [Builtin.copy_, run_underlying hu, Builtin.lenOf, run_size hi, h1]
  | some a => simp [Builtin.copy_, run_underlying hu, Builtin.lenOf, run_size hi, h1, h2]

theorem acopyTo_run {b off n : Nat} {gs : List Seg} {us : List Value} {p : Pl} (hR : Rel G π m w0 w) (hp : π b = some p) (hc : segsCv π gs us) (h1 : ∀ v ∈ us, v.oneCell' = true)
    (h : (acopyTo b off n gs).run m = some (out, fp)) : ∃ w', (storeCells ⟨p.n, p.base + off, none⟩ us 0).run P w = .ok () w' ∧ out.v = .s (.i .i64 n) ∧ Rel G π (effM m fresh out) w0 w' := by
  unfold acopyTo at h
  split at h
  · have := okS_run h; subst this
    have : us = [] := hc
    subst this
    exact ⟨w, storeCells_nil _ _, rfl, hR⟩
  · rename_i q qs
    obtain ⟨dst, fp', hb, hk, _⟩ := read_run h
    cases hw : dst.wr <;> simp only [hw, cond_true, cond_false] at hk
    · exact (fail_run hk).elim
    · split at hk
      · rename_i gs' hput
        cases hk
        obtain ⟨w', e1, e2⟩ := store_run (P := P) hR hb hp hw hc h1 (by simp) hput
        exact ⟨w', e1, rfl, e2⟩
      · exact (fail_run hk).elim

theorem s_copy {t : TypeId} {ts : List TypeId} {x y : V} {xv yv : Value} {ty : TypeId} (hR : Rel G π m w0 w) (hx : x.cv π xv) (hy : y.cv π yv)
    (h : (acopy K t x y).run m = some (out, fp)) : ∃ rv w', (Builtin.copy_ (t :: ts).toArray ty #[xv, yv]).run K.P w = .ok rv w' ∧ out.v.cv π rv ∧ Rel G π (effM m fresh out) w0 w' := by
  unfold acopy at h
  split at h
  · rename_i e sz src len' hty hsrc
    obtain ⟨hu, i, hi, rfl⟩ := tySlice_some hty
    have hsc := srcOf_cv hsrc hy
    obtain ⟨a', c', hyv⟩ := hsc.len
    have none_case : ∀ a c, xv = .slice a 0 c → out = ⟨.s (.i .i64 0), [], none, []⟩ → ∃ rv w', (Builtin.copy_ (t :: ts).toArray ty #[xv, yv]).run K.P w = .ok rv w' ∧ out.v.cv π rv ∧ Rel G π (effM m fresh out) w0 w' := by
      rintro a c rfl rfl
      subst hyv
      have hm : Nat.min len' 0 = 0 := Nat.min_zero _
      refine ⟨goInt (Nat.min len' 0), w, run_copy (us := []) (w' := w) hu hi ?_ ?_, by rw [hm]; rfl, hR⟩
      · rw [hm]
        cases a' with
        | none => rfl
        | some a' => simp only [Builtin.firstCells, Nat.zero_mul]; rfl
      · cases a with
        | none => rfl
        | some a => exact storeCells_nil _ _
    split at h
    · rename_i b off len cap
      obtain ⟨p, hp, rfl⟩ := hx
      obtain ⟨gs, us, fp', h1, h2, h3, h4, h5⟩ := readSrc_run (P := K.P) hR hsc h
      obtain ⟨w', e1, e2, e3⟩ := acopyTo_run (P := K.P) (fresh := fresh) hR hp h2 h4 h1
      rw [hyv] at h5 ⊢
      exact ⟨_, w', run_copy hu hi (h5 w rfl) e1, by rw [e2]; rfl, e3⟩
    · rename_i b off len z
      obtain ⟨p, c, hp, _, _, rfl⟩ := hx
      obtain ⟨gs, us, fp', h1, h2, h3, h4, h5⟩ := readSrc_run (P := K.P) hR hsc h
      obtain ⟨w', e1, e2, e3⟩ := acopyTo_run (P := K.P) (fresh := fresh) hR hp h2 h4 h1
      rw [hyv] at h5 ⊢
      exact ⟨_, w', run_copy hu hi (h5 w rfl) e1, by rw [e2]; rfl, e3⟩
    · exact none_case none 0 hx (okS_run h)
    · obtain ⟨a, c, hx⟩ := hx
      exact none_case a c hx (okS_run h)
    · exact (fail_run h).elim
  · exact (fail_run h).elim
end
end Go.Mo


namespace Go.Mo
open Go Go.RowKit
section
variable {G : Gl} {K : Cx} {π : Loc} {m : Nat → Option Blk} {w0 w : World} {fresh : Nat} {out : Out} {fp : List Nat} {P : Program}

theorem updM_twice (m : Nat → Option Blk) (b : Nat) (x y : Blk) : updM (updM m b x) b y = updM m b y := by
  funext j; unfold updM; split <;> rfl

theorem segsCv_split : ∀ {gs hs : List Seg} {ws : List Value}, segsCv π (gs ++ hs) ws → ∃ a b, ws = a ++ b ∧ segsCv π gs a ∧ segsCv π hs b
  | [], _, ws, h => ⟨[], ws, rfl, rfl, h⟩
  | _ :: _, _, _, ⟨a, b, e, ha, hb⟩ => by
    obtain ⟨c, d, e', hc, hd⟩ := segsCv_split hb
    subst e'; subst e
    exact ⟨a ++ c, d, by simp, ⟨a, c, rfl, ha, hc⟩, hd⟩

theorem halves_cv {gs pre old : List Seg} {off n : Nat} {vs : List Value} (h : halves gs off n = some (pre, old)) (hs : segsSize gs = off + n) (hc : segsCv π gs vs) :
    segsCv π pre (vs.take (segsSize pre)) ∧ segsSize pre ≤ off ∧ segsCv π old (vs.drop off) ∧ segsSize old = n := by
  have hl := segsCv_length hc
  unfold halves at h
  cases h0 : Nat.beq off 0 <;> simp only [h0, cond_true, cond_false] at h
  · split at h
    · rename_i pre' old' h1 h2
      cases h
      obtain ⟨_, a2⟩ := getSegs_cv hc h1
      obtain ⟨_, b2⟩ := getSegs_cv hc h2
      rw [List.drop_zero] at a2
      have l1 := segsCv_length a2
      rw [List.length_take, Nat.min_eq_left (by omega)] at l1
      rw [List.take_of_length_le (by simp; omega)] at b2
      have l2 := segsCv_length b2
      rw [List.length_drop] at l2
      refine ⟨by rw [← l1]; exact a2, by omega, b2, by omega⟩
    · cases h
  · cases h
    have h0 := Nat.eq_of_beq_eq_true h0
    subst h0
    exact ⟨by simp [segsSize, segsCv], by simp [segsSize], by rw [List.drop_zero]; exact hc, by omega⟩

theorem cut_less {p : Pl} {k j : Nat} {vs : List Value} (h : j ≤ k) : (cut p k vs).take j = cut p j vs := by
  unfold cut; rw [List.take_take, Nat.min_eq_left h]

theorem cut_drop {p : Pl} {k j : Nat} {vs : List Value} : (cut p k vs).drop j = cut ⟨p.n, p.base + j, p.z⟩ (k - j) vs := by
  unfold cut; rw [List.drop_take, List.drop_drop]

/-- Of a block only the first cells are kept, to be read. -/
theorem Rel.halve (h : Rel G π m w0 w) {b : Nat} {blk : Blk} (hb : m b = some blk) (hw : blk.wr = true) {pre : List Seg} (hs : segsSize pre ≤ segsSize blk.gs)
    (hc : ∀ vs, segsCv π blk.gs vs → segsCv π pre (vs.take (segsSize pre))) : Rel G π (updM m b ⟨pre, false⟩) w0 w := by
  refine ⟨?_, ?_, ?_, h.glob, h.globOld, h.below, h.base, h.oth⟩
  · intro j c hj
    unfold updM at hj
    split at hj
    · rename_i e; subst e; cases hj
      obtain ⟨p, vs, T, fz, e1, e2, _⟩ := h.blk j blk hb
      refine ⟨p, vs, T, fz, e1, ⟨e2.1, e2.2.1, by have := e2.2.2.1; show _ + segsSize pre ≤ _; omega, ?_⟩, fun q => by cases q⟩
      have := hc _ e2.2.2.2
      rw [cut_less hs] at this
      exact this
    · exact h.blk j c hj
  · intro i j p q bi bj hne hi hj pi pj hpq hwr
    unfold updM at hi hj
    split at hi
    · cases hi; cases hwr
    · split at hj
      · rename_i e; subst e
        have := (h.inj i j p q bi blk hne hi hb pi pj hpq hwr).2
        rw [hw] at this; cases this
      · exact h.inj i j p q bi bj hne hi hj pi pj hpq hwr
  · intro j hj
    unfold updM at hj
    split at hj
    · cases hj
    · exact h.dom j hj

/-- A block's cells from off on get a new number; those before stay to be read. -/
theorem Rel.move (h : Rel G π m w0 w) {b fresh : Nat} {gs pre old : List Seg} {off : Nat} {p : Pl} (hb : m b = some ⟨gs, true⟩) (hp : π b = some p) (hf : m fresh = none)
    (hs : segsSize pre ≤ off) (hz : off + segsSize old = segsSize gs) (hc : ∀ vs, segsCv π gs vs → segsCv π pre (vs.take (segsSize pre)) ∧ segsCv π old (vs.drop off)) :
    π.le (updL π fresh ⟨p.n, p.base + off, p.z⟩) ∧ Rel G (updL π fresh ⟨p.n, p.base + off, p.z⟩) (updM (updM m b ⟨pre, false⟩) fresh ⟨old, true⟩) w0 w := by
  have hle := updL_le h hf ⟨p.n, p.base + off, p.z⟩
  have hne : b ≠ fresh := fun e => by subst e; rw [hb] at hf; cases hf
  have hk := h.halve hb rfl (pre := pre) (by show _ ≤ segsSize gs; omega) fun vs q => (hc vs q).1
  refine ⟨hle, ⟨?_, ?_, ?_, h.glob, h.globOld, h.below, Loc.le_trans h.base hle, h.oth⟩⟩
  · intro j c hj
    unfold updM at hj
    split at hj
    · rename_i e; subst e; cases hj
      obtain ⟨p', vs, T, fz, e1, e2, e3⟩ := h.blk b _ hb
      rw [hp] at e1; cases e1
      refine ⟨⟨p.n, p.base + off, p.z⟩, vs, T, fz, by simp [updL], ⟨e2.1, e2.2.1, ?_, ?_⟩, e3⟩
      · have := e2.2.2.1
        show p.base + off + segsSize old ≤ p.z
        have e4 : p.base + segsSize gs ≤ p.z := this
        omega
      · have := (hc _ e2.2.2.2).2
        rw [cut_drop] at this
        have e5 : segsSize gs - off = segsSize old := by omega
        rw [show segsSize (Blk.mk gs true).gs - off = segsSize old from e5] at this
        exact segsCv_mono hle this
    · obtain ⟨p', vs, T, fz, e1, e2, e3⟩ := hk.blk j c hj
      exact ⟨p', vs, T, fz, hle _ _ e1, e2.mono hle rfl, e3⟩
  · intro i j q r bi bj hij hi hj pi pj hqr hwr
    unfold updM at hi hj
    unfold updL at pi pj
    split at hi
    · rename_i x1
      rw [if_pos x1] at pi; cases pi; cases hi
      split at hj
      · rename_i x2; exact absurd (x1.trans x2.symm) hij
      · rename_i x2
        rw [if_neg x2] at pj
        split at hj
        · rename_i x3; subst x3
          cases hj
          rw [hp] at pj; cases pj
          exact ⟨.inr (by show p.base + segsSize pre ≤ p.base + off; omega), rfl⟩
        · rename_i x3
          obtain ⟨g1, g2⟩ := h.inj b j p r _ bj (Ne.symm x3) hb hj hp pj hqr rfl
          exact ⟨g1.imp id fun g => by show _ ≤ p.base + off; omega, g2⟩
    · rename_i x1
      rw [if_neg x1] at pi
      split at hi
      · cases hi; cases hwr
      · rename_i x3
        split at hj
        · rename_i x2
          rw [if_pos x2] at pj; cases pj
          have := (h.inj i b q p bi _ x3 hi hb pi hp hqr hwr).2
          cases this
        · rename_i x2
          rw [if_neg x2] at pj
          split at hj
          · rename_i x4; subst x4
            have := (h.inj i j q r bi _ x3 hi hb pi pj hqr hwr).2
            cases this
          · exact h.inj i j q r bi bj hij hi hj pi pj hqr hwr
  · intro j hj
    unfold updM at hj; unfold updL
    split at hj
    · cases hj
    · rename_i x1
      rw [if_neg x1]
      split at hj
      · cases hj
      · exact h.dom j hj

theorem joinSegs_cv : ∀ {gs hs : List Seg} {us vs : List Value}, segsCv π gs us → segsCv π hs vs → segsCv π (joinSegs gs hs) (us ++ vs) := by
  intro gs
  induction gs with
  | nil => intro hs us vs hg hh; have : us = [] := hg; subst this; exact hh
  | cons g gs ih =>
    intro hs us vs hg hh
    unfold joinSegs
    split
    · rename_i e; cases e
    · rename_i n l k l' hs' e
      cases e
      obtain ⟨a, b, rfl, ⟨h1, rfl⟩, h3⟩ := hg
      have : b = [] := h3
      subst this
      obtain ⟨c, d, rfl, ⟨h4, rfl⟩, h6⟩ := hh
      exact ⟨l.map v8 ++ l'.map v8, d, by simp, ⟨by simp; omega, by simp⟩, h6⟩
    · rename_i n l k l' hs' e
      cases e
      obtain ⟨a, b, rfl, ⟨h1, rfl⟩, h3⟩ := hg
      have : b = [] := h3
      subst this
      obtain ⟨c, d, rfl, ⟨h4, rfl⟩, h6⟩ := hh
      exact ⟨l.map v64 ++ l'.map v64, d, by simp, ⟨by simp; omega, by simp⟩, h6⟩
    · rename_i n l x hs' e
      cases e
      obtain ⟨a, b, rfl, ⟨h1, rfl⟩, h3⟩ := hg
      have : b = [] := h3
      subst this
      obtain ⟨c, d, rfl, ⟨v, rfl, hv⟩, h6⟩ := hh
      have hv : v = .int .i64 x := hv
      subst hv
      exact ⟨l.map v64 ++ [v64 x], d, by simp [v64], ⟨by simp; omega, by simp⟩, h6⟩
    · rename_i n l x hs' e
      cases e
      obtain ⟨a, b, rfl, ⟨h1, rfl⟩, h3⟩ := hg
      have : b = [] := h3
      subst this
      obtain ⟨c, d, rfl, ⟨v, rfl, hv⟩, h6⟩ := hh
      have hv : v = .int .i64 x := hv
      subst hv
      exact ⟨l.map v64 ++ [v64 x], d, by simp [v64], ⟨by simp; omega, by simp⟩, h6⟩
    · rename_i y x hs' e
      cases e
      obtain ⟨a, b, rfl, ⟨u, rfl, hu⟩, h3⟩ := hg
      have : b = [] := h3
      subst this
      obtain ⟨c, d, rfl, ⟨v, rfl, hv⟩, h6⟩ := hh
      have hu : u = .int .i64 y := hu
      have hv : v = .int .i64 x := hv
      subst hu; subst hv
      exact ⟨[v64 y, v64 x], d, by simp [v64], ⟨rfl, rfl⟩, h6⟩
    · rename_i y x hs' e
      cases e
      obtain ⟨a, b, rfl, ⟨u, rfl, hu⟩, h3⟩ := hg
      have : b = [] := h3
      subst this
      obtain ⟨c, d, rfl, ⟨v, rfl, hv⟩, h6⟩ := hh
      have hu : u = .int .i64 y := hu
      have hv : v = .int .i64 x := hv
      subst hu; subst hv
      exact ⟨[v64 y, v64 x], d, by simp [v64], ⟨rfl, rfl⟩, h6⟩
    · rename_i n l x hs' e
      cases e
      obtain ⟨a, b, rfl, ⟨h1, rfl⟩, h3⟩ := hg
      have : b = [] := h3
      subst this
      obtain ⟨c, d, rfl, ⟨v, rfl, hv⟩, h6⟩ := hh
      have hv : v = .int .u8 (x.toNat : Int) := hv
      subst hv
      exact ⟨l.map v8 ++ [v8 x], d, by simp [v8], ⟨by simp; omega, by simp⟩, h6⟩
    · rename_i g' gs' e _ _ _ _ _ _ _
      cases e
      obtain ⟨a, b, rfl, h1, h2⟩ := hg
      exact ⟨a, b ++ vs, by simp, h1, ih h2 hh⟩

/-! ### The built-in append -/

theorem append_fits {t t' ty e e' : TypeId} {ts : List TypeId} {i : TypeInfo} {a : Addr} {len cap k : Nat} {xv : Value} {us : List Value} {w' : World} (hu : P.underlying t = some (.slice e)) (hu' : P.underlying t' = some (.slice e'))
    (hi : P.info? e = some i) (hx : ∃ a c, xv = .slice a k c) (hfit : len + k ≤ cap) (h1 : (Builtin.firstCells i.size k xv).run P w = .ok us.toArray w)
    (h2 : (storeCells (a.add (len * i.size)) us 0).run P w = .ok () w') :
    (Builtin.append_ (t :: t' :: ts).toArray ty #[.slice (some a) len cap, xv]).run P w = .ok (.slice (some a) (len + k) cap) w' := by
  obtain ⟨a', c', rfl⟩ := hx
  simp [Builtin.append_, run_underlying hu, run_underlying hu', Builtin.lenOf, run_size hi, hfit, h1, h2]

def roomOf (w : World) (need old e : Nat) : Nat := need + w.tape w.drawn (.appendCap need old e) % (2 ^ 63 - need)

theorem append_grows {t t' ty e e' : TypeId} {ts : List TypeId} {i : TypeInfo} {zv : Value} {a : Option Addr} {len cap k : Nat} {xv : Value} {os us : List Value} (hu : P.underlying t = some (.slice e)) (hu' : P.underlying t' = some (.slice e'))
    (hi : P.info? e = some i) (hz : i.zero = some zv) (hx : ∃ a c, xv = .slice a k c) (hfit : cap < len + k) (hsmall : len + k ≤ 1000000) (hb : i.bytes ≤ 64)
    (h0 : ∀ W : World, W.heap = w.heap → (Builtin.firstCells i.size len (.slice a len cap)).run P W = .ok os.toArray W)
    (h1 : ∀ W : World, W.heap = w.heap → (Builtin.firstCells i.size k xv).run P W = .ok us.toArray W) :
    (Builtin.append_ (t :: t' :: ts).toArray ty #[.slice a len cap, xv]).run P w =
      .ok (.slice (some ⟨w.heap.size, 0, none⟩) (len + k) (roomOf w (len + k) cap e))
        (w.drew.alloc (.cells (os ++ (us ++ (Builtin.zeroCells zv.cells (roomOf w (len + k) cap e - (len + k))).toList)).toArray e)) := by
  obtain ⟨a', c', rfl⟩ := hx
  have g1 : ¬ (len + k ≤ cap) := by omega
  have g2 : Builtin.nextslicecap (len + k) cap * i.bytes ≤ 281474976710656 := growslice_fits hfit (by
    have : (len + k) * i.bytes ≤ 1000000 * 64 := Nat.mul_le_mul hsmall hb
    omega)
  have g3 : ¬ (Builtin.nextslicecap (len + k) cap * i.bytes > 2 ^ 48) := by omega
  have g4 : ¬ ((((len + k : Nat) : Int) > IntKind.i64.max) ∧ (False ∨ i.bytes = 0)) := by
    intro q
    have := q.1
    simp [IntKind.max, IntKind.signed, IntKind.bits] at this
    omega
  have e0 := h0 w.drew rfl
  have e1 := h1 w.drew rfl
  have hzv : ∀ W, (zeroValue e).run P W = .ok zv W := fun W => by simp [zeroValue, run_info hi, hz]
  have hcut : (Question.appendCap (len + k) cap e).cut (w.tape w.drawn (Question.appendCap (len + k) cap e)) = roomOf w (len + k) cap e := rfl
  simp [Builtin.append_, run_underlying hu, run_underlying hu', Builtin.lenOf, run_size hi, run_info hi, g1, hzv, newRow]
  rw [if_neg (by omega), if_neg (by omega), if_neg (by simp [Question.forced]), e0]
  simp only [Result.andThen_ok]
  rw [e1]
  simp only [Result.andThen_ok, hcut]
  congr 2
  congr 1
  apply Array.ext'
  simp

theorem zeroCells_size (z : Array Value) (n : Nat) : (Builtin.zeroCells z n).size = n * z.size := by simp [Builtin.zeroCells]

theorem roomOf_ge (w : World) (need old e : Nat) : need ≤ roomOf w need old e := by unfold roomOf; omega

/-- The row that append lays anew. -/
theorem grown_rel {t t' ty e e' : TypeId} {ts : List TypeId} {i : TypeInfo} {zv : Value} {a : Option Addr} {len cap k : Nat} {xv : Value} {os us : List Value} {old new : List Seg} {m' : Nat → Option Blk}
    (hR : Rel G π m' w0 w) (hf : m' fresh = none)
    (hu : K.P.underlying t = some (.slice e)) (hu' : K.P.underlying t' = some (.slice e'))
    (hi : K.P.info? e = some i) (hz : i.zero = some zv) (hzs : zv.cells.size = i.size) (hs0 : i.size ≠ 0) (hx : ∃ a c, xv = .slice a k c) (hfit : cap < len + k) (hsmall : len + k ≤ 1000000) (hb : i.bytes ≤ 64)
    (h0 : ∀ W : World, W.heap = w.heap → (Builtin.firstCells i.size len (.slice a len cap)).run K.P W = .ok os.toArray W)
    (h1 : ∀ W : World, W.heap = w.heap → (Builtin.firstCells i.size k xv).run K.P W = .ok us.toArray W)
    (ho : segsCv π old os) (hn : segsCv π new us) (hlo : os.length = len * i.size) (hln : us.length = k * i.size) :
    ∃ rv w' π', (Builtin.append_ (t :: t' :: ts).toArray ty #[.slice a len cap, xv]).run K.P w = .ok rv w' ∧ π.le π' ∧ (V.s (.osl fresh 0 (len + k) i.size)).cv π' rv ∧
      Rel G π' (updM m' fresh ⟨joinSegs old new, true⟩) w0 w' := by
  have hrun := append_grows (P := K.P) (ty := ty) (ts := ts) hu hu' hi hz hx hfit hsmall hb h0 h1
  rw [← List.append_assoc] at hrun
  obtain ⟨g1, g2⟩ := hR.drew.allocRow hf (joinSegs_cv ho hn) (Builtin.zeroCells zv.cells (roomOf w (len + k) cap e - (len + k))).toList e
  have hge := roomOf_ge w (len + k) cap e
  refine ⟨_, _, _, hrun, g1, ⟨⟨w.heap.size, 0, _⟩, roomOf w (len + k) cap e, by simp [updL]; rfl, ?_, hge, rfl⟩, g2⟩
  rw [szOf_ne hs0]
  simp only [zeroCells_size, hlo, hln, hzs, Nat.zero_add]
  rw [← Nat.add_mul, ← Nat.add_mul]
  exact Nat.le_of_eq (by congr 1; omega)

theorem cut_grow {p : Pl} {vs us : List Value} {L : Nat} (h : p.base + L + us.length ≤ vs.length) : cut p (L + us.length) (splice vs (p.base + L) us) = cut p L vs ++ us := by
  unfold cut splice
  have e1 : (vs.take (p.base + L)).length = p.base + L := by simp; omega
  rw [List.drop_append_of_le_length (by omega), List.drop_take]
  have e2 : (List.take (p.base + L - p.base) (List.drop p.base vs)).length = L := by simp; omega
  rw [List.take_append, List.take_of_length_le (by omega), e2, show L + us.length - L = us.length by omega, List.take_left]
  rw [show p.base + L - p.base = L by omega]

theorem appendNew_run {sz len : Nat} {kill : Option (Nat × Blk)} {old new : List Seg} (h : (appendNew fresh sz len kill old new).run m = some (out, fp)) :
    out = ⟨.s (.osl fresh 0 len sz), [joinSegs old new], kill, []⟩ := by cases h; rfl

theorem s_append {t t' : TypeId} {ts : List TypeId} {x y : V} {xv yv : Value} {ty : TypeId} {e2 : TypeId × Nat} (hty' : tySlice K.P t' = some e2) (hR : Rel G π m w0 w) (hx : x.cv π xv) (hy : y.cv π yv)
    (h : (aappend K fresh t x y).run m = some (out, fp)) (hf : ∀ j, j < out.news.length → m (fresh + j) = none) :
    Res G K.P π m w0 fresh out (Builtin.append_ (t :: t' :: ts).toArray ty #[xv, yv]) w := by
  obtain ⟨hu', _⟩ := tySlice_some (e := e2.1) (sz := e2.2) hty'
  have hf1 : out.news.length = 1 → m fresh = none := fun q => hf 0 (by omega)
  unfold aappend at h
  split at h
  · rename_i e sz src k hty hsrc
    obtain ⟨hu, i, hi, rfl⟩ := tySlice_some hty
    have hsc := srcOf_cv hsrc hy
    have hyv := hsc.len
    cases hk0 : Nat.beq k 0 <;> simp only [hk0, cond_true, cond_false] at h
    · split at h
      · rename_i i' d hi' hd
        rw [hi] at hi'; cases hi'
        split at h
        · exact (fail_run h).elim
        · rename_i zv hz
          cases hc : (Nat.ble i.bytes 64 && !(Nat.beq i.size 0) && Nat.beq zv.cells.size i.size) <;> simp only [hc, cond_true, cond_false] at h
          · exact (fail_run h).elim
          · simp only [Bool.and_eq_true, Bool.not_eq_true'] at hc
            have c1 := Nat.le_of_ble_eq_true hc.1.1
            have c2 : i.size ≠ 0 := fun q => by have := hc.1.2; rw [q] at this; cases this
            have c3 := Nat.eq_of_beq_eq_true hc.2
            have ck : k ≠ 0 := fun q => by subst q; cases hk0
            split at h
            · cases hl : Nat.ble k appendLimit <;> simp only [hl, cond_true, cond_false] at h
              · exact (fail_run h).elim
              · have hl' : k ≤ 1000000 := Nat.le_of_ble_eq_true hl
                have hxv : xv = .slice none 0 0 := by
                  unfold dstOf at hd
                  split at hd
                  · exact hx
                  · cases hd
                  · rename_i z; cases hq : Nat.beq z i.size <;> simp only [hq, cond_true, cond_false] at hd <;> cases hd
                  · cases hd
                subst hxv
                obtain ⟨new, us, fp', h1, h2, h3, h4, h5⟩ := readSrc_run (P := K.P) hR hsc h
                have := appendNew_run h1
                subst this
                have hg := grown_rel (ty := ty) (ts := ts) (len := 0) (cap := 0) (a := none) (old := []) (os := []) hR (hf1 rfl) hu hu' hi hz c3 c2 hyv (by omega) (by omega) c1
                  (fun W _ => rfl) h5 rfl h2 (by simp) h3
                obtain ⟨rv, w', π', g1, g2, g3, g4⟩ := hg
                rw [Nat.zero_add] at g3
                exact ⟨rv, w', π', g1, g2, g3, g4⟩
            · rename_i b off len cap
              cases hl : Nat.ble (len + k) appendLimit <;> simp only [hl, cond_true, cond_false] at h
              · exact (fail_run h).elim
              · have hl' : len + k ≤ 1000000 := Nat.le_of_ble_eq_true hl
                have hxe : x = .s (.slice b off len cap) := by
                  unfold dstOf at hd
                  split at hd
                  · cases hd
                  · cases hd; rfl
                  · rename_i z; cases hq : Nat.beq z i.size <;> simp only [hq, cond_true, cond_false] at hd <;> cases hd
                  · cases hd
                subst hxe
                obtain ⟨p, hp, rfl⟩ := hx
                cases hq : Nat.ble (len + k) cap <;> simp only [hq, cond_true, cond_false] at h
                · have hlt : cap < len + k := by
                    rcases Nat.lt_or_ge cap (len + k) with r | r
                    · exact r
                    · rw [Nat.ble_eq_true_of_le r] at hq; cases hq
                  obtain ⟨old, os, fp1, a1, a2, a3, a4, a5⟩ := readSrc_run (P := K.P) (s := some (b, off)) (len := len) hR (show SrcCv π (some (b, off)) len _ from ⟨p, cap, hp, rfl⟩) h
                  obtain ⟨new, us, fp', h1, h2, h3, h4, h5⟩ := readSrc_run (P := K.P) hR hsc a1
                  have := appendNew_run h1
                  subst this
                  exact grown_rel (ty := ty) (ts := ts) hR (hf1 rfl) hu hu' hi hz c3 c2 hyv hlt hl' c1 a5 h5 a2 h2 a3 h3
                · have hle := Nat.le_of_ble_eq_true hq
                  obtain ⟨new, us, fp', h1, h2, h3, h4, h5⟩ := readSrc_run (P := K.P) hR hsc h
                  split at h1
                  · exact (fail_run h1).elim
                  · rename_i pp ps
                    obtain ⟨blk, fp2, hb, hk, _⟩ := read_run h1
                    cases hw : blk.wr <;> simp only [hw, cond_true, cond_false] at hk
                    · exact (fail_run hk).elim
                    · split at hk
                      · rename_i gs hput
                        cases hk
                        obtain ⟨w', s1, s2⟩ := store_run (P := K.P) hR hb hp hw h2 h4 (by simp) hput
                        refine ⟨_, w', π, append_fits (ts := ts) (ty := ty) hu hu' hi hyv hle (h5 w rfl) ?_, π.le_refl, ⟨p, hp, rfl⟩, s2⟩
                        rw [addr_add, Nat.add_assoc]; exact s1
                      · exact (fail_run hk).elim
            · rename_i b off len
              cases hl : Nat.ble (len + k) appendLimit <;> simp only [hl, cond_true, cond_false] at h
              · exact (fail_run h).elim
              · have hl' : len + k ≤ 1000000 := Nat.le_of_ble_eq_true hl
                have hxe : x = .s (.osl b off len i.size) := by
                  unfold dstOf at hd
                  split at hd
                  · cases hd
                  · cases hd
                  · rename_i z
                    cases hq : Nat.beq z i.size <;> simp only [hq, cond_true, cond_false] at hd <;> cases hd
                    rw [Nat.eq_of_beq_eq_true hq]
                  · cases hd
                subst hxe
                obtain ⟨p, c, hp, hcz, hlc, rfl⟩ := hx
                rw [szOf_ne c2] at hcz
                obtain ⟨blk, fp1, hb, hk, _⟩ := read_run h
                split at hk
                · rename_i pre old hhv
                  cases hw : (blk.wr && Nat.beq (segsSize blk.gs) (off + len * i.size) && solidSegs old) <;> simp only [hw, cond_true, cond_false] at hk
                  · exact (fail_run hk).elim
                  · simp only [Bool.and_eq_true] at hw
                    obtain ⟨⟨w1, w2⟩, w3⟩ := hw
                    have w2 := Nat.eq_of_beq_eq_true w2
                    obtain ⟨new, us, fp', h1, h2, h3, h4, h5⟩ := readSrc_run (P := K.P) hR hsc hk
                    have := appendNew_run h1
                    subst this
                    have hfr := hf1 rfl
                    obtain ⟨p', vs, T, fz, f1, f2, f4⟩ := hR.blk b blk hb
                    rw [hp] at f1; cases f1
                    obtain ⟨f5, f6⟩ := f4 w1
                    subst f5
                    have hb1 := f2.2.1
                    have hb2 := f2.2.2.1
                    have hne : b ≠ fresh := fun q => by subst q; rw [hb] at hfr; cases hfr
                    obtain ⟨q1, q2, q3, q4⟩ := halves_cv hhv w2 f2.2.2.2
                    have hcl : (cut p (segsSize blk.gs) vs).length = segsSize blk.gs := cut_length (by omega)
                    have hol : ((cut p (segsSize blk.gs) vs).drop off).length = len * i.size := by rw [List.length_drop, hcl]; omega
                    by_cases hroom : len + k ≤ c
                    · have hmul : (len + k) * i.size ≤ c * i.size := Nat.mul_le_mul_right _ hroom
                      have hfit : p.base + segsSize blk.gs + us.length ≤ vs.length := by rw [h3]; rw [Nat.add_mul] at hmul; omega
                      have hst := run_storeCells_at K.P p.n (p.base + segsSize blk.gs) T us 0 vs.toArray w f2.1 (by simp; omega) h4
                      have hjc := segsCv_append f2.2.2.2 h2
                      have hjs : segsSize (blk.gs ++ new) = segsSize blk.gs + us.length := by rw [← segsCv_length hjc]; simp [hcl]
                      have hwr := hR.write (vs := splice vs (p.base + segsSize blk.gs) us) (gs := blk.gs ++ new) hb w1 hp f2.1 (splice_length (by omega)) (splice_take (by omega) (by omega)) (by omega)
                        (by rw [hjs, cut_grow hfit]; exact hjc)
                      have hjo : segsSize (joinSegs old new) = len * i.size + us.length := by rw [← segsCv_length (joinSegs_cv q3 h2)]; simp [hol]
                      obtain ⟨g1, g2⟩ := hwr.move (fresh := fresh) (b := b) (gs := blk.gs ++ new) (pre := pre) (old := joinSegs old new) (off := off) (by simp [updM]) hp (by simp [updM, Ne.symm hne, hfr]) q2
                        (by rw [hjs, hjo]; omega)
                        (by
                          intro us' hus'
                          obtain ⟨a, b', rfl, ha, hb'⟩ := segsCv_split hus'
                          have hal := segsCv_length ha
                          obtain ⟨r1, r2, r3, _⟩ := halves_cv hhv w2 ha
                          constructor
                          · rw [List.take_append_of_le_length (by omega)]; exact r1
                          · rw [List.drop_append_of_le_length (by omega)]; exact joinSegs_cv r3 hb')
                      rw [updM_twice] at g2
                      refine ⟨.slice (some ⟨p.n, p.base + off, none⟩) (len + k) c, _, _, append_fits (ts := ts) (ty := ty) hu hu' hi hyv hroom (h5 w rfl) ?_, g1, ⟨⟨p.n, p.base + off, p.z⟩, c, by simp [updL], by rw [szOf_ne c2]; show p.base + off + 0 + c * i.size ≤ p.z; omega, hroom, rfl⟩, g2⟩
                      rw [addr_add, show p.base + off + len * i.size = p.base + segsSize blk.gs by omega, hst]
                      simp [splice]
                    · have hold : ∀ W : World, W.heap = w.heap → (Builtin.firstCells i.size len (.slice (some ⟨p.n, p.base + off, none⟩) len c)).run K.P W = .ok ((cut p (segsSize blk.gs) vs).drop off).toArray W := by
                        intro W hW
                        simp only [Builtin.firstCells]
                        rw [run_cells (o := p.base + off) (w := W) (by rw [hW]; exact f2.1) (by right; omega)]
                        rw [cut_drop]
                        unfold cut
                        rw [w2, Nat.add_sub_cancel_left]
                      exact grown_rel (ty := ty) (ts := ts) (hR.halve hb w1 (pre := pre) (by omega) fun us' hus' => (halves_cv hhv w2 hus').1) (by show updM m b _ fresh = none; simp [updM, Ne.symm hne, hfr]) hu hu' hi hz c3 c2 hyv (by omega) hl' c1 hold h5 q3 h2 hol h3
                · exact (fail_run hk).elim
      · exact (fail_run h).elim
    · have hk := Nat.eq_of_beq_eq_true hk0
      subst hk
      obtain ⟨a', c', rfl⟩ := hyv
      have zero : ∀ a len cap, xv = .slice a len cap → len ≤ cap → (Builtin.append_ (t :: t' :: ts).toArray ty #[xv, .slice a' 0 c']).run K.P w = .ok xv w := by
        rintro a len cap rfl hle
        have e1 : (Builtin.firstCells i.size 0 (.slice a' 0 c')).run K.P w = .ok #[] w := by
          cases a' with
          | none => rfl
          | some a' => simp only [Builtin.firstCells, Nat.zero_mul]; rfl
        cases a with
        | none => simp [Builtin.append_, run_underlying hu, run_underlying hu', Builtin.lenOf, run_size hi, hle, e1]
        | some a =>
          have e2 : ∀ A, (storeCells A [] 0).run K.P w = .ok () w := fun A => rfl
          simp [Builtin.append_, run_underlying hu, run_underlying hu', Builtin.lenOf, run_size hi, hle, e1, e2]
      unfold appendNone at h
      split at h
      · have := okV_run h; subst this
        exact Res.pure hR (zero none 0 0 hx (Nat.le_refl _)) hx
      · have := okV_run h; subst this
        obtain ⟨a, c, e⟩ := hx
        exact Res.pure hR (zero a 0 c e (Nat.zero_le _)) ⟨a, c, e⟩
      · have := okV_run h; subst this
        have hx' := hx
        obtain ⟨p, c, _, _, hle, e⟩ := hx'
        exact Res.pure hR (zero _ _ c e hle) hx
      · rename_i len cap
        cases hq : Nat.ble len cap <;> simp only [hq, cond_true, cond_false] at h
        · exact (fail_run h).elim
        · have := okV_run h; subst this
          have hx' := hx
          obtain ⟨p, _, e⟩ := hx'
          exact Res.pure hR (zero _ _ _ e (Nat.le_of_ble_eq_true hq)) hx
      · exact (fail_run h).elim
  · exact (fail_run h).elim
/-- Zeros are appended to a slice without room for them. -/
theorem getSegs_all {n : Nat} {l : List (BitVec 8)} (h : n ≠ 0) : getSegs [.b8 n l] 0 (n * 1) = some [.b8 n l] := by
  rw [Nat.mul_one]
  unfold getSegs
  have h1 : Nat.beq n 0 = false := by cases q : Nat.beq n 0; rfl; exact absurd (Nat.eq_of_beq_eq_true q) h
  have h2 : Nat.ble (Seg.b8 n l).size 0 = false := by cases q : Nat.ble (Seg.b8 n l).size 0; rfl; have := Nat.le_of_ble_eq_true q; have : n ≤ 0 := this; omega
  have h3 : Nat.min n ((Seg.b8 n l).size - 0) = n := Nat.min_self _
  have h4 : Nat.ble (0 + n) n = true := Nat.ble_eq_true_of_le (by omega)
  have h5 : Nat.beq n n = true := Nat.beq_refl _
  simp only [h1, h2, cond_false, h3, Seg.sub, h4, h5, cond_true, Nat.sub_self]
  rfl

theorem readSrc_all {α : Type} {b n : Nat} {blk : Blk} {l : List (BitVec 8)} {k : List Seg → Rd α} {r : α} {fp : List Nat} (hn : n ≠ 0) (hb : m b = some blk) (hg : blk.gs = [.b8 n l]) (hk : (k [.b8 n l]).run m = some (r, fp)) :
    (readSrc (some (b, 0)) (n * 1) k).run m = some (r, b :: fp) := by
  unfold readSrc
  have h1 : Nat.beq (n * 1) 0 = false := by cases q : Nat.beq (n * 1) 0; rfl; have := Nat.eq_of_beq_eq_true q; omega
  simp only [h1, cond_false, Rd.run, hb, hg, getSegs_all hn]
  have : solidSegs [.b8 n l] = true := rfl
  simp only [this, cond_true, hk]
  try rfl

theorem appendS_eq {t : TypeId} {x : V} {b n : Nat} {blk : Blk} {l : List (BitVec 8)} (hx : bareB x = true) (h8 : isB8 K.P t = true) (hb : m b = some blk) (hg : blk.gs = [.b8 n l]) (hn : n ≠ 0) (hl : n ≤ appendLimit) :
    ∃ fp, (aappend K fresh t x (.s (.osl b 0 n 1))).run m = some (⟨.s (.osl fresh 0 n 1), [[.b8 n l]], none, []⟩, fp) := by
  unfold isB8 at h8
  split at h8
  · rename_i e sz hty
    split at h8
    · rename_i i hi
      split at h8
      · rename_i zv hz
        simp only [Bool.and_eq_true] at h8
        obtain ⟨c1, c2, c3⟩ := h8
        have c2' := Nat.eq_of_beq_eq_true c2
        subst c2'
        have hn0 : Nat.beq n 0 = false := by cases q : Nat.beq n 0; rfl; exact absurd (Nat.eq_of_beq_eq_true q) hn
        have hl' : Nat.ble n appendLimit = true := Nat.ble_eq_true_of_le hl
        have hl0 : Nat.ble (0 + n) appendLimit = true := by rw [Nat.zero_add]; exact hl'
        have hk : ∀ k : Nat, k = n → (appendNew fresh 1 k none [] [.b8 n l]).run m = some (⟨.s (.osl fresh 0 n 1), [[.b8 n l]], none, []⟩, []) := by intro k e; subst e; rfl
        unfold bareB at hx
        split at hx
        · refine ⟨[b], ?_⟩
          unfold aappend
          simp only [hty, srcOf, hn0, cond_false, hi, dstOf, hz, c1, c3, Bool.true_and, Bool.and_true, hl', cond_true]
          exact readSrc_all hn hb hg (hk n rfl)
        · refine ⟨[b], ?_⟩
          unfold aappend
          have h00 : Nat.ble (0 + n) 0 = false := by cases q : Nat.ble (0 + n) 0; rfl; have := Nat.le_of_ble_eq_true q; omega
          simp only [hty, srcOf, hn0, cond_false, hi, dstOf, hz, c1, c3, Bool.true_and, Bool.and_true, hl0, cond_true, h00]
          exact readSrc_all hn hb hg (hk (0 + n) (by omega))
        · cases hx
      · cases h8
    · cases h8
  · cases h8

theorem s_appendS {t t' : TypeId} {ts : List TypeId} {x y : V} {xv yv : Value} {ty : TypeId} {e2 : TypeId × Nat} {ans : Option Bool} (hty' : tySlice K.P t' = some e2) (hR : Rel G π m w0 w) (hx : x.cv π xv) (hy : y.cv π yv)
    (h : (aappendS K ans fresh t x y).run m = some (out, fp)) (ho : ObsOk out.obs) (hf : ∀ j, j < out.news.length → m (fresh + j) = none) :
    Res G K.P π m w0 fresh out (Builtin.append_ (t :: t' :: ts).toArray ty #[xv, yv]) w := by
  unfold aappendS at h
  split at h
  · rename_i b n
    cases hc : (bareB x && isB8 K.P t) <;> simp only [hc, cond_true, cond_false] at h
    · exact (fail_run h).elim
    simp only [Bool.and_eq_true] at hc
    obtain ⟨blk, fp1, hb, hk, _⟩ := read_run h
    split at hk
    · rename_i q l hg
      cases hk
      have ht : decide (n = q ∧ n ≠ 0 ∧ n ≤ appendLimit) = true := ho (_, true) (List.mem_singleton.2 rfl)
      obtain ⟨rfl, hn, hl⟩ := of_decide_eq_true ht
      obtain ⟨fp', he⟩ := appendS_eq (fresh := fresh) hc.1 hc.2 hb hg hn hl
      obtain ⟨rv, w', π', g1, g2, g3, g4⟩ := s_append (ty := ty) (ts := ts) hty' hR hx (y := .s (.osl b 0 n 1)) hy he hf
      exact ⟨rv, w', π', g1, g2, g3, g4⟩
    · exact (fail_run hk).elim
  · exact (fail_run h).elim

theorem appendZ_grows {t t' ty e : TypeId} {kk : IntKind} {ts : List TypeId} {i : TypeInfo} {zv : Value} {a : Option Addr} {len cap k : Nat} {kx : IntKind} {os : List Value} (hu : P.underlying t = some (.slice e)) (hu' : P.underlying t' = some (.int kk))
    (hi : P.info? e = some i) (hz : i.zero = some zv) (hfit : cap < len + k) (hsmall : len + k ≤ 1000000) (hb : i.bytes ≤ 64) (hk : k * i.size ≠ 0)
    (h0 : ∀ W : World, W.heap = w.heap → (Builtin.firstCells i.size len (.slice a len cap)).run P W = .ok os.toArray W) :
    (Builtin.append_ (t :: t' :: ts).toArray ty #[.slice a len cap, .int kx (k : Int)]).run P w =
      .ok (.slice (some ⟨w.heap.size, 0, none⟩) (len + k) (roomOf w (len + k) cap e))
        (w.drew.alloc (.cells (os ++ ((Builtin.zeroCells zv.cells k).toList ++ (Builtin.zeroCells zv.cells (roomOf w (len + k) cap e - (len + k))).toList)).toArray e)) := by
  have g1 : ¬ (len + k ≤ cap) := by omega
  have g2 : Builtin.nextslicecap (len + k) cap * i.bytes ≤ 281474976710656 := growslice_fits hfit (by
    have : (len + k) * i.bytes ≤ 1000000 * 64 := Nat.mul_le_mul hsmall hb
    omega)
  have e0 := h0 w.drew rfl
  have hzv : ∀ W, (zeroValue e).run P W = .ok zv W := fun W => by simp [zeroValue, run_info hi, hz]
  have hcut : (Question.appendCap (len + k) cap e).cut (w.tape w.drawn (Question.appendCap (len + k) cap e)) = roomOf w (len + k) cap e := rfl
  have wk : IntKind.i64.wrap (k : Int) = (k : Int) := by rw [IntKind.wrap_i64]; omega
  have hkb : ¬ (281474976710656 < (k : Int) * (i.bytes : Int)) := by
    have : k * i.bytes ≤ 1000000 * 64 := Nat.mul_le_mul (by omega) hb
    have h2 : ((k * i.bytes : Nat) : Int) ≤ 281474976710656 := by omega
    rw [Int.natCast_mul] at h2
    omega
  simp [Builtin.append_, run_underlying hu, run_underlying hu', asInt, asIntOf, run_size hi, run_info hi, wk, g1, hzv, newRow, hkb, hk]
  rw [if_neg (by omega), if_neg (by omega), if_neg (by omega), if_neg (by simp [Question.forced]), e0]
  simp only [Result.andThen_ok, hcut]
  congr 2
  congr 1
  apply Array.ext'
  simp

theorem s_appendZ {t t' : TypeId} {ts : List TypeId} {x y : V} {xv yv : Value} {ty : TypeId} (hR : Rel G π m w0 w) (hx : x.cv π xv) (hy : y.cv π yv)
    (h : (aappendZ K fresh t t' x y).run m = some (out, fp)) (hf : ∀ j, j < out.news.length → m (fresh + j) = none) :
    Res G K.P π m w0 fresh out (Builtin.append_ (t :: t' :: ts).toArray ty #[xv, yv]) w := by
  unfold aappendZ at h
  split at h
  · rename_i b off len cap ys e sz kk hty hu'
    obtain ⟨hu, i, hi, rfl⟩ := tySlice_some hty
    split at h
    · rename_i k z i' hk hz hi'
      rw [hi] at hi'; cases hi'
      obtain ⟨kx, rfl⟩ := scNat_cv hk hy
      obtain ⟨it, zv, hit, hzv, hcz⟩ := zeroSegs_cv (π := π) hz
      rw [hi] at hit; cases hit
      cases hc : (Nat.blt cap (len + k) && (Nat.ble (len + k) appendLimit && (!(Nat.beq (k * i.size) 0) && (zeroElemOk z && (Nat.beq (segsSize z) i.size && (!(Nat.beq len 0) && Nat.ble i.bytes 64)))))) <;> simp only [hc, cond_true, cond_false] at h
      · exact (fail_run h).elim
      · simp only [Bool.and_eq_true, Bool.not_eq_true'] at hc
        obtain ⟨c0, c1, c2, c3, c4, c5, c6⟩ := hc
        have c0 : cap < len + k := Nat.le_of_ble_eq_true c0
        have c1 : len + k ≤ 1000000 := Nat.le_of_ble_eq_true c1
        have c4 := Nat.eq_of_beq_eq_true c4
        have c6 := Nat.le_of_ble_eq_true c6
        have c2 : k * i.size ≠ 0 := fun e => by rw [e] at c2; cases c2
        have hzl := segsCv_length hcz
        have hsz : zv.cells.size = i.size := by rw [← Array.length_toList, hzl, c4]
        split at h
        · rename_i g hg
          obtain ⟨p, hp, rfl⟩ := hx
          have hg' := zeroRow_cv hcz hg (by rw [hzl, c4]; exact c2)
            (by rintro x rfl; simp only [zeroElemOk, beq_iff_eq] at c3; exact BitVec.eq_of_toNat_eq (by simpa using c3))
            (by rintro k x rfl; simpa [zeroElemOk] using c3)
            (by rintro k l rfl; simpa [zeroElemOk] using c3)
          obtain ⟨old, os, fp1, a1, a2, a3, a4, a5⟩ := readSrc_run (P := K.P) (s := some (b, off)) (len := len) hR (show SrcCv π (some (b, off)) len _ from ⟨p, cap, hp, rfl⟩) h
          have := appendNew_run a1
          subst this
          have hrun := appendZ_grows (P := K.P) (ty := ty) (ts := ts) (kx := kx) hu hu' hi hzv c0 c1 c6 c2 a5
          have hnew : segsCv π [g] (Builtin.zeroCells zv.cells k).toList := ⟨_, [], (List.append_nil _).symm, by
            rw [hzl, c4] at hg'
            simp only [Builtin.zeroCells, hsz]
            simpa using hg', rfl⟩
          rw [← List.append_assoc] at hrun
          obtain ⟨g1, g2⟩ := hR.drew.allocRow (hf 0 (by simp)) (joinSegs_cv a2 hnew) (Builtin.zeroCells zv.cells (roomOf w (len + k) cap e - (len + k))).toList e
          have hge := roomOf_ge w (len + k) cap e
          refine ⟨_, _, _, hrun, g1, ⟨⟨w.heap.size, 0, _⟩, roomOf w (len + k) cap e, by simp [updL]; rfl, ?_, hge, rfl⟩, g2⟩
          rw [szOf_ne (fun q => c2 (by rw [q, Nat.mul_zero]))]
          simp only [zeroCells_size, a3, hsz, Nat.zero_add]
          rw [← Nat.add_mul, ← Nat.add_mul]
          exact Nat.le_of_eq (by congr 1; omega)
        · exact (fail_run h).elim
    · exact (fail_run h).elim
  · exact (fail_run h).elim
end
end Go.Mo


namespace Go.Mo
open Go Go.RowKit

def ext (π : Loc) (fresh : Nat) : List Pl → Loc
  | [] => π
  | n :: ns => ext (updL π fresh n) (fresh + 1) ns

theorem ext_spec : ∀ (ns : List Pl) (π : Loc) (fresh i : Nat), ext π fresh ns i = if fresh ≤ i ∧ i < fresh + ns.length then ns[i - fresh]? else π i
  | [], π, fresh, i => by
    simp only [ext, List.length_nil]
    rw [if_neg (by omega)]
  | n :: ns, π, fresh, i => by
    simp only [ext, List.length_cons]
    rw [ext_spec ns]
    by_cases h : i = fresh
    · subst h
      rw [if_neg (by omega), if_pos (by omega)]
      simp [updL]
    · by_cases h2 : fresh + 1 ≤ i ∧ i < fresh + 1 + ns.length
      · rw [if_pos h2, if_pos (by omega), show i - fresh = (i - (fresh + 1)) + 1 by omega]
        rfl
      · rw [if_neg h2, if_neg (by omega)]
        simp [updL, h]

theorem newsM_spec : ∀ (ns : List (List Seg)) (m : Nat → Option Blk) (fresh i : Nat),
    newsM m fresh ns i = if fresh ≤ i ∧ i < fresh + ns.length then (ns[i - fresh]?).map (⟨·, true⟩) else m i
  | [], m, fresh, i => by
    simp only [newsM, List.length_nil]
    rw [if_neg (by omega)]
  | n :: ns, m, fresh, i => by
    simp only [newsM, List.length_cons]
    rw [newsM_spec ns]
    by_cases h : i = fresh
    · subst h
      rw [if_neg (by omega), if_pos (by omega)]
      simp [updM]
    · by_cases h2 : fresh + 1 ≤ i ∧ i < fresh + 1 + ns.length
      · rw [if_pos h2, if_pos (by omega), show i - fresh = (i - (fresh + 1)) + 1 by omega]
        rfl
      · rw [if_neg h2, if_neg (by omega)]
        simp [updM, h]

/-- What the blocks that a call was told of hold. -/
def MemRel (π : Loc) (m : Nat → Option Blk) (w : World) : Prop :=
  ∀ i b, m i = some b → ∃ p vs T fz, π i = some p ∧ Holds π p b.gs w vs T fz

/-- What a call leaves behind: its value, new blocks, all that was there as it was. -/
structure Post (π : Loc) (fresh : Nat) (v : V) (news : List (List Seg)) (w w' : World) (rv : Value) (ns : List Pl) : Prop where
  len : ns.length = news.length
  nodup : (ns.map (·.n)).Nodup
  new : ∀ p ∈ ns, w.heap.size ≤ p.n
  below : Below w.heap.size w w'
  cv : v.cv (ext π fresh ns) rv
  blk : ∀ (j : Nat) (p : Pl) (gs : List Seg), ns[j]? = some p → news[j]? = some gs → ∃ (vs : List Value) (T : TypeId), Holds (ext π fresh ns) p gs w' vs T (0, 0)

def argsCv (π : Loc) : List V → List Value → Prop
  | [], vs => vs = []
  | a :: r, vs => ∃ v vr, vs = v :: vr ∧ a.cv π v ∧ argsCv π r vr

def enters (P : Program) (f : Nat) : Prop := ∃ fn, P.funcs[f]? = some fn ∧ fn.body.isSome = true ∧ (fn.name == "runtime.NumGoroutine") = false

/-- The contract: function f, called with these arguments where the memory reads as m, hands back v and the new blocks. -/
def Fits (G : Gl) (P : Program) (f : Nat) (args : List V) (fresh : Nat) (m : Nat → Option Blk) (v : V) (news : List (List Seg)) : Prop :=
  enters P f ∧ ∀ (π : Loc) (w : World) (vargs : List Value), MemRel π m w → G.g < w.heap.size → w.heap[G.g]? = some G.obj → argsCv π args vargs → (∀ j, j < news.length → π (fresh + j) = none) →
    Calls P f vargs.toArray w (fun e w' => ∃ rv ns, e = .returned rv ∧ Post π fresh v news w w' rv ns)

def AskOk (G : Gl) (K : Cx) : Prop :=
  ∀ f r, K.ask f = some r → ∀ args fresh m b x y fp, (r args fresh).run m = some ((b, x, y), fp) → (K.strict f = true → b = true) → Fits G K.P f args fresh m (bif b then x.1 else y.1) (bif b then x.2 else y.2)

def EnvOk (G : Gl) (K : Cx) : Prop := AskOk G K ∧
  ∀ f args fresh m v news fp, (K.env f args fresh).run m = some ((v, news), fp) → ObsOk (K.obl f args) → Fits G K.P f args fresh m v news

section
variable {G : Gl} {K : Cx} {π : Loc} {m : Nat → Option Blk} {w0 w : World} {fresh : Nat} {out : Out} {fp : List Nat} {P : Program}

theorem Rel.mem (h : Rel G π m w0 w) : MemRel π m w := fun i b hi =>
  let ⟨p, vs, T, fz, e1, e2, _⟩ := h.blk i b hi
  ⟨p, vs, T, fz, e1, e2⟩

theorem Rel.call {v : V} {news : List (List Seg)} {w' : World} {rv : Value} {ns : List Pl} (h : Rel G π m w0 w) (hf : ∀ j, j < news.length → m (fresh + j) = none)
    (hp : Post π fresh v news w w' rv ns) : π.le (ext π fresh ns) ∧ Rel G (ext π fresh ns) (newsM m fresh news) w0 w' := by
  have hle : π.le (ext π fresh ns) := by
    intro i n hi
    rw [ext_spec]
    split
    · rename_i hc
      have := h.dom i (by have := hf (i - fresh) (by rw [← hp.len]; omega); rwa [show fresh + (i - fresh) = i by omega] at this)
      rw [hi] at this; cases this
    · exact hi
  have hold : ∀ n, n < w.heap.size → w'.heap[n]? = w.heap[n]? := fun n hn => hp.below.block n hn
  have hinside : ∀ i p, fresh ≤ i ∧ i < fresh + ns.length → ext π fresh ns i = some p → ns[i - fresh]? = some p ∧ w.heap.size ≤ p.n := by
    intro i p hi he
    rw [ext_spec, if_pos hi] at he
    exact ⟨he, hp.new p (List.mem_of_getElem? he)⟩
  have hout : ∀ i p, ¬ (fresh ≤ i ∧ i < fresh + ns.length) → ext π fresh ns i = some p → π i = some p ∧ p.n < w.heap.size := by
    intro i p hi he
    rw [ext_spec, if_neg hi] at he
    exact ⟨he, h.lt he⟩
  have hb : Below w0.heap.size w0 w' := h.below.trans (hp.below.mono h.below.size)
  refine ⟨hle, ⟨?_, ?_, ?_, ?_, h.globOld, hb, Loc.le_trans h.base hle, fun w1 e => (h.oth w1 e).trans (.old hp.below.size hold)⟩⟩
  · intro i b hi
    rw [newsM_spec] at hi
    split at hi
    · rename_i hc
      rw [Option.map_eq_some_iff] at hi
      obtain ⟨gs, hgs, rfl⟩ := hi
      have hlt : i - fresh < ns.length := by have := hp.len; omega
      obtain ⟨vs, T, h1⟩ := hp.blk (i - fresh) ns[i - fresh] gs (by simp [hlt]) hgs
      have hn : w.heap.size ≤ (ns[i - fresh]).n := hp.new _ (List.getElem_mem hlt)
      refine ⟨ns[i - fresh], vs, T, (0, 0), ?_, h1, fun _ => ⟨rfl, Nat.le_trans h.below.size hn⟩⟩
      rw [ext_spec, if_pos (by have := hp.len; omega)]; simp [hlt]
    · obtain ⟨p, vs, T, fz, e1, e2, e4⟩ := h.blk i b hi
      exact ⟨p, vs, T, fz, hle _ _ e1, e2.mono hle (hold p.n e2.lt), e4⟩
  · intro i j p q bi bj hne hi hj pi pj hpq hwr
    rw [newsM_spec] at hi hj
    by_cases ci : fresh ≤ i ∧ i < fresh + ns.length <;> by_cases cj : fresh ≤ j ∧ j < fresh + ns.length
    · exfalso
      obtain ⟨a1, _⟩ := hinside i p ci pi
      obtain ⟨b1, _⟩ := hinside j q cj pj
      have e1 : (ns.map (·.n))[i - fresh]? = some p.n := by simp [a1]
      have e2 : (ns.map (·.n))[j - fresh]? = some q.n := by simp [b1]
      rw [hpq] at e1
      have := (List.getElem?_inj (by simp; omega) hp.nodup).1 (e1.trans e2.symm)
      omega
    · have := (hinside i p ci pi).2
      have := (hout j q cj pj).2
      omega
    · have := (hinside j q cj pj).2
      have := (hout i p ci pi).2
      omega
    · rw [if_neg (by rw [← hp.len]; exact ci)] at hi
      rw [if_neg (by rw [← hp.len]; exact cj)] at hj
      exact h.inj i j p q bi bj hne hi hj (hout i p ci pi).1 (hout j q cj pj).1 hpq hwr
  · intro i hi
    rw [newsM_spec] at hi
    rw [ext_spec]
    split at hi
    · rename_i hc
      rw [Option.map_eq_none_iff] at hi
      simp at hi; omega
    · rename_i hc
      rw [if_neg (by rw [hp.len]; exact hc)]; exact h.dom i hi
  · rw [hold _ (Array.getElem?_eq_some_iff.1 h.glob).1]; exact h.glob

theorem rdOut_run {ob : List (Bool × Bool)} : ∀ {r : Rd (V × List (List Seg))} {out : Out} {fp : List Nat}, (rdOut ob r).run m = some (out, fp) →
    ∃ v news, r.run m = some ((v, news), fp) ∧ out = ⟨v, news, none, ob⟩
  | .pure (v, news), _, _, h => by cases h; exact ⟨v, news, rfl, rfl⟩
  | .read id k, out, fp, h => by
    simp only [rdOut] at h
    obtain ⟨b, fp', hb, hk, rfl⟩ := read_run h
    obtain ⟨v, news, h1, h2⟩ := rdOut_run hk
    exact ⟨v, news, by simp [Rd.run, hb, h1], h2⟩
  | .fail, _, _, h => by cases h

theorem rdAsk_run {c : Bool} : ∀ {r : Rd (Bool × (V × List (List Seg)) × (V × List (List Seg)))} {out : Out} {fp : List Nat}, (rdAsk c r).run m = some (out, fp) → ObsOk out.obs →
    ∃ b x y, r.run m = some ((b, x, y), fp) ∧ b = c ∧ out.v = (bif b then x.1 else y.1) ∧ out.news = (bif b then x.2 else y.2) ∧ out.wr = none
  | .pure (b, x, y), out, fp, h, ho => by
    cases c
    · cases h
      have : b = false := ho (b, false) (by simp)
      subst this
      exact ⟨false, x, y, rfl, rfl, rfl, rfl, rfl⟩
    · cases h
      have : b = true := ho (b, true) (by simp)
      subst this
      exact ⟨true, x, y, rfl, rfl, rfl, rfl, rfl⟩
  | .read id k, out, fp, h, ho => by
    simp only [rdAsk] at h
    obtain ⟨b, fp', hb, hk, rfl⟩ := read_run h
    obtain ⟨v, x, y, h1, h2⟩ := rdAsk_run hk ho
    exact ⟨v, x, y, by simp [Rd.run, hb, h1], h2⟩
  | .fail, _, _, h, _ => by cases h

theorem argsCv_append : ∀ {a b : List V} {u v : List Value}, argsCv π a u → argsCv π b v → argsCv π (a ++ b) (u ++ v)
  | [], _, _, _, e, k => by subst e; exact k
  | _ :: _, _, _, v, ⟨x, r, e, h1, h2⟩, k => ⟨x, r ++ v, by subst e; rfl, h1, argsCv_append h2 k⟩

theorem argsCv_map {ev : Operand → V} {ρ : Operand → Value} (hev : ∀ x, (ev x).cv π (ρ x)) : ∀ (l : List Operand), argsCv π (l.map ev) (l.map ρ)
  | [] => rfl
  | x :: r => ⟨ρ x, r.map ρ, rfl, hev x, argsCv_map hev r⟩

theorem capArgs_cv : ∀ {caps : List (Nat × Nat)} {vs : List Value}, capsCv π caps vs → argsCv π (capArgs caps) vs
  | [], _, e => e
  | (_, _) :: _, _, ⟨n, vr, hn, e, h⟩ => ⟨_, vr, e, ⟨n, hn, rfl⟩, capArgs_cv h⟩

theorem args1 {args : Array Operand} {ev : Operand → V} {x : V} (h : args.toList.map ev = [x]) : ∃ o, args = #[o] ∧ ev o = x := by
  obtain ⟨l⟩ := args
  match l, h with
  | [o], h => simp at h; exact ⟨o, rfl, h⟩

theorem args2 {args : Array Operand} {ev : Operand → V} {x y : V} (h : args.toList.map ev = [x, y]) : ∃ o p, args = #[o, p] ∧ ev o = x ∧ ev p = y := by
  obtain ⟨l⟩ := args
  match l, h with
  | [o, p], h => simp at h; exact ⟨o, p, rfl, h.1, h.2⟩

theorem buildSlice_news {ev : Operand → V} {t : TypeId} {len : Nat} {parts : List (Nat × Operand)} (h : (abuildSlice K fresh ev t len parts).run m = some (out, fp)) : out.news.length = 1 := by
  unfold abuildSlice at h
  split at h
  · rename_i e sz hty
    cases h0 : Nat.beq len 0 <;> simp only [h0, cond_true, cond_false] at h
    · split at h
      · rename_i z hz
        cases hc : (Nat.ble (len * sz) 16777216 && !(Nat.beq (len * sz) 0) && zeroElemOk z && Nat.beq (segsSize z) sz) <;> simp only [hc, cond_true, cond_false] at h
        · exact (fail_run h).elim
        · split at h
          · split at h
            · cases h; rfl
            · exact (fail_run h).elim
          · exact (fail_run h).elim
      · exact (fail_run h).elim
    · split at h
      · cases h; rfl
      · exact (fail_run h).elim
  · exact (fail_run h).elim

/-- Every operation. -/
theorem aop_wp (hE : EnvOk G K) {ans : Option Bool} {o : Oper} {a : Act} {ev : Operand → V} {next : Act → World → Prop} {Q : Exit → Act → World → Prop}
    (hR : Rel G π m w0 w) (hev : ∀ x, (ev x).cv π (a.eval x)) (h : (aop K ans fresh ev o).run m = some (out, fp)) (ho : ObsOk out.obs)
    (hf : ∀ j, j < out.news.length → m (fresh + j) = none)
    (hk : ∀ rv w' π', π.le π' → out.v.cv π' rv → Rel G π' (effM m fresh out) w0 w' → next (a.put o.dst rv) w') : o.wp K.P a w next Q := by
  have val : ∀ (s : Sem Value), (execOp a.eval o = do pure (.value (← s))) → Res G K.P π m w0 fresh out s w → o.wp K.P a w next Q := by
    intro s hs ⟨rv, w', π', h1, h2, h3, h4⟩
    unfold Oper.wp
    rw [hs, Sem.run_bind, h1]
    exact hk rv w' π' h2 h3 h4
  have f0 : out.news.length = 1 → m fresh = none := fun e => hf 0 (by omega)
  unfold aop at h
  split at h
  · rename_i x ho'
    have := okV_run h; subst this
    exact val (Pure.pure (a.eval x)) (by simp only [execOp, ho']; rfl) (Res.pure hR rfl (hev x))
  · rename_i x ho'
    have := okV_run h; subst this
    exact val (Pure.pure (a.eval x)) (by simp only [execOp, ho']; rfl) (Res.pure hR rfl (hev x))
  · rename_i c x y ho'
    split at h
    · rename_i t hc
      have := okV_run h; subst this
      have hcv := hev c
      rw [hc] at hcv
      have hcv : a.eval c = .bool t := hcv
      refine val (do if ← asBool (a.eval c) then Pure.pure (a.eval x) else Pure.pure (a.eval y)) ?_ (Res.pure hR (rv := bif t then a.eval x else a.eval y) ?_ ?_)
      · simp only [execOp, ho', hcv]; cases t <;> rfl
      · rw [hcv]; cases t <;> rfl
      · cases t
        · exact hev y
        · exact hev x
    · exact (fail_run h).elim
  · rename_i t ho'
    split at h
    · rename_i gs hz
      refine val _ (by simp only [execOp, ho']) (s_alloc hR (f0 (by cases h; rfl)) hz h)
    · exact (fail_run h).elim
  · rename_i t x ho'
    refine val (Instr.box t (a.eval x)) (by simp only [execOp, ho']) (s_box hR (f0 ?_) (hev x) h)
    unfold abox at h
    split at h
    · cases h; rfl
    · exact (fail_run h).elim
  · rename_i t x ho'
    exact val _ (by simp only [execOp, ho']) (s_load hR (hev x) h)
  · rename_i t x y ho'
    obtain ⟨w', h1, h2, h3⟩ := s_store (fresh := fresh) hR (unpix_cv (hev x)) (hev y) h
    unfold Oper.wp
    simp only [execOp, ho', Sem.run_bind, h1, Result.andThen_ok, Sem.run_pure, Oper.upon]
    exact hk _ w' π π.le_refl (by rw [h2]; rfl) h3
  · rename_i x ho'
    split at h
    · rename_i b off hx
      have := okS_run h; subst this
      have hcv := hev x
      rw [hx] at hcv
      obtain ⟨n, hn, e⟩ := hcv
      refine val (Pure.pure (.pointer (some ⟨n.n, n.base + off, none⟩))) ?_ (Res.pure hR rfl ⟨n, hn, rfl⟩)
      simp only [execOp, ho', e]; rfl
    · exact (fail_run h).elim
  · rename_i op t x y yt ho'
    cases hbn : bothNil ev x y <;> simp only [hbn, cond_true, cond_false] at h
    · exact val _ (by simp only [execOp, ho']) (s_bin (ox := x) (oy := y) hR (hev x) (hev y) h ho)
    · unfold bothNil at hbn
      split at hbn
      · split at hbn
        · rename_i hx
          have hcv := hev x
          rw [hx] at hcv
          have hcv : a.eval x = .nilIface := hcv
          cases hp : isIfaceTy K.P t <;> simp only [hp, cond_true, cond_false] at h
          · exact (fail_run h).elim
          · obtain ⟨ms, hu⟩ := isIfaceTy_some hp
            obtain ⟨r, hr, rfl⟩ := okBool_run h
            refine val (do eqGuard op t x (.const .nilIface) (a.eval x) (a.eval (.const .nilIface)); binOp op t (a.eval x) (a.eval (.const .nilIface))) (by simp only [execOp, ho']) ?_
            rw [hcv]
            exact Res.pure hR (run_eql_iface hr (.inr (.inr (.inr ⟨rfl, rfl, rfl⟩))) (eqIn_nil_nil hu)) rfl
        · cases hbn
      · cases hbn
  · rename_i op t x ho'
    exact val _ (by simp only [execOp, ho']) (s_un hR (hev x) h)
  · rename_i s d x ho'
    exact val _ (by simp only [execOp, ho']) (s_conv hR (hev x) h)
  · rename_i fn first captured ho'
    exact val _ (by simp only [execOp, ho']) (s_makeFunc hR hev h)
  · rename_i t x lo hi mx ho'
    exact val _ (by simp only [execOp, ho']) (s_slice hR hev (hev x) h)
  · rename_i t x ho'
    exact val _ (by simp only [execOp, ho']) (s_toArr hR (hev x) h)
  · rename_i t x f ho'
    exact val _ (by simp only [execOp, ho']) (s_fieldAddr hR (hev x) h)
  · rename_i t x f ho'
    exact val _ (by simp only [execOp, ho']) (s_field hR (hev x) h)
  · rename_i t x ix ho'
    exact val _ (by simp only [execOp, ho']) (s_indexAddr hR (hev x) (hev ix) h)
  · rename_i t x ix ho'
    exact val _ (by simp only [execOp, ho']) (s_index hR (hev x) (hev ix) h)
  · rename_i x i ho'
    exact val _ (by simp only [execOp, ho']) (s_extract hR (hev x) h)
  · rename_i t parts ho'
    exact val _ (by simp only [execOp, ho']) (s_build hR hev h)
  · rename_i t len parts ho'
    exact val _ (by simp only [execOp, ho']) (s_buildSlice hR (f0 (buildSlice_news h)) hev h)
  · rename_i t x ho'
    exact val _ (by simp only [execOp, ho']) (s_makeIface hR (hev x) h)
  · rename_i t l c ho'
    exact val _ (by simp only [execOp, ho']) (s_makeSlice hR (f0 (makeSlice_news h)) (hev l) (hev c) h)
  · rename_i c ho'
    unfold acall at h
    split at h
    · rename_i f hc
      split at h
      · rename_i n caps hf'
        obtain ⟨hfit, hwr⟩ : Fits G K.P n (c.args.toList.map ev ++ capArgs caps) fresh m out.v out.news ∧ out.wr = none := by
          split at h
          · obtain ⟨v, news, h1, rfl⟩ := rdOut_run h
            exact ⟨hE.2 _ _ _ _ _ _ _ h1 ho, rfl⟩
          · rename_i r hask
            split at h
            · rename_i a
              cases hst : (K.strict n && !a) <;> simp only [hst, cond_true, cond_false] at h
              · obtain ⟨b, x, y, h1, e0, e1, e2, e3⟩ := rdAsk_run h ho
                rw [e1, e2]
                refine ⟨hE.1 _ _ hask _ _ _ _ _ _ _ h1 (fun hs => ?_), e3⟩
                rw [hs] at hst
                cases a
                · cases hst
                · exact e0
              · exact (fail_run h).elim
            · exact (fail_run h).elim
        obtain ⟨⟨fn, e1, e2, e3⟩, hcall⟩ := hfit
        have hcv := hev f
        rw [hf'] at hcv
        obtain ⟨vs, e4, e5⟩ := hcv
        have hargs := argsCv_append (argsCv_map hev c.args.toList) (capArgs_cv e5)
        have hc1 := hcall π w _ hR.mem (Array.getElem?_eq_some_iff.1 hR.glob).1 hR.glob hargs (fun j hj => hR.dom _ (hf j hj))
        have hx : (execOp a.eval o).run K.P w = .ok (.enter n (c.args.toList.map a.eval ++ vs).toArray) w := by
          have hn : ¬ fn.body = none := by intro q; rw [q] at e2; cases e2
          have e3' : ¬ fn.name = "runtime.NumGoroutine" := by simpa using e3
          simp [execOp, ho', resolve, hc, e4, Deferred.ofValue, invoke, callFunc, e1, e3', hn]
        unfold Oper.wp
        rw [hx]
        refine hc1.mono ?_
        rintro e w' ⟨rv, ns, rfl, hp⟩
        obtain ⟨g1, g2⟩ := hR.call hf hp
        refine hk rv w' _ g1 hp.cv ?_
        unfold effM
        rw [hwr]
        exact g2
      · exact (fail_run h).elim
    · rename_i b hc
      have bi : ∀ (s : Sem Value), (builtin b c.argTypes o.type (c.args.map fun | .const _ => true | _ => false) (c.args.map a.eval) = do pure (.value (← s))) →
          Res G K.P π m w0 fresh out s w → o.wp K.P a w next Q := by
        intro s hs hr
        refine val s ?_ hr
        rw [← hs]
        simp [execOp, ho', resolve, hc, invoke]
        rfl
      unfold abuiltin at h
      split at h
      · rename_i t ts x ht hx
        split at h
        · rename_i e hty
          obtain ⟨ox, e2, rfl⟩ := args1 hx
          refine bi (Builtin.len_ (t :: ts).toArray o.type #[a.eval ox]) ?_ (s_len hty hR (hev ox) h)
          have e1 : c.argTypes = (t :: ts).toArray := by rw [← ht]
          rw [e1, e2]; simp [builtin]
        · exact (fail_run h).elim
      · rename_i x y hx
        obtain ⟨ox, oy, e2, rfl, rfl⟩ := args2 hx
        obtain ⟨p, q, e3, e4, hres⟩ := amax_run (fresh := fresh) hR (hev ox) (hev oy) h
        refine bi (Builtin.max_ c.argTypes o.type #[a.eval ox, a.eval oy]) ?_ (hres _ (by rw [e3, e4, run_max]; rfl))
        rw [e2]; simp [builtin]
      · rename_i x y hx
        obtain ⟨ox, oy, e2, rfl, rfl⟩ := args2 hx
        obtain ⟨p, q, e3, e4, hres⟩ := amax_run (fresh := fresh) hR (hev ox) (hev oy) h
        refine bi (Builtin.min_ c.argTypes o.type #[a.eval ox, a.eval oy]) ?_ (hres _ (by rw [e3, e4, run_min]; rfl))
        rw [e2]; simp [builtin]
      · rename_i t ts x y ht hx
        obtain ⟨ox, oy, e2, rfl, rfl⟩ := args2 hx
        obtain ⟨rv, w', h1, h2, h3⟩ := s_copy (fresh := fresh) (ty := o.type) (ts := ts) hR (hev ox) (hev oy) h
        refine bi (Builtin.copy_ (t :: ts).toArray o.type #[a.eval ox, a.eval oy]) ?_ ⟨rv, w', π, h1, π.le_refl, h2, h3⟩
        have e1 : c.argTypes = (t :: ts).toArray := by rw [← ht]
        rw [e1, e2]; simp [builtin]
      · rename_i t t' ts x y ht hx
        obtain ⟨ox, oy, e2, rfl, rfl⟩ := args2 hx
        split at h
        · rename_i e hty
          have hap : Res G K.P π m w0 fresh out (Builtin.append_ (t :: t' :: ts).toArray o.type #[a.eval ox, a.eval oy]) w := by
            cases hy : isSym (ev oy) <;> simp only [hy, cond_true, cond_false] at h
            · exact s_append hty hR (hev ox) (hev oy) h hf
            · exact s_appendS hty hR (hev ox) (hev oy) h ho hf
          refine bi (Builtin.append_ (t :: t' :: ts).toArray o.type #[a.eval ox, a.eval oy]) ?_ hap
          have e1 : c.argTypes = (t :: t' :: ts).toArray := by rw [← ht]
          rw [e1, e2]; simp [builtin]
        · refine bi (Builtin.append_ (t :: t' :: ts).toArray o.type #[a.eval ox, a.eval oy]) ?_ (s_appendZ hR (hev ox) (hev oy) h hf)
          have e1 : c.argTypes = (t :: t' :: ts).toArray := by rw [← ht]
          rw [e1, e2]; simp [builtin]
      · exact (fail_run h).elim
    · exact (fail_run h).elim
  · exact (fail_run h).elim
end
end Go.Mo

