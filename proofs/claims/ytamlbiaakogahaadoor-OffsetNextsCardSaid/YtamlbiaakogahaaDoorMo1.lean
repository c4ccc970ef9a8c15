/- The abstract evaluator, part 1: scalars, segments, values; what they stand for; reading and writing segments. No program in sight. -/
import Derived.WalkKit
import Derived.Orders
import Derived.Below
import Derived.Laws.CopyRow
import Derived.Laws.Cells
import Derived.KernelRfl
namespace Go.Mo
open Go

/-- The list without its first n: made so that the kernel keeps what it has reckoned. -/
noncomputable def dropC {α : Type} (l : List α) (n : Nat) : List α := Nat.rec (motive := fun _ => List α) l (fun _ r => List.casesOn r [] (fun _ t => t)) n

noncomputable def nth {α : Type} (d : α) (l : List α) (n : Nat) : α := List.casesOn (dropC l n) d (fun x _ => x)

theorem dropC_eq {α : Type} (l : List α) (n : Nat) : dropC l n = l.drop n := by
  induction n with
  | zero => rfl
  | succ n ih =>
    show List.casesOn (motive := fun _ => List α) (dropC l n) [] (fun _ t => t) = _
    rw [ih]
    cases h : l.drop n with
    | nil => have := List.drop_eq_nil_iff.1 h; rw [List.drop_eq_nil_of_le (by omega)]
    | cons x t =>
      have : l.drop (n + 1) = (l.drop n).drop 1 := by rw [List.drop_drop]
      rw [this, h]; rfl

theorem nth_eq {α : Type} (d : α) (l : List α) (n : Nat) : nth d l n = l.getD n d := by
  unfold nth
  rw [dropC_eq]
  cases h : l.drop n with
  | nil => have := List.drop_eq_nil_iff.1 h; simp [List.getD, List.getElem?_eq_none this]
  | cons x t =>
    have : l[n]? = some x := by
      have := congrArg (·[0]?) h
      simpa using this
    simp [List.getD, this]

/-- One cell, or one slot. -/
inductive Sc where
  | any
  | undef
  | i (k : IntKind) (n : Int)
  | si (n : Int)
  | b8 (x : BitVec 8)
  | b32 (x : BitVec 32)
  | b64 (x : BitVec 64)
  | bool (b : Bool)
  | ptr (b o : Nat)
  | pix (b o : Nat) (x : BitVec 8)
  | nil
  | slice (b o len cap : Nat)
  | osl (b o len sz : Nat)
  | empty
  | nilSlice
  | fn (f : Nat) (caps : List (Nat × Nat))
  | iface (t : Nat) (k : IntKind) (n : Int)
  | nilIface
  deriving Inhabited

/-- Cells side by side: bytes and words as lists. -/
inductive Seg where
  | s (x : Sc)
  | b8 (n : Nat) (l : List (BitVec 8))
  | b32 (n : Nat) (l : List (BitVec 32))
  | is (n : Nat) (l : List Int)
  deriving Inhabited

/-- A value in a slot: a scalar, an array or struct, several results. -/
inductive V where
  | s (x : Sc)
  | a (gs : List Seg)
  | t (l : List (Bool × List Seg))
  deriving Inhabited

/-- Where a block lies: in which real one, from which cell on; how many cells that one has. -/
structure Pl where
  n : Nat
  base : Nat
  z : Nat

abbrev Loc := Nat → Option Pl

def capsCv (π : Loc) : List (Nat × Nat) → List Value → Prop
  | [], vs => vs = []
  | (b, o) :: r, vs => ∃ p vr, π b = some p ∧ vs = Value.pointer (some ⟨p.n, p.base + o, none⟩) :: vr ∧ capsCv π r vr

def Sc.cv (π : Loc) : Sc → Value → Prop
  | .any, _ => True
  | .undef, v => v = Go.undef
  | .i k n, v => v = .int k n
  | .si n, v => v = .int .i64 n
  | .b8 x, v => v = .int .u8 (x.toNat : Int)
  | .b32 x, v => v = .int .u32 (x.toNat : Int)
  | .b64 x, v => v = .int .u64 (x.toNat : Int)
  | .bool b, v => v = .bool b
  | .ptr b o, v => ∃ p, π b = some p ∧ v = .pointer (some ⟨p.n, p.base + o, none⟩)
  | .pix b o x, v => ∃ p, π b = some p ∧ v = .pointer (some ⟨p.n, p.base + (o + x.toNat), none⟩)
  | .nil, v => v = .pointer none
  | .slice b o len cap, v => ∃ p, π b = some p ∧ v = .slice (some ⟨p.n, p.base + o, none⟩) len cap
  | .osl b o len sz, v => ∃ p c, π b = some p ∧ p.base + o + c * sz ≤ p.z ∧ len ≤ c ∧ v = .slice (some ⟨p.n, p.base + o, none⟩) len c
  | .empty, v => ∃ a c, v = .slice a 0 c
  | .nilSlice, v => v = .slice none 0 0
  | .fn f caps, v => ∃ vs, v = .func (.func f) #[] vs.toArray ∧ capsCv π caps vs
  | .iface t k n, v => v = .iface t (.int k n)
  | .nilIface, v => v = .nilIface

def v8 (x : BitVec 8) : Value := .int .u8 (x.toNat : Int)
def v32 (x : BitVec 32) : Value := .int .u32 (x.toNat : Int)
def v64 (x : Int) : Value := .int .i64 x

def Seg.cv (π : Loc) : Seg → List Value → Prop
  | .s x, vs => ∃ v, vs = [v] ∧ x.cv π v
  | .b8 n l, vs => l.length = n ∧ vs = l.map v8
  | .b32 n l, vs => l.length = n ∧ vs = l.map v32
  | .is n l, vs => l.length = n ∧ vs = l.map v64

def segsCv (π : Loc) : List Seg → List Value → Prop
  | [], vs => vs = []
  | g :: gs, vs => ∃ a b, vs = a ++ b ∧ g.cv π a ∧ segsCv π gs b

def compCv (π : Loc) : Bool × List Seg → Value → Prop
  | (true, [.s x]), v => x.cv π v
  | (true, _), _ => False
  | (false, gs), v => ∃ vs : List Value, v = .agg vs.toArray ∧ segsCv π gs vs

def tupCv (π : Loc) : List (Bool × List Seg) → List Value → Prop
  | [], vs => vs = []
  | c :: cs, vs => ∃ v vr, vs = v :: vr ∧ compCv π c v ∧ tupCv π cs vr

def V.cv (π : Loc) : V → Value → Prop
  | .s x, v => x.cv π v
  | .a gs, v => ∃ vs : List Value, v = .agg vs.toArray ∧ segsCv π gs vs
  | .t l, v => ∃ vs : List Value, v = .tuple vs.toArray ∧ tupCv π l vs

/-- More is known of where things lie. -/
def Loc.le (π π' : Loc) : Prop := ∀ i p, π i = some p → π' i = some p
theorem Loc.le_refl (π : Loc) : π.le π := fun _ _ h => h
theorem Loc.le_trans {a b c : Loc} (h : a.le b) (k : b.le c) : a.le c := fun i n e => k i n (h i n e)

theorem capsCv_mono {π π' : Loc} (h : π.le π') : ∀ (l : List (Nat × Nat)) (vs : List Value), capsCv π l vs → capsCv π' l vs
  | [], _, e => e
  | (_, _) :: r, _, ⟨n, vr, e, e', k⟩ => ⟨n, vr, h _ _ e, e', capsCv_mono h r vr k⟩

theorem Sc.cv_mono {π π' : Loc} (h : π.le π') {x : Sc} {v : Value} (e : x.cv π v) : x.cv π' v := by
  cases x <;> simp only [Sc.cv] at e ⊢ <;> try exact e
  · obtain ⟨n, e1, e2⟩ := e; exact ⟨n, h _ _ e1, e2⟩
  · obtain ⟨n, e1, e2⟩ := e; exact ⟨n, h _ _ e1, e2⟩
  · obtain ⟨n, e1, e2⟩ := e; exact ⟨n, h _ _ e1, e2⟩
  · obtain ⟨n, c, e1, e2⟩ := e; exact ⟨n, c, h _ _ e1, e2⟩
  · obtain ⟨vs, e1, e2⟩ := e; exact ⟨vs, e1, capsCv_mono h _ _ e2⟩

theorem Seg.cv_mono {π π' : Loc} (h : π.le π') {g : Seg} {vs : List Value} (e : g.cv π vs) : g.cv π' vs := by
  cases g with
  | s x => obtain ⟨v, e1, e2⟩ := e; exact ⟨v, e1, Sc.cv_mono h e2⟩
  | _ => exact e

theorem segsCv_mono {π π' : Loc} (h : π.le π') : ∀ {gs : List Seg} {vs : List Value}, segsCv π gs vs → segsCv π' gs vs
  | [], _, e => e
  | _ :: _, _, ⟨a, b, e, ha, hb⟩ => ⟨a, b, e, Seg.cv_mono h ha, segsCv_mono h hb⟩

theorem compCv_mono {π π' : Loc} (h : π.le π') {c : Bool × List Seg} {v : Value} (e : compCv π c v) : compCv π' c v := by
  obtain ⟨b, gs⟩ := c
  cases b with
  | false => obtain ⟨vs, e1, e2⟩ := e; exact ⟨vs, e1, segsCv_mono h e2⟩
  | true =>
    match gs, e with
    | [.s x], e => exact Sc.cv_mono (x := x) h e

theorem tupCv_mono {π π' : Loc} (h : π.le π') : ∀ {l : List (Bool × List Seg)} {vs : List Value}, tupCv π l vs → tupCv π' l vs
  | [], _, e => e
  | _ :: _, _, ⟨v, vr, e, hc, hr⟩ => ⟨v, vr, e, compCv_mono h hc, tupCv_mono h hr⟩

theorem V.cv_mono {π π' : Loc} (h : π.le π') {x : V} {v : Value} (e : x.cv π v) : x.cv π' v := by
  cases x with
  | s x => exact Sc.cv_mono (x := x) h e
  | a gs => obtain ⟨vs, e1, e2⟩ := e; exact ⟨vs, e1, segsCv_mono h e2⟩
  | t l => obtain ⟨vs, e1, e2⟩ := e; exact ⟨vs, e1, tupCv_mono h e2⟩

/-! ### Sizes, reading, writing -/

def Seg.size : Seg → Nat
  | .s _ => 1
  | .b8 n _ => n
  | .b32 n _ => n
  | .is n _ => n

def segsSize : List Seg → Nat
  | [] => 0
  | g :: gs => g.size + segsSize gs

theorem Seg.cv_length {π : Loc} {g : Seg} {vs : List Value} (h : g.cv π vs) : vs.length = g.size := by
  cases g with
  | s x => obtain ⟨v, rfl, _⟩ := h; rfl
  | b8 n l => obtain ⟨e, rfl⟩ := h; simpa [Seg.size] using e
  | b32 n l => obtain ⟨e, rfl⟩ := h; simpa [Seg.size] using e
  | is n l => obtain ⟨e, rfl⟩ := h; simpa [Seg.size] using e

theorem segsCv_length {π : Loc} : ∀ {gs : List Seg} {vs : List Value}, segsCv π gs vs → vs.length = segsSize gs
  | [], _, e => by subst e; rfl
  | _ :: _, _, ⟨a, b, e, ha, hb⟩ => by subst e; simp [segsSize, Seg.cv_length ha, segsCv_length hb]

theorem segsCv_append {π : Loc} : ∀ {gs hs : List Seg} {vs us : List Value}, segsCv π gs vs → segsCv π hs us → segsCv π (gs ++ hs) (vs ++ us)
  | [], _, _, _, e, k => by subst e; exact k
  | _ :: _, _, _, us, ⟨a, b, e, ha, hb⟩, k => ⟨a, b ++ us, by subst e; simp, ha, segsCv_append hb k⟩

/-- A part of a segment. -/
def Seg.sub : Seg → Nat → Nat → Option Seg
  | .s x, 0, 1 => some (.s x)
  | .b8 n l, off, m => bif Nat.ble (off + m) n then some (bif Nat.beq m n then .b8 n l else .b8 m ((l.drop off).take m)) else none
  | .b32 n l, off, m => bif Nat.ble (off + m) n then some (bif Nat.beq m n then .b32 n l else .b32 m ((l.drop off).take m)) else none
  | .is n l, off, m => bif Nat.ble (off + m) n then some (bif Nat.beq m n then .is n l else .is m ((l.drop off).take m)) else none
  | _, _, _ => none

theorem listSub {α : Type} (f : α → Value) {l : List α} {n off m : Nat} (hl : l.length = n) (h : off + m ≤ n) :
    ((l.drop off).take m).length = m ∧ ((l.map f).drop off).take m = ((l.drop off).take m).map f := by
  constructor
  · simp; omega
  · simp [List.map_take, List.map_drop]

theorem listWhole {α : Type} {l : List α} {n off m : Nat} (hl : l.length = n) (h : off + m ≤ n) (hm : m = n) : off = 0 ∧ l.take m = l := by
  refine ⟨by omega, List.take_of_length_le (by omega)⟩

theorem Seg.sub_cv {π : Loc} {g p : Seg} {vs : List Value} {off m : Nat} (hc : g.cv π vs) (h : g.sub off m = some p) :
    off + m ≤ vs.length ∧ p.cv π ((vs.drop off).take m) := by
  cases g with
  | s x =>
    match off, m, h with
    | 0, 1, h => simp only [Seg.sub, Option.some.injEq] at h; subst h; obtain ⟨v, rfl, hv⟩ := hc; exact ⟨by simp, v, by simp, hv⟩
  | b8 n l =>
    simp only [Seg.sub] at h
    cases hb : Nat.ble (off + m) n <;> simp [hb] at h
    have hle := Nat.le_of_ble_eq_true hb
    obtain ⟨hl, rfl⟩ := hc
    refine ⟨by simp; omega, ?_⟩
    cases hq : Nat.beq m n <;> simp [hq] at h <;> subst h
    · have := listSub v8 hl hle; exact ⟨this.1, this.2⟩
    · have e := Nat.eq_of_beq_eq_true hq
      obtain ⟨h0, h1⟩ := listWhole hl hle e
      subst h0; exact ⟨hl, by rw [List.drop_zero, ← List.map_take, h1]⟩
  | b32 n l =>
    simp only [Seg.sub] at h
    cases hb : Nat.ble (off + m) n <;> simp [hb] at h
    have hle := Nat.le_of_ble_eq_true hb
    obtain ⟨hl, rfl⟩ := hc
    refine ⟨by simp; omega, ?_⟩
    cases hq : Nat.beq m n <;> simp [hq] at h <;> subst h
    · have := listSub v32 hl hle; exact ⟨this.1, this.2⟩
    · have e := Nat.eq_of_beq_eq_true hq
      obtain ⟨h0, h1⟩ := listWhole hl hle e
      subst h0; exact ⟨hl, by rw [List.drop_zero, ← List.map_take, h1]⟩
  | is n l =>
    simp only [Seg.sub] at h
    cases hb : Nat.ble (off + m) n <;> simp [hb] at h
    have hle := Nat.le_of_ble_eq_true hb
    obtain ⟨hl, rfl⟩ := hc
    refine ⟨by simp; omega, ?_⟩
    cases hq : Nat.beq m n <;> simp [hq] at h <;> subst h
    · have := listSub v64 hl hle; exact ⟨this.1, this.2⟩
    · have e := Nat.eq_of_beq_eq_true hq
      obtain ⟨h0, h1⟩ := listWhole hl hle e
      subst h0; exact ⟨hl, by rw [List.drop_zero, ← List.map_take, h1]⟩

/-- n cells from off on. -/
def getSegs : List Seg → Nat → Nat → Option (List Seg)
  | gs, off, n =>
    bif Nat.beq n 0 then some [] else
    match gs with
    | [] => none
    | g :: gs =>
      bif Nat.ble g.size off then getSegs gs (off - g.size) n
      else match g.sub off (Nat.min n (g.size - off)) with
        | none => none
        | some p => match getSegs gs 0 (n - Nat.min n (g.size - off)) with
          | none => none
          | some r => some (p :: r)

theorem getSegs_cv {π : Loc} : ∀ {gs rs : List Seg} {vs : List Value} {off n : Nat}, segsCv π gs vs → getSegs gs off n = some rs →
    (n = 0 ∨ off + n ≤ vs.length) ∧ segsCv π rs ((vs.drop off).take n)
  | [], rs, vs, off, n, hc, h => by
    unfold getSegs at h
    cases hn : Nat.beq n 0 <;> simp [hn] at h
    have := Nat.eq_of_beq_eq_true hn
    subst h; subst this; exact ⟨.inl rfl, by simp [segsCv]⟩
  | g :: gs, rs, vs, off, n, hc, h => by
    unfold getSegs at h
    cases hn : Nat.beq n 0 <;> simp only [hn, cond_true, cond_false] at h
    · have hn0 : n ≠ 0 := fun e => by subst e; simp at hn
      obtain ⟨a, b, rfl, ha, hb⟩ := hc
      have hla := Seg.cv_length ha
      cases hs : Nat.ble g.size off <;> simp only [hs, cond_true, cond_false] at h
      · have hlt : off < g.size := by
          rcases Nat.lt_or_ge off g.size with q | q
          · exact q
          · rw [Nat.ble_eq_true_of_le q] at hs; cases hs
        split at h
        · cases h
        · rename_i p hp
          split at h
          · cases h
          · rename_i r hr
            cases h
            obtain ⟨h1, h2⟩ := Seg.sub_cv ha hp
            obtain ⟨h3, h4⟩ := getSegs_cv hb hr
            have hm : Nat.min n (g.size - off) = min n (g.size - off) := rfl
            rw [hm] at h1 h2 h3 h4
            refine ⟨.inr ?_, (List.drop off a).take (min n (g.size - off)), (b.drop 0).take (n - min n (g.size - off)), ?_, h2, h4⟩
            · simp only [List.length_append]; omega
            · rw [List.drop_append_of_le_length (by omega), List.take_append, List.drop_zero]
              simp only [List.length_drop, hla]
              congr 1
              · rcases Nat.le_total n (g.size - off) with q | q
                · rw [Nat.min_eq_left q]
                · rw [Nat.min_eq_right q, List.take_of_length_le (by simp [hla]; omega), List.take_of_length_le (by simp [hla])]
              · congr 1
                omega
      · have hle := Nat.le_of_ble_eq_true hs
        obtain ⟨h1, h2⟩ := getSegs_cv hb h
        refine ⟨.inr ?_, ?_⟩
        · simp only [List.length_append]; omega
        · rw [List.drop_append, List.drop_eq_nil_of_le (by omega), List.nil_append, hla]; exact h2
    · have := Nat.eq_of_beq_eq_true hn
      cases h; subst this; exact ⟨.inl rfl, by simp [segsCv]⟩

theorem getMapD {α : Type} (f : α → Value) {l : List α} {off : Nat} (d : α) (h : off < l.length) : (l.map f)[off]? = some (f (nth d l off)) := by
  rw [nth_eq]; simp [List.getD, h]

/-- The scalar at off. -/
noncomputable def Seg.at : Seg → Nat → Option Sc
  | .s x, 0 => some x
  | .b8 n l, off => bif Nat.ble (off + 1) n then some (.b8 (nth 0 l off)) else none
  | .b32 n l, off => bif Nat.ble (off + 1) n then some (.b32 (nth 0 l off)) else none
  | .is n l, off => bif Nat.ble (off + 1) n then some (.si (nth 0 l off)) else none
  | _, _ => none

theorem Seg.at_cv {π : Loc} {g : Seg} {vs : List Value} {off : Nat} {x : Sc} (hc : g.cv π vs) (h : g.at off = some x) :
    ∃ v, vs[off]? = some v ∧ x.cv π v := by
  cases g with
  | s y =>
    match off, h with
    | 0, h => simp only [Seg.at, Option.some.injEq] at h; subst h; obtain ⟨v, rfl, hv⟩ := hc; exact ⟨v, rfl, hv⟩
  | b8 n l =>
    simp only [Seg.at] at h
    cases hb : Nat.ble (off + 1) n <;> simp [hb] at h
    have hle := Nat.le_of_ble_eq_true hb
    obtain ⟨hl, rfl⟩ := hc
    have ho : off < l.length := by omega
    subst h
    exact ⟨_, getMapD _ _ ho, rfl⟩
  | b32 n l =>
    simp only [Seg.at] at h
    cases hb : Nat.ble (off + 1) n <;> simp [hb] at h
    have hle := Nat.le_of_ble_eq_true hb
    obtain ⟨hl, rfl⟩ := hc
    have ho : off < l.length := by omega
    subst h
    exact ⟨_, getMapD _ _ ho, rfl⟩
  | is n l =>
    simp only [Seg.at] at h
    cases hb : Nat.ble (off + 1) n <;> simp [hb] at h
    have hle := Nat.le_of_ble_eq_true hb
    obtain ⟨hl, rfl⟩ := hc
    have ho : off < l.length := by omega
    subst h
    exact ⟨_, getMapD _ _ ho, rfl⟩

noncomputable def getSc : List Seg → Nat → Option Sc
  | [], _ => none
  | g :: gs, off => bif Nat.ble g.size off then getSc gs (off - g.size) else g.at off

theorem getSc_cv {π : Loc} : ∀ {gs : List Seg} {vs : List Value} {off : Nat} {x : Sc}, segsCv π gs vs → getSc gs off = some x →
    ∃ v, vs[off]? = some v ∧ x.cv π v
  | [], _, _, _, _, h => by cases h
  | g :: gs, _, off, x, ⟨a, b, e, ha, hb⟩, h => by
    subst e
    have hla := Seg.cv_length ha
    unfold getSc at h
    cases hs : Nat.ble g.size off <;> simp only [hs, cond_true, cond_false] at h
    · obtain ⟨v, h1, h2⟩ := Seg.at_cv ha h
      refine ⟨v, ?_, h2⟩
      rw [List.getElem?_append_left (List.getElem?_eq_some_iff.1 h1).1]; exact h1
    · have hle := Nat.le_of_ble_eq_true hs
      obtain ⟨v, h1, h2⟩ := getSc_cv hb h
      refine ⟨v, ?_, h2⟩
      rw [List.getElem?_append_right (by omega), hla]; exact h1

noncomputable def pixAt (base : Nat) (x : BitVec 8) : Nat := bif Nat.beq base 0 then x.toNat else base + x.toNat

theorem pixAt_eq (base : Nat) (x : BitVec 8) : pixAt base x = base + x.toNat := by
  unfold pixAt
  cases h : Nat.beq base 0
  · rfl
  · have := Nat.eq_of_beq_eq_true h
    subst this; simp

/-- The scalar at base + x, where base .. base + 255 lie in one segment. -/
noncomputable def getPix : List Seg → Nat → BitVec 8 → Option Sc
  | [], _, _ => none
  | g :: gs, base, x => bif Nat.ble g.size base then getPix gs (base - g.size) x else
    match g with
    | .b8 n l => bif Nat.ble (base + 256) n then some (.b8 (nth 0 l (pixAt base x))) else none
    | .b32 n l => bif Nat.ble (base + 256) n then some (.b32 (nth 0 l (pixAt base x))) else none
    | _ => none

theorem getPix_cv {π : Loc} : ∀ {gs : List Seg} {vs : List Value} {off : Nat} {x : BitVec 8} {y : Sc}, segsCv π gs vs → getPix gs off x = some y →
    ∃ v, vs[off + x.toNat]? = some v ∧ y.cv π v
  | [], _, _, _, _, _, h => by cases h
  | g :: gs, _, off, x, y, ⟨a, b, e, ha, hb⟩, h => by
    subst e
    have hla := Seg.cv_length ha
    unfold getPix at h
    simp only [pixAt_eq] at h
    cases hs : Nat.ble g.size off <;> simp only [hs, cond_true, cond_false] at h
    · have hx := x.isLt
      cases g with
      | s z => cases h
      | is n l => cases h
      | b8 n l =>
        simp only at h
        cases hq : Nat.ble (off + 256) n <;> simp [hq] at h
        have hle := Nat.le_of_ble_eq_true hq
        obtain ⟨hl, rfl⟩ := ha
        have ho : off + x.toNat < l.length := by omega
        subst h
        exact ⟨_, by rw [List.getElem?_append_left (by simpa using ho)]; exact getMapD _ _ ho, rfl⟩
      | b32 n l =>
        simp only at h
        cases hq : Nat.ble (off + 256) n <;> simp [hq] at h
        have hle := Nat.le_of_ble_eq_true hq
        obtain ⟨hl, rfl⟩ := ha
        have ho : off + x.toNat < l.length := by omega
        subst h
        exact ⟨_, by rw [List.getElem?_append_left (by simpa using ho)]; exact getMapD _ _ ho, rfl⟩
    · have hle := Nat.le_of_ble_eq_true hs
      obtain ⟨v, h1, h2⟩ := getPix_cv hb h
      refine ⟨v, ?_, h2⟩
      rw [List.getElem?_append_right (by omega), hla, show off + x.toNat - g.size = off - g.size + x.toNat by omega]; exact h1

/-! ### Writing -/

def Sc.solid : Sc → Bool
  | .any => false
  | .undef => false
  | _ => true

def Seg.solid : Seg → Bool
  | .s x => x.solid
  | _ => true

def solidSegs : List Seg → Bool
  | [] => true
  | g :: gs => g.solid && solidSegs gs

theorem Sc.solid_cv {π : Loc} {x : Sc} {v : Value} (h : x.cv π v) (hs : x.solid = true) : v.oneCell' = true := by
  cases x <;> simp only [Sc.cv, Sc.solid] at h hs <;> first
    | (cases hs; done)
    | (subst h; rfl)
    | (obtain ⟨n, _, h⟩ := h; subst h; rfl)
    | (obtain ⟨n, h, _⟩ := h; subst h; rfl)
    | (obtain ⟨n, c, _, _, _, h⟩ := h; subst h; rfl)
    | (obtain ⟨a, c, h⟩ := h; subst h; rfl)

theorem Seg.solid_cv {π : Loc} {g : Seg} {vs : List Value} (h : g.cv π vs) (hs : g.solid = true) : ∀ v ∈ vs, v.oneCell' = true := by
  intro v hv
  cases g with
  | s x => obtain ⟨u, rfl, hu⟩ := h; simp at hv; subst hv; exact Sc.solid_cv hu hs
  | b8 n l => obtain ⟨_, rfl⟩ := h; obtain ⟨x, _, rfl⟩ := List.mem_map.1 hv; rfl
  | b32 n l => obtain ⟨_, rfl⟩ := h; obtain ⟨x, _, rfl⟩ := List.mem_map.1 hv; rfl
  | is n l => obtain ⟨_, rfl⟩ := h; obtain ⟨x, _, rfl⟩ := List.mem_map.1 hv; rfl

theorem solidSegs_cv {π : Loc} : ∀ {gs : List Seg} {vs : List Value}, segsCv π gs vs → solidSegs gs = true → ∀ v ∈ vs, v.oneCell' = true
  | [], _, e, _ => by subst e; simp
  | g :: gs, _, ⟨a, b, e, ha, hb⟩, hs => by
    subst e
    simp only [solidSegs, Bool.and_eq_true] at hs
    intro v hv
    rcases List.mem_append.1 hv with h | h
    · exact Seg.solid_cv ha hs.1 v h
    · exact solidSegs_cv hb hs.2 v h

def splice {α : Type} (vs : List α) (off : Nat) (p : List α) : List α := vs.take off ++ (p ++ vs.drop (off + p.length))

theorem splice_length {α : Type} {vs : List α} {off : Nat} {p : List α} (h : off + p.length ≤ vs.length) : (splice vs off p).length = vs.length := by
  simp [splice]; omega

theorem splice_map {α β : Type} (f : α → β) (vs : List α) (off : Nat) (p : List α) : (splice vs off p).map f = splice (vs.map f) off (p.map f) := by
  simp [splice, List.map_take, List.map_drop]

theorem splice_whole {α : Type} {vs : List α} {off : Nat} {p : List α} (h : off + p.length ≤ vs.length) (e : p.length = vs.length) : splice vs off p = p := by
  have : off = 0 := by omega
  subst this
  simp [splice, List.drop_eq_nil_of_le (Nat.le_of_eq e.symm)]

theorem splice_one {α : Type} {vs : List α} {off : Nat} (x : α) (h : off < vs.length) : splice vs off [x] = vs.set off x := by
  rw [List.set_eq_take_append_cons_drop, if_pos h]; rfl

theorem splice_left {α : Type} {a b : List α} {off : Nat} {p : List α} (h : off + p.length ≤ a.length) : splice (a ++ b) off p = splice a off p ++ b := by
  simp only [splice]
  rw [List.take_append_of_le_length (by omega), List.drop_append_of_le_length (by omega)]
  simp

theorem splice_right {α : Type} {a b : List α} {off : Nat} {p : List α} (h : a.length ≤ off) : splice (a ++ b) off p = a ++ splice b (off - a.length) p := by
  simp only [splice]
  rw [List.take_append, List.take_of_length_le h, List.drop_append, List.drop_eq_nil_of_le (by omega)]
  simp [show off + p.length - a.length = off - a.length + p.length by omega]

theorem splice_splice {α : Type} {vs : List α} {off : Nat} {p q : List α} (h : off + p.length + q.length ≤ vs.length) :
    splice (splice vs off p) (off + p.length) q = splice vs off (p ++ q) := by
  have e : (vs.take off ++ p).length = off + p.length := by simp; omega
  have e1 : splice vs off p = (vs.take off ++ p) ++ vs.drop (off + p.length) := by simp [splice]
  rw [e1, splice_right (by omega), e]
  simp [splice, Nat.add_assoc]

/-- The same, where the part's length is known: so that the part is not looked at. -/
def spliceN {α : Type} (vs : List α) (off m : Nat) (p : List α) : List α := vs.take off ++ (p ++ vs.drop (off + m))

theorem spliceN_eq {α : Type} {vs : List α} {off m : Nat} {p : List α} (h : p.length = m) : spliceN vs off m p = splice vs off p := by
  subst h; rfl

def Seg.put : Seg → Nat → Seg → Option Seg
  | .s _, 0, .s x => some (.s x)
  | .b8 n l, off, .b8 m l' => bif Nat.ble (off + m) n then some (.b8 n (bif Nat.beq m n then l' else spliceN l off m l')) else none
  | .b32 n l, off, .b32 m l' => bif Nat.ble (off + m) n then some (.b32 n (bif Nat.beq m n then l' else spliceN l off m l')) else none
  | .is n l, off, .is m l' => bif Nat.ble (off + m) n then some (.is n (bif Nat.beq m n then l' else spliceN l off m l')) else none
  | .b8 n l, off, .s (.b8 x) => bif Nat.ble (off + 1) n then some (.b8 n (l.set off x)) else none
  | .b32 n l, off, .s (.b32 x) => bif Nat.ble (off + 1) n then some (.b32 n (l.set off x)) else none
  | .is n l, off, .s (.i .i64 x) => bif Nat.ble (off + 1) n then some (.is n (l.set off x)) else none
  | .is n l, off, .s (.si x) => bif Nat.ble (off + 1) n then some (.is n (l.set off x)) else none
  | _, _, _ => none

theorem put_list {α : Type} (f : α → Value) {l l' : List α} {n m off : Nat} (hl : l.length = n) (hl' : l'.length = m) (h : off + m ≤ n) :
    off + (l'.map f).length ≤ (l.map f).length ∧ (bif Nat.beq m n then l' else spliceN l off m l').length = n ∧
      splice (l.map f) off (l'.map f) = (bif Nat.beq m n then l' else spliceN l off m l').map f := by
  refine ⟨by simp; omega, ?_⟩
  rw [spliceN_eq hl']
  cases hq : Nat.beq m n
  · exact ⟨by simp only [cond_false]; rw [splice_length (by omega)]; exact hl, by simp only [cond_false]; rw [splice_map]⟩
  · have e := Nat.eq_of_beq_eq_true hq
    refine ⟨by simp only [cond_true]; omega, ?_⟩
    rw [splice_whole (by simp; omega) (by simp; omega)]; rfl

theorem put_one {α : Type} (f : α → Value) {l : List α} {n off : Nat} (x : α) (hl : l.length = n) (h : off + 1 ≤ n) :
    off + 1 ≤ (l.map f).length ∧ (l.set off x).length = n ∧ splice (l.map f) off [f x] = (l.set off x).map f := by
  refine ⟨by simp; omega, by simp [hl], ?_⟩
  rw [splice_one _ (by simp; omega)]
  simp

theorem Seg.put_cv {π : Loc} {g p q : Seg} {vs pv : List Value} {off : Nat} (hc : g.cv π vs) (hp : p.cv π pv) (h : g.put off p = some q) :
    off + pv.length ≤ vs.length ∧ q.cv π (splice vs off pv) := by
  unfold Seg.put at h
  split at h
  · cases h; obtain ⟨v, rfl, hv⟩ := hc; obtain ⟨u, rfl, hu⟩ := hp; exact ⟨by simp, u, by simp [splice], hu⟩
  · rename_i n l m l'
    cases hb : Nat.ble (off + m) n <;> simp only [hb, cond_true, cond_false] at h <;> cases h
    obtain ⟨hl, rfl⟩ := hc; obtain ⟨hl', rfl⟩ := hp
    obtain ⟨h1, h2, h3⟩ := put_list v8 hl hl' (Nat.le_of_ble_eq_true hb)
    exact ⟨h1, h2, h3⟩
  · rename_i n l m l'
    cases hb : Nat.ble (off + m) n <;> simp only [hb, cond_true, cond_false] at h <;> cases h
    obtain ⟨hl, rfl⟩ := hc; obtain ⟨hl', rfl⟩ := hp
    obtain ⟨h1, h2, h3⟩ := put_list v32 hl hl' (Nat.le_of_ble_eq_true hb)
    exact ⟨h1, h2, h3⟩
  · rename_i n l m l'
    cases hb : Nat.ble (off + m) n <;> simp only [hb, cond_true, cond_false] at h <;> cases h
    obtain ⟨hl, rfl⟩ := hc; obtain ⟨hl', rfl⟩ := hp
    obtain ⟨h1, h2, h3⟩ := put_list v64 hl hl' (Nat.le_of_ble_eq_true hb)
    exact ⟨h1, h2, h3⟩
  · rename_i n l x
    cases hb : Nat.ble (off + 1) n <;> simp only [hb, cond_true, cond_false] at h <;> cases h
    obtain ⟨hl, rfl⟩ := hc; obtain ⟨u, rfl, hu⟩ := hp
    simp only [Sc.cv] at hu; subst hu
    obtain ⟨h1, h2, h3⟩ := put_one v8 x hl (Nat.le_of_ble_eq_true hb)
    exact ⟨h1, h2, h3⟩
  · rename_i n l x
    cases hb : Nat.ble (off + 1) n <;> simp only [hb, cond_true, cond_false] at h <;> cases h
    obtain ⟨hl, rfl⟩ := hc; obtain ⟨u, rfl, hu⟩ := hp
    simp only [Sc.cv] at hu; subst hu
    obtain ⟨h1, h2, h3⟩ := put_one v32 x hl (Nat.le_of_ble_eq_true hb)
    exact ⟨h1, h2, h3⟩
  · rename_i n l x
    cases hb : Nat.ble (off + 1) n <;> simp only [hb, cond_true, cond_false] at h <;> cases h
    obtain ⟨hl, rfl⟩ := hc; obtain ⟨u, rfl, hu⟩ := hp
    simp only [Sc.cv] at hu; subst hu
    obtain ⟨h1, h2, h3⟩ := put_one v64 x hl (Nat.le_of_ble_eq_true hb)
    exact ⟨h1, h2, h3⟩
  · rename_i n l x
    cases hb : Nat.ble (off + 1) n <;> simp only [hb, cond_true, cond_false] at h <;> cases h
    obtain ⟨hl, rfl⟩ := hc; obtain ⟨u, rfl, hu⟩ := hp
    simp only [Sc.cv] at hu; subst hu
    obtain ⟨h1, h2, h3⟩ := put_one v64 x hl (Nat.le_of_ble_eq_true hb)
    exact ⟨h1, h2, h3⟩
  · cases h

def putSeg : List Seg → Nat → Seg → Option (List Seg)
  | [], _, _ => none
  | g :: gs, off, p =>
    bif Nat.ble g.size off then
      match putSeg gs (off - g.size) p with
      | some r => some (g :: r)
      | none => none
    else
      match g.put off p with
      | some g' => some (g' :: gs)
      | none => none

theorem putSeg_cv {π : Loc} : ∀ {gs rs : List Seg} {vs pv : List Value} {off : Nat} {p : Seg}, segsCv π gs vs → p.cv π pv → putSeg gs off p = some rs →
    off + pv.length ≤ vs.length ∧ segsCv π rs (splice vs off pv)
  | [], _, _, _, _, _, _, _, h => by cases h
  | g :: gs, rs, _, pv, off, p, ⟨a, b, e, ha, hb⟩, hp, h => by
    subst e
    have hla := Seg.cv_length ha
    unfold putSeg at h
    cases hs : Nat.ble g.size off <;> simp only [hs, cond_true, cond_false] at h
    · split at h
      · rename_i g' hg'
        cases h
        obtain ⟨h1, h2⟩ := Seg.put_cv ha hp hg'
        refine ⟨by simp; omega, _, b, splice_left h1, h2, hb⟩
      · cases h
    · have hle := Nat.le_of_ble_eq_true hs
      split at h
      · rename_i r hr
        cases h
        obtain ⟨h1, h2⟩ := putSeg_cv hb hp hr
        refine ⟨by simp; omega, a, _, splice_right (by omega), ha, ?_⟩
        rw [hla]; exact h2
      · cases h

def putSegs : List Seg → Nat → List Seg → Option (List Seg)
  | gs, _, [] => some gs
  | gs, off, p :: ps =>
    match putSeg gs off p with
    | some gs' => putSegs gs' (off + p.size) ps
    | none => none

theorem putSegs_cv {π : Loc} : ∀ {ps gs rs : List Seg} {vs pv : List Value} {off : Nat}, segsCv π gs vs → segsCv π ps pv → putSegs gs off ps = some rs →
    (ps = [] ∨ off + pv.length ≤ vs.length) ∧ segsCv π rs (splice vs off pv)
  | [], gs, rs, vs, pv, off, hg, hp, h => by
    simp only [putSegs, Option.some.injEq] at h; subst h
    have hp' : pv = [] := hp
    subst hp'
    exact ⟨.inl rfl, by simpa [splice] using hg⟩
  | p :: ps, gs, rs, vs, _, off, hg, ⟨a, b, e, ha, hb⟩, h => by
    subst e
    unfold putSegs at h
    split at h
    · rename_i gs' hgs'
      obtain ⟨h1, h2⟩ := putSeg_cv hg ha hgs'
      obtain ⟨h3, h4⟩ := putSegs_cv h2 hb h
      have hla := Seg.cv_length ha
      rw [splice_length h1] at h3
      have hb' : off + a.length + b.length ≤ vs.length := by
        rcases h3 with h3 | h3
        · subst h3
          have : b = [] := hb
          subst this; simpa using h1
        · omega
      refine ⟨.inr (by simp; omega), ?_⟩
      rw [← hla, splice_splice hb'] at h4
      exact h4
    · cases h

/-! ### Lists of a known length -/

theorem list4 {α : Type} {l : List α} (h : l.length = 4) : ∃ a b c d, l = [a, b, c, d] := by
  match l, h with
  | [a, b, c, d], _ => exact ⟨a, b, c, d, rfl⟩

theorem list12 {α : Type} {l : List α} (h : l.length = 12) : ∃ a0 a1 a2 a3 a4 a5 a6 a7 a8 a9 a10 a11, l = [a0, a1, a2, a3, a4, a5, a6, a7, a8, a9, a10, a11] := by
  match l, h with
  | [a0, a1, a2, a3, a4, a5, a6, a7, a8, a9, a10, a11], _ => exact ⟨_, _, _, _, _, _, _, _, _, _, _, _, rfl⟩

theorem list16 {α : Type} {l : List α} (h : l.length = 16) :
    ∃ a0 a1 a2 a3 a4 a5 a6 a7 a8 a9 a10 a11 a12 a13 a14 a15, l = [a0, a1, a2, a3, a4, a5, a6, a7, a8, a9, a10, a11, a12, a13, a14, a15] := by
  match l, h with
  | [a0, a1, a2, a3, a4, a5, a6, a7, a8, a9, a10, a11, a12, a13, a14, a15], _ => exact ⟨_, _, _, _, _, _, _, _, _, _, _, _, _, _, _, _, rfl⟩

theorem list24 {α : Type} {l : List α} (h : l.length = 24) :
    ∃ a0 a1 a2 a3 a4 a5 a6 a7 a8 a9 a10 a11 a12 a13 a14 a15 a16 a17 a18 a19 a20 a21 a22 a23, l = [a0, a1, a2, a3, a4, a5, a6, a7, a8, a9, a10, a11, a12, a13, a14, a15, a16, a17, a18, a19, a20, a21, a22, a23] := by
  match l, h with
  | [a0, a1, a2, a3, a4, a5, a6, a7, a8, a9, a10, a11, a12, a13, a14, a15, a16, a17, a18, a19, a20, a21, a22, a23], _ =>
    exact ⟨_, _, _, _, _, _, _, _, _, _, _, _, _, _, _, _, _, _, _, _, _, _, _, _, rfl⟩
end Go.Mo
