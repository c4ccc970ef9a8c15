/- The abstract evaluator, part 3: what it means that an abstract memory stands for a world; each operation is carried out as the evaluator says. -/
import Derived.Test.YtamlbiaakogahaaDoorMo2
import Derived.WalkLawsBesides
namespace Go.Mo
open Go Go.RowKit

def updM (m : Nat → Option Blk) (i : Nat) (b : Blk) : Nat → Option Blk := fun j => if j = i then some b else m j

def newsM (m : Nat → Option Blk) (fresh : Nat) : List (List Seg) → Nat → Option Blk
  | [] => m
  | gs :: r => newsM (updM m fresh ⟨gs, true⟩) (fresh + 1) r

def wrM (m : Nat → Option Blk) : Option (Nat × Blk) → Nat → Option Blk
  | none => m
  | some (b, x) => updM m b x

def effM (m : Nat → Option Blk) (fresh : Nat) (out : Out) : Nat → Option Blk := newsM (wrM m out.wr) fresh out.news

/-- One package-level block that is known and never written; where the blocks lie that were there at the start. -/
structure Gl where
  g : Nat
  obj : Obj
  base : Loc

/-- The cells of a block. -/
def cut (p : Pl) (k : Nat) (vs : List Value) : List Value := (vs.drop p.base).take k

/-- The block lies there and holds this. -/
def Holds (π : Loc) (p : Pl) (gs : List Seg) (w : World) (vs : List Value) (T : TypeId) (fz : Nat × Nat) : Prop :=
  w.heap[p.n]? = some (.cells vs.toArray T fz) ∧ vs.length = p.z ∧ p.base + segsSize gs ≤ p.z ∧ segsCv π gs (cut p (segsSize gs) vs)

structure Rel (G : Gl) (π : Loc) (m : Nat → Option Blk) (w0 w : World) : Prop where
  blk : ∀ i b, m i = some b → ∃ p vs T fz, π i = some p ∧ Holds π p b.gs w vs T fz ∧ (b.wr = true → fz = (0, 0) ∧ w0.heap.size ≤ p.n)
  inj : ∀ i j p q bi bj, i ≠ j → m i = some bi → m j = some bj → π i = some p → π j = some q → p.n = q.n → bi.wr = true → (bj.gs = [] ∨ q.base + segsSize bj.gs ≤ p.base) ∧ bj.wr = false
  dom : ∀ i, m i = none → π i = none
  glob : w.heap[G.g]? = some G.obj
  globOld : G.g < w0.heap.size
  below : Below w0.heap.size w0 w
  base : G.base.le π

theorem Holds.lt {π : Loc} {p : Pl} {gs : List Seg} {w : World} {vs : List Value} {T : TypeId} {fz : Nat × Nat} (h : Holds π p gs w vs T fz) : p.n < w.heap.size :=
  (Array.getElem?_eq_some_iff.1 h.1).1

theorem Rel.lt {G : Gl} {π : Loc} {m : Nat → Option Blk} {w0 w : World} (h : Rel G π m w0 w) {i : Nat} {p : Pl} (hi : π i = some p) : p.n < w.heap.size := by
  cases hm : m i with
  | none => rw [h.dom i hm] at hi; cases hi
  | some b =>
    obtain ⟨k, vs, T, fz, e, hh, _⟩ := h.blk i b hm
    rw [hi] at e; cases e
    exact hh.lt

theorem Holds.mono {π π' : Loc} {p : Pl} {gs : List Seg} {w w' : World} {vs : List Value} {T : TypeId} {fz : Nat × Nat} (h : Holds π p gs w vs T fz) (hle : π.le π')
    (hw : w'.heap[p.n]? = w.heap[p.n]?) : Holds π' p gs w' vs T fz := ⟨hw.trans h.1, h.2.1, h.2.2.1, segsCv_mono hle h.2.2.2⟩

def updL (π : Loc) (i : Nat) (p : Pl) : Loc := fun j => if j = i then some p else π j

theorem updL_le {G : Gl} {π : Loc} {m : Nat → Option Blk} {w0 w : World} (h : Rel G π m w0 w) {i : Nat} (hi : m i = none) (p : Pl) : π.le (updL π i p) := by
  intro j n hj
  unfold updL
  split
  · rename_i e; subst e; rw [h.dom j hi] at hj; cases hj
  · exact hj

theorem cut_left (n : Nat) (us rest : List Value) (z k : Nat) (hk : us.length = k) : cut ⟨n, 0, z⟩ k (us ++ rest) = us := by
  unfold cut; simp only [List.drop_zero]; rw [← hk, List.take_left]

/-- A new row: its first cells are known, more may lie behind. -/
theorem Rel.allocRow {G : Gl} {π : Loc} {m : Nat → Option Blk} {w0 w : World} (h : Rel G π m w0 w) {i : Nat} (hi : m i = none) {gs : List Seg} {us : List Value} (hc : segsCv π gs us) (rest : List Value) (T : TypeId) :
    π.le (updL π i ⟨w.heap.size, 0, (us ++ rest).length⟩) ∧ Rel G (updL π i ⟨w.heap.size, 0, (us ++ rest).length⟩) (updM m i ⟨gs, true⟩) w0 (w.alloc (.cells (us ++ rest).toArray T)) := by
  have hle := updL_le h hi ⟨w.heap.size, 0, (us ++ rest).length⟩
  have hold : ∀ n, n < w.heap.size → (w.alloc (.cells (us ++ rest).toArray T)).heap[n]? = w.heap[n]? := fun n hn => Below.heap_alloc _ _ _ hn
  have hl := segsCv_length hc
  refine ⟨hle, ⟨?_, ?_, ?_, ?_, h.globOld, h.below.alloc h.below.size _, Loc.le_trans h.base hle⟩⟩
  · intro j b hj
    unfold updM at hj
    split at hj
    · rename_i e; subst e; cases hj
      refine ⟨_, us ++ rest, T, (0, 0), by simp [updL]; rfl, ⟨?_, by simp, ?_, ?_⟩, fun _ => ⟨rfl, h.below.size⟩⟩
      · show (w.heap.push _)[w.heap.size]? = _; simp
      · simp only; omega
      · rw [cut_left _ _ _ _ _ hl]; exact segsCv_mono hle hc
    · obtain ⟨p, us', T', fz, e1, e2, e4⟩ := h.blk j b hj
      exact ⟨p, us', T', fz, hle _ _ e1, e2.mono hle (hold p.n e2.lt), e4⟩
  · intro a b p q ba bb hne ha hb pa pb hpq hwr
    unfold updM at ha hb
    unfold updL at pa pb
    split at ha <;> split at hb
    · rename_i e1 e2; exact absurd (e1.trans e2.symm) hne
    · rename_i e1 e2
      rw [if_pos e1] at pa; rw [if_neg e2] at pb; cases pa
      have := h.lt pb
      rw [← hpq] at this; exact absurd this (Nat.lt_irrefl _)
    · rename_i e1 e2
      rw [if_neg e1] at pa; rw [if_pos e2] at pb; cases pb
      have := h.lt pa
      rw [hpq] at this; exact absurd this (Nat.lt_irrefl _)
    · rename_i e1 e2
      rw [if_neg e1] at pa; rw [if_neg e2] at pb
      exact h.inj a b p q ba bb hne ha hb pa pb hpq hwr
  · intro j hj
    unfold updM at hj; unfold updL
    split at hj
    · cases hj
    · rename_i e; rw [if_neg e]; exact h.dom j hj
  · rw [hold _ (Array.getElem?_eq_some_iff.1 h.glob).1]; exact h.glob

theorem Rel.alloc {G : Gl} {π : Loc} {m : Nat → Option Blk} {w0 w : World} (h : Rel G π m w0 w) {i : Nat} (hi : m i = none) {gs : List Seg} {vs : List Value} (hc : segsCv π gs vs) (T : TypeId) :
    π.le (updL π i ⟨w.heap.size, 0, vs.length⟩) ∧ Rel G (updL π i ⟨w.heap.size, 0, vs.length⟩) (updM m i ⟨gs, true⟩) w0 (w.alloc (.cells vs.toArray T)) := by
  have := h.allocRow hi hc [] T
  simpa using this

theorem setRow_other (w : World) (g k : Nat) (cs : Array Value) (h : k ≠ g) : (w.setRow g cs).heap[k]? = w.heap[k]? := by
  simp only [World.setRow, Array.getElem?_modify]
  rw [if_neg (by omega)]

theorem Below.setRow {B : Nat} {a w : World} (h : Below B a w) {g : Nat} (hg : B ≤ g) (cs : Array Value) : Below B a (w.setRow g cs) :=
  h.trans ⟨rfl, rfl, rfl, by simp [World.setRow], fun k hk => setRow_other w g k cs (by omega)⟩

theorem cut_splice {p : Pl} {vs pv : List Value} {off k : Nat} (h1 : off + pv.length ≤ k) (h2 : p.base + k ≤ vs.length) :
    cut p k (splice vs (p.base + off) pv) = splice (cut p k vs) off pv := by
  unfold cut
  have e : vs = vs.take p.base ++ vs.drop p.base := (List.take_append_drop _ _).symm
  have hl : (vs.take p.base).length = p.base := by simp; omega
  conv => lhs; rw [e, splice_right (by omega), hl, Nat.add_sub_cancel_left]
  rw [List.drop_append_of_le_length (by omega), List.drop_eq_nil_of_le (by omega), List.nil_append]
  have e2 : vs.drop p.base = (vs.drop p.base).take k ++ (vs.drop p.base).drop k := (List.take_append_drop _ _).symm
  have hl2 : ((vs.drop p.base).take k).length = k := by simp; omega
  conv => lhs; rw [e2, splice_left (by omega)]
  rw [List.take_append_of_le_length (by rw [splice_length (by omega)]; omega), List.take_of_length_le (by rw [splice_length (by omega)]; omega)]

theorem cut_before {p q : Pl} {k : Nat} {vs us : List Value} (h : q.base + k ≤ p.base) (hpre : vs.take p.base = us.take p.base) : cut q k vs = cut q k us := by
  unfold cut
  have e : ∀ l : List Value, (l.drop q.base).take k = ((l.take p.base).drop q.base).take k := by
    intro l
    rw [List.drop_take, List.take_take, Nat.min_eq_left (by omega)]
  rw [e vs, e us, hpre]

theorem splice_take {vs us : List Value} {n off : Nat} (h : n ≤ off) (h2 : off ≤ vs.length) : (splice vs off us).take n = vs.take n := by
  unfold splice
  rw [List.take_append_of_le_length (by simp; omega), List.take_take, Nat.min_eq_left h]

/-- Block i is written; block j's cells too if it is the same. -/
theorem Rel.write {G : Gl} {π : Loc} {m : Nat → Option Blk} {w0 w : World} (h : Rel G π m w0 w) {i : Nat} {p : Pl} {b : Blk} (hi : m i = some b) (hw : b.wr = true) (hn : π i = some p)
    {gs : List Seg} {us : List Value} {T : TypeId} {fz : Nat × Nat} {vs : List Value} (hh : w.heap[p.n]? = some (.cells us.toArray T fz)) (hl : vs.length = us.length) (hpre : vs.take p.base = us.take p.base) (hb : p.base + segsSize gs ≤ p.z)
    (hc : segsCv π gs (cut p (segsSize gs) vs)) : Rel G π (updM m i ⟨gs, true⟩) w0 (w.setRow p.n vs.toArray) := by
  obtain ⟨p', us', T', fz', e1, e2, e4⟩ := h.blk i b hi
  rw [hn] at e1; cases e1
  obtain ⟨e5, e6⟩ := e4 hw
  subst e5
  have hh' := e2.1
  rw [hh] at hh'
  have hus : us = us' := by
    have := Option.some.inj hh'
    injection this with q
    exact List.toArray_inj q
  have hfz : fz = (0, 0) := by
    have := Option.some.inj hh'
    injection this
  subst hus; subst hfz
  refine ⟨?_, ?_, ?_, ?_, h.globOld, Below.setRow h.below e6 _, h.base⟩
  · intro j c hj
    unfold updM at hj
    split at hj
    · rename_i e; subst e; cases hj
      exact ⟨p, vs, T, (0, 0), hn, ⟨setRow_heap w p.n _ _ T _ hh, hl.trans e2.2.1, hb, hc⟩, fun _ => ⟨rfl, e6⟩⟩
    · rename_i hne
      obtain ⟨q, ws, Tq, fzq, f1, f2, f4⟩ := h.blk j c hj
      by_cases hk : q.n = p.n
      · have hnil := (h.inj i j p q b c (Ne.symm hne) hi hj hn f1 hk.symm hw).1
        have e7 : us = ws := by
          have := f2.1
          rw [hk, hh] at this
          have := Option.some.inj this
          injection this with q
          exact List.toArray_inj q
        have e8 : fzq = (0, 0) := by
          have := f2.1
          rw [hk, hh] at this
          have := Option.some.inj this
          injection this with _ _ q
          exact q.symm
        subst e7
        refine ⟨q, vs, T, (0, 0), f1, ⟨?_, hl.trans f2.2.1, ?_, ?_⟩, fun hq => ⟨rfl, (f4 hq).2⟩⟩
        · rw [hk]; exact setRow_heap w p.n _ _ T _ hh
        · exact f2.2.2.1
        · rcases hnil with hnil | hnil
          · rw [hnil]; simp [segsSize, cut, segsCv]
          · rw [cut_before hnil hpre]; exact f2.2.2.2
      · exact ⟨q, ws, Tq, fzq, f1, f2.mono π.le_refl (setRow_other w p.n q.n _ hk), f4⟩
  · intro a c q r ba bc hne ha hcm qa qc hqr hwr
    unfold updM at ha hcm
    split at ha <;> split at hcm
    · rename_i x1 x2; exact absurd (x1.trans x2.symm) hne
    · rename_i x1 x2
      subst x1
      exact h.inj a c q r b bc hne hi hcm qa qc hqr hw
    · rename_i x1 x2
      subst x2
      have := (h.inj c a r q b ba (Ne.symm hne) hi ha qc qa hqr.symm hw).2
      rw [this] at hwr; cases hwr
    · exact h.inj a c q r ba bc hne ha hcm qa qc hqr hwr
  · intro j hj
    unfold updM at hj
    split at hj
    · cases hj
    · exact h.dom j hj
  · have : G.g ≠ p.n := by have := h.globOld; omega
    rw [setRow_other w p.n _ _ this]; exact h.glob

theorem Rel.drew {G : Gl} {π : Loc} {m : Nat → Option Blk} {w0 w : World} (h : Rel G π m w0 w) : Rel G π m w0 w.drew :=
  ⟨h.blk, h.inj, h.dom, h.glob, h.globOld, h.below.drew, h.base⟩

/-! ### Cells -/

theorem addr_add (n o k : Nat) : (⟨n, o, none⟩ : Addr).add k = ⟨n, o + k, none⟩ := by
  unfold Addr.add; split <;> simp_all

theorem run_cells {P : Program} {w : World} {n o k : Nat} {vs : List Value} {T : TypeId} {fz : Nat × Nat} (hh : w.heap[n]? = some (.cells vs.toArray T fz)) (hk : k = 0 ∨ o + k ≤ vs.length) :
    (loadCells ⟨n, o, none⟩ k).run P w = .ok ((vs.drop o).take k).toArray w := by
  have hl : ((vs.drop o).take k).length = k := by
    rcases hk with hk | hk
    · subst hk; simp
    · simp; omega
  have := run_loadCells_list (P := P) w ⟨n, o, none⟩ ((vs.drop o).take k) (fun j v hj => by
    rw [addr_add]
    simp only [World.cell?, hh, Option.isSome_none, Bool.false_eq_true, if_false]
    rw [List.getElem?_take] at hj
    split at hj
    · rw [List.getElem?_drop] at hj; simpa using hj
    · cases hj)
  rw [hl] at this; exact this

theorem run_cell1 {P : Program} {w : World} {n o : Nat} {vs : List Value} {T : TypeId} {fz : Nat × Nat} {v : Value} (hh : w.heap[n]? = some (.cells vs.toArray T fz)) (hv : vs[o]? = some v) :
    (load ⟨n, o, none⟩).run P w = .ok v w := by
  have : w.cell? ⟨n, o, none⟩ = some v := by simp [World.cell?, hh, hv]
  rw [run_load, this]

theorem cut_take {p : Pl} {k off n : Nat} {vs : List Value} (h : n = 0 ∨ off + n ≤ (cut p k vs).length) : (vs.drop (p.base + off)).take n = ((cut p k vs).drop off).take n := by
  unfold cut at *
  rcases h with h | h
  · subst h; simp
  · rw [List.drop_take, List.drop_drop, List.take_take]
    congr 1
    simp only [List.length_take, List.length_drop] at h
    omega

theorem cut_get {p : Pl} {k off : Nat} {vs : List Value} {v : Value} (h : (cut p k vs)[off]? = some v) : vs[p.base + off]? = some v := by
  unfold cut at h
  rw [List.getElem?_take] at h
  split at h
  · rwa [List.getElem?_drop] at h
  · cases h

theorem cut_length {p : Pl} {k : Nat} {vs : List Value} (h : p.base + k ≤ vs.length) : (cut p k vs).length = k := by
  unfold cut; simp; omega

theorem Holds.cells {P : Program} {π : Loc} {p : Pl} {gs rs : List Seg} {w : World} {vs : List Value} {T : TypeId} {fz : Nat × Nat} (h : Holds π p gs w vs T fz) {off n : Nat} (hg : getSegs gs off n = some rs) :
    ∃ us, (loadCells ⟨p.n, p.base + off, none⟩ n).run P w = .ok (us : List Value).toArray w ∧ segsCv π rs us := by
  obtain ⟨hle, hcv⟩ := getSegs_cv h.2.2.2 hg
  refine ⟨_, run_cells (o := p.base + off) h.1 ?_, by rw [cut_take hle]; exact hcv⟩
  rcases hle with q | q
  · exact .inl q
  · right
    rw [cut_length (by rw [h.2.1]; exact h.2.2.1)] at q
    have := h.2.1; have := h.2.2.1; omega

theorem Holds.cell {P : Program} {π : Loc} {p : Pl} {gs : List Seg} {w : World} {vs : List Value} {T : TypeId} {fz : Nat × Nat} (h : Holds π p gs w vs T fz) {off : Nat} {x : Sc} (hg : getSc gs off = some x) :
    ∃ v, (load ⟨p.n, p.base + off, none⟩).run P w = .ok v w ∧ x.cv π v := by
  obtain ⟨v, hv, hcv⟩ := getSc_cv h.2.2.2 hg
  exact ⟨v, run_cell1 h.1 (cut_get hv), hcv⟩

theorem Holds.pix {P : Program} {π : Loc} {p : Pl} {gs : List Seg} {w : World} {vs : List Value} {T : TypeId} {fz : Nat × Nat} (h : Holds π p gs w vs T fz) {off : Nat} {i : BitVec 8} {x : Sc} (hg : getPix gs off i = some x) :
    ∃ v, (load ⟨p.n, p.base + (off + i.toNat), none⟩).run P w = .ok v w ∧ x.cv π v := by
  obtain ⟨v, hv, hcv⟩ := getPix_cv h.2.2.2 hg
  exact ⟨v, run_cell1 h.1 (cut_get hv), hcv⟩

theorem run_info {P : Program} {t : TypeId} {i : TypeInfo} (h : P.info? t = some i) (w : World) : (typeInfo t).run P w = .ok i w := by
  simp [typeInfo, h]

theorem run_size {P : Program} {t : TypeId} {i : TypeInfo} (h : P.info? t = some i) (w : World) : (sizeOf t).run P w = .ok i.size w := by
  simp [sizeOf, run_info h]

theorem tyAgg_true {P : Program} {t : TypeId} {n : Nat} (h : tyAgg P t = some (true, n)) :
    (∀ w, (isAgg t).run P w = .ok true w) ∧ ∃ i, P.info? t = some i ∧ i.size = n := by
  unfold tyAgg at h
  split at h
  · cases h
  · rename_i i hi
    split at h <;> first
      | (rename_i hu; cases h; exact ⟨fun w => by simp [isAgg, run_underlying hu], i, hi, rfl⟩)
      | cases h

theorem tyAgg_false {P : Program} {t : TypeId} {n : Nat} (h : tyAgg P t = some (false, n)) :
    (∀ w, (isAgg t).run P w = .ok false w) ∧ ∃ i, P.info? t = some i ∧ i.size = n := by
  unfold tyAgg at h
  split at h
  · cases h
  · rename_i i hi
    split at h
    · cases h
    · cases h
    · rename_i d h1 h2 hu
      cases h
      refine ⟨fun w => ?_, i, hi, rfl⟩
      simp only [isAgg, Sem.run_bind, run_underlying hu, Result.andThen_ok]
      cases d <;> first | rfl | (exact absurd rfl (h1 _)) | (exact absurd rfl (h2 _ _))
    · cases h

theorem tySize_some {P : Program} {t : TypeId} {n : Nat} (h : tySize P t = some n) : ∃ i, P.info? t = some i ∧ i.size = n := by
  unfold tySize at h
  split at h
  · rename_i i hi; cases h; exact ⟨i, hi, rfl⟩
  · cases h

theorem tyArr_some {P : Program} {t : TypeId} {n e sz : Nat} (h : tyArr P t = some (n, e, sz)) :
    P.underlying t = some (.array n e) ∧ ∃ i, P.info? e = some i ∧ i.size = sz := by
  unfold tyArr at h
  split at h
  · rename_i n' e' hu
    split at h
    · rename_i i hi; cases h; exact ⟨hu, i, hi, rfl⟩
    · cases h
  · cases h

theorem tySlice_some {P : Program} {t : TypeId} {e sz : Nat} (h : tySlice P t = some (e, sz)) :
    P.underlying t = some (.slice e) ∧ ∃ i, P.info? e = some i ∧ i.size = sz := by
  unfold tySlice at h
  split at h
  · rename_i e' hu
    split at h
    · rename_i i hi; cases h; exact ⟨hu, i, hi, rfl⟩
    · cases h
  · cases h

/-! ### What an operation comes to -/

/-- The operation's answer: run in w it hands back a value that 'out.v' stands for, in a world that the memory behind it stands for. -/
def Res (G : Gl) (P : Program) (π : Loc) (m : Nat → Option Blk) (w0 : World) (fresh : Nat) (out : Out) (s : Sem Value) (w : World) : Prop :=
  ∃ rv w' π', s.run P w = .ok rv w' ∧ π.le π' ∧ out.v.cv π' rv ∧ Rel G π' (effM m fresh out) w0 w'

section
variable {G : Gl} {K : Cx} {π : Loc} {m : Nat → Option Blk} {w0 w : World} {fresh : Nat} {out : Out} {fp : List Nat}

theorem Res.pure {s : Sem Value} {v : V} {obs : List (Bool × Bool)} {rv : Value} (hR : Rel G π m w0 w) (hs : s.run K.P w = .ok rv w) (hc : v.cv π rv) :
    Res G K.P π m w0 fresh ⟨v, [], none, obs⟩ s w := ⟨rv, w, π, hs, π.le_refl, hc, hR⟩

theorem okV_run {v : V} (h : (okV v).run m = some (out, fp)) : out = ⟨v, [], none, []⟩ := by cases h; rfl
theorem okS_run {x : Sc} (h : (okS x).run m = some (out, fp)) : out = ⟨.s x, [], none, []⟩ := by cases h; rfl
theorem okSc_run {x : Option Sc} (h : (okSc x).run m = some (out, fp)) : ∃ y, x = some y ∧ out = ⟨.s y, [], none, []⟩ := by
  cases x with
  | none => cases h
  | some y => cases h; exact ⟨y, rfl, rfl⟩
theorem okSegs_run {x : Option (List Seg)} (h : (okSegs x).run m = some (out, fp)) : ∃ y, x = some y ∧ out = ⟨.a y, [], none, []⟩ := by
  cases x with
  | none => cases h
  | some y => cases h; exact ⟨y, rfl, rfl⟩
theorem read_run {α : Type} {id : Nat} {k : Blk → Rd α} {a : α} (h : (Rd.read id k).run m = some (a, fp)) :
    ∃ b fp', m id = some b ∧ (k b).run m = some (a, fp') ∧ fp = id :: fp' := by
  simp only [Rd.run] at h
  split at h
  · cases h
  · rename_i b hb
    split at h
    · cases h
    · rename_i a' fp' hk; cases h; exact ⟨b, fp', hb, hk, rfl⟩
theorem fail_run {α : Type} {a : α} (h : (Rd.fail : Rd α).run m = some (a, fp)) : False := by cases h

theorem s_load {t : TypeId} {x : V} {xv : Value} (hR : Rel G π m w0 w) (hx : x.cv π xv) (h : (aload K t x).run m = some (out, fp)) :
    Res G K.P π m w0 fresh out (Instr.loadAt t xv) w := by
  unfold aload at h
  split at h
  · rename_i b off
    obtain ⟨n, hn, rfl⟩ := hx
    split at h
    · rename_i sz hty
      obtain ⟨ha, i, hi, rfl⟩ := tyAgg_true hty
      obtain ⟨blk, fp', hb, hk, _⟩ := read_run h
      obtain ⟨gs, hg, rfl⟩ := okSegs_run hk
      obtain ⟨n', vs, T, fz, e1, e2, _⟩ := hR.blk b blk hb
      rw [hn] at e1; cases e1
      obtain ⟨us, h1, h2⟩ := e2.cells (P := K.P) hg
      exact Res.pure hR (by simp [Instr.loadAt, Instr.sureAddr, loadVar, ha, run_size hi, h1]) ⟨_, rfl, h2⟩
    · rename_i sz hty
      obtain ⟨ha, i, hi, rfl⟩ := tyAgg_false hty
      obtain ⟨blk, fp', hb, hk, _⟩ := read_run h
      obtain ⟨y, hg, rfl⟩ := okSc_run hk
      obtain ⟨n', vs, T, fz, e1, e2, _⟩ := hR.blk b blk hb
      rw [hn] at e1; cases e1
      obtain ⟨v, hv, hcv⟩ := e2.cell (P := K.P) hg
      exact Res.pure hR (by simp only [Instr.loadAt, Instr.sureAddr, loadVar, Sem.run_bind, Sem.run_pure, Result.andThen_ok, ha, hv, Bool.false_eq_true, if_false]) hcv
    · cases h
  · rename_i b off x
    obtain ⟨n, hn, rfl⟩ := hx
    split at h
    · rename_i sz hty
      obtain ⟨ha, i, hi, rfl⟩ := tyAgg_false hty
      obtain ⟨blk, fp', hb, hk, _⟩ := read_run h
      obtain ⟨y, hg, rfl⟩ := okSc_run hk
      obtain ⟨n', vs, T, fz, e1, e2, _⟩ := hR.blk b blk hb
      rw [hn] at e1; cases e1
      obtain ⟨v, hv, hcv⟩ := e2.pix (P := K.P) hg
      exact Res.pure hR (by simp only [Instr.loadAt, Instr.sureAddr, loadVar, Sem.run_bind, Sem.run_pure, Result.andThen_ok, ha, hv, Bool.false_eq_true, if_false]) hcv
    · cases h
  · cases h

/-! #### A store -/

theorem segsOfV_cv {x : V} {xv : Value} {gs : List Seg} (hx : x.cv π xv) (h : segsOfV x = some gs) :
    ∃ vs : List Value, xv.cells = vs.toArray ∧ segsCv π gs vs ∧ ∀ v ∈ vs, v.oneCell' = true := by
  cases x with
  | s y =>
    simp only [segsOfV] at h
    cases hs : y.solid <;> simp [hs] at h
    subst h
    have ho := Sc.solid_cv (x := y) hx hs
    refine ⟨[xv], ?_, ⟨[xv], [], rfl, ⟨xv, rfl, hx⟩, rfl⟩, by simpa using ho⟩
    cases xv <;> first | rfl | (simp [Value.oneCell'] at ho)
  | a gs' =>
    simp only [segsOfV] at h
    cases hs : solidSegs gs' <;> simp [hs] at h
    subst h
    obtain ⟨vs, rfl, hc⟩ := hx
    exact ⟨vs, rfl, hc, solidSegs_cv hc hs⟩
  | t l => cases h

theorem unpix_cv {π : Loc} {x : V} {v : Value} (h : x.cv π v) : (unpix x).cv π v := by
  unfold unpix
  split
  · obtain ⟨p, h1, h2⟩ := h; exact ⟨p, h1, h2⟩
  · exact h

theorem s_store {t : TypeId} {x y : V} {xv yv : Value} (hR : Rel G π m w0 w) (hx : x.cv π xv) (hy : y.cv π yv) (h : (astore K t x y).run m = some (out, fp)) :
    ∃ w', (Instr.storeAt t xv yv).run K.P w = .ok () w' ∧ out.v = .s .undef ∧ Rel G π (effM m fresh out) w0 w' := by
  unfold astore at h
  split at h
  · rename_i x' y' n' b off p ps n hp hn
    obtain ⟨nn, hnn, rfl⟩ := hx
    cases hq : Nat.beq (segsSize (p :: ps)) n <;> simp only [hq, cond_true, cond_false] at h
    · exact (fail_run h).elim
    · obtain ⟨blk, fp', hb, hk, _⟩ := read_run h
      cases hw : blk.wr <;> simp only [hw, cond_true, cond_false] at hk
      · exact (fail_run hk).elim
      · split at hk
        · rename_i gs hgs
          cases hk
          obtain ⟨i, hi, rfl⟩ := tySize_some hn
          have hsz := Nat.eq_of_beq_eq_true hq
          obtain ⟨vs, e1, e2, e3⟩ := segsOfV_cv hy hp
          obtain ⟨n', us, T, fz, f1, f2, f4⟩ := hR.blk b blk hb
          rw [hnn] at f1; cases f1
          obtain ⟨f5, f6⟩ := f4 hw
          subst f5
          obtain ⟨h1, h2⟩ := putSegs_cv f2.2.2.2 e2 hgs
          have hcl := cut_length (p := nn) (k := segsSize blk.gs) (vs := us) (by rw [f2.2.1]; exact f2.2.2.1)
          have hlen := segsCv_length e2
          have hfit0 : off + vs.length ≤ segsSize blk.gs := by
            rcases h1 with h1 | h1
            · cases h1
            · omega
          have hsz2 : segsSize gs = segsSize blk.gs := by
            rw [← segsCv_length h2, splice_length (by omega), hcl]
          have hb1 := f2.2.1
          have hb2 := f2.2.2.1
          have hfit : (nn.base + off) + 0 + vs.length ≤ us.toArray.size := by simp; omega
          have hst := run_storeCells_at K.P nn.n (nn.base + off) T vs 0 us.toArray w f2.1 hfit e3
          refine ⟨_, ?_, rfl, hR.write (vs := splice us (nn.base + off) vs) hb hw hnn f2.1 (splice_length (by omega)) (splice_take (by omega) (by omega)) (by omega) ?_⟩
          · simp only [Instr.storeAt, Instr.sureAddr, storeVar, Sem.run_bind, Sem.run_pure, Result.andThen_ok, run_size hi, e1, List.size_toArray]
            rw [if_neg (by omega)]
            rw [hst]
            simp [splice]
          · rw [hsz2, cut_splice hfit0 (by omega)]; exact h2
        · exact (fail_run hk).elim
  · exact (fail_run h).elim

/-! #### New blocks -/

theorem Res.new {gs : List Seg} {vs : List Value} {s : Sem Value} {T : TypeId} (hR : Rel G π m w0 w) (hf : m fresh = none) (hc : segsCv π gs vs)
    (hs : s.run K.P w = .ok (.pointer (some ⟨w.heap.size, 0, none⟩)) (w.alloc (.cells vs.toArray T))) : Res G K.P π m w0 fresh ⟨.s (.ptr fresh 0), [gs], none, []⟩ s w := by
  obtain ⟨h1, h2⟩ := hR.alloc hf hc T
  exact ⟨_, _, _, hs, h1, ⟨⟨w.heap.size, 0, vs.length⟩, by simp [updL], rfl⟩, h2⟩

theorem run_newVar (P : Program) (t : TypeId) (v : Value) (w : World) : (newVar t v).run P w = .ok ⟨w.heap.size, 0, none⟩ (w.alloc (.cells v.cells t)) := by
  simp [newVar, newRow]

theorem scOf_cv (v : Value) : (scOf v).cv π v := by
  unfold scOf
  split <;> first
    | exact True.intro
    | rfl
    | (rename_i n; cases hb : Nat.ble _ n <;> simp only [cond_true, cond_false]
       · have hlt : ¬ _ ≤ n := fun q => by rw [Nat.ble_eq_true_of_le q] at hb; cases hb
         simp only [Sc.cv, BitVec.toNat_ofNat]
         rw [Nat.mod_eq_of_lt (by omega)]; rfl
       · exact True.intro)

theorem zeros_spec {k : IntKind} : ∀ {vs : List Value}, zeros k vs = true → vs = (List.replicate vs.length (.int k 0))
  | [], _ => rfl
  | v :: r, h => by
    unfold zeros at h
    split at h
    · rename_i e; cases e
    · rename_i k' r' e
      cases e
      simp only [Bool.and_eq_true, beq_iff_eq] at h
      obtain ⟨h1, h2⟩ := h
      subst h1
      rw [List.length_cons, List.replicate_succ, ← zeros_spec h2]; rfl
    · cases h

theorem chunk_cv {vs : List Value} {g : Seg} (h : chunk vs = some g) : g.cv π vs := by
  unfold chunk at h
  split at h
  · cases h
  · cases h; exact ⟨_, rfl, scOf_cv _⟩
  · rename_i v r _
    generalize hl : v :: r = l at h ⊢
    split at h
    · cases hz : zeros .u8 l <;> simp only [hz, cond_true, cond_false] at h <;> cases h
      exact ⟨by simp, by rw [List.map_replicate]; exact zeros_spec hz⟩
    · cases hz : zeros .u32 l <;> simp only [hz, cond_true, cond_false] at h <;> cases h
      exact ⟨by simp, by rw [List.map_replicate]; exact zeros_spec hz⟩
    · cases hz : zeros .i64 l <;> simp only [hz, cond_true, cond_false] at h <;> cases h
      exact ⟨by simp, by rw [List.map_replicate]; exact zeros_spec hz⟩
    · cases h

theorem chunks_cv : ∀ {ns : List Nat} {vs : List Value} {gs : List Seg}, chunks ns vs = some gs → segsCv π gs vs
  | [], vs, gs, h => by
    unfold chunks at h
    split at h <;> first | (cases h; rfl) | cases h | (rename_i e; cases e) | skip
    all_goals simp_all
  | n :: ns, vs, gs, h => by
    unfold chunks at h
    split at h
    · rename_i g gs' h1 h2
      cases h
      exact ⟨_, _, (List.take_append_drop n vs).symm, chunk_cv h1, chunks_cv h2⟩
    · cases h

theorem zeroSegs_cv {P : Program} {t : TypeId} {gs : List Seg} (h : zeroSegs P t = some gs) :
    ∃ i z, P.info? t = some i ∧ i.zero = some z ∧ segsCv π gs z.cells.toList := by
  unfold zeroSegs at h
  split at h
  · cases h
  · rename_i i hi
    split at h
    · cases h
    · rename_i z hz
      refine ⟨i, z, hi, hz, ?_⟩
      split at h
      · split at h
        · exact chunks_cv h
        · cases h
      · exact chunks_cv h
      · exact chunks_cv h

theorem s_alloc {t : TypeId} {gs : List Seg} (hR : Rel G π m w0 w) (hf : m fresh = none) (hz : zeroSegs K.P t = some gs) (h : (newB fresh gs).run m = some (out, fp)) :
    Res G K.P π m w0 fresh out (Instr.alloc t true (.tuple #[])) w := by
  cases h
  obtain ⟨i, z, hi, hzz, hc⟩ := zeroSegs_cv (π := π) hz
  refine Res.new (T := t) hR hf hc ?_
  simp [Instr.alloc, zeroValue, run_info hi, hzz, run_newVar]

theorem s_box {t : TypeId} {x : V} {xv : Value} (hR : Rel G π m w0 w) (hf : m fresh = none) (hx : x.cv π xv) (h : (abox fresh x).run m = some (out, fp)) :
    Res G K.P π m w0 fresh out (Instr.box t xv) w := by
  unfold abox at h
  split at h
  · rename_i gs hg
    cases h
    obtain ⟨vs, e1, e2, _⟩ := segsOfV_cv hx hg
    refine Res.new (T := t) hR hf e2 ?_
    simp [Instr.box, run_newVar, e1]
  · exact (fail_run h).elim
end
end Go.Mo
