/- The abstract evaluator, part 8: regions, in whatever order they are carried out. -/
import Derived.Test.YtamlbiaakogahaaDoorMo7
import Derived.LoopN
import Derived.Scope

namespace Go.Mo
open Go Go.RowKit

/-- The abstract state as functions. -/
structure FS where
  t : Nat → V
  m : Nat → Option Blk

def evG (t : Nat → V) : Operand → V
  | .tmp i => t i
  | .const v => .s (scOf v)
  | .global _ => .s .any
  | .func f => .s (.fn f [])

def putF (t : Nat → V) (dst : Option Tmp) (v : V) : Nat → V :=
  match dst with
  | none => t
  | some d => fun i => if i = d then v else t i

def guardF (ops : Array Oper) (t : Nat → V) (o : Oper) : Option Bool :=
  match o.guard with
  | none => some true
  | some (j, want) =>
    match (ops[j]?).bind (·.dst) with
    | none => none
    | some d =>
      match t d with
      | .s (.bool b) => some (b == want)
      | .s .undef => some false
      | _ => none

structure RelS (G : Gl) (π : Loc) (s : FS) (n : Nat) (w0 : World) (a : Act) (w : World) : Prop where
  mem : Rel G π s.m w0 w
  defers : a.defers = []
  size : a.tmps.size = n
  slots : ∀ i, (s.t i).cv π (a.tmps.getD i undef)

section
variable {G : Gl} {K : Cx} {π : Loc} {w0 w : World} {P : Program} {s : FS} {n : Nat} {a : Act} {ops : Array Oper}

theorem RelS.ev (h : RelS G π s n w0 a w) (x : Operand) : (evG s.t x).cv π (a.eval x) := by
  cases x with
  | tmp i => exact h.slots i
  | const v => exact scOf_cv v
  | global g => exact True.intro
  | func f => exact ⟨[], rfl, rfl⟩

theorem RelS.put {π' : Loc} {m' : Nat → Option Blk} {w' : World} {rv : Value} {v : V} {dst : Option Tmp} (h : RelS G π s n w0 a w) (hle : π.le π') (hv : v.cv π' rv)
    (hm : Rel G π' m' w0 w') (hd : dstOk n dst = true) : RelS G π' ⟨putF s.t dst v, m'⟩ n w0 (a.put dst rv) w' := by
  cases dst with
  | none => exact ⟨hm, h.defers, h.size, fun i => V.cv_mono hle (h.slots i)⟩
  | some d =>
    refine ⟨hm, h.defers, by simp [Act.put, h.size], fun i => ?_⟩
    have hlt : d < a.tmps.size := by rw [h.size]; exact Nat.le_of_ble_eq_true hd
    simp only [putF, Act.put]
    by_cases e : i = d
    · subst e; simp [hlt]; exact hv
    · rw [if_neg e]
      have := V.cv_mono hle (h.slots i)
      simpa [Array.getElem?_setIfInBounds_ne (Ne.symm e)] using this

theorem guard_wanted {o : Oper} {b : Bool} (h : RelS G π s n w0 a w) (hg : guardF ops s.t o = some b) : Region.wanted o (yielded ops a.tmps) = b := by
  unfold guardF at hg
  unfold Region.wanted
  split at hg
  · rename_i e; rw [e]; cases hg; rfl
  · rename_i j want e
    rw [e]
    split at hg
    · cases hg
    · rename_i d hd
      have hs := h.slots d
      simp only [yielded, hd, Option.bind_some]
      split at hg
      · rename_i c hc
        cases hg
        rw [hc] at hs
        have hs : a.tmps.getD d undef = .bool c := hs
        have : a.tmps[d]? = some (.bool c) := by
          cases hq : a.tmps[d]? with
          | none => simp [hq, undef] at hs
          | some u => simp [hq] at hs; rw [hs]
        rw [this]; cases c <;> cases want <;> rfl
      · rename_i hc
        cases hg
        rw [hc] at hs
        have hs : a.tmps.getD d undef = undef := hs
        cases hq : a.tmps[d]? with
        | none => rfl
        | some u => simp [hq] at hs; subst hs; rfl
      · cases hg

/-! ### One step -/

def dstAt (ops : Array Oper) (i : Nat) : Option Tmp := (ops[i]?).bind (·.dst)

def FS.app (ops : Array Oper) (x : Info) (s : FS) : FS := ⟨putF s.t (dstAt ops x.i) x.out.v, effM s.m x.fresh x.out⟩

structure Enabled (K : Cx) (ops : Array Oper) (n : Nat) (x : Info) (s : FS) : Prop where
  op : ∃ o, ops[x.i]? = some o ∧ dstOk n o.dst = true ∧
    ((x.run = true ∧ guardF ops s.t o = some true ∧ (aop K x.ans x.fresh (evG s.t) o).run s.m = some (x.out, x.fp)) ∨
     (x.run = false ∧ guardF ops s.t o = some false ∧ x.out = ⟨.s .undef, [], none, []⟩ ∧ x.fp = []))
  obs : ObsOk x.out.obs
  free : ∀ j, j < x.out.news.length → s.m (x.fresh + j) = none

theorem Enabled.wpOp (hE : EnvOk G K) {x : Info} (hx : Enabled K ops n x s) (h : RelS G π s n w0 a w) {Q : Exit → Act → World → Prop} {next : Act → World → Prop}
    (hk : ∀ π' a' w', π.le π' → RelS G π' (s.app ops x) n w0 a' w' → next a' w') : wpOp K.P ops Q x.i next a w := by
  obtain ⟨o, ho, hd, hc⟩ := hx.op
  have hdst : dstAt ops x.i = o.dst := by simp [dstAt, ho]
  unfold Go.wpOp
  simp only [ho]
  rcases hc with ⟨_, hg, hr⟩ | ⟨_, hg, he, _⟩
  · rw [guard_wanted h hg, if_pos rfl]
    refine .inl (aop_wp hE h.mem h.ev hr hx.obs hx.free fun rv w' π' h1 h2 h3 => ?_)
    exact hk π' _ _ h1 (by unfold FS.app; rw [hdst]; exact h.put h1 h2 h3 hd)
  · rw [guard_wanted h hg]
    simp only [Bool.false_eq_true, if_false]
    refine hk π _ _ π.le_refl ?_
    unfold FS.app
    rw [hdst, he]
    exact h.put π.le_refl rfl h.mem hd

def Exec (K : Cx) (ops : Array Oper) (n : Nat) : List Info → FS → FS → Prop
  | [], s, s' => s = s'
  | x :: r, s, s' => Enabled K ops n x s ∧ Exec K ops n r (s.app ops x) s'

/-! ### Two steps change places -/

theorem Rd.run_other {α : Type} {m m' : Nat → Option Blk} : ∀ {r : Rd α} {a : α} {fp : List Nat}, r.run m = some (a, fp) → (∀ i ∈ fp, m' i = m i) → r.run m' = some (a, fp)
  | .pure _, _, _, h, _ => h
  | .read id k, a, fp, h, hm => by
    obtain ⟨b, fp', hb, hk, rfl⟩ := read_run h
    have := Rd.run_other hk (fun i hi => hm i (by simp [hi]))
    have h0 := hm id (by simp)
    simp [Rd.run, h0, hb, this]
  | .fail, _, _, h, _ => by cases h

theorem capsOf_congr {ev ev' : Operand → V} : ∀ {l : List Operand}, (∀ z ∈ l, ev z = ev' z) → capsOf ev l = capsOf ev' l
  | [], _ => rfl
  | x :: r, h => by
    unfold capsOf
    rw [h x (by simp), capsOf_congr (l := r) fun z hz => h z (by simp [hz])]

theorem afill_congr {place : Nat → Option (Nat × Nat)} {ev ev' : Operand → V} : ∀ {l : List (Nat × Operand)} {gs : List Seg}, (∀ z ∈ l, ev z.2 = ev' z.2) → afill place ev gs l = afill place ev' gs l
  | [], _, _ => rfl
  | (i, x) :: r, gs, h => by
    have ih : ∀ gs', afill place ev gs' r = afill place ev' gs' r := fun gs' => afill_congr fun z hz => h z (by simp [hz])
    simp only [afill, h (i, x) (by simp), ih]

theorem bnd_congr {ev ev' : Operand → V} {x : Option Operand} {d : Nat} (h : ∀ z ∈ x.toList, ev z = ev' z) : bnd ev x d = bnd ev' x d := by
  cases x with
  | none => rfl
  | some x => simp only [bnd, h x (by simp)]

theorem aop_congr {ans : Option Bool} {fresh : Nat} {ev ev' : Operand → V} {o : Oper} (h : ∀ z ∈ o.op.operands, ev z = ev' z) : aop K ans fresh ev o = aop K ans fresh ev' o := by
  obtain ⟨dst, op, type, pos, after, guard⟩ := o
  cases op <;> simp only [Op.operands] at h <;> simp only [aop]
  case move x => rw [h x (by simp)]
  case assign x => rw [h x (by simp)]
  case pick c x y => rw [h c (by simp), h x (by simp), h y (by simp)]
  case box t x => rw [h x (by simp)]
  case load t x => rw [h x (by simp)]
  case store t x y => rw [h x (by simp), h y (by simp)]
  case nilCheck x => rw [h x (by simp)]
  case binOp op t x y yt => rw [h x (by simp), h y (by simp)]
  case unOp op t x => rw [h x (by simp)]
  case convert s d x => rw [h x (by simp)]
  case makeFunc fn first captured =>
    unfold amakeFunc
    rw [capsOf_congr fun z hz => h z (by simp at hz; simp [hz])]
  case slice t x lo hi mx =>
    unfold aslice
    rw [h x (by simp)]
    have e1 : ∀ d, bnd ev lo d = bnd ev' lo d := fun d => bnd_congr fun z hz => h z (by simp at hz; simp [hz])
    have e2 : ∀ d, bnd ev hi d = bnd ev' hi d := fun d => bnd_congr fun z hz => h z (by simp at hz; simp [hz])
    simp only [e1, e2]
  case sliceToArrayPointer t x => rw [h x (by simp)]
  case fieldAddr t x f => rw [h x (by simp)]
  case field t x f => rw [h x (by simp)]
  case indexAddr t x ix => rw [h x (by simp), h ix (by simp)]
  case index t x ix => rw [h x (by simp), h ix (by simp)]
  case extract x i => rw [h x (by simp)]
  case build t parts =>
    unfold abuild
    have e : ∀ place gs, afill place ev gs parts.toList = afill place ev' gs parts.toList := fun place gs => afill_congr fun z hz => h z.2 (by simp; exact ⟨z.1, by simpa using hz⟩)
    simp only [e]
  case buildSlice t len parts =>
    unfold abuildSlice
    have e : ∀ place gs, afill place ev gs parts.toList = afill place ev' gs parts.toList := fun place gs => afill_congr fun z hz => h z.2 (by simp; exact ⟨z.1, by simpa using hz⟩)
    simp only [e]
  case makeInterface t x => rw [h x (by simp)]
  case call c =>
    have e : c.args.toList.map ev = c.args.toList.map ev' := List.map_congr_left fun z hz => h z (by simp [Call.operands]; right; simpa using hz)
    unfold acall
    cases hc : c.callee with
    | value f => simp only [e, h f (by simp [Call.operands, hc])]
    | invoke r nm => rfl
    | builtin b => simp only [e]

/-! #### What a step touches -/

theorem memB_iff {l : List Nat} {x : Nat} : memB l x = true ↔ x ∈ l := by
  unfold memB
  rw [List.any_eq_true]
  constructor
  · rintro ⟨y, hy, e⟩; rw [Nat.eq_of_beq_eq_true e]; exact hy
  · intro h; exact ⟨x, h, Nat.beq_refl x⟩

theorem disjB_iff {a b : List Nat} : disjB a b = true ↔ ∀ x ∈ a, x ∉ b := by
  unfold disjB
  rw [List.all_eq_true]
  constructor
  · intro h x hx hb; have := h x hx; rw [memB_iff.2 hb] at this; cases this
  · intro h x hx
    cases hb : memB b x with
    | false => rfl
    | true => exact absurd (memB_iff.1 hb) (h x hx)

def outLays (fresh : Nat) (out : Out) : List Nat :=
  (match out.wr with | some (b, _) => [b] | none => []) ++ (List.range out.news.length).map (fresh + ·)

theorem effM_spec (m : Nat → Option Blk) (fresh : Nat) (out : Out) (i : Nat) :
    effM m fresh out i = if i ∈ outLays fresh out then effM (fun _ => none) fresh out i else m i := by
  have inNews : i ∈ (List.range out.news.length).map (fresh + ·) ↔ fresh ≤ i ∧ i < fresh + out.news.length := by
    simp only [List.mem_map, List.mem_range]
    constructor
    · rintro ⟨j, hj, rfl⟩; omega
    · intro h; exact ⟨i - fresh, by omega, by omega⟩
  have inAll : i ∈ outLays fresh out ↔ i ∈ (match out.wr with | some (b, _) => [b] | none => ([] : List Nat)) ∨ (fresh ≤ i ∧ i < fresh + out.news.length) := by
    unfold outLays
    rw [List.mem_append, inNews]
  unfold effM
  rw [newsM_spec, newsM_spec]
  by_cases h : fresh ≤ i ∧ i < fresh + out.news.length
  · rw [if_pos h, if_pos (inAll.2 (.inr h)), if_pos h]
  · rw [if_neg h, if_neg h]
    cases hw : out.wr with
    | none =>
      rw [if_neg (fun q => (inAll.1 q).elim (fun q => by rw [hw] at q; cases q) h)]
      rfl
    | some p =>
      obtain ⟨b, gs⟩ := p
      simp only [wrM, updM]
      by_cases e : i = b
      · rw [if_pos e, if_pos e, if_pos (inAll.2 (.inl (by rw [hw]; simp [e])))]
      · rw [if_neg e, if_neg e, if_neg (fun q => (inAll.1 q).elim (fun q => by rw [hw] at q; simp at q; exact e q) h)]

theorem effM_isSome {fresh : Nat} {out : Out} {i : Nat} (h : i ∈ outLays fresh out) (m : Nat → Option Blk) : (effM m fresh out i).isSome = true := by
  unfold outLays at h
  unfold effM
  rw [newsM_spec]
  rcases List.mem_append.1 h with h | h
  · split
    · rename_i hc
      have : i - fresh < out.news.length := by omega
      simp [this]
    · cases hw : out.wr with
      | none => rw [hw] at h; simp at h
      | some p => obtain ⟨b, gs⟩ := p; rw [hw] at h; simp at h; subst h; simp [wrM, updM]
  · simp only [List.mem_map, List.mem_range] at h
    obtain ⟨j, hj, rfl⟩ := h
    rw [if_pos (by omega)]
    simp [hj]

theorem effM_comm {m : Nat → Option Blk} {f g : Nat} {x y : Out} (h : ∀ i ∈ outLays f x, i ∉ outLays g y) : effM (effM m f x) g y = effM (effM m g y) f x := by
  funext i
  rw [effM_spec (effM m f x), effM_spec (effM m g y), effM_spec m f x, effM_spec m g y]
  by_cases h1 : i ∈ outLays f x <;> by_cases h2 : i ∈ outLays g y
  · exact absurd h2 (h i h1)
  · simp [h1, h2]
  · simp [h1, h2]
  · simp [h1, h2]

theorem putF_comm {t : Nat → V} {x y : Option Tmp} {u v : V} (h : ∀ d, x = some d → y ≠ some d) : putF (putF t x u) y v = putF (putF t y v) x u := by
  cases x with
  | none => rfl
  | some d =>
    cases y with
    | none => rfl
    | some e =>
      have hne : d ≠ e := fun q => h d rfl (q ▸ rfl)
      funext i
      simp only [putF]
      by_cases h1 : i = d
      · subst h1; simp [hne]
      · by_cases h2 : i = e
        · subst h2; simp [h1]
        · simp [h1, h2]

theorem evG_put {t : Nat → V} {dst : Option Tmp} {v : V} {z : Operand} (h : ∀ d, dst = some d → z ≠ .tmp d) : evG (putF t dst v) z = evG t z := by
  cases dst with
  | none => rfl
  | some d =>
    cases z with
    | tmp i =>
      have hne : i ≠ d := fun q => h d rfl (by rw [q])
      simp [evG, putF, hne]
    | _ => rfl

theorem guardF_put {t : Nat → V} {dst : Option Tmp} {v : V} {o : Oper} (h : ∀ d, dst = some d → d ∉ o.looksAt ops) : guardF ops (putF t dst v) o = guardF ops t o := by
  unfold guardF
  cases hg : o.guard with
  | none => rfl
  | some gw =>
    obtain ⟨j, want⟩ := gw
    simp only
    cases hd : (ops[j]?).bind (·.dst) with
    | none => rfl
    | some d =>
      simp only
      have : putF t dst v d = t d := by
        cases dst with
        | none => rfl
        | some e =>
          have hne : d ≠ e := fun q => h e rfl (by subst q; simp [Oper.looksAt, hg, hd])
          simp [putF, hne]
      rw [this]

/-- Operation y, enabled behind x, is enabled ahead of it. -/
theorem Enabled.behind {x y : Info} {ox oy : Oper} (hox : ops[x.i]? = some ox) (hoy : ops[y.i]? = some oy)
    (hl : ∀ d, ox.dst = some d → d ∉ oy.looksAt ops) (hm : ∀ i ∈ outLays x.fresh x.out, i ∉ y.fp) (hy : Enabled K ops n y (s.app ops x)) : Enabled K ops n y s := by
  obtain ⟨o, ho, hd, hc⟩ := hy.op
  rw [hoy] at ho; cases ho
  have hdx : dstAt ops x.i = ox.dst := by simp [dstAt, hox]
  have e1 : guardF ops (s.app ops x).t oy = guardF ops s.t oy := by simp only [FS.app, hdx]; exact guardF_put hl
  have e2 : aop K y.ans y.fresh (evG (s.app ops x).t) oy = aop K y.ans y.fresh (evG s.t) oy := by
    simp only [FS.app, hdx]
    exact aop_congr fun z hz => evG_put fun d hd hzd => hl d hd (by
      subst hzd
      exact List.mem_append_left _ (List.mem_filterMap.2 ⟨.tmp d, by simpa using hz, rfl⟩))
  refine ⟨⟨oy, hoy, hd, ?_⟩, hy.obs, fun j hj => ?_⟩
  · rcases hc with ⟨c1, c2, c3⟩ | ⟨c1, c2, c3⟩
    · left
      refine ⟨c1, e1 ▸ c2, ?_⟩
      rw [e2] at c3
      refine Rd.run_other c3 fun i hi => ?_
      simp only [FS.app]
      rw [effM_spec, if_neg fun hc => hm i hc hi]
    · exact .inr ⟨c1, e1 ▸ c2, c3⟩
  · have := hy.free j hj
    simp only [FS.app] at this
    rw [effM_spec] at this
    split at this
    · rename_i hc
      have h2 := effM_isSome hc (fun _ => none)
      rw [this] at h2; cases h2
    · exact this

/-- Operation x, enabled, is enabled behind y too. -/
theorem Enabled.after {x y : Info} {ox oy : Oper} (hox : ops[x.i]? = some ox) (hoy : ops[y.i]? = some oy)
    (hl : ∀ d, oy.dst = some d → d ∉ ox.looksAt ops) (hm : ∀ i ∈ outLays y.fresh y.out, i ∉ x.fp) (hd : ∀ i ∈ outLays x.fresh x.out, i ∉ outLays y.fresh y.out)
    (hx : Enabled K ops n x s) : Enabled K ops n x (s.app ops y) := by
  obtain ⟨o, ho, hdo, hc⟩ := hx.op
  rw [hox] at ho; cases ho
  have hdy : dstAt ops y.i = oy.dst := by simp [dstAt, hoy]
  have e1 : guardF ops (s.app ops y).t ox = guardF ops s.t ox := by simp only [FS.app, hdy]; exact guardF_put hl
  have e2 : aop K x.ans x.fresh (evG (s.app ops y).t) ox = aop K x.ans x.fresh (evG s.t) ox := by
    simp only [FS.app, hdy]
    exact aop_congr fun z hz => evG_put fun d hd hzd => hl d hd (by
      subst hzd
      exact List.mem_append_left _ (List.mem_filterMap.2 ⟨.tmp d, by simpa using hz, rfl⟩))
  refine ⟨⟨ox, hox, hdo, ?_⟩, hx.obs, fun j hj => ?_⟩
  · rcases hc with ⟨c1, c2, c3⟩ | ⟨c1, c2, c3⟩
    · left
      refine ⟨c1, e1.trans c2, ?_⟩
      rw [e2]
      refine Rd.run_other c3 fun i hi => ?_
      simp only [FS.app]
      rw [effM_spec, if_neg fun hc => hm i hc hi]
    · exact .inr ⟨c1, e1.trans c2, c3⟩
  · simp only [FS.app]
    rw [effM_spec, if_neg]
    · exact hx.free j hj
    · refine hd _ ?_
      exact List.mem_append_right _ (List.mem_map.2 ⟨j, by simpa using hj, rfl⟩)

theorem lays_eq (x : Info) : x.lays = outLays x.fresh x.out := rfl

/-- Two operations that may change places. -/
def Indep (ops : Array Oper) (x y : Info) : Prop :=
  freeB x y = true ∧ ∃ ox oy, ops[x.i]? = some ox ∧ ops[y.i]? = some oy ∧ ox.apart ops oy = true

theorem swap {x y : Info} (hi : Indep ops x y) (hx : Enabled K ops n x s) (hy : Enabled K ops n y (s.app ops x)) :
    Enabled K ops n y s ∧ Enabled K ops n x (s.app ops y) ∧ (s.app ops x).app ops y = (s.app ops y).app ops x := by
  obtain ⟨hf, ox, oy, h1, h2, hap⟩ := hi
  unfold freeB at hf
  simp only [Bool.and_eq_true, lays_eq] at hf
  obtain ⟨⟨f1, f2⟩, f3⟩ := hf
  have f1 := disjB_iff.1 f1
  have f2 := disjB_iff.1 f2
  have f3 := disjB_iff.1 f3
  obtain ⟨a1, a2, a3⟩ := Oper.apart_spec hap
  refine ⟨hy.behind h1 h2 a1 f1, hx.after h1 h2 a3 f3 f2, ?_⟩
  have d1 : dstAt ops x.i = ox.dst := by simp [dstAt, h1]
  have d2 : dstAt ops y.i = oy.dst := by simp [dstAt, h2]
  simp only [FS.app, d1, d2]
  rw [putF_comm a2, effM_comm f2]

theorem bubble : ∀ {pre : List Info} {y : Info} {r : List Info} {s s' : FS}, (∀ x ∈ pre, Indep ops x y) → Exec K ops n (pre ++ y :: r) s s' →
    Enabled K ops n y s ∧ Exec K ops n (pre ++ r) (s.app ops y) s'
  | [], _, _, _, _, _, h => h
  | x :: pre, y, r, s, s', hi, ⟨hx, hr⟩ => by
    obtain ⟨h1, h2⟩ := bubble (fun z hz => hi z (by simp [hz])) hr
    obtain ⟨g1, g2, g3⟩ := swap (hi x (by simp)) hx h1
    exact ⟨g1, g2, g3 ▸ h2⟩
end
end Go.Mo


namespace Go.Mo
open Go Go.RowKit

section
variable {G : Gl} {K : Cx} {π : Loc} {w0 w : World} {P : Program} {s : FS} {n : Nat} {a : Act} {ops : Array Oper}

theorem getL_getD {α : Type} (d : α) (l : List α) (i : Nat) : getL d l i = l.getD i d := nth_eq d l i

theorem getDl {α : Type} (l m : List α) (d : α) (i : Nat) (h : i < l.length) : (l ++ m).getD i d = l.getD i d := by
  simp [List.getD, List.getElem?_append_left h]
theorem getDr {α : Type} (l m : List α) (d : α) (i : Nat) (h : l.length ≤ i) : (l ++ m).getD i d = m.getD (i - l.length) d := by
  simp [List.getD, List.getElem?_append_right h]

def preds (o : Oper) : List Nat := (o.after.toList.filter (Region.binds .any ·)).map (·.on)

theorem mem_uniqGo {j : Nat} : ∀ {l : List Nat} {m : Nat}, j ∈ uniqGo m l → j ∈ l
  | [], _, h => h
  | x :: r, m, h => by
    unfold uniqGo at h
    cases hq : Nat.beq (m / 2 ^ x % 2) 1 <;> simp only [hq, cond_true, cond_false] at h
    · rcases List.mem_cons.1 h with h | h
      · subst h; exact List.mem_cons_self ..
      · exact List.mem_cons_of_mem _ (mem_uniqGo h)
    · exact List.mem_cons_of_mem _ (mem_uniqGo h)

theorem waitsL_old : ∀ (L : List Oper) (acc : List (List Nat)) (i : Nat), i < acc.length → getL [] (waitsL L acc) i = getL [] acc i
  | [], _, _, _ => rfl
  | o :: r, acc, i, h => by
    simp only [waitsL]
    rw [waitsL_old r _ i (by simp; omega)]
    simp only [getL_getD]
    rw [getDl _ _ _ _ h]

theorem waitsL_spec : ∀ (L : List Oper) (acc : List (List Nat)) (i j : Nat), j ∈ getL [] (waitsL L acc) i →
    (i < acc.length ∧ j ∈ getL [] acc i) ∨ ∃ o, L[i - acc.length]? = some o ∧ acc.length ≤ i ∧ (j ∈ preds o ∨ ∃ d ∈ preds o, j ∈ getL [] (waitsL L acc) d)
  | [], acc, i, j, h => by
    simp only [waitsL] at h
    left
    refine ⟨?_, h⟩
    rcases Nat.lt_or_ge i acc.length with q | q
    · exact q
    · rw [getL_getD] at h; simp [List.getD, List.getElem?_eq_none q] at h
  | o :: r, acc, i, j, h => by
    have hx := h
    simp only [waitsL] at h
    rcases waitsL_spec r _ i j h with ⟨h1, h2⟩ | ⟨o', h1, h2, h3⟩
    · simp only [List.length_append, List.length_singleton] at h1
      by_cases hi : i < acc.length
      · left
        rw [getL_getD, getDl _ _ _ _ hi, ← getL_getD] at h2
        exact ⟨hi, h2⟩
      · have e : i = acc.length := by omega
        right
        refine ⟨o, by simp [e], by omega, ?_⟩
        rw [getL_getD, getDr _ _ _ _ (by omega), e] at h2
        simp only [Nat.sub_self, List.getD_cons_zero] at h2
        rcases List.mem_append.1 (mem_uniqGo h2) with h2 | h2
        · exact .inl h2
        · right
          rw [List.mem_flatMap] at h2
          obtain ⟨d, hd, hj⟩ := h2
          refine ⟨d, hd, ?_⟩
          have hlt : d < acc.length := by
            rcases Nat.lt_or_ge d acc.length with q | q
            · exact q
            · rw [getL_getD] at hj; simp [List.getD, List.getElem?_eq_none q] at hj
          rw [waitsL_old _ _ _ hlt]; exact hj
    · right
      simp only [List.length_append, List.length_singleton] at h1 h2
      refine ⟨o', ?_, by omega, ?_⟩
      · rw [show i - acc.length = (i - (acc.length + 1)) + 1 by omega]; simpa using h1
      · simpa only [waitsL] using h3

theorem ready_iff {listed : Array Bool} {i : Nat} : i ∈ Region.ready .any ops listed ↔
    i < ops.size ∧ listed.getD i true = false ∧ ∃ o, ops[i]? = some o ∧ ∀ d ∈ preds o, listed.getD d false = true := by
  unfold Region.ready preds
  simp only [List.mem_filter, List.mem_range, Bool.and_eq_true, Bool.not_eq_true']
  constructor
  · rintro ⟨h1, h2, h3⟩
    refine ⟨h1, h2, ops[i], by simp [h1], ?_⟩
    simp only [Array.getElem?_eq_getElem h1, Option.map_some, Option.getD_some] at h3
    intro d hd
    simp only [List.mem_map, List.mem_filter] at hd
    obtain ⟨e, ⟨he, hb⟩, rfl⟩ := hd
    rw [Array.all_eq_true'] at h3
    have := h3 e (by simpa using he)
    simpa [hb] using this
  · rintro ⟨h1, h2, o, ho, h3⟩
    refine ⟨h1, h2, ?_⟩
    simp only [ho, Option.map_some, Option.getD_some]
    rw [Array.all_eq_true']
    intro e he
    by_cases hb : Region.binds .any e = true
    · have := h3 e.on (List.mem_map.2 ⟨e, List.mem_filter.2 ⟨by simpa using he, hb⟩, rfl⟩)
      simp [this]
    · simp [hb]

theorem edgesB_spec : ∀ {L : List Oper} {k i : Nat} {o : Oper}, edgesB k L = true → L[i]? = some o → ∀ d ∈ preds o, d < k + i
  | [], _, _, _, _, h => by simp at h
  | x :: r, k, i, o, hb, h => by
    simp only [edgesB, Bool.and_eq_true] at hb
    intro d hd
    cases i with
    | zero =>
      simp at h; subst h
      simp only [preds, List.mem_map, List.mem_filter] at hd
      obtain ⟨e, ⟨he, hb'⟩, rfl⟩ := hd
      have := List.all_eq_true.1 hb.1 e he
      simp [hb'] at this
      omega
    | succ i =>
      have := edgesB_spec hb.2 (by simpa using h) d hd
      omega

theorem getD_tf {listed : Array Bool} {i : Nat} (hi : i < listed.size) : listed.getD i true = listed.getD i false := by
  simp [hi]

theorem wpAny_exec (hE : EnvOk G K) {Q : Exit → Act → World → Prop} {send : FS} (hb : edgesB 0 ops.toList = true) (hQ : ∀ π a w, RelS G π send n w0 a w → Q .normal a w) :
    ∀ (k : Nat) (R : List Info) (listed : Array Bool) (s : FS) (π : Loc) (a : Act) (w : World), R.length = k → RelS G π s n w0 a w → Exec K ops n R s send →
      listed.size = ops.size → (∀ i, i < ops.size → (listed.getD i true = false ↔ ∃ x ∈ R, x.i = i)) → (∀ x ∈ R, x.i < ops.size) →
      R.Pairwise (fun x y => x.i < y.i ∧ pairOk ops (waitsL ops.toList []) x y = true) →
      (∀ i j, listed.getD i false = true → j ∈ getL [] (waitsL ops.toList []) i → listed.getD j false = true) →
      wpAny K.P .any ops Q k listed a w
  | 0, R, listed, s, π, a, w, hk, hR, hx, hsz, hin, hlt, hpw, hcl => by
    have : R = [] := List.length_eq_zero_iff.1 hk
    subst this
    have hs : s = send := hx
    subst hs
    refine ⟨?_, hQ _ _ _ hR⟩
    rw [List.eq_nil_iff_forall_not_mem]
    intro i hi
    obtain ⟨h1, h2, _⟩ := ready_iff.1 hi
    obtain ⟨x, hx, _⟩ := (hin i h1).1 h2
    cases hx
  | k + 1, R, listed, s, π, a, w, hk, hR, hx, hsz, hin, hlt, hpw, hcl => by
    refine ⟨fun hnil => ?_, fun i hi => ?_⟩
    · exfalso
      match R, hk with
      | x :: r, _ =>
        have hxi := hlt x (by simp)
        have : x.i ∈ Region.ready .any ops listed := by
          refine ready_iff.2 ⟨hxi, (hin _ hxi).2 ⟨x, by simp, rfl⟩, ops[x.i], by simp [hxi], fun d hd => ?_⟩
          have hlt' := edgesB_spec (o := ops[x.i]) (i := x.i) hb (by simp [hxi]) d hd
          rw [Nat.zero_add] at hlt'
          have hdsz : d < ops.size := by omega
          cases hq : listed.getD d false with
          | true => rfl
          | false =>
            rw [← getD_tf (by omega)] at hq
            obtain ⟨y, hy, hyd⟩ := (hin d hdsz).1 hq
            rcases List.mem_cons.1 hy with e | e
            · subst e; omega
            · have := (List.pairwise_cons.1 hpw).1 y e
              omega
        rw [hnil] at this; cases this
    · obtain ⟨h1, h2, o, ho, hp⟩ := ready_iff.1 hi
      obtain ⟨y, hy, rfl⟩ := (hin i h1).1 h2
      obtain ⟨pre, post, rfl⟩ := List.append_of_mem hy
      have hpw' := List.pairwise_append.1 hpw
      have hind : ∀ z ∈ pre, Indep ops z y := by
        intro z hz
        obtain ⟨hlt1, hok⟩ := hpw'.2.2 z hz y (by simp)
        unfold pairOk at hok
        simp only [Bool.or_eq_true, Bool.and_eq_true] at hok
        rcases hok with hok | ⟨f1, f2⟩
        · exfalso
          have hzi := memB_iff.1 hok
          have hzl : listed.getD z.i true = false := (hin z.i (hlt z (by simp [hz]))).2 ⟨z, by simp [hz], rfl⟩
          rw [getD_tf (by have := hlt z (by simp [hz]); omega)] at hzl
          rcases waitsL_spec _ _ _ _ hzi with ⟨q, _⟩ | ⟨o', ho', _, q⟩
          · simp at q
          · have : o' = o := by
              simp only [List.length_nil, Nat.sub_zero, Array.getElem?_toList] at ho'
              rw [ho] at ho'; cases ho'; rfl
            subst this
            rcases q with q | ⟨d, hd, q⟩
            · rw [hp _ q] at hzl; cases hzl
            · rw [hcl d z.i (hp d hd) q] at hzl; cases hzl
        · refine ⟨f1, ?_⟩
          split at f2
          · rename_i a' b' e1 e2; exact ⟨a', b', e1, e2, f2⟩
          · cases f2
      obtain ⟨hen, hex⟩ := bubble hind hx
      refine hen.wpOp hE hR fun π' a' w' _ hR' => ?_
      have hsz' : (listed.setIfInBounds y.i true).size = ops.size := by simp [hsz]
      have hset : ∀ j d, (listed.setIfInBounds y.i true).getD j d = if j = y.i then true else listed.getD j d := by
        intro j d
        simp only [Array.getD_eq_getD_getElem?, Array.getElem?_setIfInBounds]
        by_cases e : y.i = j
        · subst e; simp [hsz, h1]
        · rw [if_neg e, if_neg (Ne.symm e)]
      have hne : ∀ z ∈ pre ++ post, z.i ≠ y.i := by
        intro z hz
        rcases List.mem_append.1 hz with q | q
        · have := (hpw'.2.2 z q y (by simp)).1; omega
        · have := ((List.pairwise_cons.1 hpw'.2.1).1 z q).1; omega
      refine wpAny_exec hE hb hQ k (pre ++ post) _ _ π' a' w' (by simp at hk ⊢; omega) hR' hex hsz' ?_ ?_ ?_ ?_
      · intro j hj
        rw [hset]
        by_cases e : j = y.i
        · subst e
          rw [if_pos rfl]
          constructor
          · intro q; cases q
          · rintro ⟨z, hz, q⟩; exact absurd q (hne z hz)
        · rw [if_neg e, hin j hj]
          constructor
          · rintro ⟨z, hz, q⟩
            refine ⟨z, ?_, q⟩
            rcases List.mem_append.1 hz with r | r
            · simp [r]
            · rcases List.mem_cons.1 r with r | r
              · subst r; exact absurd q.symm e
              · simp [r]
          · rintro ⟨z, hz, q⟩
            refine ⟨z, ?_, q⟩
            rcases List.mem_append.1 hz with r | r <;> simp [r]
      · intro z hz
        refine hlt z ?_
        rcases List.mem_append.1 hz with r | r <;> simp [r]
      · refine hpw.sublist ?_
        exact List.Sublist.append_left (List.sublist_cons_self _ _) _
      · intro i' j hi' hj
        rw [hset] at hi' ⊢
        by_cases ej : j = y.i
        · rw [if_pos ej]
        · rw [if_neg ej]
          by_cases ei : i' = y.i
          · subst ei
            rcases waitsL_spec _ _ _ _ hj with ⟨q, _⟩ | ⟨o', ho', _, q⟩
            · simp at q
            · have : o' = o := by
                simp only [List.length_nil, Nat.sub_zero, Array.getElem?_toList] at ho'
                rw [ho] at ho'; cases ho'; rfl
              subst this
              rcases q with q | ⟨d, hd, q⟩
              · exact hp _ q
              · exact hcl d j (hp d hd) q
          · rw [if_neg ei] at hi'
            exact hcl i' j hi' hj

theorem wpOps_exec (hE : EnvOk G K) {Q : Exit → Act → World → Prop} {send : FS} (hQ : ∀ π a w, RelS G π send n w0 a w → Q .normal a w) :
    ∀ (R : List Info) (s : FS) (π : Loc) (a : Act) (w : World), RelS G π s n w0 a w → Exec K ops n R s send → wpOps K.P ops Q (R.map (·.i)) a w
  | [], s, π, a, w, hR, hx => by
    have hs : s = send := hx
    subst hs
    exact hQ _ _ _ hR
  | x :: r, s, π, a, w, hR, ⟨hx, hr⟩ => by
    rw [List.map_cons, wpOps_cons]
    exact hx.wpOp hE hR fun π' a' w' _ hR' => wpOps_exec hE hQ r _ π' a' w' hR' hr
end
end Go.Mo


namespace Go.Mo
open Go Go.RowKit

theorem Fr.get_set : ∀ (f : Fr) (i j : Nat) (v : V), f.has i = true → (f.set i v).get j = if j = i then v else f.get j
  | .nil, _, _, _, h => by cases h
  | .node l x r, i, j, v, h => by
    simp only [Fr.has] at h
    cases h0 : Nat.beq i 0 <;> simp only [h0, cond_true, cond_false] at h
    · have hi : i ≠ 0 := fun e => by subst e; cases h0
      cases h1 : Nat.beq (i % 2) 1 <;> simp only [h1, cond_true, cond_false] at h
      · have hi2 : i % 2 = 0 := by
          have : i % 2 ≠ 1 := fun e => by rw [e] at h1; cases h1
          omega
        simp only [Fr.set_node, h0, h1, cond_false, Fr.get_node]
        cases j0 : Nat.beq j 0
        · have hj : j ≠ 0 := fun e => by subst e; cases j0
          cases j1 : Nat.beq (j % 2) 1
          · have hj2 : j % 2 = 0 := by
              have : j % 2 ≠ 1 := fun e => by rw [e] at j1; cases j1
              omega
            simp only [cond_false]
            rw [Fr.get_set r _ _ v h]
            by_cases e : j = i
            · subst e; rw [if_pos rfl, if_pos rfl]
            · rw [if_neg e, if_neg (by omega)]
          · have hj2 := Nat.eq_of_beq_eq_true j1
            simp only [cond_false, cond_true]
            rw [if_neg (by omega)]
        · have hj := Nat.eq_of_beq_eq_true j0
          simp only [cond_true]
          rw [if_neg (by omega)]
      · have hi2 := Nat.eq_of_beq_eq_true h1
        simp only [Fr.set_node, h0, h1, cond_false, cond_true, Fr.get_node]
        cases j0 : Nat.beq j 0
        · have hj : j ≠ 0 := fun e => by subst e; cases j0
          cases j1 : Nat.beq (j % 2) 1
          · have hj2 : j % 2 = 0 := by
              have : j % 2 ≠ 1 := fun e => by rw [e] at j1; cases j1
              omega
            simp only [cond_false]
            rw [if_neg (by omega)]
          · have hj2 := Nat.eq_of_beq_eq_true j1
            simp only [cond_false, cond_true]
            rw [Fr.get_set l _ _ v h]
            by_cases e : j = i
            · subst e; rw [if_pos rfl, if_pos rfl]
            · rw [if_neg e, if_neg (by omega)]
        · have hj := Nat.eq_of_beq_eq_true j0
          simp only [cond_true]
          rw [if_neg (by omega)]
    · have hi := Nat.eq_of_beq_eq_true h0
      subst hi
      simp only [Fr.set_node, h0, cond_true, Fr.get_node]
      cases j0 : Nat.beq j 0
      · have hj : j ≠ 0 := fun e => by subst e; cases j0
        simp only [cond_false]
        rw [if_neg hj]
      · have hj := Nat.eq_of_beq_eq_true j0
        simp only [cond_true]
        rw [if_pos hj]

theorem Fr.has_set : ∀ (f : Fr) (i j : Nat) (v : V), (f.set i v).has j = f.has j
  | .nil, _, _, _ => rfl
  | .node l x r, i, j, v => by
    simp only [Fr.set_node]
    cases Nat.beq i 0 <;> simp only [cond_true, cond_false]
    · cases Nat.beq (i % 2) 1 <;> simp only [cond_true, cond_false, Fr.has]
      · rw [Fr.has_set r]
      · rw [Fr.has_set l]
    · simp only [Fr.has]

theorem Fr.full_has : ∀ (f n i : Nat), n < 2 ^ f → i < n → (Fr.full f n).has i = true
  | 0, n, i, h, hi => by simp at h; omega
  | f + 1, n, i, h, hi => by
    simp only [Fr.full]
    have h0 : Nat.beq n 0 = false := by
      cases q : Nat.beq n 0
      · rfl
      · have := Nat.eq_of_beq_eq_true q; omega
    rw [Nat.pow_succ] at h
    simp only [h0, cond_false, Fr.has]
    cases i0 : Nat.beq i 0
    · have hi0 : i ≠ 0 := fun e => by subst e; cases i0
      cases i1 : Nat.beq (i % 2) 1
      · have : i % 2 ≠ 1 := fun e => by rw [e] at i1; cases i1
        simp only [cond_false]
        exact Fr.full_has f _ _ (by omega) (by omega)
      · have := Nat.eq_of_beq_eq_true i1
        simp only [cond_false, cond_true]
        exact Fr.full_has f _ _ (by omega) (by omega)
    · rfl

theorem Fr.full_get : ∀ (f n i : Nat), (Fr.full f n).get i = .s .undef ∨ (Fr.full f n).get i = .s .any
  | 0, n, i => .inr rfl
  | f + 1, n, i => by
    simp only [Fr.full]
    cases Nat.beq n 0
    · simp only [cond_false, Fr.get_node]
      cases Nat.beq i 0
      · cases Nat.beq (i % 2) 1
        · simp only [cond_false]; exact Fr.full_get f _ _
        · simp only [cond_false, cond_true]; exact Fr.full_get f _ _
      · exact .inl rfl
    · exact .inr rfl

noncomputable def St.fs (s : St) : FS := ⟨s.fr.get, memL s.mem⟩

/-- The tree has all slots. -/
def St.ok (s : St) : Prop := ∀ i, i < s.n → s.fr.has i = true

theorem memL_nil (j : Nat) : memL [] j = none := by unfold memL; rw [getL_getD]; simp
theorem memL_zero (x : Option Blk) (r : List (Option Blk)) : memL (x :: r) 0 = x := by unfold memL; rw [getL_getD]; simp
theorem memL_succ (x : Option Blk) (r : List (Option Blk)) (j : Nat) : memL (x :: r) (j + 1) = memL r j := by
  unfold memL; rw [getL_getD, getL_getD]; simp

theorem memL_padSet : ∀ (mem : List (Option Blk)) (i j : Nat) (b : Blk), memL (padSet mem i b) j = if j = i then some b else memL mem j
  | [], 0, 0, b => by simp [padSet, memL_zero]
  | [], 0, j + 1, b => by simp [padSet, memL_succ, memL_nil]
  | [], i + 1, 0, b => by simp [padSet, memL_zero, memL_nil]
  | [], i + 1, j + 1, b => by
    simp only [padSet, memL_succ]
    rw [memL_padSet [] i j b]
    by_cases e : j = i
    · rw [if_pos e, if_pos (by omega)]
    · rw [if_neg e, if_neg (by omega), memL_nil, memL_nil]
  | x :: r, 0, 0, b => by simp [padSet, memL_zero]
  | x :: r, 0, j + 1, b => by simp [padSet, memL_succ]
  | x :: r, i + 1, 0, b => by simp [padSet, memL_zero]
  | x :: r, i + 1, j + 1, b => by
    simp only [padSet, memL_succ]
    rw [memL_padSet r i j b]
    by_cases e : j = i
    · rw [if_pos e, if_pos (by omega)]
    · rw [if_neg e, if_neg (by omega)]

theorem memL_padSet' (mem : List (Option Blk)) (i : Nat) (b : Blk) : memL (padSet mem i b) = updM (memL mem) i b := by
  funext j; rw [memL_padSet]; rfl

theorem memL_layNews : ∀ (news : List (List Seg)) (mem : List (Option Blk)) (fresh : Nat), memL (layNews mem fresh news) = newsM (memL mem) fresh news
  | [], _, _ => rfl
  | gs :: r, mem, fresh => by
    simp only [layNews, newsM]
    rw [memL_layNews r, memL_padSet']

theorem memL_layWr (mem : List (Option Blk)) (x : Option (Nat × Blk)) : memL (layWr mem x) = wrM (memL mem) x := by
  cases x with
  | none => rfl
  | some p => obtain ⟨b, gs⟩ := p; exact memL_padSet' _ _ _

theorem memL_free (mem : List (Option Blk)) (j : Nat) : memL mem (mem.length + j) = none := by
  unfold memL
  rw [getL_getD]
  simp [List.getD]

section
variable {G : Gl} {K : Cx} {π : Loc} {w0 w : World} {P : Program} {n : Nat} {a : Act} {ops : Array Oper}

theorem evL_evG (fr : Fr) : evL fr = evG fr.get := by funext x; cases x <;> rfl

theorem guardL_guardF (fr : Fr) (o : Oper) : guardL ops.toList fr o = guardF ops fr.get o := by
  unfold guardL guardF
  cases o.guard with
  | none => rfl
  | some p =>
    obtain ⟨j, want⟩ := p
    simp only
    have : getL none (ops.toList.map some) j = ops[j]? := by
      rw [getL_getD]
      simp only [List.getD, List.getElem?_map, Array.getElem?_toList]
      cases ops[j]? <;> rfl
    rw [this]
    cases ops[j]? with
    | none => rfl
    | some oj =>
      simp only [Option.bind_some]
      cases oj.dst <;> rfl

theorem putL_get {s : St} (hs : s.ok) {dst : Option Tmp} (hd : dstOk s.n dst = true) (v : V) : (putL s.fr dst v).get = putF s.fr.get dst v := by
  cases dst with
  | none => rfl
  | some d =>
    funext j
    simp only [putL, putF]
    exact Fr.get_set _ _ _ _ (hs d (Nat.le_of_ble_eq_true hd))

theorem putL_ok {s : St} (hs : s.ok) (dst : Option Tmp) (v : V) : ∀ i, i < s.n → (putL s.fr dst v).has i = true := by
  intro i hi
  cases dst with
  | none => exact hs i hi
  | some d => simp only [putL]; rw [Fr.has_set]; exact hs i hi

theorem astep_spec {i : Nat} {o : Oper} {s s' : St} {x : Info} (ho : ops[i]? = some o) (hs : s.ok) (h : astep K ops.toList i o s = some (x, s')) :
    x.i = i ∧ s'.ok ∧ s'.n = s.n ∧ s'.fs = s.fs.app ops x ∧ (ObsOk s'.obs → ObsOk s.obs ∧ Enabled K ops s.n x s.fs) := by
  unfold astep at h
  cases hd : dstOk s.n o.dst <;> simp only [hd, cond_true, cond_false] at h
  · cases h
  · split at h
    · cases h
    · rename_i hg
      cases h
      rw [guardL_guardF] at hg
      refine ⟨rfl, putL_ok hs _ _, rfl, ?_, fun hobs => ⟨hobs, ⟨o, ho, hd, .inr ⟨rfl, hg, rfl, rfl⟩⟩, (by intro p hp; cases hp), (by intro j hj; cases hj)⟩⟩
      simp only [St.fs, FS.app, dstAt, ho, Option.bind_some]
      rw [putL_get hs hd]
      rfl
    · rename_i hg
      rw [guardL_guardF] at hg
      split at h
      · cases h
      · rename_i out fp hr
        cases h
        rw [evL_evG] at hr
        refine ⟨rfl, putL_ok hs _ _, rfl, ?_, fun hobs => ⟨fun p hp => hobs p (by simp [hp]), ⟨o, ho, hd, .inl ⟨rfl, hg, hr⟩⟩, fun p hp => hobs p (by simp [hp]), fun j _ => memL_free _ _⟩⟩
        simp only [St.fs, FS.app, dstAt, ho, Option.bind_some]
        rw [putL_get hs hd, memL_layNews, memL_layWr]
        rfl

theorem aops_spec : ∀ (rest : List Oper) (k : Nat) (s s' : St) (xs : List Info), (∀ j o, rest[j]? = some o → ops[k + j]? = some o) → s.ok → aops K ops.toList k rest s = some (xs, s') →
    xs.map (·.i) = List.range' k rest.length ∧ s'.ok ∧ s'.n = s.n ∧ (ObsOk s'.obs → ObsOk s.obs ∧ Exec K ops s.n xs s.fs s'.fs)
  | [], k, s, s', xs, _, hs, h => by
    cases h; exact ⟨rfl, hs, rfl, fun ho => ⟨ho, rfl⟩⟩
  | o :: r, k, s, s', xs, hop, hs, h => by
    simp only [aops] at h
    split at h
    · cases h
    · rename_i x s1 h1
      split at h
      · cases h
      · rename_i ys s2 h2
        cases h
        obtain ⟨e1, e2, e3, e4, e5⟩ := astep_spec (hop 0 o rfl) hs h1
        obtain ⟨f1, f2, f3, f4⟩ := aops_spec r (k + 1) s1 s' ys (fun j o' hj => by have := hop (j + 1) o' (by simpa using hj); rwa [show k + (j + 1) = k + 1 + j by omega] at this) e2 h2
        refine ⟨?_, f2, f3.trans e3, fun hobs => ?_⟩
        · simp only [List.map_cons, f1, e1, List.length_cons, List.range'_succ, Nat.add_zero]
        · obtain ⟨g1, g2⟩ := f4 hobs
          obtain ⟨g3, g4⟩ := e5 g1
          rw [e3, e4] at g2
          exact ⟨g3, g4, g2⟩

theorem pairsOk_pairwise : ∀ {xs : List Info} {W : List (List Nat)}, pairsOk ops W xs = true → xs.Pairwise (fun x y => pairOk ops W x y = true)
  | [], _, _ => List.Pairwise.nil
  | x :: r, W, h => by
    simp only [pairsOk, Bool.and_eq_true] at h
    exact List.Pairwise.cons (fun y hy => List.all_eq_true.1 h.1 y hy) (pairsOk_pairwise h.2)

theorem RelS.drew {π : Loc} {s : FS} (h : RelS G π s n w0 a w) : RelS G π s n w0 a w.drew := ⟨h.mem.drew, h.defers, h.size, h.slots⟩

/-- What is asked of the place: contracts, and that the orders are mixed. -/
structure Good (G : Gl) (K : Cx) : Prop where
  env : EnvOk G K
  mixed : K.P.follows .mixedOrders = true

theorem aregion_wp (hG : Good G K) {id : Nat} {draw : Bool} {s s' : St} (hs : s.ok) (h : aregion K ops draw s = some s') :
    s'.ok ∧ s'.n = s.n ∧ (ObsOk s'.obs → ObsOk s.obs ∧ ∀ (Q : Exit → Act → World → Prop) (π : Loc) (a : Act) (w : World), RelS G π s.fs s.n w0 a w →
      (∀ π' a' w', RelS G π' s'.fs s.n w0 a' w' → Q .normal a' w') → (Code.region id ops draw).wp K.P Q a w) := by
  unfold aregion at h
  split at h
  · cases h
  · rename_i xs s1 h1
    obtain ⟨e1, e2, e3, e4⟩ := aops_spec (ops := ops) ops.toList 0 s s1 xs (fun j o hj => by simpa using hj) hs h1
    have hmap : xs.map (·.i) = List.range ops.size := by rw [e1, List.range_eq_range']; simp
    have hlen : xs.length = ops.size := by have := congrArg List.length hmap; simpa using this
    cases draw <;> simp only [cond_true, cond_false] at h
    · cases h
      refine ⟨e2, e3, fun hobs => ⟨(e4 hobs).1, fun Q π a w hR hQ => ?_⟩⟩
      refine wp_region ?_
      rw [← hmap]
      exact wpOps_exec hG.env hQ xs _ π a w hR (e4 hobs).2
    · cases hc : (pairsOk ops (waitsL ops.toList []) xs && edgesB 0 ops.toList) <;> simp only [hc, cond_true, cond_false] at h
      · cases h
      · cases h
        simp only [Bool.and_eq_true] at hc
        refine ⟨e2, e3, fun hobs => ⟨(e4 hobs).1, fun Q π a w hR hQ => ?_⟩⟩
        refine wp_region_any hG.mixed ?_
        rw [← hlen]
        have hmem : ∀ x ∈ xs, x.i < ops.size := fun x hx => by
          have : x.i ∈ xs.map (·.i) := List.mem_map.2 ⟨x, hx, rfl⟩
          rw [hmap] at this; simpa using this
        refine wpAny_exec hG.env hc.2 hQ xs.length xs _ s.fs π a _ rfl hR.drew (e4 hobs).2 (by simp [hlen]) ?_ hmem ?_ ?_
        · intro i hi
          have h0 : (Array.replicate xs.length false).getD i true = false := by simp [hlen, hi]
          rw [h0]
          refine ⟨fun _ => ?_, fun _ => rfl⟩
          have : i ∈ xs.map (·.i) := by rw [hmap]; simpa using hi
          exact List.mem_map.1 this
        · have h1 := pairsOk_pairwise hc.1
          have h2 : xs.Pairwise (fun x y => x.i < y.i) := by
            have : (xs.map (·.i)).Pairwise (· < ·) := by rw [hmap]; exact List.pairwise_lt_range
            exact List.pairwise_map.1 this
          exact List.Pairwise.imp₂ (fun _ _ p q => ⟨p, q⟩) h2 h1
        · intro i j hi _
          simp [Array.getD_eq_getD_getElem?, Array.getElem?_replicate] at hi
          split at hi <;> simp at hi

/-! ### Code -/

def Ex.out : Ex → Exit
  | .normal => .normal
  | .exit id => .exit id
  | .ret => .ret

/-- What the evaluator's answer says of a piece of code. -/
def Stands (G : Gl) (K : Cx) (w0 : World) (c : Code) (s : St) (x : Ex) (s' : St) : Prop :=
  s'.ok ∧ s'.n = s.n ∧ (ObsOk s'.obs → ObsOk s.obs ∧ ∀ (Q : Exit → Act → World → Prop) (π : Loc) (a : Act) (w : World), RelS G π s.fs s.n w0 a w →
    (∀ π' a' w', RelS G π' s'.fs s.n w0 a' w' → Q x.out a' w') → c.wp K.P Q a w)

theorem aloop_wp {body : Code} {f : St → Option (Ex × St)} (hf : ∀ s x s', s.ok → f s = some (x, s') → Stands G K w0 body s x s') :
    ∀ (k : Nat) (s : St) (x : Ex) (s' : St), s.ok → aloop f k s = some (x, s') → s'.ok ∧ s'.n = s.n ∧ (ObsOk s'.obs → ObsOk s.obs ∧ ∀ (Q : Exit → Act → World → Prop) (π : Loc) (a : Act) (w : World),
      RelS G π s.fs s.n w0 a w → (∀ π' a' w', RelS G π' s'.fs s.n w0 a' w' → Q x.out a' w') → Code.rounds K.P body Q k a w)
  | 0, s, x, s', _, h => by cases h
  | k + 1, s, x, s', hs, h => by
    simp only [aloop] at h
    split at h
    · rename_i s1 h1
      obtain ⟨e1, e2, e3⟩ := hf _ _ _ hs h1
      obtain ⟨f1, f2, f3⟩ := aloop_wp hf k s1 x s' e1 h
      refine ⟨f1, f2.trans e2, fun hobs => ?_⟩
      obtain ⟨g1, g2⟩ := f3 hobs
      obtain ⟨g3, g4⟩ := e3 g1
      refine ⟨g3, fun Q π a w hR hQ => ?_⟩
      rw [rounds_succ]
      refine g4 _ π a w hR fun π' a' w' hR' => ?_
      exact g2 Q π' a' w' (e2 ▸ hR') fun π'' a'' w'' hR'' => hQ π'' a'' w'' (by rw [e2] at hR''; exact hR'')
    · rename_i r hne
      obtain ⟨e1, e2, e3⟩ := hf _ _ _ hs h
      refine ⟨e1, e2, fun hobs => ?_⟩
      obtain ⟨g3, g4⟩ := e3 hobs
      refine ⟨g3, fun Q π a w hR hQ => ?_⟩
      rw [rounds_succ]
      refine g4 _ π a w hR fun π' a' w' hR' => ?_
      cases x with
      | normal => exact absurd h (hne _)
      | exit id => exact hQ π' a' w' hR'
      | ret => exact hQ π' a' w' hR'

theorem acode_wp (hG : Good G K) (fuel : Nat) : ∀ (c : Code) (s : St) (x : Ex) (s' : St), s.ok → acode K fuel c s = some (x, s') → Stands G K w0 c s x s' := by
  intro c
  induction c with
  | skip =>
    intro s x s' hs h
    cases h
    exact ⟨hs, rfl, fun hobs => ⟨hobs, fun Q π a w hR hQ => wp_skip (hQ π a w hR)⟩⟩
  | label l =>
    intro s x s' hs h
    cases h
    exact ⟨hs, rfl, fun hobs => ⟨hobs, fun Q π a w hR hQ => wp_label (hQ π a w hR)⟩⟩
  | scope a iha =>
    intro s x s' hs h
    simp only [acode] at h
    obtain ⟨e1, e2, e3⟩ := iha _ _ _ hs h
    refine ⟨e1, e2, fun hobs => ?_⟩
    obtain ⟨g3, g4⟩ := e3 hobs
    refine ⟨g3, fun Q π a w hR hQ => ?_⟩
    refine wp_scope_straight (g4 _ π a w hR fun π' a' w' hR' => ?_)
    have := hQ π' a' w' hR'
    cases x with
    | normal => exact this
    | exit id => exact this
    | ret => exact this
  | region id ops draw =>
    intro s x s' hs h
    simp only [acode] at h
    split at h
    · rename_i s1 h1
      cases h
      exact aregion_wp hG hs h1
    · cases h
  | seq a b iha ihb =>
    intro s x s' hs h
    simp only [acode] at h
    split at h
    · rename_i s1 h1
      obtain ⟨e1, e2, e3⟩ := iha _ _ _ hs h1
      obtain ⟨f1, f2, f3⟩ := ihb _ _ _ e1 h
      refine ⟨f1, f2.trans e2, fun hobs => ?_⟩
      obtain ⟨g1, g2⟩ := f3 hobs
      obtain ⟨g3, g4⟩ := e3 g1
      refine ⟨g3, fun Q π a w hR hQ => ?_⟩
      refine wp_seq (g4 _ π a w hR fun π' a' w' hR' => ?_)
      exact g2 Q π' a' w' (e2 ▸ hR') fun π'' a'' w'' hR'' => hQ π'' a'' w'' (by rw [e2] at hR''; exact hR'')
    · rename_i r hne
      obtain ⟨e1, e2, e3⟩ := iha _ _ _ hs h
      refine ⟨e1, e2, fun hobs => ?_⟩
      obtain ⟨g3, g4⟩ := e3 hobs
      refine ⟨g3, fun Q π a w hR hQ => ?_⟩
      refine wp_seq (g4 _ π a w hR fun π' a' w' hR' => ?_)
      cases x with
      | normal => exact absurd h (hne _)
      | exit id => exact hQ π' a' w' hR'
      | ret => exact hQ π' a' w' hR'
  | cond c a b iha ihb =>
    intro s x s' hs h
    simp only [acode] at h
    split at h
    · rename_i hc
      obtain ⟨e1, e2, e3⟩ := iha _ _ _ hs h
      refine ⟨e1, e2, fun hobs => ?_⟩
      obtain ⟨g3, g4⟩ := e3 hobs
      refine ⟨g3, fun Q π a w hR hQ => ?_⟩
      have := hR.ev c
      simp only [St.fs] at this
      rw [← evL_evG, hc] at this
      exact wp_cond_true this (g4 Q π a w hR hQ)
    · rename_i hc
      obtain ⟨e1, e2, e3⟩ := ihb _ _ _ hs h
      refine ⟨e1, e2, fun hobs => ?_⟩
      obtain ⟨g3, g4⟩ := e3 hobs
      refine ⟨g3, fun Q π a w hR hQ => ?_⟩
      have := hR.ev c
      simp only [St.fs] at this
      rw [← evL_evG, hc] at this
      exact wp_cond_false this (g4 Q π a w hR hQ)
    · cases h
  | block id a iha =>
    intro s x s' hs h
    simp only [acode] at h
    split at h
    · rename_i id' s1 h1
      obtain ⟨e1, e2, e3⟩ := iha _ _ _ hs h1
      have hs1 : s' = s1 := by cases hq : Nat.beq id' id <;> simp only [hq, cond_true, cond_false] at h <;> cases h <;> rfl
      subst hs1
      refine ⟨e1, e2, fun hobs => ?_⟩
      obtain ⟨g3, g4⟩ := e3 hobs
      refine ⟨g3, fun Q π a w hR hQ => ?_⟩
      refine wp_block (g4 _ π a w hR fun π' a' w' hR' => ?_)
      have := hQ π' a' w' hR'
      simp only [Ex.out, Exit.inBlock]
      cases hq : Nat.beq id' id <;> simp only [hq, cond_true, cond_false] at h <;> cases h
      · rw [if_neg (fun e => by subst e; simp at hq)]; exact this
      · rw [if_pos (Nat.eq_of_beq_eq_true hq)]; exact this
    · rename_i r hne
      obtain ⟨e1, e2, e3⟩ := iha _ _ _ hs h
      refine ⟨e1, e2, fun hobs => ?_⟩
      obtain ⟨g3, g4⟩ := e3 hobs
      refine ⟨g3, fun Q π a w hR hQ => ?_⟩
      refine wp_block (g4 _ π a w hR fun π' a' w' hR' => ?_)
      have := hQ π' a' w' hR'
      cases x with
      | exit id => exact absurd h (hne _ _)
      | normal => exact this
      | ret => exact this
  | loop a iha =>
    intro s x s' hs h
    simp only [acode] at h
    obtain ⟨e1, e2, e3⟩ := aloop_wp (fun s x s' => iha s x s') fuel s x s' hs h
    refine ⟨e1, e2, fun hobs => ?_⟩
    obtain ⟨g3, g4⟩ := e3 hobs
    exact ⟨g3, fun Q π a w hR hQ => wp_loop_rounds fuel (g4 Q π a w hR hQ)⟩
  | exit id =>
    intro s x s' hs h
    cases h
    exact ⟨hs, rfl, fun hobs => ⟨hobs, fun Q π a w hR hQ => wp_exit (hQ π a w hR)⟩⟩
  | ret =>
    intro s x s' hs h
    cases h
    exact ⟨hs, rfl, fun hobs => ⟨hobs, fun Q π a w hR hQ => wp_ret (hQ π a w hR)⟩⟩
  | _ => intro s x s' hs h; cases h
end
end Go.Mo

