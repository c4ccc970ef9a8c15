/- The abstract evaluator, part 8: regions, in whatever order they are carried out. -/
import Derived.Test.YtamlbiaakogahaaDoorMo7
import Derived.LoopN
namespace Go.Mo
open Go Go.RowKit

/-- The abstract state as functions. -/
structure FS where
  t : Nat → V
  m : Nat → Option Blk

def evG (t : Nat → V) : Operand → V
  | .tmp i => t i
  | .const v => .s (scOf v)
  | .global _ => .s .any
  | .func f => .s (.fn f [])

def putF (t : Nat → V) (dst : Option Tmp) (v : V) : Nat → V :=
  match dst with
  | none => t
  | some d => fun i => if i = d then v else t i

def guardF (ops : Array Oper) (t : Nat → V) (o : Oper) : Option Bool :=
  match o.guard with
  | none => some true
  | some (j, want) =>
    match (ops[j]?).bind (·.dst) with
    | none => none
    | some d =>
      match t d with
      | .s (.bool b) => some (b == want)
      | .s .undef => some false
      | _ => none

structure RelS (G : Gl) (π : Loc) (s : FS) (n : Nat) (w0 : World) (a : Act) (w : World) : Prop where
  mem : Rel G π s.m w0 w
  defers : a.defers = []
  size : a.tmps.size = n
  slots : ∀ i, (s.t i).cv π (a.tmps.getD i undef)

section
variable {G : Gl} {K : Cx} {π : Loc} {w0 w : World} {P : Program} {s : FS} {n : Nat} {a : Act} {ops : Array Oper}

theorem RelS.ev (h : RelS G π s n w0 a w) (x : Operand) : (evG s.t x).cv π (a.eval x) := by
  cases x with
  | tmp i => exact h.slots i
  | const v => exact scOf_cv v
  | global g => exact True.intro
  | func f => exact ⟨[], rfl, rfl⟩

theorem RelS.put {π' : Loc} {m' : Nat → Option Blk} {w' : World} {rv : Value} {v : V} {dst : Option Tmp} (h : RelS G π s n w0 a w) (hle : π.le π') (hv : v.cv π' rv)
    (hm : Rel G π' m' w0 w') (hd : dstOk n dst = true) : RelS G π' ⟨putF s.t dst v, m'⟩ n w0 (a.put dst rv) w' := by
  cases dst with
  | none => exact ⟨hm, h.defers, h.size, fun i => V.cv_mono hle (h.slots i)⟩
  | some d =>
    refine ⟨hm, h.defers, by simp [Act.put, h.size], fun i => ?_⟩
    have hlt : d < a.tmps.size := by rw [h.size]; exact Nat.le_of_ble_eq_true hd
    simp only [putF, Act.put]
    by_cases e : i = d
    · subst e; simp [hlt]; exact hv
    · rw [if_neg e]
      have := V.cv_mono hle (h.slots i)
      simpa [Array.getElem?_setIfInBounds_ne (Ne.symm e)] using this

theorem guard_wanted {o : Oper} {b : Bool} (h : RelS G π s n w0 a w) (hg : guardF ops s.t o = some b) : Region.wanted o (yielded ops a.tmps) = b := by
  unfold guardF at hg
  unfold Region.wanted
  split at hg
  · rename_i e; rw [e]; cases hg; rfl
  · rename_i j want e
    rw [e]
    split at hg
    · cases hg
    · rename_i d hd
      have hs := h.slots d
      simp only [yielded, hd, Option.bind_some]
      split at hg
      · rename_i c hc
        cases hg
        rw [hc] at hs
        have hs : a.tmps.getD d undef = .bool c := hs
        have : a.tmps[d]? = some (.bool c) := by
          cases hq : a.tmps[d]? with
          | none => simp [hq, undef] at hs
          | some u => simp [hq] at hs; rw [hs]
        rw [this]; cases c <;> cases want <;> rfl
      · rename_i hc
        cases hg
        rw [hc] at hs
        have hs : a.tmps.getD d undef = undef := hs
        cases hq : a.tmps[d]? with
        | none => rfl
        | some u => simp [hq] at hs; subst hs; rfl
      · cases hg

/-! ### One step -/

def dstAt (ops : Array Oper) (i : Nat) : Option Tmp := (ops[i]?).bind (·.dst)

def FS.app (ops : Array Oper) (x : Info) (s : FS) : FS := ⟨putF s.t (dstAt ops x.i) x.out.v, effM s.m x.fresh x.out⟩

structure Enabled (K : Cx) (ops : Array Oper) (n : Nat) (x : Info) (s : FS) : Prop where
  op : ∃ o, ops[x.i]? = some o ∧ dstOk n o.dst = true ∧
    ((x.run = true ∧ guardF ops s.t o = some true ∧ (aop K x.ans x.fresh (evG s.t) o).run s.m = some (x.out, x.fp)) ∨
     (x.run = false ∧ guardF ops s.t o = some false ∧ x.out = ⟨.s .undef, [], none, []⟩ ∧ x.fp = []))
  obs : ObsOk x.out.obs
  free : ∀ j, j < x.out.news.length → s.m (x.fresh + j) = none

theorem Enabled.wpOp (hE : EnvOk G K) {x : Info} (hx : Enabled K ops n x s) (h : RelS G π s n w0 a w) {Q : Exit → Act → World → Prop} {next : Act → World → Prop}
    (hk : ∀ π' a' w', π.le π' → RelS G π' (s.app ops x) n w0 a' w' → next a' w') : wpOp K.P ops Q x.i next a w := by
  obtain ⟨o, ho, hd, hc⟩ := hx.op
  have hdst : dstAt ops x.i = o.dst := by simp [dstAt, ho]
  unfold Go.wpOp
  simp only [ho]
  rcases hc with ⟨_, hg, hr⟩ | ⟨_, hg, he, _⟩
  · rw [guard_wanted h hg, if_pos rfl]
    refine .inl (aop_wp hE h.mem h.ev hr hx.obs hx.free fun rv w' π' h1 h2 h3 => ?_)
    exact hk π' _ _ h1 (by unfold FS.app; rw [hdst]; exact h.put h1 h2 h3 hd)
  · rw [guard_wanted h hg]
    simp only [Bool.false_eq_true, if_false]
    refine hk π _ _ π.le_refl ?_
    unfold FS.app
    rw [hdst, he]
    exact h.put π.le_refl rfl h.mem hd

def Exec (K : Cx) (ops : Array Oper) (n : Nat) : List Info → FS → FS → Prop
  | [], s, s' => s = s'
  | x :: r, s, s' => Enabled K ops n x s ∧ Exec K ops n r (s.app ops x) s'

/-! ### Two steps change places -/

theorem Rd.run_other {α : Type} {m m' : Nat → Option Blk} : ∀ {r : Rd α} {a : α} {fp : List Nat}, r.run m = some (a, fp) → (∀ i ∈ fp, m' i = m i) → r.run m' = some (a, fp)
  | .pure _, _, _, h, _ => h
  | .read id k, a, fp, h, hm => by
    obtain ⟨b, fp', hb, hk, rfl⟩ := read_run h
    have := Rd.run_other hk (fun i hi => hm i (by simp [hi]))
    have h0 := hm id (by simp)
    simp [Rd.run, h0, hb, this]
  | .fail, _, _, h, _ => by cases h

theorem capsOf_congr {ev ev' : Operand → V} : ∀ {l : List Operand}, (∀ z ∈ l, ev z = ev' z) → capsOf ev l = capsOf ev' l
  | [], _ => rfl
  | x :: r, h => by
    unfold capsOf
    rw [h x (by simp), capsOf_congr (l := r) fun z hz => h z (by simp [hz])]

theorem afill_congr {place : Nat → Option (Nat × Nat)} {ev ev' : Operand → V} : ∀ {l : List (Nat × Operand)} {gs : List Seg}, (∀ z ∈ l, ev z.2 = ev' z.2) → afill place ev gs l = afill place ev' gs l
  | [], _, _ => rfl
  | (i, x) :: r, gs, h => by
    have ih : ∀ gs', afill place ev gs' r = afill place ev' gs' r := fun gs' => afill_congr fun z hz => h z (by simp [hz])
    simp only [afill, h (i, x) (by simp), ih]

theorem bnd_congr {ev ev' : Operand → V} {x : Option Operand} {d : Nat} (h : ∀ z ∈ x.toList, ev z = ev' z) : bnd ev x d = bnd ev' x d := by
  cases x with
  | none => rfl
  | some x => simp only [bnd, h x (by simp)]

theorem aop_congr {ans : Option Bool} {fresh : Nat} {ev ev' : Operand → V} {o : Oper} (h : ∀ z ∈ o.op.operands, ev z = ev' z) : aop K ans fresh ev o = aop K ans fresh ev' o := by
  obtain ⟨dst, op, type, pos, after, guard⟩ := o
  cases op <;> simp only [Op.operands] at h <;> simp only [aop]
  case move x => rw [h x (by simp)]
  case assign x => rw [h x (by simp)]
  case pick c x y => rw [h c (by simp), h x (by simp), h y (by simp)]
  case box t x => rw [h x (by simp)]
  case load t x => rw [h x (by simp)]
  case store t x y => rw [h x (by simp), h y (by simp)]
  case nilCheck x => rw [h x (by simp)]
  case binOp op t x y yt => rw [h x (by simp), h y (by simp)]
  case unOp op t x => rw [h x (by simp)]
  case convert s d x => rw [h x (by simp)]
  case makeFunc fn first captured =>
    unfold amakeFunc
    rw [capsOf_congr fun z hz => h z (by simp at hz; simp [hz])]
  case slice t x lo hi mx =>
    unfold aslice
    rw [h x (by simp)]
    have e1 : ∀ d, bnd ev lo d = bnd ev' lo d := fun d => bnd_congr fun z hz => h z (by simp at hz; simp [hz])
    have e2 : ∀ d, bnd ev hi d = bnd ev' hi d := fun d => bnd_congr fun z hz => h z (by simp at hz; simp [hz])
    simp only [e1, e2]
  case sliceToArrayPointer t x => rw [h x (by simp)]
  case fieldAddr t x f => rw [h x (by simp)]
  case field t x f => rw [h x (by simp)]
  case indexAddr t x ix => rw [h x (by simp), h ix (by simp)]
  case index t x ix => rw [h x (by simp), h ix (by simp)]
  case extract x i => rw [h x (by simp)]
  case build t parts =>
    unfold abuild
    have e : ∀ place gs, afill place ev gs parts.toList = afill place ev' gs parts.toList := fun place gs => afill_congr fun z hz => h z.2 (by simp; exact ⟨z.1, by simpa using hz⟩)
    simp only [e]
  case buildSlice t len parts =>
    unfold abuildSlice
    have e : ∀ place gs, afill place ev gs parts.toList = afill place ev' gs parts.toList := fun place gs => afill_congr fun z hz => h z.2 (by simp; exact ⟨z.1, by simpa using hz⟩)
    simp only [e]
  case makeInterface t x => rw [h x (by simp)]
  case call c =>
    have e : c.args.toList.map ev = c.args.toList.map ev' := List.map_congr_left fun z hz => h z (by simp [Call.operands]; right; simpa using hz)
    unfold acall
    cases hc : c.callee with
    | value f => simp only [e, h f (by simp [Call.operands, hc])]
    | invoke r nm => rfl
    | builtin b => simp only [e]

/-! #### What a step touches -/

theorem memB_iff {l : List Nat} {x : Nat} : memB l x = true ↔ x ∈ l := by
  unfold memB
  rw [List.any_eq_true]
  constructor
  · rintro ⟨y, hy, e⟩; rw [Nat.eq_of_beq_eq_true e]; exact hy
  · intro h; exact ⟨x, h, Nat.beq_refl x⟩

theorem disjB_iff {a b : List Nat} : disjB a b = true ↔ ∀ x ∈ a, x ∉ b := by
  unfold disjB
  rw [List.all_eq_true]
  constructor
  · intro h x hx hb; have := h x hx; rw [memB_iff.2 hb] at this; cases this
  · intro h x hx
    cases hb : memB b x with
    | false => rfl
    | true => exact absurd (memB_iff.1 hb) (h x hx)

def outLays (fresh : Nat) (out : Out) : List Nat :=
  (match out.wr with | some (b, _) => [b] | none => []) ++ (List.range out.news.length).map (fresh + ·)

theorem effM_spec (m : Nat → Option Blk) (fresh : Nat) (out : Out) (i : Nat) :
    effM m fresh out i = if i ∈ outLays fresh out then effM (fun _ => none) fresh out i else m i := by
  have inNews : i ∈ (List.range out.news.length).map (fresh + ·) ↔ fresh ≤ i ∧ i < fresh + out.news.length := by
    simp only [List.mem_map, List.mem_range]
    constructor
    · rintro ⟨j, hj, rfl⟩; omega
    · intro h; exact ⟨i - fresh, by omega, by omega⟩
  have inAll : i ∈ outLays fresh out ↔ i ∈ (match out.wr with | some (b, _) => [b] | none => ([] : List Nat)) ∨ (fresh ≤ i ∧ i < fresh + out.news.length) := by
    unfold outLays
    rw [List.mem_append, inNews]
  unfold effM
  rw [newsM_spec, newsM_spec]
  by_cases h : fresh ≤ i ∧ i < fresh + out.news.length
  · rw [if_pos h, if_pos (inAll.2 (.inr h)), if_pos h]
  · rw [if_neg h, if_neg h]
    cases hw : out.wr with
    | none =>
      rw [if_neg (fun q => (inAll.1 q).elim (fun q => by rw [hw] at q; cases q) h)]
      rfl
    | some p =>
      obtain ⟨b, gs⟩ := p
      simp only [wrM, updM]
      by_cases e : i = b
      · rw [if_pos e, if_pos e, if_pos (inAll.2 (.inl (by rw [hw]; simp [e])))]
      · rw [if_neg e, if_neg e, if_neg (fun q => (inAll.1 q).elim (fun q => by rw [hw] at q; simp at q; exact e q) h)]

theorem effM_isSome {fresh : Nat} {out : Out} {i : Nat} (h : i ∈ outLays fresh out) (m : Nat → Option Blk) : (effM m fresh out i).isSome = true := by
  unfold outLays at h
  unfold effM
  rw [newsM_spec]
  rcases List.mem_append.1 h with h | h
  · split
    · rename_i hc
      have : i - fresh < out.news.length := by omega
      simp [this]
    · cases hw : out.wr with
      | none => rw [hw] at h; simp at h
      | some p => obtain ⟨b, gs⟩ := p; rw [hw] at h; simp at h; subst h; simp [wrM, updM]
  · simp only [List.mem_map, List.mem_range] at h
    obtain ⟨j, hj, rfl⟩ := h
    rw [if_pos (by omega)]
    simp [hj]

theorem effM_comm {m : Nat → Option Blk} {f g : Nat} {x y : Out} (h : ∀ i ∈ outLays f x, i ∉ outLays g y) : effM (effM m f x) g y = effM (effM m g y) f x := by
  funext i
  rw [effM_spec (effM m f x), effM_spec (effM m g y), effM_spec m f x, effM_spec m g y]
  by_cases h1 : i ∈ outLays f x <;> by_cases h2 : i ∈ outLays g y
  · exact absurd h2 (h i h1)
  · simp [h1, h2]
  · simp [h1, h2]
  · simp [h1, h2]

theorem putF_comm {t : Nat → V} {x y : Option Tmp} {u v : V} (h : ∀ d, x = some d → y ≠ some d) : putF (putF t x u) y v = putF (putF t y v) x u := by
  cases x with
  | none => rfl
  | some d =>
    cases y with
    | none => rfl
    | some e =>
      have hne : d ≠ e := fun q => h d rfl (q ▸ rfl)
      funext i
      simp only [putF]
      by_cases h1 : i = d
      · subst h1; simp [hne]
      · by_cases h2 : i = e
        · subst h2; simp [h1]
        · simp [h1, h2]

theorem evG_put {t : Nat → V} {dst : Option Tmp} {v : V} {z : Operand} (h : ∀ d, dst = some d → z ≠ .tmp d) : evG (putF t dst v) z = evG t z := by
  cases dst with
  | none => rfl
  | some d =>
    cases z with
    | tmp i =>
      have hne : i ≠ d := fun q => h d rfl (by rw [q])
      simp [evG, putF, hne]
    | _ => rfl

theorem guardF_put {t : Nat → V} {dst : Option Tmp} {v : V} {o : Oper} (h : ∀ d, dst = some d → d ∉ o.looksAt ops) : guardF ops (putF t dst v) o = guardF ops t o := by
  unfold guardF
  cases hg : o.guard with
  | none => rfl
  | some gw =>
    obtain ⟨j, want⟩ := gw
    simp only
    cases hd : (ops[j]?).bind (·.dst) with
    | none => rfl
    | some d =>
      simp only
      have : putF t dst v d = t d := by
        cases dst with
        | none => rfl
        | some e =>
          have hne : d ≠ e := fun q => h e rfl (by subst q; simp [Oper.looksAt, hg, hd])
          simp [putF, hne]
      rw [this]

/-- Operation y, enabled behind x, is enabled ahead of it. -/
theorem Enabled.behind {x y : Info} {ox oy : Oper} (hox : ops[x.i]? = some ox) (hoy : ops[y.i]? = some oy)
    (hl : ∀ d, ox.dst = some d → d ∉ oy.looksAt ops) (hm : ∀ i ∈ outLays x.fresh x.out, i ∉ y.fp) (hy : Enabled K ops n y (s.app ops x)) : Enabled K ops n y s := by
  obtain ⟨o, ho, hd, hc⟩ := hy.op
  rw [hoy] at ho; cases ho
  have hdx : dstAt ops x.i = ox.dst := by simp [dstAt, hox]
  have e1 : guardF ops (s.app ops x).t oy = guardF ops s.t oy := by simp only [FS.app, hdx]; exact guardF_put hl
  have e2 : aop K y.ans y.fresh (evG (s.app ops x).t) oy = aop K y.ans y.fresh (evG s.t) oy := by
    simp only [FS.app, hdx]
    exact aop_congr fun z hz => evG_put fun d hd hzd => hl d hd (by
      subst hzd
      exact List.mem_append_left _ (List.mem_filterMap.2 ⟨.tmp d, by simpa using hz, rfl⟩))
  refine ⟨⟨oy, hoy, hd, ?_⟩, hy.obs, fun j hj => ?_⟩
  · rcases hc with ⟨c1, c2, c3⟩ | ⟨c1, c2, c3⟩
    · left
      refine ⟨c1, e1 ▸ c2, ?_⟩
      rw [e2] at c3
      refine Rd.run_other c3 fun i hi => ?_
      simp only [FS.app]
      rw [effM_spec, if_neg fun hc => hm i hc hi]
    · exact .inr ⟨c1, e1 ▸ c2, c3⟩
  · have := hy.free j hj
    simp only [FS.app] at this
    rw [effM_spec] at this
    split at this
    · rename_i hc
      have h2 := effM_isSome hc (fun _ => none)
      rw [this] at h2; cases h2
    · exact this

/-- Operation x, enabled, is enabled behind y too. -/
theorem Enabled.after {x y : Info} {ox oy : Oper} (hox : ops[x.i]? = some ox) (hoy : ops[y.i]? = some oy)
    (hl : ∀ d, oy.dst = some d → d ∉ ox.looksAt ops) (hm : ∀ i ∈ outLays y.fresh y.out, i ∉ x.fp) (hd : ∀ i ∈ outLays x.fresh x.out, i ∉ outLays y.fresh y.out)
    (hx : Enabled K ops n x s) : Enabled K ops n x (s.app ops y) := by
  obtain ⟨o, ho, hdo, hc⟩ := hx.op
  rw [hox] at ho; cases ho
  have hdy : dstAt ops y.i = oy.dst := by simp [dstAt, hoy]
  have e1 : guardF ops (s.app ops y).t ox = guardF ops s.t ox := by simp only [FS.app, hdy]; exact guardF_put hl
  have e2 : aop K x.ans x.fresh (evG (s.app ops y).t) ox = aop K x.ans x.fresh (evG s.t) ox := by
    simp only [FS.app, hdy]
    exact aop_congr fun z hz => evG_put fun d hd hzd => hl d hd (by
      subst hzd
      exact List.mem_append_left _ (List.mem_filterMap.2 ⟨.tmp d, by simpa using hz, rfl⟩))
  refine ⟨⟨ox, hox, hdo, ?_⟩, hx.obs, fun j hj => ?_⟩
  · rcases hc with ⟨c1, c2, c3⟩ | ⟨c1, c2, c3⟩
    · left
      refine ⟨c1, e1.trans c2, ?_⟩
      rw [e2]
      refine Rd.run_other c3 fun i hi => ?_
      simp only [FS.app]
      rw [effM_spec, if_neg fun hc => hm i hc hi]
    · exact .inr ⟨c1, e1.trans c2, c3⟩
  · simp only [FS.app]
    rw [effM_spec, if_neg]
    · exact hx.free j hj
    · refine hd _ ?_
      exact List.mem_append_right _ (List.mem_map.2 ⟨j, by simpa using hj, rfl⟩)

theorem lays_eq (x : Info) : x.lays = outLays x.fresh x.out := rfl

/-- Two operations that may change places. -/
def Indep (ops : Array Oper) (x y : Info) : Prop :=
  freeB x y = true ∧ ∃ ox oy, ops[x.i]? = some ox ∧ ops[y.i]? = some oy ∧ ox.apart ops oy = true

theorem swap {x y : Info} (hi : Indep ops x y) (hx : Enabled K ops n x s) (hy : Enabled K ops n y (s.app ops x)) :
    Enabled K ops n y s ∧ Enabled K ops n x (s.app ops y) ∧ (s.app ops x).app ops y = (s.app ops y).app ops x := by
  obtain ⟨hf, ox, oy, h1, h2, hap⟩ := hi
  unfold freeB at hf
  simp only [Bool.and_eq_true, lays_eq] at hf
  obtain ⟨⟨f1, f2⟩, f3⟩ := hf
  have f1 := disjB_iff.1 f1
  have f2 := disjB_iff.1 f2
  have f3 := disjB_iff.1 f3
  obtain ⟨a1, a2, a3⟩ := Oper.apart_spec hap
  refine ⟨hy.behind h1 h2 a1 f1, hx.after h1 h2 a3 f3 f2, ?_⟩
  have d1 : dstAt ops x.i = ox.dst := by simp [dstAt, h1]
  have d2 : dstAt ops y.i = oy.dst := by simp [dstAt, h2]
  simp only [FS.app, d1, d2]
  rw [putF_comm a2, effM_comm f2]

theorem bubble : ∀ {pre : List Info} {y : Info} {r : List Info} {s s' : FS}, (∀ x ∈ pre, Indep ops x y) → Exec K ops n (pre ++ y :: r) s s' →
    Enabled K ops n y s ∧ Exec K ops n (pre ++ r) (s.app ops y) s'
  | [], _, _, _, _, _, h => h
  | x :: pre, y, r, s, s', hi, ⟨hx, hr⟩ => by
    obtain ⟨h1, h2⟩ := bubble (fun z hz => hi z (by simp [hz])) hr
    obtain ⟨g1, g2, g3⟩ := swap (hi x (by simp)) hx h1
    exact ⟨g1, g2, g3 ▸ h2⟩
end
end Go.Mo
