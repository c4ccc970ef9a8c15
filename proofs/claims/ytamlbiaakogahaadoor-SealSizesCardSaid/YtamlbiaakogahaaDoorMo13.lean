/- The abstract evaluator, part 8: regions, in whatever order they are carried out. -/
import Derived.Test.YtamlbiaakogahaaDoorMo7
import Derived.LoopNIn
import Derived.OrdersIn
import Derived.TacticsIn
import Derived.Scope
import Derived.RangeFuncLeaves
import Derived.RangeFuncSeq


namespace Go.Mo
open Go Go.RowKit

/-! ### The fence: whatever function, whatever depth; in a round or not -/

def fz (r : Option Nat) : Fence := { Fence.wide with round := r }

theorem fz_fn {r : Option Nat} (f : FuncId) : (fz r).fn f := True.intro

theorem calls_fz {r : Option Nat} {n : Nat} {P : Program} {f : FuncId} {args : Array Value} {w : World} {R : Ending → World → Prop} (h : Calls P f args w R) : CallsIn (fz r) n P f args w R :=
  show CallsIn Fence.wide n P f args w R from callsIn_wide.2 h

theorem rows_fz {r : Option Nat} {n : Nat} {P : Program} {row : String} {args : Array Value} {w : World} {R : Value → World → Prop} (h : Rows P row args w R) : RowsIn (fz r) n P row args w R :=
  show RowsIn Fence.wide n P row args w R from fun c cs _ => let ⟨v, w', h1, h2⟩ := h c cs; ⟨v, w', h1, stepsIn_wide.2 h2⟩

/-- An operation that is no 'defer' statement is carried out in a round as everywhere. -/
theorem wpIn_of_wp {r : Option Nat} {n : Nat} {P : Program} {o : Oper} {a : Act} {w : World} {next : Act → World → Prop} {Q : Exit → Act → World → Prop} (hd : ∀ c, o.op ≠ .defer c) (h : o.wp P a w next Q) :
    o.wpIn (fz r) n P a w next Q := by
  refine ⟨fun f _ => fz_fn f, ?_⟩
  rw [Oper.semAt_eq _ _ _ hd]
  unfold Oper.wp at h
  generalize (execOp a.eval o).run P w = x at *
  cases x with
  | ok y w' =>
    cases y <;> simp only [Oper.upon, Oper.uponIn] at h ⊢ <;>
      first
        | exact h
        | exact h.elim
        | exact ⟨fun q => (by cases q), (calls_fz h).mono fun e w'' he => by cases e <;> exact he⟩
        | exact ⟨fun q => (by cases q), rows_fz h⟩
  | halt y w' => cases y <;> simp only [Oper.upon, Oper.uponIn] at h ⊢ <;> exact h

theorem aop_plain {K : Cx} {ans : Option Bool} {fresh : Nat} {ev : Operand → V} {o : Oper} {m : Nat → Option Blk} {r : Out × List Nat} (h : (aop K ans fresh ev o).run m = some r) : ∀ c, o.op ≠ .defer c := by
  intro c e
  unfold aop at h
  rw [e] at h
  cases h

section
variable {P : Program} {F : Fence} {n : Nat} {b : Frame} {a : Act} {k : List Item} {cs : List Frame} {w : World} {Q : Exit → Act → World → Prop}

theorem stepR_scope {c : Code} : step P (lone (b.atR a (.code (.scope c) :: k)) cs w) = .next (lone (b.atR a (.code c :: .inScope c :: k)) cs w) :=
  step_lone_go (by simp [stepG, stepG.exec, Frame.atR])
theorem stepR_inScope {c : Code} : step P (lone (b.atR a (.inScope c :: k)) cs w) = .next (lone (b.atR a k) cs w) :=
  step_lone_go (by simp [stepG, stepG.exec, Frame.atR])

theorem wpIn_scope_straight {c : Code} (h : c.wpIn F n P (Exit.noGoto Q) a w) : (Code.scope c).wpIn F n P Q a w := by
  intro b k cs hro hb hr
  have h0 : (lone (b.atR a (.code (.scope c) :: k)) cs w).fenced P F := fenced_calm hb hr rfl
  obtain ⟨e, a₁, w₁, hq, harr⟩ := h b (.inScope c :: k) cs hro hb hr
  cases e with
  | normal => exact ⟨.normal, a₁, w₁, hq, .head h0 stepR_scope (StepsIn.trans harr (.one (fenced_calm hb hr rfl) stepR_inScope))⟩
  | exit id =>
    have hx : exitTo id (.inScope c :: k) = exitTo id k := by simp [exitTo]
    exact ⟨.exit id, a₁, w₁, hq, fun k' hk => .head h0 stepR_scope (harr.1 k' (by rw [hx]; exact hk)),
      fun hr' hk => let ⟨k₁, h1, h2⟩ := harr.2 hr' (by rw [hx]; exact hk); ⟨k₁, h1, .head h0 stepR_scope h2⟩⟩
  | goto l => exact hq.elim
  | ret => exact ⟨_, a₁, w₁, hq, .of_steps (.one h0 stepR_scope) harr⟩
  | panic ch => exact ⟨_, a₁, w₁, hq, .of_steps (.one h0 stepR_scope) harr⟩
  | outgrown => exact ⟨_, a₁, w₁, hq, .of_steps (.one h0 stepR_scope) harr⟩
end

/-- The abstract state as functions. -/
structure FS where
  t : Nat → V
  m : Nat → Option Blk

def evG (t : Nat → V) : Operand → V
  | .tmp i => t i
  | .const v => .s (scOf v)
  | .global _ => .s .any
  | .func f => .s (.fn f [])

def putF (t : Nat → V) (dst : Option Tmp) (v : V) : Nat → V :=
  match dst with
  | none => t
  | some d => fun i => if i = d then v else t i

def guardF (ops : Array Oper) (t : Nat → V) (o : Oper) : Option Bool :=
  match o.guard with
  | none => some true
  | some (j, want) =>
    match (ops[j]?).bind (·.dst) with
    | none => none
    | some d =>
      match t d with
      | .s (.bool b) => some (b == want)
      | .s .undef => some false
      | _ => none

structure RelS (G : Gl) (π : Loc) (s : FS) (n : Nat) (w0 : World) (a : Act) (w : World) : Prop where
  mem : Rel G π s.m w0 w
  defers : a.defers = G.ds
  size : a.tmps.size = n
  slots : ∀ i, (s.t i).cv π (a.tmps.getD i undef)

section
variable {G : Gl} {K : Cx} {π : Loc} {w0 w : World} {P : Program} {s : FS} {n : Nat} {a : Act} {ops : Array Oper}

theorem RelS.ev (h : RelS G π s n w0 a w) (x : Operand) : (evG s.t x).cv π (a.eval x) := by
  cases x with
  | tmp i => exact h.slots i
  | const v => exact scOf_cv v
  | global g => exact True.intro
  | func f => exact ⟨[], rfl, rfl⟩

theorem RelS.put {π' : Loc} {m' : Nat → Option Blk} {w' : World} {rv : Value} {v : V} {dst : Option Tmp} (h : RelS G π s n w0 a w) (hle : π.le π') (hv : v.cv π' rv)
    (hm : Rel G π' m' w0 w') (hd : dstOk n dst = true) : RelS G π' ⟨putF s.t dst v, m'⟩ n w0 (a.put dst rv) w' := by
  cases dst with
  | none => exact ⟨hm, h.defers, h.size, fun i => V.cv_mono hle (h.slots i)⟩
  | some d =>
    refine ⟨hm, h.defers, by simp [Act.put, h.size], fun i => ?_⟩
    have hlt : d < a.tmps.size := by rw [h.size]; exact Nat.le_of_ble_eq_true hd
    simp only [putF, Act.put]
    by_cases e : i = d
    · subst e; simp [hlt]; exact hv
    · rw [if_neg e]
      have := V.cv_mono hle (h.slots i)
      simpa [Array.getElem?_setIfInBounds_ne (Ne.symm e)] using this

theorem guard_wanted {o : Oper} {b : Bool} (h : RelS G π s n w0 a w) (hg : guardF ops s.t o = some b) : Region.wanted o (yielded ops a.tmps) = b := by
  unfold guardF at hg
  unfold Region.wanted
  split at hg
  · rename_i e; rw [e]; cases hg; rfl
  · rename_i j want e
    rw [e]
    split at hg
    · cases hg
    · rename_i d hd
      have hs := h.slots d
      simp only [yielded, hd, Option.bind_some]
      split at hg
      · rename_i c hc
        cases hg
        rw [hc] at hs
        have hs : a.tmps.getD d undef = .bool c := hs
        have : a.tmps[d]? = some (.bool c) := by
          cases hq : a.tmps[d]? with
          | none => simp [hq, undef] at hs
          | some u => simp [hq] at hs; rw [hs]
        rw [this]; cases c <;> cases want <;> rfl
      · rename_i hc
        cases hg
        rw [hc] at hs
        have hs : a.tmps.getD d undef = undef := hs
        cases hq : a.tmps[d]? with
        | none => rfl
        | some u => simp [hq] at hs; subst hs; rfl
      · cases hg

/-! ### One step -/

def dstAt (ops : Array Oper) (i : Nat) : Option Tmp := (ops[i]?).bind (·.dst)

def FS.app (ops : Array Oper) (x : Info) (s : FS) : FS := ⟨putF s.t (dstAt ops x.i) x.out.v, effM s.m x.fresh x.out⟩

structure Enabled (K : Cx) (ops : Array Oper) (n : Nat) (x : Info) (s : FS) : Prop where
  op : ∃ o, ops[x.i]? = some o ∧ dstOk n o.dst = true ∧
    ((x.run = true ∧ guardF ops s.t o = some true ∧ (aop K x.ans x.fresh (evG s.t) o).run s.m = some (x.out, x.fp)) ∨
     (x.run = false ∧ guardF ops s.t o = some false ∧ x.out = ⟨.s .undef, [], none, []⟩ ∧ x.fp = []))
  obs : ObsOk x.out.obs
  free : ∀ j, j < x.out.news.length → s.m (x.fresh + j) = none

theorem Enabled.wpOp (hE : EnvOk G K) {x : Info} (hx : Enabled K ops n x s) (h : RelS G π s n w0 a w) {Q : Exit → Act → World → Prop} {next : Act → World → Prop}
    (hk : ∀ π' a' w', π.le π' → RelS G π' (s.app ops x) n w0 a' w' → next a' w') (nf : Nat) : wpOpIn (fz G.ro) nf K.P ops Q x.i next a w := by
  obtain ⟨o, ho, hd, hc⟩ := hx.op
  have hdst : dstAt ops x.i = o.dst := by simp [dstAt, ho]
  unfold Go.wpOpIn
  simp only [ho]
  rcases hc with ⟨_, hg, hr⟩ | ⟨_, hg, he, _⟩
  · rw [guard_wanted h hg, if_pos rfl]
    refine wpIn_of_wp (aop_plain hr) (aop_wp hE h.mem h.ev hr hx.obs hx.free fun rv w' π' h1 h2 h3 => ?_)
    exact hk π' _ _ h1 (by unfold FS.app; rw [hdst]; exact h.put h1 h2 h3 hd)
  · rw [guard_wanted h hg]
    simp only [Bool.false_eq_true, if_false]
    refine ⟨fun f _ => fz_fn f, hk π _ _ π.le_refl ?_⟩
    unfold FS.app
    rw [hdst, he]
    exact h.put π.le_refl rfl h.mem hd

def Exec (K : Cx) (ops : Array Oper) (n : Nat) : List Info → FS → FS → Prop
  | [], s, s' => s = s'
  | x :: r, s, s' => Enabled K ops n x s ∧ Exec K ops n r (s.app ops x) s'

/-! ### Two steps change places -/

theorem Rd.run_other {α : Type} {m m' : Nat → Option Blk} : ∀ {r : Rd α} {a : α} {fp : List Nat}, r.run m = some (a, fp) → (∀ i ∈ fp, m' i = m i) → r.run m' = some (a, fp)
  | .pure _, _, _, h, _ => h
  | .read id k, a, fp, h, hm => by
    obtain ⟨b, fp', hb, hk, rfl⟩ := read_run h
    have := Rd.run_other hk (fun i hi => hm i (by simp [hi]))
    have h0 := hm id (by simp)
    simp [Rd.run, h0, hb, this]
  | .fail, _, _, h, _ => by cases h

theorem capsOf_congr {ev ev' : Operand → V} : ∀ {l : List Operand}, (∀ z ∈ l, ev z = ev' z) → capsOf ev l = capsOf ev' l
  | [], _ => rfl
  | x :: r, h => by
    unfold capsOf
    rw [h x (by simp), capsOf_congr (l := r) fun z hz => h z (by simp [hz])]

theorem afill_congr {place : Nat → Option (Nat × Nat)} {ev ev' : Operand → V} : ∀ {l : List (Nat × Operand)} {gs : List Seg}, (∀ z ∈ l, ev z.2 = ev' z.2) → afill place ev gs l = afill place ev' gs l
  | [], _, _ => rfl
  | (i, x) :: r, gs, h => by
    have ih : ∀ gs', afill place ev gs' r = afill place ev' gs' r := fun gs' => afill_congr fun z hz => h z (by simp [hz])
    simp only [afill, h (i, x) (by simp), ih]

theorem bnd_congr {ev ev' : Operand → V} {x : Option Operand} {d : Nat} (h : ∀ z ∈ x.toList, ev z = ev' z) : bnd ev x d = bnd ev' x d := by
  cases x with
  | none => rfl
  | some x => simp only [bnd, h x (by simp)]

theorem aop_congr {ans : Option Bool} {fresh : Nat} {ev ev' : Operand → V} {o : Oper} (h : ∀ z ∈ o.op.operands, ev z = ev' z) : aop K ans fresh ev o = aop K ans fresh ev' o := by
  obtain ⟨dst, op, type, pos, after, guard⟩ := o
  cases op <;> simp only [Op.operands] at h <;> simp only [aop]
  case move x => rw [h x (by simp)]
  case assign x => rw [h x (by simp)]
  case pick c x y => rw [h c (by simp), h x (by simp), h y (by simp)]
  case box t x => rw [h x (by simp)]
  case load t x => rw [h x (by simp)]
  case store t x y => rw [h x (by simp), h y (by simp)]
  case nilCheck x => rw [h x (by simp)]
  case binOp op t x y yt =>
    have e : bothNil ev x y = bothNil ev' x y := by unfold bothNil; rw [h x (by simp)]
    rw [e, h x (by simp), h y (by simp)]
  case makeSlice t l c => rw [h l (by simp), h c (by simp)]
  case unOp op t x => rw [h x (by simp)]
  case convert s d x => rw [h x (by simp)]
  case makeFunc fn first captured =>
    unfold amakeFunc
    rw [capsOf_congr fun z hz => h z (by simp at hz; simp [hz])]
  case slice t x lo hi mx =>
    unfold aslice
    rw [h x (by simp)]
    have e1 : ∀ d, bnd ev lo d = bnd ev' lo d := fun d => bnd_congr fun z hz => h z (by simp at hz; simp [hz])
    have e2 : ∀ d, bnd ev hi d = bnd ev' hi d := fun d => bnd_congr fun z hz => h z (by simp at hz; simp [hz])
    simp only [aslice0, e1, e2]
  case sliceToArrayPointer t x => rw [h x (by simp)]
  case fieldAddr t x f => rw [h x (by simp)]
  case field t x f => rw [h x (by simp)]
  case indexAddr t x ix => rw [h x (by simp), h ix (by simp)]
  case index t x ix => rw [h x (by simp), h ix (by simp)]
  case extract x i => rw [h x (by simp)]
  case build t parts =>
    unfold abuild
    have e : ∀ place gs, afill place ev gs parts.toList = afill place ev' gs parts.toList := fun place gs => afill_congr fun z hz => h z.2 (by simp; exact ⟨z.1, by simpa using hz⟩)
    simp only [e]
  case buildSlice t len parts =>
    unfold abuildSlice
    have e : ∀ place gs, afill place ev gs parts.toList = afill place ev' gs parts.toList := fun place gs => afill_congr fun z hz => h z.2 (by simp; exact ⟨z.1, by simpa using hz⟩)
    simp only [e]
  case makeInterface t x => rw [h x (by simp)]
  case call c =>
    have e : c.args.toList.map ev = c.args.toList.map ev' := List.map_congr_left fun z hz => h z (by simp [Call.operands]; right; simpa using hz)
    unfold acall
    cases hc : c.callee with
    | value f => simp only [e, h f (by simp [Call.operands, hc])]
    | invoke r nm => rfl
    | builtin b => simp only [e]

/-! #### What a step touches -/

theorem memB_iff {l : List Nat} {x : Nat} : memB l x = true ↔ x ∈ l := by
  unfold memB
  rw [List.any_eq_true]
  constructor
  · rintro ⟨y, hy, e⟩; rw [Nat.eq_of_beq_eq_true e]; exact hy
  · intro h; exact ⟨x, h, Nat.beq_refl x⟩

theorem disjB_iff {a b : List Nat} : disjB a b = true ↔ ∀ x ∈ a, x ∉ b := by
  unfold disjB
  rw [List.all_eq_true]
  constructor
  · intro h x hx hb; have := h x hx; rw [memB_iff.2 hb] at this; cases this
  · intro h x hx
    cases hb : memB b x with
    | false => rfl
    | true => exact absurd (memB_iff.1 hb) (h x hx)

def outLays (fresh : Nat) (out : Out) : List Nat :=
  (match out.wr with | some (b, _) => [b] | none => []) ++ (List.range out.news.length).map (fresh + ·)

theorem effM_spec (m : Nat → Option Blk) (fresh : Nat) (out : Out) (i : Nat) :
    effM m fresh out i = if i ∈ outLays fresh out then effM (fun _ => none) fresh out i else m i := by
  have inNews : i ∈ (List.range out.news.length).map (fresh + ·) ↔ fresh ≤ i ∧ i < fresh + out.news.length := by
    simp only [List.mem_map, List.mem_range]
    constructor
    · rintro ⟨j, hj, rfl⟩; omega
    · intro h; exact ⟨i - fresh, by omega, by omega⟩
  have inAll : i ∈ outLays fresh out ↔ i ∈ (match out.wr with | some (b, _) => [b] | none => ([] : List Nat)) ∨ (fresh ≤ i ∧ i < fresh + out.news.length) := by
    unfold outLays
    rw [List.mem_append, inNews]
  unfold effM
  rw [newsM_spec, newsM_spec]
  by_cases h : fresh ≤ i ∧ i < fresh + out.news.length
  · rw [if_pos h, if_pos (inAll.2 (.inr h)), if_pos h]
  · rw [if_neg h, if_neg h]
    cases hw : out.wr with
    | none =>
      rw [if_neg (fun q => (inAll.1 q).elim (fun q => by rw [hw] at q; cases q) h)]
      rfl
    | some p =>
      obtain ⟨b, gs⟩ := p
      simp only [wrM, updM]
      by_cases e : i = b
      · rw [if_pos e, if_pos e, if_pos (inAll.2 (.inl (by rw [hw]; simp [e])))]
      · rw [if_neg e, if_neg e, if_neg (fun q => (inAll.1 q).elim (fun q => by rw [hw] at q; simp at q; exact e q) h)]

theorem effM_isSome {fresh : Nat} {out : Out} {i : Nat} (h : i ∈ outLays fresh out) (m : Nat → Option Blk) : (effM m fresh out i).isSome = true := by
  unfold outLays at h
  unfold effM
  rw [newsM_spec]
  rcases List.mem_append.1 h with h | h
  · split
    · rename_i hc
      have : i - fresh < out.news.length := by omega
      simp [this]
    · cases hw : out.wr with
      | none => rw [hw] at h; simp at h
      | some p => obtain ⟨b, gs⟩ := p; rw [hw] at h; simp at h; subst h; simp [wrM, updM]
  · simp only [List.mem_map, List.mem_range] at h
    obtain ⟨j, hj, rfl⟩ := h
    rw [if_pos (by omega)]
    simp [hj]

theorem effM_comm {m : Nat → Option Blk} {f g : Nat} {x y : Out} (h : ∀ i ∈ outLays f x, i ∉ outLays g y) : effM (effM m f x) g y = effM (effM m g y) f x := by
  funext i
  rw [effM_spec (effM m f x), effM_spec (effM m g y), effM_spec m f x, effM_spec m g y]
  by_cases h1 : i ∈ outLays f x <;> by_cases h2 : i ∈ outLays g y
  · exact absurd h2 (h i h1)
  · simp [h1, h2]
  · simp [h1, h2]
  · simp [h1, h2]

theorem putF_comm {t : Nat → V} {x y : Option Tmp} {u v : V} (h : ∀ d, x = some d → y ≠ some d) : putF (putF t x u) y v = putF (putF t y v) x u := by
  cases x with
  | none => rfl
  | some d =>
    cases y with
    | none => rfl
    | some e =>
      have hne : d ≠ e := fun q => h d rfl (q ▸ rfl)
      funext i
      simp only [putF]
      by_cases h1 : i = d
      · subst h1; simp [hne]
      · by_cases h2 : i = e
        · subst h2; simp [h1]
        · simp [h1, h2]

theorem evG_put {t : Nat → V} {dst : Option Tmp} {v : V} {z : Operand} (h : ∀ d, dst = some d → z ≠ .tmp d) : evG (putF t dst v) z = evG t z := by
  cases dst with
  | none => rfl
  | some d =>
    cases z with
    | tmp i =>
      have hne : i ≠ d := fun q => h d rfl (by rw [q])
      simp [evG, putF, hne]
    | _ => rfl

theorem guardF_put {t : Nat → V} {dst : Option Tmp} {v : V} {o : Oper} (h : ∀ d, dst = some d → d ∉ o.looksAt ops) : guardF ops (putF t dst v) o = guardF ops t o := by
  unfold guardF
  cases hg : o.guard with
  | none => rfl
  | some gw =>
    obtain ⟨j, want⟩ := gw
    simp only
    cases hd : (ops[j]?).bind (·.dst) with
    | none => rfl
    | some d =>
      simp only
      have : putF t dst v d = t d := by
        cases dst with
        | none => rfl
        | some e =>
          have hne : d ≠ e := fun q => h e rfl (by subst q; simp [Oper.looksAt, hg, hd])
          simp [putF, hne]
      rw [this]

/-- Operation y, enabled behind x, is enabled ahead of it. -/
theorem Enabled.behind {x y : Info} {ox oy : Oper} (hox : ops[x.i]? = some ox) (hoy : ops[y.i]? = some oy)
    (hl : ∀ d, ox.dst = some d → d ∉ oy.looksAt ops) (hm : ∀ i ∈ outLays x.fresh x.out, i ∉ y.fp) (hy : Enabled K ops n y (s.app ops x)) : Enabled K ops n y s := by
  obtain ⟨o, ho, hd, hc⟩ := hy.op
  rw [hoy] at ho; cases ho
  have hdx : dstAt ops x.i = ox.dst := by simp [dstAt, hox]
  have e1 : guardF ops (s.app ops x).t oy = guardF ops s.t oy := by simp only [FS.app, hdx]; exact guardF_put hl
  have e2 : aop K y.ans y.fresh (evG (s.app ops x).t) oy = aop K y.ans y.fresh (evG s.t) oy := by
    simp only [FS.app, hdx]
    exact aop_congr fun z hz => evG_put fun d hd hzd => hl d hd (by
      subst hzd
      exact List.mem_append_left _ (List.mem_filterMap.2 ⟨.tmp d, by simpa using hz, rfl⟩))
  refine ⟨⟨oy, hoy, hd, ?_⟩, hy.obs, fun j hj => ?_⟩
  · rcases hc with ⟨c1, c2, c3⟩ | ⟨c1, c2, c3⟩
    · left
      refine ⟨c1, e1 ▸ c2, ?_⟩
      rw [e2] at c3
      refine Rd.run_other c3 fun i hi => ?_
      simp only [FS.app]
      rw [effM_spec, if_neg fun hc => hm i hc hi]
    · exact .inr ⟨c1, e1 ▸ c2, c3⟩
  · have := hy.free j hj
    simp only [FS.app] at this
    rw [effM_spec] at this
    split at this
    · rename_i hc
      have h2 := effM_isSome hc (fun _ => none)
      rw [this] at h2; cases h2
    · exact this

/-- Operation x, enabled, is enabled behind y too. -/
theorem Enabled.after {x y : Info} {ox oy : Oper} (hox : ops[x.i]? = some ox) (hoy : ops[y.i]? = some oy)
    (hl : ∀ d, oy.dst = some d → d ∉ ox.looksAt ops) (hm : ∀ i ∈ outLays y.fresh y.out, i ∉ x.fp) (hd : ∀ i ∈ outLays x.fresh x.out, i ∉ outLays y.fresh y.out)
    (hx : Enabled K ops n x s) : Enabled K ops n x (s.app ops y) := by
  obtain ⟨o, ho, hdo, hc⟩ := hx.op
  rw [hox] at ho; cases ho
  have hdy : dstAt ops y.i = oy.dst := by simp [dstAt, hoy]
  have e1 : guardF ops (s.app ops y).t ox = guardF ops s.t ox := by simp only [FS.app, hdy]; exact guardF_put hl
  have e2 : aop K x.ans x.fresh (evG (s.app ops y).t) ox = aop K x.ans x.fresh (evG s.t) ox := by
    simp only [FS.app, hdy]
    exact aop_congr fun z hz => evG_put fun d hd hzd => hl d hd (by
      subst hzd
      exact List.mem_append_left _ (List.mem_filterMap.2 ⟨.tmp d, by simpa using hz, rfl⟩))
  refine ⟨⟨ox, hox, hdo, ?_⟩, hx.obs, fun j hj => ?_⟩
  · rcases hc with ⟨c1, c2, c3⟩ | ⟨c1, c2, c3⟩
    · left
      refine ⟨c1, e1.trans c2, ?_⟩
      rw [e2]
      refine Rd.run_other c3 fun i hi => ?_
      simp only [FS.app]
      rw [effM_spec, if_neg fun hc => hm i hc hi]
    · exact .inr ⟨c1, e1.trans c2, c3⟩
  · simp only [FS.app]
    rw [effM_spec, if_neg]
    · exact hx.free j hj
    · refine hd _ ?_
      exact List.mem_append_right _ (List.mem_map.2 ⟨j, by simpa using hj, rfl⟩)

theorem lays_eq (x : Info) : x.lays = outLays x.fresh x.out := rfl

/-- Two operations that may change places. -/
def Indep (ops : Array Oper) (x y : Info) : Prop :=
  freeB x y = true ∧ ∃ ox oy, ops[x.i]? = some ox ∧ ops[y.i]? = some oy ∧ ox.apart ops oy = true

theorem swap {x y : Info} (hi : Indep ops x y) (hx : Enabled K ops n x s) (hy : Enabled K ops n y (s.app ops x)) :
    Enabled K ops n y s ∧ Enabled K ops n x (s.app ops y) ∧ (s.app ops x).app ops y = (s.app ops y).app ops x := by
  obtain ⟨hf, ox, oy, h1, h2, hap⟩ := hi
  unfold freeB at hf
  simp only [Bool.and_eq_true, lays_eq] at hf
  obtain ⟨⟨f1, f2⟩, f3⟩ := hf
  have f1 := disjB_iff.1 f1
  have f2 := disjB_iff.1 f2
  have f3 := disjB_iff.1 f3
  obtain ⟨a1, a2, a3⟩ := Oper.apart_spec hap
  refine ⟨hy.behind h1 h2 a1 f1, hx.after h1 h2 a3 f3 f2, ?_⟩
  have d1 : dstAt ops x.i = ox.dst := by simp [dstAt, h1]
  have d2 : dstAt ops y.i = oy.dst := by simp [dstAt, h2]
  simp only [FS.app, d1, d2]
  rw [putF_comm a2, effM_comm f2]

theorem bubble : ∀ {pre : List Info} {y : Info} {r : List Info} {s s' : FS}, (∀ x ∈ pre, Indep ops x y) → Exec K ops n (pre ++ y :: r) s s' →
    Enabled K ops n y s ∧ Exec K ops n (pre ++ r) (s.app ops y) s'
  | [], _, _, _, _, _, h => h
  | x :: pre, y, r, s, s', hi, ⟨hx, hr⟩ => by
    obtain ⟨h1, h2⟩ := bubble (fun z hz => hi z (by simp [hz])) hr
    obtain ⟨g1, g2, g3⟩ := swap (hi x (by simp)) hx h1
    exact ⟨g1, g2, g3 ▸ h2⟩
end
end Go.Mo


namespace Go.Mo
open Go Go.RowKit

section
variable {G : Gl} {K : Cx} {π : Loc} {w0 w : World} {P : Program} {s : FS} {n : Nat} {a : Act} {ops : Array Oper}

theorem getL_getD {α : Type} (d : α) (l : List α) (i : Nat) : getL d l i = l.getD i d := nth_eq d l i

theorem getDl {α : Type} (l m : List α) (d : α) (i : Nat) (h : i < l.length) : (l ++ m).getD i d = l.getD i d := by
  simp [List.getD, List.getElem?_append_left h]
theorem getDr {α : Type} (l m : List α) (d : α) (i : Nat) (h : l.length ≤ i) : (l ++ m).getD i d = m.getD (i - l.length) d := by
  simp [List.getD, List.getElem?_append_right h]

def preds (o : Oper) : List Nat := (o.after.toList.filter (Region.binds .any ·)).map (·.on)

theorem mem_uniqGo {j : Nat} : ∀ {l : List Nat} {m : Nat}, j ∈ uniqGo m l → j ∈ l
  | [], _, h => h
  | x :: r, m, h => by
    unfold uniqGo at h
    cases hq : Nat.beq (m / 2 ^ x % 2) 1 <;> simp only [hq, cond_true, cond_false] at h
    · rcases List.mem_cons.1 h with h | h
      · subst h; exact List.mem_cons_self ..
      · exact List.mem_cons_of_mem _ (mem_uniqGo h)
    · exact List.mem_cons_of_mem _ (mem_uniqGo h)

theorem waitsL_old : ∀ (L : List Oper) (acc : List (List Nat)) (i : Nat), i < acc.length → getL [] (waitsL L acc) i = getL [] acc i
  | [], _, _, _ => rfl
  | o :: r, acc, i, h => by
    simp only [waitsL]
    rw [waitsL_old r _ i (by simp; omega)]
    simp only [getL_getD]
    rw [getDl _ _ _ _ h]

theorem waitsL_spec : ∀ (L : List Oper) (acc : List (List Nat)) (i j : Nat), j ∈ getL [] (waitsL L acc) i →
    (i < acc.length ∧ j ∈ getL [] acc i) ∨ ∃ o, L[i - acc.length]? = some o ∧ acc.length ≤ i ∧ (j ∈ preds o ∨ ∃ d ∈ preds o, j ∈ getL [] (waitsL L acc) d)
  | [], acc, i, j, h => by
    simp only [waitsL] at h
    left
    refine ⟨?_, h⟩
    rcases Nat.lt_or_ge i acc.length with q | q
    · exact q
    · rw [getL_getD] at h; simp [List.getD, List.getElem?_eq_none q] at h
  | o :: r, acc, i, j, h => by
    have hx := h
    simp only [waitsL] at h
    rcases waitsL_spec r _ i j h with ⟨h1, h2⟩ | ⟨o', h1, h2, h3⟩
    · simp only [List.length_append, List.length_singleton] at h1
      by_cases hi : i < acc.length
      · left
        rw [getL_getD, getDl _ _ _ _ hi, ← getL_getD] at h2
        exact ⟨hi, h2⟩
      · have e : i = acc.length := by omega
        right
        refine ⟨o, by simp [e], by omega, ?_⟩
        rw [getL_getD, getDr _ _ _ _ (by omega), e] at h2
        simp only [Nat.sub_self, List.getD_cons_zero] at h2
        rcases List.mem_append.1 (mem_uniqGo h2) with h2 | h2
        · exact .inl h2
        · right
          rw [List.mem_flatMap] at h2
          obtain ⟨d, hd, hj⟩ := h2
          refine ⟨d, hd, ?_⟩
          have hlt : d < acc.length := by
            rcases Nat.lt_or_ge d acc.length with q | q
            · exact q
            · rw [getL_getD] at hj; simp [List.getD, List.getElem?_eq_none q] at hj
          rw [waitsL_old _ _ _ hlt]; exact hj
    · right
      simp only [List.length_append, List.length_singleton] at h1 h2
      refine ⟨o', ?_, by omega, ?_⟩
      · rw [show i - acc.length = (i - (acc.length + 1)) + 1 by omega]; simpa using h1
      · simpa only [waitsL] using h3

theorem ready_iff {listed : Array Bool} {i : Nat} : i ∈ Region.ready .any ops listed ↔
    i < ops.size ∧ listed.getD i true = false ∧ ∃ o, ops[i]? = some o ∧ ∀ d ∈ preds o, listed.getD d false = true := by
  unfold Region.ready preds
  simp only [List.mem_filter, List.mem_range, Bool.and_eq_true, Bool.not_eq_true']
  constructor
  · rintro ⟨h1, h2, h3⟩
    refine ⟨h1, h2, ops[i], by simp [h1], ?_⟩
    simp only [Array.getElem?_eq_getElem h1, Option.map_some, Option.getD_some] at h3
    intro d hd
    simp only [List.mem_map, List.mem_filter] at hd
    obtain ⟨e, ⟨he, hb⟩, rfl⟩ := hd
    rw [Array.all_eq_true'] at h3
    have := h3 e (by simpa using he)
    simpa [hb] using this
  · rintro ⟨h1, h2, o, ho, h3⟩
    refine ⟨h1, h2, ?_⟩
    simp only [ho, Option.map_some, Option.getD_some]
    rw [Array.all_eq_true']
    intro e he
    by_cases hb : Region.binds .any e = true
    · have := h3 e.on (List.mem_map.2 ⟨e, List.mem_filter.2 ⟨by simpa using he, hb⟩, rfl⟩)
      simp [this]
    · simp [hb]

theorem edgesB_spec : ∀ {L : List Oper} {k i : Nat} {o : Oper}, edgesB k L = true → L[i]? = some o → ∀ d ∈ preds o, d < k + i
  | [], _, _, _, _, h => by simp at h
  | x :: r, k, i, o, hb, h => by
    simp only [edgesB, Bool.and_eq_true] at hb
    intro d hd
    cases i with
    | zero =>
      simp at h; subst h
      simp only [preds, List.mem_map, List.mem_filter] at hd
      obtain ⟨e, ⟨he, hb'⟩, rfl⟩ := hd
      have := List.all_eq_true.1 hb.1 e he
      simp [hb'] at this
      omega
    | succ i =>
      have := edgesB_spec hb.2 (by simpa using h) d hd
      omega

theorem getD_tf {listed : Array Bool} {i : Nat} (hi : i < listed.size) : listed.getD i true = listed.getD i false := by
  simp [hi]

theorem wpAny_exec (nf : Nat) (hE : EnvOk G K) {Q : Exit → Act → World → Prop} {send : FS} (hb : edgesB 0 ops.toList = true) (hQ : ∀ π a w, RelS G π send n w0 a w → Q .normal a w) :
    ∀ (k : Nat) (R : List Info) (listed : Array Bool) (s : FS) (π : Loc) (a : Act) (w : World), R.length = k → RelS G π s n w0 a w → Exec K ops n R s send →
      listed.size = ops.size → (∀ i, i < ops.size → (listed.getD i true = false ↔ ∃ x ∈ R, x.i = i)) → (∀ x ∈ R, x.i < ops.size) →
      R.Pairwise (fun x y => x.i < y.i ∧ pairOk ops (waitsL ops.toList []) x y = true) →
      (∀ i j, listed.getD i false = true → j ∈ getL [] (waitsL ops.toList []) i → listed.getD j false = true) →
      wpAnyIn (fz G.ro) nf K.P .any ops Q k listed a w
  | 0, R, listed, s, π, a, w, hk, hR, hx, hsz, hin, hlt, hpw, hcl => by
    have : R = [] := List.length_eq_zero_iff.1 hk
    subst this
    have hs : s = send := hx
    subst hs
    refine ⟨?_, hQ _ _ _ hR⟩
    rw [List.eq_nil_iff_forall_not_mem]
    intro i hi
    obtain ⟨h1, h2, _⟩ := ready_iff.1 hi
    obtain ⟨x, hx, _⟩ := (hin i h1).1 h2
    cases hx
  | k + 1, R, listed, s, π, a, w, hk, hR, hx, hsz, hin, hlt, hpw, hcl => by
    refine ⟨fun hnil => ?_, fun i hi => ?_⟩
    · exfalso
      match R, hk with
      | x :: r, _ =>
        have hxi := hlt x (by simp)
        have : x.i ∈ Region.ready .any ops listed := by
          refine ready_iff.2 ⟨hxi, (hin _ hxi).2 ⟨x, by simp, rfl⟩, ops[x.i], by simp [hxi], fun d hd => ?_⟩
          have hlt' := edgesB_spec (o := ops[x.i]) (i := x.i) hb (by simp [hxi]) d hd
          rw [Nat.zero_add] at hlt'
          have hdsz : d < ops.size := by omega
          cases hq : listed.getD d false with
          | true => rfl
          | false =>
            rw [← getD_tf (by omega)] at hq
            obtain ⟨y, hy, hyd⟩ := (hin d hdsz).1 hq
            rcases List.mem_cons.1 hy with e | e
            · subst e; omega
            · have := (List.pairwise_cons.1 hpw).1 y e
              omega
        rw [hnil] at this; cases this
    · obtain ⟨h1, h2, o, ho, hp⟩ := ready_iff.1 hi
      obtain ⟨y, hy, rfl⟩ := (hin i h1).1 h2
      obtain ⟨pre, post, rfl⟩ := List.append_of_mem hy
      have hpw' := List.pairwise_append.1 hpw
      have hind : ∀ z ∈ pre, Indep ops z y := by
        intro z hz
        obtain ⟨hlt1, hok⟩ := hpw'.2.2 z hz y (by simp)
        unfold pairOk at hok
        simp only [Bool.or_eq_true, Bool.and_eq_true] at hok
        rcases hok with hok | ⟨f1, f2⟩
        · exfalso
          have hzi := memB_iff.1 hok
          have hzl : listed.getD z.i true = false := (hin z.i (hlt z (by simp [hz]))).2 ⟨z, by simp [hz], rfl⟩
          rw [getD_tf (by have := hlt z (by simp [hz]); omega)] at hzl
          rcases waitsL_spec _ _ _ _ hzi with ⟨q, _⟩ | ⟨o', ho', _, q⟩
          · simp at q
          · have : o' = o := by
              simp only [List.length_nil, Nat.sub_zero, Array.getElem?_toList] at ho'
              rw [ho] at ho'; cases ho'; rfl
            subst this
            rcases q with q | ⟨d, hd, q⟩
            · rw [hp _ q] at hzl; cases hzl
            · rw [hcl d z.i (hp d hd) q] at hzl; cases hzl
        · refine ⟨f1, ?_⟩
          split at f2
          · rename_i a' b' e1 e2; exact ⟨a', b', e1, e2, f2⟩
          · cases f2
      obtain ⟨hen, hex⟩ := bubble hind hx
      refine hen.wpOp hE hR (nf := nf) fun π' a' w' _ hR' => ?_
      have hsz' : (listed.setIfInBounds y.i true).size = ops.size := by simp [hsz]
      have hset : ∀ j d, (listed.setIfInBounds y.i true).getD j d = if j = y.i then true else listed.getD j d := by
        intro j d
        simp only [Array.getD_eq_getD_getElem?, Array.getElem?_setIfInBounds]
        by_cases e : y.i = j
        · subst e; simp [hsz, h1]
        · rw [if_neg e, if_neg (Ne.symm e)]
      have hne : ∀ z ∈ pre ++ post, z.i ≠ y.i := by
        intro z hz
        rcases List.mem_append.1 hz with q | q
        · have := (hpw'.2.2 z q y (by simp)).1; omega
        · have := ((List.pairwise_cons.1 hpw'.2.1).1 z q).1; omega
      refine wpAny_exec nf hE hb hQ k (pre ++ post) _ _ π' a' w' (by simp at hk ⊢; omega) hR' hex hsz' ?_ ?_ ?_ ?_
      · intro j hj
        rw [hset]
        by_cases e : j = y.i
        · subst e
          rw [if_pos rfl]
          constructor
          · intro q; cases q
          · rintro ⟨z, hz, q⟩; exact absurd q (hne z hz)
        · rw [if_neg e, hin j hj]
          constructor
          · rintro ⟨z, hz, q⟩
            refine ⟨z, ?_, q⟩
            rcases List.mem_append.1 hz with r | r
            · simp [r]
            · rcases List.mem_cons.1 r with r | r
              · subst r; exact absurd q.symm e
              · simp [r]
          · rintro ⟨z, hz, q⟩
            refine ⟨z, ?_, q⟩
            rcases List.mem_append.1 hz with r | r <;> simp [r]
      · intro z hz
        refine hlt z ?_
        rcases List.mem_append.1 hz with r | r <;> simp [r]
      · refine hpw.sublist ?_
        exact List.Sublist.append_left (List.sublist_cons_self _ _) _
      · intro i' j hi' hj
        rw [hset] at hi' ⊢
        by_cases ej : j = y.i
        · rw [if_pos ej]
        · rw [if_neg ej]
          by_cases ei : i' = y.i
          · subst ei
            rcases waitsL_spec _ _ _ _ hj with ⟨q, _⟩ | ⟨o', ho', _, q⟩
            · simp at q
            · have : o' = o := by
                simp only [List.length_nil, Nat.sub_zero, Array.getElem?_toList] at ho'
                rw [ho] at ho'; cases ho'; rfl
              subst this
              rcases q with q | ⟨d, hd, q⟩
              · exact hp _ q
              · exact hcl d j (hp d hd) q
          · rw [if_neg ei] at hi'
            exact hcl i' j hi' hj

theorem wpOps_exec (nf : Nat) (hE : EnvOk G K) {Q : Exit → Act → World → Prop} {send : FS} (hQ : ∀ π a w, RelS G π send n w0 a w → Q .normal a w) :
    ∀ (R : List Info) (s : FS) (π : Loc) (a : Act) (w : World), RelS G π s n w0 a w → Exec K ops n R s send → wpOpsIn (fz G.ro) nf K.P ops Q (R.map (·.i)) a w
  | [], s, π, a, w, hR, hx => by
    have hs : s = send := hx
    subst hs
    exact hQ _ _ _ hR
  | x :: r, s, π, a, w, hR, ⟨hx, hr⟩ => by
    rw [List.map_cons, wpOpsIn_cons]
    exact hx.wpOp hE hR (nf := nf) fun π' a' w' _ hR' => wpOps_exec nf hE hQ r _ π' a' w' hR' hr
end
end Go.Mo


namespace Go.Mo
open Go Go.RowKit

theorem Fr.get_set : ∀ (f : Fr) (i j : Nat) (v : V), f.has i = true → (f.set i v).get j = if j = i then v else f.get j
  | .nil, _, _, _, h => by cases h
  | .node l x r, i, j, v, h => by
    simp only [Fr.has] at h
    cases h0 : Nat.beq i 0 <;> simp only [h0, cond_true, cond_false] at h
    · have hi : i ≠ 0 := fun e => by subst e; cases h0
      cases h1 : Nat.beq (i % 2) 1 <;> simp only [h1, cond_true, cond_false] at h
      · have hi2 : i % 2 = 0 := by
          have : i % 2 ≠ 1 := fun e => by rw [e] at h1; cases h1
          omega
        simp only [Fr.set_node, h0, h1, cond_false, Fr.get_node]
        cases j0 : Nat.beq j 0
        · have hj : j ≠ 0 := fun e => by subst e; cases j0
          cases j1 : Nat.beq (j % 2) 1
          · have hj2 : j % 2 = 0 := by
              have : j % 2 ≠ 1 := fun e => by rw [e] at j1; cases j1
              omega
            simp only [cond_false]
            rw [Fr.get_set r _ _ v h]
            by_cases e : j = i
            · subst e; rw [if_pos rfl, if_pos rfl]
            · rw [if_neg e, if_neg (by omega)]
          · have hj2 := Nat.eq_of_beq_eq_true j1
            simp only [cond_false, cond_true]
            rw [if_neg (by omega)]
        · have hj := Nat.eq_of_beq_eq_true j0
          simp only [cond_true]
          rw [if_neg (by omega)]
      · have hi2 := Nat.eq_of_beq_eq_true h1
        simp only [Fr.set_node, h0, h1, cond_false, cond_true, Fr.get_node]
        cases j0 : Nat.beq j 0
        · have hj : j ≠ 0 := fun e => by subst e; cases j0
          cases j1 : Nat.beq (j % 2) 1
          · have hj2 : j % 2 = 0 := by
              have : j % 2 ≠ 1 := fun e => by rw [e] at j1; cases j1
              omega
            simp only [cond_false]
            rw [if_neg (by omega)]
          · have hj2 := Nat.eq_of_beq_eq_true j1
            simp only [cond_false, cond_true]
            rw [Fr.get_set l _ _ v h]
            by_cases e : j = i
            · subst e; rw [if_pos rfl, if_pos rfl]
            · rw [if_neg e, if_neg (by omega)]
        · have hj := Nat.eq_of_beq_eq_true j0
          simp only [cond_true]
          rw [if_neg (by omega)]
    · have hi := Nat.eq_of_beq_eq_true h0
      subst hi
      simp only [Fr.set_node, h0, cond_true, Fr.get_node]
      cases j0 : Nat.beq j 0
      · have hj : j ≠ 0 := fun e => by subst e; cases j0
        simp only [cond_false]
        rw [if_neg hj]
      · have hj := Nat.eq_of_beq_eq_true j0
        simp only [cond_true]
        rw [if_pos hj]

theorem Fr.has_set : ∀ (f : Fr) (i j : Nat) (v : V), (f.set i v).has j = f.has j
  | .nil, _, _, _ => rfl
  | .node l x r, i, j, v => by
    simp only [Fr.set_node]
    cases Nat.beq i 0 <;> simp only [cond_true, cond_false]
    · cases Nat.beq (i % 2) 1 <;> simp only [cond_true, cond_false, Fr.has]
      · rw [Fr.has_set r]
      · rw [Fr.has_set l]
    · simp only [Fr.has]

theorem Fr.full_has : ∀ (f n i : Nat), n < 2 ^ f → i < n → (Fr.full f n).has i = true
  | 0, n, i, h, hi => by simp at h; omega
  | f + 1, n, i, h, hi => by
    simp only [Fr.full]
    have h0 : Nat.beq n 0 = false := by
      cases q : Nat.beq n 0
      · rfl
      · have := Nat.eq_of_beq_eq_true q; omega
    rw [Nat.pow_succ] at h
    simp only [h0, cond_false, Fr.has]
    cases i0 : Nat.beq i 0
    · have hi0 : i ≠ 0 := fun e => by subst e; cases i0
      cases i1 : Nat.beq (i % 2) 1
      · have : i % 2 ≠ 1 := fun e => by rw [e] at i1; cases i1
        simp only [cond_false]
        exact Fr.full_has f _ _ (by omega) (by omega)
      · have := Nat.eq_of_beq_eq_true i1
        simp only [cond_false, cond_true]
        exact Fr.full_has f _ _ (by omega) (by omega)
    · rfl

theorem Fr.full_get : ∀ (f n i : Nat), (Fr.full f n).get i = .s .undef ∨ (Fr.full f n).get i = .s .any
  | 0, n, i => .inr rfl
  | f + 1, n, i => by
    simp only [Fr.full]
    cases Nat.beq n 0
    · simp only [cond_false, Fr.get_node]
      cases Nat.beq i 0
      · cases Nat.beq (i % 2) 1
        · simp only [cond_false]; exact Fr.full_get f _ _
        · simp only [cond_false, cond_true]; exact Fr.full_get f _ _
      · exact .inl rfl
    · exact .inr rfl

noncomputable def St.fs (s : St) : FS := ⟨s.fr.get, memL s.mem⟩

/-- The tree has all slots. -/
def St.ok (s : St) : Prop := ∀ i, i < s.n → s.fr.has i = true

theorem memL_nil (j : Nat) : memL [] j = none := by unfold memL; rw [getL_getD]; simp
theorem memL_zero (x : Option Blk) (r : List (Option Blk)) : memL (x :: r) 0 = x := by unfold memL; rw [getL_getD]; simp
theorem memL_succ (x : Option Blk) (r : List (Option Blk)) (j : Nat) : memL (x :: r) (j + 1) = memL r j := by
  unfold memL; rw [getL_getD, getL_getD]; simp

theorem memL_padSet : ∀ (mem : List (Option Blk)) (i j : Nat) (b : Blk), memL (padSet mem i b) j = if j = i then some b else memL mem j
  | [], 0, 0, b => by simp [padSet, memL_zero]
  | [], 0, j + 1, b => by simp [padSet, memL_succ, memL_nil]
  | [], i + 1, 0, b => by simp [padSet, memL_zero, memL_nil]
  | [], i + 1, j + 1, b => by
    simp only [padSet, memL_succ]
    rw [memL_padSet [] i j b]
    by_cases e : j = i
    · rw [if_pos e, if_pos (by omega)]
    · rw [if_neg e, if_neg (by omega), memL_nil, memL_nil]
  | x :: r, 0, 0, b => by simp [padSet, memL_zero]
  | x :: r, 0, j + 1, b => by simp [padSet, memL_succ]
  | x :: r, i + 1, 0, b => by simp [padSet, memL_zero]
  | x :: r, i + 1, j + 1, b => by
    simp only [padSet, memL_succ]
    rw [memL_padSet r i j b]
    by_cases e : j = i
    · rw [if_pos e, if_pos (by omega)]
    · rw [if_neg e, if_neg (by omega)]

theorem memL_padSet' (mem : List (Option Blk)) (i : Nat) (b : Blk) : memL (padSet mem i b) = updM (memL mem) i b := by
  funext j; rw [memL_padSet]; rfl

theorem memL_layNews : ∀ (news : List (List Seg)) (mem : List (Option Blk)) (fresh : Nat), memL (layNews mem fresh news) = newsM (memL mem) fresh news
  | [], _, _ => rfl
  | gs :: r, mem, fresh => by
    simp only [layNews, newsM]
    rw [memL_layNews r, memL_padSet']

theorem memL_layWr (mem : List (Option Blk)) (x : Option (Nat × Blk)) : memL (layWr mem x) = wrM (memL mem) x := by
  cases x with
  | none => rfl
  | some p => obtain ⟨b, gs⟩ := p; exact memL_padSet' _ _ _

theorem memL_free (mem : List (Option Blk)) (j : Nat) : memL mem (mem.length + j) = none := by
  unfold memL
  rw [getL_getD]
  simp [List.getD]

section
variable {G : Gl} {K : Cx} {π : Loc} {w0 w : World} {P : Program} {n : Nat} {a : Act} {ops : Array Oper}

theorem evL_evG (fr : Fr) : evL fr = evG fr.get := by funext x; cases x <;> rfl

theorem guardL_guardF (fr : Fr) (o : Oper) : guardL ops.toList fr o = guardF ops fr.get o := by
  unfold guardL guardF
  cases o.guard with
  | none => rfl
  | some p =>
    obtain ⟨j, want⟩ := p
    simp only
    have : getL none (ops.toList.map some) j = ops[j]? := by
      rw [getL_getD]
      simp only [List.getD, List.getElem?_map, Array.getElem?_toList]
      cases ops[j]? <;> rfl
    rw [this]
    cases ops[j]? with
    | none => rfl
    | some oj =>
      simp only [Option.bind_some]
      cases oj.dst <;> rfl

theorem putL_get {s : St} (hs : s.ok) {dst : Option Tmp} (hd : dstOk s.n dst = true) (v : V) : (putL s.fr dst v).get = putF s.fr.get dst v := by
  cases dst with
  | none => rfl
  | some d =>
    funext j
    simp only [putL, putF]
    exact Fr.get_set _ _ _ _ (hs d (Nat.le_of_ble_eq_true hd))

theorem putL_ok {s : St} (hs : s.ok) (dst : Option Tmp) (v : V) : ∀ i, i < s.n → (putL s.fr dst v).has i = true := by
  intro i hi
  cases dst with
  | none => exact hs i hi
  | some d => simp only [putL]; rw [Fr.has_set]; exact hs i hi

theorem astep_spec {i : Nat} {o : Oper} {s s' : St} {x : Info} (ho : ops[i]? = some o) (hs : s.ok) (h : astep K ops.toList i o s = some (x, s')) :
    x.i = i ∧ s'.ok ∧ s'.n = s.n ∧ s'.fs = s.fs.app ops x ∧ (ObsOk s'.obs → ObsOk s.obs ∧ Enabled K ops s.n x s.fs) := by
  unfold astep at h
  cases hd : dstOk s.n o.dst <;> simp only [hd, cond_true, cond_false] at h
  · cases h
  · split at h
    · cases h
    · rename_i hg
      cases h
      rw [guardL_guardF] at hg
      refine ⟨rfl, putL_ok hs _ _, rfl, ?_, fun hobs => ⟨hobs, ⟨o, ho, hd, .inr ⟨rfl, hg, rfl, rfl⟩⟩, (by intro p hp; cases hp), (by intro j hj; cases hj)⟩⟩
      simp only [St.fs, FS.app, dstAt, ho, Option.bind_some]
      rw [putL_get hs hd]
      rfl
    · rename_i hg
      rw [guardL_guardF] at hg
      split at h
      · cases h
      · rename_i out fp hr
        cases h
        rw [evL_evG] at hr
        refine ⟨rfl, putL_ok hs _ _, rfl, ?_, fun hobs => ⟨fun p hp => hobs p (by simp [hp]), ⟨o, ho, hd, .inl ⟨rfl, hg, hr⟩⟩, fun p hp => hobs p (by simp [hp]), fun j _ => memL_free _ _⟩⟩
        simp only [St.fs, FS.app, dstAt, ho, Option.bind_some]
        rw [putL_get hs hd, memL_layNews, memL_layWr]
        rfl

theorem aops_spec : ∀ (rest : List Oper) (k : Nat) (s s' : St) (xs : List Info), (∀ j o, rest[j]? = some o → ops[k + j]? = some o) → s.ok → aops K ops.toList k rest s = some (xs, s') →
    xs.map (·.i) = List.range' k rest.length ∧ s'.ok ∧ s'.n = s.n ∧ (ObsOk s'.obs → ObsOk s.obs ∧ Exec K ops s.n xs s.fs s'.fs)
  | [], k, s, s', xs, _, hs, h => by
    cases h; exact ⟨rfl, hs, rfl, fun ho => ⟨ho, rfl⟩⟩
  | o :: r, k, s, s', xs, hop, hs, h => by
    simp only [aops] at h
    split at h
    · cases h
    · rename_i x s1 h1
      split at h
      · cases h
      · rename_i ys s2 h2
        cases h
        obtain ⟨e1, e2, e3, e4, e5⟩ := astep_spec (hop 0 o rfl) hs h1
        obtain ⟨f1, f2, f3, f4⟩ := aops_spec r (k + 1) s1 s' ys (fun j o' hj => by have := hop (j + 1) o' (by simpa using hj); rwa [show k + (j + 1) = k + 1 + j by omega] at this) e2 h2
        refine ⟨?_, f2, f3.trans e3, fun hobs => ?_⟩
        · simp only [List.map_cons, f1, e1, List.length_cons, List.range'_succ, Nat.add_zero]
        · obtain ⟨g1, g2⟩ := f4 hobs
          obtain ⟨g3, g4⟩ := e5 g1
          rw [e3, e4] at g2
          exact ⟨g3, g4, g2⟩

theorem pairsOk_pairwise : ∀ {xs : List Info} {W : List (List Nat)}, pairsOk ops W xs = true → xs.Pairwise (fun x y => pairOk ops W x y = true)
  | [], _, _ => List.Pairwise.nil
  | x :: r, W, h => by
    simp only [pairsOk, Bool.and_eq_true] at h
    exact List.Pairwise.cons (fun y hy => List.all_eq_true.1 h.1 y hy) (pairsOk_pairwise h.2)

theorem RelS.drew {π : Loc} {s : FS} (h : RelS G π s n w0 a w) : RelS G π s n w0 a w.drew := ⟨h.mem.drew, h.defers, h.size, h.slots⟩

/-- What is asked of the place: contracts, and that the orders are mixed. -/
structure Good (G : Gl) (K : Cx) : Prop where
  env : EnvOk G K
  mixed : K.P.follows .mixedOrders = true

theorem aregion_wp (hG : Good G K) {id : Nat} {draw : Bool} {s s' : St} (hs : s.ok) (h : aregion K ops draw s = some s') :
    s'.ok ∧ s'.n = s.n ∧ (ObsOk s'.obs → ObsOk s.obs ∧ ∀ (Q : Exit → Act → World → Prop) (π : Loc) (a : Act) (w : World), RelS G π s.fs s.n w0 a w →
      (∀ π' a' w', RelS G π' s'.fs s.n w0 a' w' → Q .normal a' w') → ∀ nf, (Code.region id ops draw).wpIn (fz G.ro) nf K.P Q a w) := by
  unfold aregion at h
  split at h
  · cases h
  · rename_i xs s1 h1
    obtain ⟨e1, e2, e3, e4⟩ := aops_spec (ops := ops) ops.toList 0 s s1 xs (fun j o hj => by simpa using hj) hs h1
    have hmap : xs.map (·.i) = List.range ops.size := by rw [e1, List.range_eq_range']; simp
    have hlen : xs.length = ops.size := by have := congrArg List.length hmap; simpa using this
    cases draw <;> simp only [cond_true, cond_false] at h
    · cases h
      refine ⟨e2, e3, fun hobs => ⟨(e4 hobs).1, fun Q π a w hR hQ nf => ?_⟩⟩
      refine wpIn_region ?_
      rw [← hmap]
      exact wpOps_exec nf hG.env hQ xs _ π a w hR (e4 hobs).2
    · cases hc : (pairsOk ops (waitsL ops.toList []) xs && edgesB 0 ops.toList) <;> simp only [hc, cond_true, cond_false] at h
      · cases h
      · cases h
        simp only [Bool.and_eq_true] at hc
        refine ⟨e2, e3, fun hobs => ⟨(e4 hobs).1, fun Q π a w hR hQ nf => ?_⟩⟩
        refine wpIn_region_any hG.mixed ?_
        rw [← hlen]
        have hmem : ∀ x ∈ xs, x.i < ops.size := fun x hx => by
          have : x.i ∈ xs.map (·.i) := List.mem_map.2 ⟨x, hx, rfl⟩
          rw [hmap] at this; simpa using this
        refine wpAny_exec nf hG.env hc.2 hQ xs.length xs _ s.fs π a _ rfl hR.drew (e4 hobs).2 (by simp [hlen]) ?_ hmem ?_ ?_
        · intro i hi
          have h0 : (Array.replicate xs.length false).getD i true = false := by simp [hlen, hi]
          rw [h0]
          refine ⟨fun _ => ?_, fun _ => rfl⟩
          have : i ∈ xs.map (·.i) := by rw [hmap]; simpa using hi
          exact List.mem_map.1 this
        · have h1 := pairsOk_pairwise hc.1
          have h2 : xs.Pairwise (fun x y => x.i < y.i) := by
            have : (xs.map (·.i)).Pairwise (· < ·) := by rw [hmap]; exact List.pairwise_lt_range
            exact List.pairwise_map.1 this
          exact List.Pairwise.imp₂ (fun _ _ p q => ⟨p, q⟩) h2 h1
        · intro i j hi _
          simp [Array.getD_eq_getD_getElem?, Array.getElem?_replicate] at hi
          split at hi <;> simp at hi

/-! ### Code -/

def Ex.out : Ex → Exit
  | .normal => .normal
  | .exit id => .exit id
  | .ret => .ret

/-- What the evaluator's answer says of a piece of code. -/
def Stands (G : Gl) (K : Cx) (w0 : World) (c : Code) (s : St) (x : Ex) (s' : St) : Prop :=
  s'.ok ∧ s'.n = s.n ∧ (ObsOk s'.obs → ObsOk s.obs ∧ ∀ (Q : Exit → Act → World → Prop) (π : Loc) (a : Act) (w : World), RelS G π s.fs s.n w0 a w →
    (∀ π' a' w', RelS G π' s'.fs s.n w0 a' w' → Q x.out a' w') → ∀ nf, c.wpIn (fz G.ro) nf K.P Q a w)

theorem aloop_wp {body : Code} {f : St → Option (Ex × St)} (hf : ∀ s x s', s.ok → f s = some (x, s') → Stands G K w0 body s x s') :
    ∀ (k : Nat) (s : St) (x : Ex) (s' : St), s.ok → aloop f k s = some (x, s') → s'.ok ∧ s'.n = s.n ∧ (ObsOk s'.obs → ObsOk s.obs ∧ ∀ (Q : Exit → Act → World → Prop) (π : Loc) (a : Act) (w : World),
      RelS G π s.fs s.n w0 a w → (∀ π' a' w', RelS G π' s'.fs s.n w0 a' w' → Q x.out a' w') → ∀ nf, Code.roundsIn (fz G.ro) nf K.P body Q k a w)
  | 0, s, x, s', _, h => by cases h
  | k + 1, s, x, s', hs, h => by
    simp only [aloop] at h
    split at h
    · rename_i s1 h1
      obtain ⟨e1, e2, e3⟩ := hf _ _ _ hs h1
      obtain ⟨f1, f2, f3⟩ := aloop_wp hf k s1 x s' e1 h
      refine ⟨f1, f2.trans e2, fun hobs => ?_⟩
      obtain ⟨g1, g2⟩ := f3 hobs
      obtain ⟨g3, g4⟩ := e3 g1
      refine ⟨g3, fun Q π a w hR hQ nf => ?_⟩
      rw [roundsIn_succ]
      refine g4 _ π a w hR (fun π' a' w' hR' => ?_) nf
      exact g2 Q π' a' w' (e2 ▸ hR') (fun π'' a'' w'' hR'' => hQ π'' a'' w'' (by rw [e2] at hR''; exact hR'')) nf
    · rename_i r hne
      obtain ⟨e1, e2, e3⟩ := hf _ _ _ hs h
      refine ⟨e1, e2, fun hobs => ?_⟩
      obtain ⟨g3, g4⟩ := e3 hobs
      refine ⟨g3, fun Q π a w hR hQ nf => ?_⟩
      rw [roundsIn_succ]
      refine g4 _ π a w hR (fun π' a' w' hR' => ?_) nf
      cases x with
      | normal => exact absurd h (hne _)
      | exit id => exact hQ π' a' w' hR'
      | ret => exact hQ π' a' w' hR'

theorem acode_wp (hG : Good G K) (fuel : Nat) : ∀ (c : Code) (s : St) (x : Ex) (s' : St), s.ok → acode K fuel c s = some (x, s') → Stands G K w0 c s x s' := by
  intro c
  induction c with
  | skip =>
    intro s x s' hs h
    cases h
    exact ⟨hs, rfl, fun hobs => ⟨hobs, fun Q π a w hR hQ nf => wpIn_skip (hQ π a w hR)⟩⟩
  | label l =>
    intro s x s' hs h
    cases h
    exact ⟨hs, rfl, fun hobs => ⟨hobs, fun Q π a w hR hQ nf => wpIn_label (hQ π a w hR)⟩⟩
  | scope a iha =>
    intro s x s' hs h
    simp only [acode] at h
    obtain ⟨e1, e2, e3⟩ := iha _ _ _ hs h
    refine ⟨e1, e2, fun hobs => ?_⟩
    obtain ⟨g3, g4⟩ := e3 hobs
    refine ⟨g3, fun Q π a w hR hQ nf => ?_⟩
    refine wpIn_scope_straight (g4 _ π a w hR (fun π' a' w' hR' => ?_) nf)
    have := hQ π' a' w' hR'
    cases x with
    | normal => exact this
    | exit id => exact this
    | ret => exact this
  | region id ops draw =>
    intro s x s' hs h
    simp only [acode] at h
    split at h
    · rename_i s1 h1
      cases h
      exact aregion_wp hG hs h1
    · cases h
  | seq a b iha ihb =>
    intro s x s' hs h
    simp only [acode] at h
    split at h
    · rename_i s1 h1
      obtain ⟨e1, e2, e3⟩ := iha _ _ _ hs h1
      obtain ⟨f1, f2, f3⟩ := ihb _ _ _ e1 h
      refine ⟨f1, f2.trans e2, fun hobs => ?_⟩
      obtain ⟨g1, g2⟩ := f3 hobs
      obtain ⟨g3, g4⟩ := e3 g1
      refine ⟨g3, fun Q π a w hR hQ nf => ?_⟩
      refine wpIn_seq (g4 _ π a w hR (fun π' a' w' hR' => ?_) nf)
      exact g2 Q π' a' w' (e2 ▸ hR') (fun π'' a'' w'' hR'' => hQ π'' a'' w'' (by rw [e2] at hR''; exact hR'')) nf
    · rename_i r hne
      obtain ⟨e1, e2, e3⟩ := iha _ _ _ hs h
      refine ⟨e1, e2, fun hobs => ?_⟩
      obtain ⟨g3, g4⟩ := e3 hobs
      refine ⟨g3, fun Q π a w hR hQ nf => ?_⟩
      refine wpIn_seq (g4 _ π a w hR (fun π' a' w' hR' => ?_) nf)
      cases x with
      | normal => exact absurd h (hne _)
      | exit id => exact hQ π' a' w' hR'
      | ret => exact hQ π' a' w' hR'
  | cond c a b iha ihb =>
    intro s x s' hs h
    simp only [acode] at h
    split at h
    · rename_i hc
      obtain ⟨e1, e2, e3⟩ := iha _ _ _ hs h
      refine ⟨e1, e2, fun hobs => ?_⟩
      obtain ⟨g3, g4⟩ := e3 hobs
      refine ⟨g3, fun Q π a w hR hQ nf => ?_⟩
      have := hR.ev c
      simp only [St.fs] at this
      rw [← evL_evG, hc] at this
      exact wpIn_cond_true this (g4 Q π a w hR hQ nf)
    · rename_i hc
      obtain ⟨e1, e2, e3⟩ := ihb _ _ _ hs h
      refine ⟨e1, e2, fun hobs => ?_⟩
      obtain ⟨g3, g4⟩ := e3 hobs
      refine ⟨g3, fun Q π a w hR hQ nf => ?_⟩
      have := hR.ev c
      simp only [St.fs] at this
      rw [← evL_evG, hc] at this
      exact wpIn_cond_false this (g4 Q π a w hR hQ nf)
    · cases h
  | block id a iha =>
    intro s x s' hs h
    simp only [acode] at h
    split at h
    · rename_i id' s1 h1
      obtain ⟨e1, e2, e3⟩ := iha _ _ _ hs h1
      have hs1 : s' = s1 := by cases hq : Nat.beq id' id <;> simp only [hq, cond_true, cond_false] at h <;> cases h <;> rfl
      subst hs1
      refine ⟨e1, e2, fun hobs => ?_⟩
      obtain ⟨g3, g4⟩ := e3 hobs
      refine ⟨g3, fun Q π a w hR hQ nf => ?_⟩
      refine wpIn_block (g4 _ π a w hR (fun π' a' w' hR' => ?_) nf)
      have := hQ π' a' w' hR'
      simp only [Ex.out, Exit.inBlock]
      cases hq : Nat.beq id' id <;> simp only [hq, cond_true, cond_false] at h <;> cases h
      · rw [if_neg (fun e => by subst e; simp at hq)]; exact this
      · rw [if_pos (Nat.eq_of_beq_eq_true hq)]; exact this
    · rename_i r hne
      obtain ⟨e1, e2, e3⟩ := iha _ _ _ hs h
      refine ⟨e1, e2, fun hobs => ?_⟩
      obtain ⟨g3, g4⟩ := e3 hobs
      refine ⟨g3, fun Q π a w hR hQ nf => ?_⟩
      refine wpIn_block (g4 _ π a w hR (fun π' a' w' hR' => ?_) nf)
      have := hQ π' a' w' hR'
      cases x with
      | exit id => exact absurd h (hne _ _)
      | normal => exact this
      | ret => exact this
  | loop a iha =>
    intro s x s' hs h
    simp only [acode] at h
    obtain ⟨e1, e2, e3⟩ := aloop_wp (fun s x s' => iha s x s') fuel s x s' hs h
    refine ⟨e1, e2, fun hobs => ?_⟩
    obtain ⟨g3, g4⟩ := e3 hobs
    exact ⟨g3, fun Q π a w hR hQ nf => wpIn_loop_rounds fuel (g4 Q π a w hR hQ nf)⟩
  | exit id =>
    intro s x s' hs h
    cases h
    exact ⟨hs, rfl, fun hobs => ⟨hobs, fun Q π a w hR hQ nf => wpIn_exit (hQ π a w hR)⟩⟩
  | ret =>
    intro s x s' hs h
    cases h
    exact ⟨hs, rfl, fun hobs => ⟨hobs, fun Q π a w hR hQ nf => wpIn_ret (hQ π a w hR)⟩⟩
  | _ => intro s x s' hs h; cases h
end
end Go.Mo



namespace Go.Mo
open Go Go.RowKit

/-! ### Numbers of blocks, renamed -/

def renCaps (σ : Nat → Nat) : List (Nat × Nat) → List (Nat × Nat)
  | [] => []
  | (b, o) :: r => (σ b, o) :: renCaps σ r

def Sc.ren (σ : Nat → Nat) : Sc → Sc
  | .ptr b o => .ptr (σ b) o
  | .pix b o x => .pix (σ b) o x
  | .slice b o l c => .slice (σ b) o l c
  | .osl b o l z => .osl (σ b) o l z
  | .fn f caps => .fn f (renCaps σ caps)
  | x => x

def Seg.ren (σ : Nat → Nat) : Seg → Seg
  | .s x => .s (x.ren σ)
  | g => g

def renSegs (σ : Nat → Nat) : List Seg → List Seg
  | [] => []
  | g :: r => g.ren σ :: renSegs σ r

def renTup (σ : Nat → Nat) : List (Bool × List Seg) → List (Bool × List Seg)
  | [] => []
  | (b, gs) :: r => (b, renSegs σ gs) :: renTup σ r

def V.ren (σ : Nat → Nat) : V → V
  | .s x => .s (x.ren σ)
  | .a gs => .a (renSegs σ gs)
  | .t l => .t (renTup σ l)

def renArgs (σ : Nat → Nat) : List V → List V
  | [] => []
  | x :: r => x.ren σ :: renArgs σ r

/-- All blocks that are named are among these. -/
def capsBelow (ok : Nat → Bool) : List (Nat × Nat) → Bool
  | [] => true
  | (b, _) :: r => ok b && capsBelow ok r

def Sc.below (ok : Nat → Bool) : Sc → Bool
  | .ptr b _ => ok b
  | .pix b _ _ => ok b
  | .slice b _ _ _ => ok b
  | .osl b _ _ _ => ok b
  | .fn _ caps => capsBelow ok caps
  | _ => true

def segsBelow (ok : Nat → Bool) : List Seg → Bool
  | [] => true
  | .s x :: r => x.below ok && segsBelow ok r
  | _ :: r => segsBelow ok r

def tupBelow (ok : Nat → Bool) : List (Bool × List Seg) → Bool
  | [] => true
  | (_, gs) :: r => segsBelow ok gs && tupBelow ok r

def V.below (ok : Nat → Bool) : V → Bool
  | .s x => x.below ok
  | .a gs => segsBelow ok gs
  | .t l => tupBelow ok l

section
variable {π' π : Loc} {σ : Nat → Nat} {ok : Nat → Bool}

theorem ren_caps (h : ∀ i n, ok i = true → (π' i = some n ↔ π (σ i) = some n)) : ∀ {l : List (Nat × Nat)} {vs : List Value}, capsBelow ok l = true → (capsCv π' l vs ↔ capsCv π (renCaps σ l) vs)
  | [], _, _ => Iff.rfl
  | (b, o) :: r, vs, hb => by
    simp only [capsBelow, Bool.and_eq_true] at hb
    have hlt : ok b = true := hb.1
    simp only [capsCv, renCaps]
    constructor
    · rintro ⟨n, vr, h1, h2, h3⟩; exact ⟨n, vr, (h b n hlt).1 h1, h2, (ren_caps h hb.2).1 h3⟩
    · rintro ⟨n, vr, h1, h2, h3⟩; exact ⟨n, vr, (h b n hlt).2 h1, h2, (ren_caps h hb.2).2 h3⟩

theorem ren_sc (h : ∀ i n, ok i = true → (π' i = some n ↔ π (σ i) = some n)) {x : Sc} {v : Value} (hb : x.below ok = true) : x.cv π' v ↔ (x.ren σ).cv π v := by
  cases x <;> simp only [Sc.ren, Sc.cv] <;> simp only [Sc.below] at hb
  · rename_i b o
    have hlt : ok b = true := hb
    simp only [h b _ hlt]
  · rename_i b o x
    have hlt : ok b = true := hb
    simp only [h b _ hlt]
  · rename_i b o l c
    have hlt : ok b = true := hb
    simp only [h b _ hlt]
  · rename_i b o l c
    have hlt : ok b = true := hb
    simp only [h b _ hlt]
  · simp only [ren_caps h hb]

theorem ren_segs (h : ∀ i n, ok i = true → (π' i = some n ↔ π (σ i) = some n)) : ∀ {gs : List Seg} {vs : List Value}, segsBelow ok gs = true → (segsCv π' gs vs ↔ segsCv π (renSegs σ gs) vs)
  | [], _, _ => Iff.rfl
  | .s x :: r, vs, hb => by
    simp only [segsBelow, Bool.and_eq_true] at hb
    simp only [segsCv, renSegs, Seg.cv, Seg.ren, ren_segs h hb.2, ren_sc h hb.1]
  | .b8 n l :: r, vs, hb => by
    simp only [segsBelow] at hb
    simp only [segsCv, renSegs, Seg.cv, Seg.ren, ren_segs h hb]
  | .b32 n l :: r, vs, hb => by
    simp only [segsBelow] at hb
    simp only [segsCv, renSegs, Seg.cv, Seg.ren, ren_segs h hb]
  | .is n l :: r, vs, hb => by
    simp only [segsBelow] at hb
    simp only [segsCv, renSegs, Seg.cv, Seg.ren, ren_segs h hb]

theorem ren_size (σ : Nat → Nat) : ∀ (gs : List Seg), segsSize (renSegs σ gs) = segsSize gs
  | [] => rfl
  | .s _ :: r => by simp only [renSegs, segsSize, Seg.ren, Seg.size, ren_size σ r]
  | .b8 _ _ :: r => by simp only [renSegs, segsSize, Seg.ren, Seg.size, ren_size σ r]
  | .b32 _ _ :: r => by simp only [renSegs, segsSize, Seg.ren, Seg.size, ren_size σ r]
  | .is _ _ :: r => by simp only [renSegs, segsSize, Seg.ren, Seg.size, ren_size σ r]

theorem ren_comp (h : ∀ i n, ok i = true → (π' i = some n ↔ π (σ i) = some n)) {b : Bool} {gs : List Seg} {v : Value} (hb : segsBelow ok gs = true) : compCv π' (b, gs) v ↔ compCv π (b, renSegs σ gs) v := by
  cases b with
  | false => simp only [compCv, ren_segs h hb]
  | true =>
    match gs, hb with
    | [], _ => exact Iff.rfl
    | [.s x], hb =>
      simp only [segsBelow, Bool.and_true] at hb
      simp only [renSegs, Seg.ren, compCv, ren_sc h hb]
    | [.b8 _ _], _ => exact Iff.rfl
    | [.b32 _ _], _ => exact Iff.rfl
    | [.is _ _], _ => exact Iff.rfl
    | .s _ :: _ :: _, _ => exact Iff.rfl
    | .b8 _ _ :: _ :: _, _ => exact Iff.rfl
    | .b32 _ _ :: _ :: _, _ => exact Iff.rfl
    | .is _ _ :: _ :: _, _ => exact Iff.rfl

theorem ren_tup (h : ∀ i n, ok i = true → (π' i = some n ↔ π (σ i) = some n)) : ∀ {l : List (Bool × List Seg)} {vs : List Value}, tupBelow ok l = true → (tupCv π' l vs ↔ tupCv π (renTup σ l) vs)
  | [], _, _ => Iff.rfl
  | (b, gs) :: r, vs, hb => by
    simp only [tupBelow, Bool.and_eq_true] at hb
    simp only [tupCv, renTup, ren_comp h hb.1, ren_tup h hb.2]

theorem ren_v (h : ∀ i n, ok i = true → (π' i = some n ↔ π (σ i) = some n)) {x : V} {v : Value} (hb : x.below ok = true) : x.cv π' v ↔ (x.ren σ).cv π v := by
  cases x with
  | s x => exact ren_sc h hb
  | a gs => simp only [V.cv, V.ren, ren_segs h hb]
  | t l => simp only [V.cv, V.ren, ren_tup h hb]

theorem ren_args (h : ∀ i n, ok i = true → (π' i = some n ↔ π (σ i) = some n)) : ∀ {l : List V} {vs : List Value}, (∀ x ∈ l, x.below ok = true) → (argsCv π' l vs ↔ argsCv π (renArgs σ l) vs)
  | [], _, _ => Iff.rfl
  | x :: r, vs, hb => by
    have ih : ∀ us, argsCv π' r us ↔ argsCv π (renArgs σ r) us := fun us => ren_args h fun y hy => hb y (List.mem_cons_of_mem _ hy)
    simp only [argsCv, renArgs, ren_v h (hb x (by simp)), ih]
end

/-! ### A function's body -/

section
variable {G : Gl} {K : Cx} {π : Loc} {w0 w : World} {P : Program} {n : Nat} {a : Act}

theorem ofArgs_get : ∀ (l : List V) (f : Fr) (k i : Nat), (∀ j, k ≤ j → j < k + l.length → f.has j = true) →
    (f.ofArgs k l).get i = if k ≤ i ∧ i < k + l.length then l.getD (i - k) (.s .any) else f.get i
  | [], f, k, i, _ => by
    simp only [Fr.ofArgs, List.length_nil]
    rw [if_neg (by omega)]
  | x :: r, f, k, i, h => by
    simp only [List.length_cons] at h
    simp only [Fr.ofArgs, List.length_cons]
    rw [ofArgs_get r _ _ _ (fun j h1 h2 => by rw [Fr.has_set]; exact h j (by omega) (by omega)), Fr.get_set _ _ _ _ (h k (by omega) (by omega))]
    by_cases e : i = k
    · subst e
      rw [if_neg (by omega), if_pos rfl, if_pos (by omega)]
      simp
    · by_cases h2 : k + 1 ≤ i ∧ i < k + 1 + r.length
      · rw [if_pos h2, if_pos (by omega), show i - k = (i - (k + 1)) + 1 by omega]
        simp
      · rw [if_neg h2, if_neg e, if_neg (by omega)]

theorem ofArgs_has : ∀ (l : List V) (f : Fr) (k i : Nat), (f.ofArgs k l).has i = f.has i
  | [], _, _, _ => rfl
  | x :: r, f, k, i => by simp only [Fr.ofArgs]; rw [ofArgs_has r, Fr.has_set]

theorem argsCv_length : ∀ {l : List V} {vs : List Value}, argsCv π l vs → vs.length = l.length
  | [], _, e => by subst e; rfl
  | _ :: _, _, ⟨_, _, e, _, h⟩ => by subst e; simp [argsCv_length h]

theorem argsCv_getD : ∀ {l : List V} {vs : List Value} {i : Nat}, argsCv π l vs → i < l.length → (l.getD i (.s .any)).cv π (vs.getD i undef)
  | [], _, _, _, h => by simp at h
  | _ :: _, _, 0, ⟨_, _, e, h, _⟩, _ => by subst e; simpa using h
  | _ :: _, _, i + 1, ⟨_, _, e, _, hr⟩, h => by
    subst e
    have := argsCv_getD (i := i) hr (by simpa using h)
    simpa using this

theorem relS_init {m : Nat → Option Blk} {args : List V} {vargs : List Value} {nt : Nat} {w0 : World} (hR : Rel G π m w0 w) (ha : argsCv π args vargs) (h1 : args.length ≤ nt) (h2 : nt < 4096) (hds : G.ds = []) :
    RelS G π ⟨((Fr.full 12 nt).ofArgs 0 args).get, m⟩ nt w0 ⟨vargs.toArray ++ Array.replicate (nt - vargs.toArray.size) undef, []⟩ w := by
  have hl := argsCv_length ha
  refine ⟨hR, hds.symm, by simp; omega, fun i => ?_⟩
  show (Fr.get _ i).cv π _
  rw [ofArgs_get args _ 0 i (fun j _ hj => Fr.full_has 12 nt j (by simpa using h2) (by omega))]
  have hg : ∀ (j : Nat), (vargs.toArray ++ Array.replicate (nt - vargs.toArray.size) undef).getD j undef = vargs.getD j undef := by
    intro j
    simp only [Array.getD_eq_getD_getElem?, Array.getElem?_append, List.size_toArray, List.getElem?_toArray, List.getD]
    split
    · rfl
    · rename_i hj
      rw [List.getElem?_eq_none (by omega)]
      rw [Array.getElem?_replicate]
      split <;> rfl
  simp only
  rw [hg]
  split
  · rename_i hi
    simpa using argsCv_getD ha (by omega)
  · rename_i hi
    have : vargs.getD i undef = undef := by
      simp only [List.getD]
      rw [List.getElem?_eq_none (by omega)]; rfl
    rw [this]
    rcases Fr.full_get 12 nt i with e | e <;> rw [e]
    · rfl
    · exact True.intro

def resOf (tmps : Array Value) (r : ResultVar) : Sem Value :=
  match r with
  | .tmp t => pure (tmps.getD t undef)
  | .cell a t => do loadVar t (← asAddr (tmps.getD a undef))

theorem results_eq (fn : Func) (tmps : Array Value) : results fn tmps = (do
    let vs ← fn.results.mapM (resOf tmps)
    pure (if h : vs.size = 1 then vs[0] else .tuple vs)) := rfl

theorem aresult_run {s : St} {r : ResultVar} {b : Bool} {gs : List Seg} (h : aresult K s r = some (b, gs)) (hR : RelS G π s.fs n w0 a w) :
    ∃ v, (resOf a.tmps r).run K.P w = .ok v w ∧ compCv π (b, gs) v := by
  unfold aresult at h
  split at h
  · rename_i t
    have hs := hR.slots t
    simp only [St.fs] at hs
    split at h
    · rename_i x hx
      cases h
      rw [hx] at hs
      exact ⟨_, rfl, hs⟩
    · rename_i gs hx
      cases h
      rw [hx] at hs
      exact ⟨_, rfl, hs⟩
    · cases h
  · rename_i c t
    have hs := hR.slots c
    simp only [St.fs] at hs
    split at h
    · rename_i bl off sz hx hty
      rw [hx] at hs
      obtain ⟨n', hn, hv⟩ := hs
      obtain ⟨ha, i, hi, rfl⟩ := tyAgg_true hty
      split at h
      · rename_i blk hb
        split at h
        · rename_i gs' hg
          cases h
          obtain ⟨n'', vs, T, fz, e1, e2, _⟩ := hR.mem.blk bl blk hb
          rw [hn] at e1; cases e1
          obtain ⟨us, h1, hcv⟩ := e2.cells (P := K.P) hg
          refine ⟨.agg us.toArray, ?_, ⟨_, rfl, hcv⟩⟩
          simp only [resOf, hv, asAddr, Sem.run_bind, Sem.run_pure, Result.andThen_ok, loadVar, ha, if_true, run_size hi, h1]
        · cases h
      · cases h
    · rename_i bl off sz hx hty
      rw [hx] at hs
      obtain ⟨n', hn, hv⟩ := hs
      obtain ⟨ha, i, hi, rfl⟩ := tyAgg_false hty
      split at h
      · rename_i blk hb
        split at h
        · rename_i y hg
          cases h
          obtain ⟨n'', vs, T, fz, e1, e2, _⟩ := hR.mem.blk bl blk hb
          rw [hn] at e1; cases e1
          obtain ⟨u, hu, hcv⟩ := e2.cell (P := K.P) hg
          refine ⟨u, ?_, hcv⟩
          simp only [resOf, hv, asAddr, Sem.run_bind, Sem.run_pure, Result.andThen_ok, loadVar, ha, Bool.false_eq_true, if_false, hu]
        · cases h
      · cases h
    · cases h

theorem aresultsL_run {s : St} (hR : RelS G π s.fs n w0 a w) : ∀ {rs : List ResultVar} {l : List (Bool × List Seg)}, aresultsL K s rs = some l →
    ∃ vs, (rs.mapM (resOf a.tmps)).run K.P w = .ok vs w ∧ tupCv π l vs
  | [], l, h => by cases h; exact ⟨[], by simp, rfl⟩
  | r :: rs, l, h => by
    simp only [aresultsL] at h
    split at h
    · rename_i x xs h1 h2
      cases h
      obtain ⟨b, gs⟩ := x
      obtain ⟨v, e1, e2⟩ := aresult_run h1 hR
      obtain ⟨vs, e3, e4⟩ := aresultsL_run hR h2
      refine ⟨v :: vs, ?_, v, vs, rfl, e2, e4⟩
      simp only [List.mapM_cons, Sem.run_bind, e1, e3, Result.andThen_ok, Sem.run_pure]
    · cases h

theorem aresults_run {s : St} {fn : Func} {v : V} (hR : RelS G π s.fs n w0 a w) (h : aresults K s fn.results.toList = some v) : ∃ rv, (results fn a.tmps).run K.P w = .ok rv w ∧ v.cv π rv := by
  unfold aresults at h
  have key : ∀ l vs, (fn.results.toList.mapM (resOf a.tmps)).run K.P w = .ok vs w →
      tupCv π l vs → (results fn a.tmps).run K.P w = .ok (if h : vs.length = 1 then vs[0] else .tuple vs.toArray) w := by
    intro l vs hrun _
    rw [results_eq, Array.mapM_eq_mapM_toList]
    simp only [Sem.run_bind, Sem.run_map]
    rw [hrun]
    simp only [Result.andThen_ok, Sem.run_pure, List.size_toArray, List.getElem_toArray]
  split at h
  · rename_i x hl
    cases h
    obtain ⟨vs, e1, e2⟩ := aresultsL_run hR hl
    refine ⟨_, key _ _ e1 e2, ?_⟩
    obtain ⟨u, ur, rfl, hu, hr⟩ := e2
    have : ur = [] := hr
    subst this
    exact hu
  · rename_i gs hl
    cases h
    obtain ⟨vs, e1, e2⟩ := aresultsL_run hR hl
    refine ⟨_, key _ _ e1 e2, ?_⟩
    obtain ⟨u, ur, rfl, hu, hr⟩ := e2
    have : ur = [] := hr
    subst this
    exact hu
  · cases h
  · rename_i l h1 h2 h3 hl
    cases h
    obtain ⟨vs, e1, e2⟩ := aresultsL_run hR hl
    refine ⟨_, key _ _ e1 e2, ?_⟩
    have hlen : vs.length ≠ 1 := by
      intro hq
      match l, vs, e2, hq with
      | [x], _, _, _ => exact h3 x rfl
      | [], _, e2, hq => have : _ = [] := e2; subst this; simp at hq
      | x :: y :: r, _, ⟨u, ur, e, _, ⟨u2, ur2, e2', _, _⟩⟩, hq => subst e; subst e2'; simp at hq
    rw [dif_neg hlen]
    exact ⟨vs, rfl, e2⟩
  · cases h

/-- A call, by the evaluation of its body. -/
theorem afunc_calls (hG : Good G K) {fuel f : Nat} {fn : Func} {args : List V} {mem : List (Option Blk)} {orc : List (Option Bool)} {v : V} {s' : St} (hf : K.P.funcs[f]? = some fn)
    (h : afunc K fuel fn args mem orc = some (v, s')) (hobs : ObsOk s'.obs) (h1 : args.length ≤ fn.ntmps) (h2 : fn.ntmps < 4096) {vargs : List Value}
    {w0 : World} (hR : Rel G π (memL mem) w0 w) (ha : argsCv π args vargs) (hro : G.ro = none) (hds : G.ds = []) :
    Calls K.P f vargs.toArray w (fun e w' => ∃ rv π', e = .returned rv ∧ v.cv π' rv ∧ Rel G π' (memL s'.mem) w0 w') := by
  unfold afunc at h
  split at h
  · cases h
  · rename_i c hb
    have hinit := relS_init hR ha h1 h2 hds
    have hok : (St.mk ((Fr.full 12 fn.ntmps).ofArgs 0 args) fn.ntmps mem orc []).ok := fun i hi => by
      show (Fr.ofArgs _ _ _).has i = true
      rw [ofArgs_has]; exact Fr.full_has 12 fn.ntmps i (by simpa using h2) hi
    refine calls_of_wp hf hb ?_
    split at h
    · rename_i s1 hc
      split at h
      · rename_i v' hv
        cases h
        obtain ⟨e1, e2, e3⟩ := acode_wp (w0 := w0) hG fuel c _ _ _ hok hc
        refine wpIn_wide.1 (?_ : c.wpIn (fz none) 0 K.P _ _ _)
        rw [← hro]
        refine (e3 hobs).2 _ π _ w hinit (fun π' a' w' hR' => ?_) 0
        obtain ⟨rv, hrv, hcv⟩ := aresults_run hR' hv
        exact ⟨hR'.defers.trans hds, rv, hrv, rv, π', rfl, hcv, hR'.mem⟩
      · cases h
    · rename_i s1 hc
      split at h
      · rename_i v' hv
        cases h
        obtain ⟨e1, e2, e3⟩ := acode_wp (w0 := w0) hG fuel c _ _ _ hok hc
        refine wpIn_wide.1 (?_ : c.wpIn (fz none) 0 K.P _ _ _)
        rw [← hro]
        refine (e3 hobs).2 _ π _ w hinit (fun π' a' w' hR' => ?_) 0
        obtain ⟨rv, hrv, hcv⟩ := aresults_run hR' hv
        exact ⟨hR'.defers.trans hds, rv, hrv, rv, π', rfl, hcv, hR'.mem⟩
      · cases h
    · cases h

/-! ### Contracts -/

/-- The callee's view of where things lie: its first k blocks are the caller's, by σ. -/
def under (π : Loc) (σ : Nat → Nat) (k : Nat) : Loc := fun i => if i < k then π (σ i) else none

/-- The blocks that a callee is told of, in its own numbers. -/
def given : List (List Seg) → List (Option Blk)
  | [] => []
  | gs :: r => some ⟨gs, false⟩ :: given r

theorem given_get : ∀ (l : List (List Seg)) (i : Nat), memL (given l) i = (l[i]?).map (⟨·, false⟩)
  | [], i => by simp [given, memL_nil]
  | gs :: r, 0 => by simp [given, memL_zero]
  | gs :: r, i + 1 => by
    have := given_get r i
    simp [given, memL_succ, this]

def upTo (k i : Nat) : Bool := Nat.blt i k

theorem upTo_lt {k i : Nat} (h : upTo k i = true) : i < k := Nat.le_of_ble_eq_true h

structure Told (K : Cx) (f : Nat) (fn : Func) (fuel : Nat) (cargs : List V) (cmem : List (List Seg)) (orc : List (Option Bool)) (v : V) (s' : St) : Prop where
  fnat : K.P.funcs[f]? = some fn
  name : (fn.name == "runtime.NumGoroutine") = false
  eval : afunc K fuel fn cargs (given cmem) orc = some (v, s')
  obs : ObsOk s'.obs
  len : Nat.ble cargs.length fn.ntmps = true
  few : Nat.ble (fn.ntmps + 1) 4096 = true
  argsB : (cargs.all (V.below (upTo cmem.length) ·)) = true
  memB : (cmem.all (segsBelow (upTo cmem.length) ·)) = true

theorem Told.enters {f : Nat} {fn : Func} {fuel : Nat} {cargs : List V} {cmem : List (List Seg)} {orc : List (Option Bool)} {v : V} {s' : St} (h : Told K f fn fuel cargs cmem orc v s') : enters K.P f := by
  refine ⟨fn, h.fnat, ?_, h.name⟩
  have := h.eval
  unfold afunc at this
  cases hb : fn.body with
  | none => rw [hb] at this; cases this
  | some c => rfl

/-- What the caller's memory must hold for the callee's view of it. -/
def Sees (σ : Nat → Nat) (m : Nat → Option Blk) (cmem : List (List Seg)) : Prop :=
  ∀ (i : Nat) (gs : List Seg), cmem[i]? = some gs → ∃ b, m (σ i) = some b ∧ b.gs = renSegs σ gs

theorem Told.calls (hG : Good G K) {f : Nat} {fn : Func} {fuel : Nat} {cargs : List V} {cmem : List (List Seg)} {orc : List (Option Bool)} {v : V} {s' : St} (h : Told K f fn fuel cargs cmem orc v s')
    {σ : Nat → Nat} {m : Nat → Option Blk} {vargs : List Value} (hm : MemRel π m w) (hlt : G.g < w.heap.size) (hg : w.heap[G.g]? = some G.obj)
    (hσ : Sees σ m cmem) (ha : argsCv π (renArgs σ cargs) vargs) :
    Calls K.P f vargs.toArray w (fun e w' => ∃ rv π', e = .returned rv ∧ (∀ i n, upTo cmem.length i = true → (π' i = some n ↔ π (σ i) = some n)) ∧ v.cv π' rv ∧
      Rel { G with base := under π σ cmem.length, ro := none, kw := none, ds := [] } π' (memL s'.mem) w w') := by
  have hu : ∀ i n, upTo cmem.length i = true → (under π σ cmem.length i = some n ↔ π (σ i) = some n) := fun i n hi => by simp [under, upTo_lt hi]
  have hR : Rel { G with base := under π σ cmem.length, ro := none, kw := none, ds := [] } (under π σ cmem.length) (memL (given cmem)) w w := by
    refine ⟨?_, ?_, ?_, hg, hlt, Below.refl _ _, Loc.le_refl _, fun w1 e => by cases e⟩
    · intro i b hb
      rw [given_get, Option.map_eq_some_iff] at hb
      obtain ⟨gs, hgs, rfl⟩ := hb
      obtain ⟨b', hb', e⟩ := hσ i gs hgs
      obtain ⟨p, vs, T, fz, e1, e2⟩ := hm _ _ hb'
      have hi : i < cmem.length := (List.getElem?_eq_some_iff.1 hgs).1
      refine ⟨p, vs, T, fz, (hu i p (Nat.ble_eq_true_of_le hi)).2 e1, ?_, fun q => by cases q⟩
      rw [e] at e2
      obtain ⟨a1, a2, a3, a4⟩ := e2
      rw [ren_size] at a3 a4
      exact ⟨a1, a2, a3, (ren_segs hu (List.all_eq_true.1 h.memB gs (List.mem_of_getElem? hgs))).2 a4⟩
    · intro i j p q bi bj _ hi _ _ _ _ hwr
      rw [given_get, Option.map_eq_some_iff] at hi
      obtain ⟨gs, _, rfl⟩ := hi
      cases hwr
    · intro i hi
      rw [given_get, Option.map_eq_none_iff] at hi
      simp at hi
      simp [under, Nat.not_lt.2 hi]
  have hac : argsCv (under π σ cmem.length) cargs vargs := (ren_args hu (fun x hx => List.all_eq_true.1 h.argsB x hx)).2 ha
  refine (afunc_calls (w := w) (G := { G with base := under π σ cmem.length, ro := none, kw := none, ds := [] }) ⟨hG.env, hG.mixed⟩ h.fnat h.eval h.obs (Nat.le_of_ble_eq_true h.len) (Nat.le_of_ble_eq_true h.few) hR hac rfl rfl).mono ?_
  rintro e w' ⟨rv, π', rfl, hcv, hR'⟩
  refine ⟨rv, π', rfl, fun i n hi => ?_, hcv, hR'⟩
  have hi := upTo_lt hi
  obtain ⟨b', hb', _⟩ := hσ i cmem[i] (by simp [hi])
  obtain ⟨n', vs, T, fz, e1, _⟩ := hm _ _ hb'
  have h1 : π' i = some n' := hR'.base i n' (by simp [under, hi, e1])
  rw [h1, e1]

/-- The place of a number in a list. -/
def idx (i : Nat) : List Nat → Nat
  | [] => 0
  | x :: r => bif Nat.beq x i then 0 else idx i r + 1

theorem idx_get : ∀ {E : List Nat} {j : Nat}, E.Nodup → ∀ (h : j < E.length), idx E[j] E = j
  | x :: r, 0, _, _ => by simp [idx]
  | x :: r, j + 1, hn, h => by
    have hn' := List.nodup_cons.1 hn
    have hlt : j < r.length := by simpa using h
    have hne : Nat.beq x r[j] = false := by
      cases q : Nat.beq x r[j]
      · rfl
      · have := Nat.eq_of_beq_eq_true q
        exact absurd (this ▸ List.getElem_mem hlt) hn'.1
    simp only [List.getElem_cons_succ, idx, hne, cond_false]
    rw [idx_get hn'.2 hlt]

theorem idx_mem : ∀ {E : List Nat} {i : Nat}, i ∈ E → E[idx i E]? = some i
  | x :: r, i, h => by
    unfold idx
    cases q : Nat.beq x i
    · have hne : i ≠ x := fun e => by subst e; simp at q
      have := idx_mem (E := r) ((List.mem_cons.1 h).resolve_left hne)
      simpa using this
    · have := Nat.eq_of_beq_eq_true q
      subst this; simp

/-- A callee's numbers in the caller's: the given blocks by σ, the new ones from fresh on. -/
def renE (σ : Nat → Nat) (k : Nat) (E : List Nat) (fresh i : Nat) : Nat := bif Nat.blt i k then σ i else fresh + idx i E

def okE (k : Nat) (E : List Nat) (i : Nat) : Bool := Nat.blt i k || memB E i

def nodupB : List Nat → Bool
  | [] => true
  | x :: r => !(memB r x) && nodupB r

theorem nodupB_iff : ∀ {l : List Nat}, nodupB l = true → l.Nodup
  | [], _ => List.nodup_nil
  | x :: r, h => by
    simp only [nodupB, Bool.and_eq_true, Bool.not_eq_true'] at h
    refine List.nodup_cons.2 ⟨fun q => ?_, nodupB_iff h.2⟩
    rw [memB_iff.2 q] at h; cases h.1

/-- What is to be looked at beside the evaluation. -/
def sideOk (fn : Func) (cargs : List V) (cmem : List (List Seg)) (v : V) (E : List Nat) (gsl : List (List Seg)) : Bool :=
  !(fn.name == "runtime.NumGoroutine") && (Nat.ble cargs.length fn.ntmps && (Nat.ble (fn.ntmps + 1) 4096 && ((cargs.all (V.below (upTo cmem.length) ·)) && ((cmem.all (segsBelow (upTo cmem.length) ·)) &&
    (v.below (okE cmem.length E) && ((gsl.all (segsBelow (okE cmem.length E) ·)) && (nodupB E && E.all (fun i => Nat.ble cmem.length i))))))))

/-- The evaluation's answer: the value, what was taken for granted, the new blocks E. -/
noncomputable def evalE (K : Cx) (fuel : Nat) (fn : Func) (cargs : List V) (cmem : List (List Seg)) (orc : List (Option Bool)) (E : List Nat) : Option (V × List (Bool × Bool) × List (Option Blk)) :=
  match afunc K fuel fn cargs (given cmem) orc with
  | some (v, s) => some (v, s.obs, E.map (memL s.mem))
  | none => none

def newBlks : List (List Seg) → List (Option Blk)
  | [] => []
  | gs :: r => some ⟨gs, true⟩ :: newBlks r

theorem newBlks_get : ∀ (l : List (List Seg)) (j : Nat), (newBlks l)[j]? = (l[j]?).map fun gs => some ⟨gs, true⟩
  | [], j => by simp [newBlks]
  | gs :: r, 0 => by simp [newBlks]
  | gs :: r, j + 1 => by simpa [newBlks] using newBlks_get r j

/-- The contract of a function, by the evaluation of its body. -/
theorem fitsE (hG : Good G K) {f : Nat} {fn : Func} (fuel : Nat) (cargs : List V) (cmem : List (List Seg)) (orc : List (Option Bool)) {v : V} {obs : List (Bool × Bool)} (E : List Nat) {gsl : List (List Seg)}
    (hf : K.P.funcs[f]? = some fn) (he : evalE K fuel fn cargs cmem orc E = some (v, obs, newBlks gsl)) (hobs : ObsOk obs) (hs : sideOk fn cargs cmem v E gsl = true)
    (σ : Nat → Nat) {m : Nat → Option Blk} (hσ : Sees σ m cmem) (fresh : Nat) :
    Fits G K.P f (renArgs σ cargs) fresh m (v.ren (renE σ cmem.length E fresh)) (gsl.map (renSegs (renE σ cmem.length E fresh))) := by
  unfold evalE at he
  split at he
  · rename_i v' s' hev
    simp only [Option.some.injEq, Prod.mk.injEq] at he
    obtain ⟨rfl, rfl, hE⟩ := he
    simp only [sideOk, Bool.and_eq_true, Bool.not_eq_true'] at hs
    obtain ⟨s1, s2, s3, s4, s5, s6, s7, s8, s9⟩ := hs
    have hnd := nodupB_iff s8
    have told : Told K f fn fuel cargs cmem orc v' s' := ⟨hf, s1, hev, hobs, s2, s3, s4, s5⟩
    have hlen : gsl.length = E.length := by
      have := congrArg List.length hE
      have h2 : ∀ l, (newBlks l).length = l.length := by intro l; induction l with | nil => rfl | cons a l ih => simp [newBlks, ih]
      rw [h2] at this; simpa using this.symm
    have hblk : ∀ (j : Nat) (id : Nat) (gs : List Seg), E[j]? = some id → gsl[j]? = some gs → memL s'.mem id = some ⟨gs, true⟩ := by
      intro j id gs h1 h2
      have := congrArg (·[j]?) hE
      simp only [List.getElem?_map, newBlks_get, h1, h2, Option.map_some, Option.some.injEq] at this
      exact this
    refine ⟨told.enters, fun π w vargs hm hlt hg ha hfr => ?_⟩
    refine (told.calls hG hm hlt hg hσ ha).mono ?_
    rintro e w' ⟨rv, π', rfl, hp, hcv, hR'⟩
    -- where the new blocks lie
    have hpl : ∀ j, j < E.length → ∃ p, ∃ gs, gsl[j]? = some gs ∧ π' (E.getD j 0) = some p ∧ w.heap.size ≤ p.n ∧ ∃ vs T, Holds π' p gs w' vs T (0, 0) := by
      intro j hj
      have h1 : E[j]? = some (E.getD j 0) := by simp [List.getD, hj]
      have h2 : gsl[j]? = some gsl[j] := by simp [hlen, hj]
      obtain ⟨p, vs, T, fz, e1, e2, e3⟩ := hR'.blk _ _ (hblk j _ _ h1 h2)
      obtain ⟨rfl, h3⟩ := e3 rfl
      exact ⟨p, _, h2, e1, h3, vs, T, e2⟩
    let pl : Nat → Pl := fun i => (π' i).getD ⟨0, 0, 0⟩
    have hpl' : ∀ j, j < E.length → π' (E.getD j 0) = some (pl (E.getD j 0)) := by
      intro j hj
      obtain ⟨p, gs, _, h2, _⟩ := hpl j hj
      simp only [pl, h2, Option.getD_some]
    have hns : ∀ j (h : j < E.length), (E.map pl)[j]? = some (pl (E.getD j 0)) := by
      intro j h; simp [List.getD, h]
    have hle : π.le (ext π fresh (E.map pl)) := by
      intro i p hi
      rw [ext_spec]
      split
      · rename_i hc
        simp only [List.length_map] at hc
        have := hfr (i - fresh) (by simp [hlen]; omega)
        rw [show fresh + (i - fresh) = i by omega, hi] at this; cases this
      · exact hi
    have hren : ∀ i p, okE cmem.length E i = true → (π' i = some p ↔ ext π fresh (E.map pl) (renE σ cmem.length E fresh i) = some p) := by
      intro i p hi
      unfold renE
      cases hk : Nat.blt i cmem.length
      · simp only [cond_false]
        unfold okE at hi
        rw [hk, Bool.false_or] at hi
        have hmem := memB_iff.1 hi
        have hget := idx_mem hmem
        have hlt' : idx i E < E.length := (List.getElem?_eq_some_iff.1 hget).1
        rw [ext_spec, if_pos (by simp; omega), Nat.add_sub_cancel_left, hns _ hlt']
        have hgd : E.getD (idx i E) 0 = i := by simp [List.getD, hget]
        rw [hgd]
        have := hpl' _ hlt'
        rw [hgd] at this
        rw [this]
      · simp only [cond_true]
        rw [hp i p hk]
        have hil : i < cmem.length := upTo_lt hk
        obtain ⟨b', hb', _⟩ := hσ i cmem[i] (by simp [hil])
        obtain ⟨q, vs, T, fz, e1, _⟩ := hm _ _ hb'
        rw [e1, hle _ _ e1]
    refine ⟨rv, E.map pl, rfl, ⟨by simp [hlen], ?_, ?_, hR'.below, (ren_v hren s6).1 hcv, ?_⟩⟩
    · rw [List.map_map, List.Nodup, List.pairwise_iff_getElem]
      intro i j hi hj hij
      simp only [List.length_map] at hi hj
      simp only [List.getElem_map, Function.comp]
      intro heq
      obtain ⟨p, gs, g1, g2, _, _⟩ := hpl i hi
      obtain ⟨q, hs', k1, k2, _, _⟩ := hpl j hj
      have e1 : E[i]? = some (E.getD i 0) := by simp [List.getD, hi]
      have e2 : E[j]? = some (E.getD j 0) := by simp [List.getD, hj]
      have e3 : E.getD i 0 = E[i] := by simp [List.getD, hi]
      have e4 : E.getD j 0 = E[j] := by simp [List.getD, hj]
      have hne : E.getD i 0 ≠ E.getD j 0 := by
        rw [e3, e4]
        intro q
        have e5 : E[i]? = E[j]? := by rw [List.getElem?_eq_getElem hi, List.getElem?_eq_getElem hj, q]
        have e6 : i = j := (List.getElem?_inj hi hnd).1 e5
        omega
      have heq' : p.n = q.n := by
        have a1 : pl E[i] = p := by rw [← e3]; simp only [pl, g2, Option.getD_some]
        have a2 : pl E[j] = q := by rw [← e4]; simp only [pl, k2, Option.getD_some]
        rw [a1, a2] at heq; exact heq
      have := (hR'.inj _ _ p q _ _ hne (hblk i _ _ e1 g1) (hblk j _ _ e2 k1) g2 k2 heq' rfl).2
      cases this
    · intro p hp'
      obtain ⟨id, hid, rfl⟩ := List.mem_map.1 hp'
      obtain ⟨j, hj, rfl⟩ := List.getElem_of_mem hid
      obtain ⟨p, gs, _, g2, g3, _⟩ := hpl j hj
      have e3 : E.getD j 0 = E[j] := by simp [List.getD, hj]
      rw [e3] at g2
      simp [pl, g2, g3]
    · intro j p gs hj hg'
      rw [List.getElem?_map, Option.map_eq_some_iff] at hg'
      obtain ⟨gs0, hgs0, rfl⟩ := hg'
      have hjl : j < E.length := by rw [← hlen]; exact (List.getElem?_eq_some_iff.1 hgs0).1
      rw [hns j hjl] at hj
      cases hj
      obtain ⟨p, gs1, g1, g2, _, vs, T, hh⟩ := hpl j hjl
      rw [hgs0] at g1; cases g1
      have hpe : pl (E.getD j 0) = p := by simp only [pl, g2, Option.getD_some]
      rw [hpe]
      obtain ⟨a1, a2, a3, a4⟩ := hh
      refine ⟨vs, T, a1, a2, by rw [ren_size]; exact a3, ?_⟩
      rw [ren_size]
      exact (ren_segs hren (List.all_eq_true.1 s7 _ (List.mem_of_getElem? hgs0))).1 a4
  · cases he
end
end Go.Mo


namespace Go.Mo
open Go Go.RowKit

abbrev Spec := List V → Nat → Rd (V × List (List Seg))

noncomputable def envOf : List (Nat × Spec) → Env
  | [], _, _, _ => .fail
  | (g, e) :: r, f, args, fresh => bif Nat.beq g f then e args fresh else envOf r f args fresh

def EntryOk (G : Gl) (P : Program) (f : Nat) (sp : Spec) : Prop :=
  ∀ args fresh m v news fp, (sp args fresh).run m = some ((v, news), fp) → Fits G P f args fresh m v news

inductive EnvL (G : Gl) (P : Program) : List (Nat × Spec) → Prop
  | nil : EnvL G P []
  | cons {f : Nat} {sp : Spec} {l : List (Nat × Spec)} (h : EntryOk G P f sp) (r : EnvL G P l) : EnvL G P ((f, sp) :: l)

theorem EnvL.append {G : Gl} {P : Program} : ∀ {l l' : List (Nat × Spec)}, EnvL G P l → EnvL G P l' → EnvL G P (l ++ l')
  | [], _, _, h => h
  | _ :: _, _, .cons h r, h' => .cons h (EnvL.append r h')

def noObl : Nat → List V → List (Bool × Bool) := fun _ _ => []
noncomputable def cxOf (P : Program) (l : List (Nat × Spec)) : Cx := { P := P, env := envOf l, obl := noObl }

theorem EnvL.fits {G : Gl} {P : Program} : ∀ {l : List (Nat × Spec)}, EnvL G P l → ∀ f args fresh m v news fp, (envOf l f args fresh).run m = some ((v, news), fp) → Fits G P f args fresh m v news
  | [], _ => by intro f args fresh m v news fp h; cases h
  | (g, e) :: r, .cons h hr => by
    intro f args fresh m v news fp hx
    simp only [envOf] at hx
    cases hq : Nat.beq g f <;> simp only [hq, cond_true, cond_false] at hx
    · exact hr.fits f args fresh m v news fp hx
    · have := Nat.eq_of_beq_eq_true hq
      subst this
      exact h args fresh m v news fp hx

theorem EnvL.good {G : Gl} {P : Program} {l : List (Nat × Spec)} (h : EnvL G P l) (hm : P.follows .mixedOrders = true) : Good G (cxOf P l) := ⟨⟨fun f r h => (by cases h), fun f args fresh m v news fp hx _ => h.fits f args fresh m v news fp hx⟩, hm⟩

/-! #### Contracts that take something for granted of their arguments -/

abbrev Ob := List V → List (Bool × Bool)

def EntryOkO (G : Gl) (P : Program) (f : Nat) (sp : Spec) (ob : Ob) : Prop :=
  ∀ args fresh m v news fp, (sp args fresh).run m = some ((v, news), fp) → ObsOk (ob args) → Fits G P f args fresh m v news

noncomputable def envC : List (Nat × Spec × Ob) → Env → Env
  | [], e => e
  | (g, s, _) :: r, e => fun f args fresh => bif Nat.beq g f then s args fresh else envC r e f args fresh

def oblC : List (Nat × Spec × Ob) → Nat → List V → List (Bool × Bool)
  | [], _, _ => []
  | (g, _, o) :: r, f, args => bif Nat.beq g f then o args else oblC r f args

noncomputable def cxC (P : Program) (lc : List (Nat × Spec × Ob)) (l : List (Nat × Spec)) : Cx := { P := P, env := envC lc (envOf l), obl := oblC lc }

inductive CondL (G : Gl) (P : Program) : List (Nat × Spec × Ob) → Prop
  | nil : CondL G P []
  | cons {f : Nat} {sp : Spec} {ob : Ob} {l : List (Nat × Spec × Ob)} (h : EntryOkO G P f sp ob) (r : CondL G P l) : CondL G P ((f, sp, ob) :: l)

theorem CondL.append {G : Gl} {P : Program} : ∀ {l l' : List (Nat × Spec × Ob)}, CondL G P l → CondL G P l' → CondL G P (l ++ l')
  | [], _, _, h => h
  | _ :: _, _, .cons h r, h' => .cons h (CondL.append r h')

theorem CondL.envOk {G : Gl} {P : Program} {l : List (Nat × Spec)} (hl : EnvL G P l) : ∀ {lc : List (Nat × Spec × Ob)}, CondL G P lc →
    ∀ f args fresh m v news fp, (envC lc (envOf l) f args fresh).run m = some ((v, news), fp) → ObsOk (oblC lc f args) → Fits G P f args fresh m v news
  | [], _ => fun f args fresh m v news fp hx _ => hl.fits f args fresh m v news fp hx
  | (g, s, o) :: r, .cons h hr => by
    intro f args fresh m v news fp hx ho
    simp only [envC] at hx
    simp only [oblC] at ho
    cases hq : Nat.beq g f <;> simp only [hq, cond_true, cond_false] at hx ho
    · exact CondL.envOk hl hr f args fresh m v news fp hx ho
    · have := Nat.eq_of_beq_eq_true hq
      subst this
      exact h args fresh m v news fp hx ho

theorem CondL.good {G : Gl} {P : Program} {l : List (Nat × Spec)} {lc : List (Nat × Spec × Ob)} (h : CondL G P lc) (hl : EnvL G P l) (hm : P.follows .mixedOrders = true) : Good G (cxC P lc l) :=
  ⟨⟨fun f r h => (by cases h), CondL.envOk hl h⟩, hm⟩

/-! #### Contracts that ask -/

def AskOk1 (G : Gl) (P : Program) (f : Nat) (st : Bool) (r : Asp) : Prop :=
  ∀ args fresh m b x y fp, (r args fresh).run m = some ((b, x, y), fp) → (st = true → b = true) → Fits G P f args fresh m (bif b then x.1 else y.1) (bif b then x.2 else y.2)

inductive AskL (G : Gl) (P : Program) : List (Nat × Bool × Asp) → Prop
  | nil : AskL G P []
  | cons {f : Nat} {st : Bool} {r : Asp} {l : List (Nat × Bool × Asp)} (h : AskOk1 G P f st r) (t : AskL G P l) : AskL G P ((f, st, r) :: l)

def askOf : List (Nat × Bool × Asp) → Nat → Option Asp
  | [], _ => none
  | (g, _, r) :: t, f => bif Nat.beq g f then some r else askOf t f

def strictOf : List (Nat × Bool × Asp) → Nat → Bool
  | [], _ => false
  | (g, s, _) :: t, f => bif Nat.beq g f then s else strictOf t f

theorem AskL.ok {G : Gl} {P : Program} : ∀ {l : List (Nat × Bool × Asp)}, AskL G P l → ∀ f r, askOf l f = some r → AskOk1 G P f (strictOf l f) r
  | [], _ => fun f r h => by cases h
  | (g, st, s) :: t, .cons h ht => by
    intro f r hx
    simp only [askOf] at hx
    simp only [strictOf]
    cases hq : Nat.beq g f <;> simp only [hq, cond_true, cond_false] at hx ⊢
    · exact ht.ok f r hx
    · have := Nat.eq_of_beq_eq_true hq
      subst this
      cases hx
      exact h

/-- A context with contracts that ask. -/
def cxA (K : Cx) (l : List (Nat × Bool × Asp)) : Cx := { P := K.P, env := K.env, obl := K.obl, ask := askOf l, strict := strictOf l }

theorem Good.asks {G : Gl} {K : Cx} {l : List (Nat × Bool × Asp)} (h : Good G K) (hl : AskL G K.P l) : Good G (cxA K l) :=
  ⟨⟨fun f r hr => hl.ok f r hr, h.env.2⟩, h.mixed⟩

/-- A contract on values alone. -/
def pureSp (f : List V → Option V) : Spec := fun args _ =>
  match f args with
  | some v => .pure (v, [])
  | none => .fail

section
variable {G : Gl} {K : Cx} {P : Program}

theorem Fits.intro {f : Nat} {args : List V} {fresh : Nat} {m : Nat → Option Blk} {v : V} {news : List (List Seg)} (he : enters P f)
    (h : ∀ π vargs, argsCv π args vargs → Fits G P f args fresh m v news) : Fits G P f args fresh m v news :=
  ⟨he, fun π w vargs hm hl hg ha hf => (h π vargs ha).2 π w vargs hm hl hg ha hf⟩

theorem entry_pure {f : Nat} {sp : List V → Option V} (he : enters P f) (h : ∀ args v, sp args = some v → ∀ π vargs, argsCv π args vargs → ∀ fresh m, Fits G P f args fresh m v []) :
    EntryOk G P f (pureSp sp) := by
  intro args fresh m v news fp hx
  unfold pureSp at hx
  split at hx
  · rename_i v' hv
    cases hx
    exact Fits.intro he fun π vargs ha => h args v hv π vargs ha fresh m
  · cases hx

theorem enters_of {f : Nat} {fn : Func} (hf : P.funcs[f]? = some fn) (h : (fn.body.isSome && !(fn.name == "runtime.NumGoroutine")) = true) : enters P f := by
  simp only [Bool.and_eq_true, Bool.not_eq_true'] at h
  exact ⟨fn, hf, h.1, h.2⟩

/-- The contract of a call without memory, by the evaluation. -/
theorem fitsP (hG : Good G K) {f : Nat} {fn : Func} (fuel : Nat) (cargs : List V) (orc : List (Option Bool)) {v : V} {obs : List (Bool × Bool)}
    (hf : K.P.funcs[f]? = some fn) (he : evalE K fuel fn cargs [] orc [] = some (v, obs, [])) (hobs : ObsOk obs) (hs : sideOk fn cargs [] v [] [] = true)
    (ha : renArgs (fun i => i) cargs = cargs) (hv : v.ren (renE (fun i => i) 0 [] 0) = v) (fresh : Nat) (m : Nat → Option Blk) : Fits G K.P f cargs fresh m v [] := by
  have := fitsE hG fuel cargs [] orc (v := v) (obs := obs) [] (gsl := []) hf he hobs hs (fun i => i) (m := m) (fun i gs h => by simp at h) 0
  rw [ha] at this
  have h2 : v.ren (renE (fun i => i) ([] : List (List Seg)).length [] 0) = v := hv
  rw [h2] at this
  refine ⟨this.1, fun π w vargs h1 h2 h3 h4 h5 => ?_⟩
  refine (this.2 π w vargs h1 h2 h3 h4 (fun j hj => by simp at hj)).mono ?_
  rintro e w' ⟨rv, ns, rfl, hp⟩
  have hns : ns = [] := List.length_eq_zero_iff.1 (by rw [hp.len]; rfl)
  subst hns
  exact ⟨rv, [], rfl, ⟨rfl, hp.nodup, hp.new, hp.below, hp.cv, fun j p gs hj => by simp at hj⟩⟩
end

/-! ### Lengths out of what arguments stand for -/

theorem args_tail {π : Loc} {a : V} {r : List V} {vs : List Value} (h : argsCv π (a :: r) vs) : ∃ vr, argsCv π r vr := let ⟨_, vr, _, _, k⟩ := h; ⟨vr, k⟩
theorem args_b8 {π : Loc} {n : Nat} {x : List (BitVec 8)} {gs : List Seg} {r : List V} {vs : List Value} (h : argsCv π (.a (.b8 n x :: gs) :: r) vs) : x.length = n :=
  let ⟨_, _, _, ⟨_, _, _, _, _, hx, _⟩, _⟩ := h; hx.1
theorem args_b8' {π : Loc} {n k : Nat} {x y : List (BitVec 8)} {gs : List Seg} {r : List V} {vs : List Value} (h : argsCv π (.a (.b8 n x :: .b8 k y :: gs) :: r) vs) : y.length = k :=
  let ⟨_, _, _, ⟨_, _, _, _, _, _, ⟨_, _, _, hy, _⟩⟩, _⟩ := h; hy.1
theorem args_b32 {π : Loc} {n : Nat} {x : List (BitVec 32)} {gs : List Seg} {r : List V} {vs : List Value} (h : argsCv π (.a (.b32 n x :: gs) :: r) vs) : x.length = n :=
  let ⟨_, _, _, ⟨_, _, _, _, _, hx, _⟩, _⟩ := h; hx.1

end Go.Mo



namespace Go.Mo
open Go Go.RowKit

def rd1 (b : Nat) (k : List Seg → Option (V × List (List Seg))) : Rd (V × List (List Seg)) :=
  .read b fun blk => match k blk.gs with | some r => .pure r | none => .fail
def rd2 (b c : Nat) (k : List Seg → List Seg → Option (V × List (List Seg))) : Rd (V × List (List Seg)) :=
  .read b fun blk => .read c fun blk' => match k blk.gs blk'.gs with | some r => .pure r | none => .fail
def rd3 (b c d : Nat) (k : List Seg → List Seg → List Seg → Option (V × List (List Seg))) : Rd (V × List (List Seg)) :=
  .read b fun x => .read c fun y => .read d fun z => match k x.gs y.gs z.gs with | some r => .pure r | none => .fail

section
variable {G : Gl} {K : Cx} {P : Program} {m : Nat → Option Blk} {b c d : Nat} {v : V} {news : List (List Seg)} {fp : List Nat}

theorem rd1_run {k : List Seg → Option (V × List (List Seg))} (h : (rd1 b k).run m = some ((v, news), fp)) : ∃ x, m b = some x ∧ k x.gs = some (v, news) := by
  obtain ⟨x, fp', h1, h2, _⟩ := read_run h
  refine ⟨x, h1, ?_⟩
  split at h2
  · rename_i r hr
    cases h2; exact hr
  · exact (fail_run h2).elim

theorem rd2_run {k : List Seg → List Seg → Option (V × List (List Seg))} (h : (rd2 b c k).run m = some ((v, news), fp)) :
    ∃ x y, m b = some x ∧ m c = some y ∧ k x.gs y.gs = some (v, news) := by
  obtain ⟨x, fp', h1, h2, _⟩ := read_run h
  obtain ⟨y, fp'', h3, h4, _⟩ := read_run h2
  refine ⟨x, y, h1, h3, ?_⟩
  split at h4
  · rename_i r hr
    cases h4; exact hr
  · exact (fail_run h4).elim

theorem rd3_run {k : List Seg → List Seg → List Seg → Option (V × List (List Seg))} (h : (rd3 b c d k).run m = some ((v, news), fp)) :
    ∃ x y z, m b = some x ∧ m c = some y ∧ m d = some z ∧ k x.gs y.gs z.gs = some (v, news) := by
  obtain ⟨x, fp', h1, h2, _⟩ := read_run h
  obtain ⟨y, fp'', h3, h4, _⟩ := read_run h2
  obtain ⟨z, fp3, h5, h6, _⟩ := read_run h4
  refine ⟨x, y, z, h1, h3, h5, ?_⟩
  split at h6
  · rename_i r hr
    cases h6; exact hr
  · exact (fail_run h6).elim

def at1 (b : Nat) : Nat → Nat := fun _ => b
def at2 (b c : Nat) : Nat → Nat := fun i => bif Nat.beq i 0 then b else c
def at3 (b c d : Nat) : Nat → Nat := fun i => bif Nat.beq i 0 then b else bif Nat.beq i 1 then c else d

theorem sees0 {σ : Nat → Nat} : Sees σ m [] := fun i gs h => by simp at h
theorem sees1 {σ : Nat → Nat} {gs : List Seg} {x : Blk} (h : m (σ 0) = some x) (hg : x.gs = renSegs σ gs) : Sees σ m [gs] := by
  intro i gs' hi
  match i, hi with
  | 0, hi => simp at hi; subst hi; exact ⟨x, h, hg⟩
  | i + 1, hi => simp at hi
theorem sees2 {σ : Nat → Nat} {gs hs : List Seg} {x y : Blk} (h : m (σ 0) = some x) (hg : x.gs = renSegs σ gs) (h' : m (σ 1) = some y) (hg' : y.gs = renSegs σ hs) : Sees σ m [gs, hs] := by
  intro i gs' hi
  match i, hi with
  | 0, hi => simp at hi; subst hi; exact ⟨x, h, hg⟩
  | 1, hi => simp at hi; subst hi; exact ⟨y, h', hg'⟩
  | i + 2, hi => simp at hi
theorem sees3 {σ : Nat → Nat} {gs hs is : List Seg} {x y z : Blk} (h : m (σ 0) = some x) (hg : x.gs = renSegs σ gs) (h' : m (σ 1) = some y) (hg' : y.gs = renSegs σ hs)
    (h'' : m (σ 2) = some z) (hg'' : z.gs = renSegs σ is) : Sees σ m [gs, hs, is] := by
  intro i gs' hi
  match i, hi with
  | 0, hi => simp at hi; subst hi; exact ⟨x, h, hg⟩
  | 1, hi => simp at hi; subst hi; exact ⟨y, h', hg'⟩
  | 2, hi => simp at hi; subst hi; exact ⟨z, h'', hg''⟩
  | i + 3, hi => simp at hi

/-- The contract of a call, by the evaluation; names put in. -/
theorem fitsM (hG : Good G K) {f : Nat} {fn : Func} (fuel : Nat) (cargs : List V) (cmem : List (List Seg)) (orc : List (Option Bool)) {v : V} {obs : List (Bool × Bool)} (E : List Nat) {gsl : List (List Seg)}
    (hf : K.P.funcs[f]? = some fn) (he : evalE K fuel fn cargs cmem orc E = some (v, obs, newBlks gsl)) (hobs : ObsOk obs) (hs : sideOk fn cargs cmem v E gsl = true)
    (σ : Nat → Nat) {m : Nat → Option Blk} (hσ : Sees σ m cmem) (fresh : Nat) {args : List V} {v' : V} {news : List (List Seg)}
    (ha : renArgs σ cargs = args) (hv : v.ren (renE σ cmem.length E fresh) = v') (hn : gsl.map (renSegs (renE σ cmem.length E fresh)) = news) :
    Fits G K.P f args fresh m v' news := by
  subst ha; subst hv; subst hn
  exact fitsE hG fuel cargs cmem orc E hf he hobs hs σ hσ fresh
end
end Go.Mo


namespace Go.Mo
open Go Go.RowKit
section
variable {K : Cx} {fuel : Nat} {a b : Code} {s s' : St}

theorem acode_seq_normal (h : acode K fuel a s = some (.normal, s')) : acode K fuel (.seq a b) s = acode K fuel b s' := by simp only [acode, h]
theorem acode_seq_ret (h : acode K fuel a s = some (.ret, s')) : acode K fuel (.seq a b) s = some (.ret, s') := by simp only [acode, h]
theorem acode_block_ret {n : Nat} (h : acode K fuel a s = some (.ret, s')) : acode K fuel (.block n a) s = some (.ret, s') := by simp only [acode, h]
theorem acode_block_exit {n : Nat} (h : acode K fuel a s = some (.exit n, s')) : acode K fuel (.block n a) s = some (.normal, s') := by
  simp only [acode, h, Nat.beq_refl, cond_true]
theorem acode_loop_eq : acode K fuel (.loop a) s = aloop (acode K fuel a) fuel s := rfl
theorem aloop_normal {body : St → Option (Ex × St)} {n : Nat} (h : body s = some (.normal, s')) : aloop body (n + 1) s = aloop body n s' := by simp only [aloop, h]
theorem aloop_ret {body : St → Option (Ex × St)} {n : Nat} (h : body s = some (.ret, s')) : aloop body (n + 1) s = some (.ret, s') := by simp only [aloop, h]
theorem aloop_exit {body : St → Option (Ex × St)} {n id : Nat} (h : body s = some (.exit id, s')) : aloop body (n + 1) s = some (.exit id, s') := by simp only [aloop, h]

/-- What is left of a run that ended: its results and what was taken for granted. -/
noncomputable def retOf (K : Cx) (fn : Func) : Option (Ex × St) → Option (V × List (Bool × Bool))
  | some (.ret, s) => match aresults K s fn.results.toList with | some v => some (v, s.obs) | none => none
  | _ => none

theorem retOf_some {fn : Func} {x : Option (Ex × St)} {v : V} {obs : List (Bool × Bool)} (h : retOf K fn x = some (v, obs)) :
    ∃ s, x = some (.ret, s) ∧ aresults K s fn.results.toList = some v ∧ s.obs = obs := by
  unfold retOf at h
  split at h
  · rename_i s
    split at h
    · rename_i v' hv
      cases h
      exact ⟨s, rfl, hv, rfl⟩
    · cases h
  · cases h

theorem evalE_ret {fn : Func} {cargs : List V} {cmem : List (List Seg)} {orc : List (Option Bool)} {c : Code} {v : V} (hb : fn.body = some c)
    (h : acode K fuel c { fr := (Fr.full 12 fn.ntmps).ofArgs 0 cargs, n := fn.ntmps, mem := given cmem, orc, obs := [] } = some (.ret, s')) (hv : aresults K s' fn.results.toList = some v) :
    evalE K fuel fn cargs cmem orc [] = some (v, s'.obs, []) := by
  simp only [evalE, afunc, hb, h, hv, List.map_nil]
end
end Go.Mo


namespace Go.Mo
open Go Go.RowKit
noncomputable section

/-- Code of the form 'a; (b; block { loop l }); t'. -/
def lpA (f : Func) : Code := match f.body with | some (.seq a (.seq (.seq _ (.block _ (.loop _))) _)) => a | _ => .skip
def lpB (f : Func) : Code := match f.body with | some (.seq _ (.seq (.seq b (.block _ (.loop _))) _)) => b | _ => .skip
def lpL (f : Func) : Code := match f.body with | some (.seq _ (.seq (.seq _ (.block _ (.loop l))) _)) => l | _ => .skip
def lpT (f : Func) : Code := match f.body with | some (.seq _ (.seq (.seq _ (.block _ (.loop _))) t)) => t | _ => .skip

def runK (body : St → Option (Ex × St)) : Nat → St → Option St
  | 0, s => some s
  | n + 1, s => match body s with | some (.normal, s') => runK body n s' | _ => none

theorem aloop_runK {body : St → Option (Ex × St)} : ∀ (k n : Nat) {s s' : St}, runK body k s = some s' → aloop body (k + n) s = aloop body n s'
  | 0, n, s, s', h => by cases h; rw [Nat.zero_add]
  | k + 1, n, s, s', h => by
    simp only [runK] at h
    split at h
    · rename_i s1 h1
      rw [show k + 1 + n = (k + n) + 1 by omega, aloop_normal h1]
      exact aloop_runK k n h
    · cases h

theorem aloop_chunks {body : St → Option (Ex × St)} (S : Nat → St) (k n : Nat) : ∀ (J : Nat), (∀ j, j < J → runK body k (S j) = some (S (j + 1))) → aloop body (J * k + n) (S 0) = aloop body n (S J)
  | 0, _ => by rw [Nat.zero_mul, Nat.zero_add]
  | J + 1, h => by
    rw [show (J + 1) * k + n = J * k + (k + n) by rw [Nat.succ_mul]; omega, aloop_chunks S k (k + n) J fun j hj => h j (by omega)]
    exact aloop_runK k n (h J (by omega))

/-- The slots after one pass. -/
def frAfter (K : Cx) (fuel : Nat) (l : Code) (s : St) : Fr := match acode K fuel l s with | some (_, s') => s'.fr | none => .nil

def stOf (x : Option (Ex × St)) : St := match x with | some (_, s) => s | none => ⟨.nil, 0, [], [], []⟩

/-- What is left of a run that ended: its results, what was taken for granted, the blocks E. -/
def endOf (K : Cx) (fn : Func) (E : List Nat) : Option (Ex × St) → Option (V × List (Bool × Bool) × List (Option Blk))
  | some (.ret, s) => match aresults K s fn.results.toList with | some v => some (v, s.obs, E.map (memL s.mem)) | none => none
  | some (.normal, s) => match aresults K s fn.results.toList with | some v => some (v, s.obs, E.map (memL s.mem)) | none => none
  | _ => none

theorem evalE_end {K : Cx} {fuel : Nat} {fn : Func} {cargs : List V} {cmem : List (List Seg)} {orc : List (Option Bool)} {E : List Nat} {c : Code} (hb : fn.body = some c) :
    evalE K fuel fn cargs cmem orc E = endOf K fn E (acode K fuel c { fr := (Fr.full 12 fn.ntmps).ofArgs 0 cargs, n := fn.ntmps, mem := given cmem, orc, obs := [] }) := by
  simp only [evalE, afunc, hb]
  split
  · rename_i v s h
    split at h
    · rename_i s' hq
      split at h
      · rename_i v' hv
        cases h
        simp only [hq, endOf, hv]
      · cases h
    · rename_i s' hq
      split at h
      · rename_i v' hv
        cases h
        simp only [hq, endOf, hv]
      · cases h
    · cases h
  · rename_i h
    split at h
    · rename_i s' hq
      split at h
      · cases h
      · rename_i hv
        simp only [hq, endOf, hv]
    · rename_i s' hq
      split at h
      · cases h
      · rename_i hv
        simp only [hq, endOf, hv]
    · rename_i hq1 hq2
      unfold endOf
      split
      · rename_i s' hq; exact absurd hq (hq2 _)
      · rename_i s' hq; exact absurd hq (hq1 _)
      · rfl

/-- A function whose loop is cut into J runs of k passes. -/
theorem evalE_loop {K : Cx} {fuel : Nat} {fn : Func} {cargs : List V} {cmem : List (List Seg)} {orc : List (Option Bool)} {E : List Nat} {id : Nat} {sA : St} {S : Nat → St} {k n J : Nat} {sE : St} {x : Ex × St}
    {r : V × List (Bool × Bool) × List (Option Blk)}
    (hb : fn.body = some (.seq (lpA fn) (.seq (.seq (lpB fn) (.block id (.loop (lpL fn)))) (lpT fn))))
    (h1 : acode K fuel (lpA fn) { fr := (Fr.full 12 fn.ntmps).ofArgs 0 cargs, n := fn.ntmps, mem := given cmem, orc, obs := [] } = some (.normal, sA))
    (h2 : acode K fuel (lpB fn) sA = some (.normal, S 0)) (hS : ∀ j, j < J → runK (acode K fuel (lpL fn)) k (S j) = some (S (j + 1))) (hf : fuel = J * k + (n + 1))
    (h3 : acode K fuel (lpL fn) (S J) = some (.exit id, sE)) (h4 : acode K fuel (lpT fn) sE = some x) (h5 : endOf K fn E (some x) = some r) :
    evalE K fuel fn cargs cmem orc E = some r := by
  rw [evalE_end hb, acode_seq_normal h1]
  have hl : acode K fuel (.loop (lpL fn)) (S 0) = some (.exit id, sE) := by
    rw [acode_loop_eq]
    have := aloop_chunks (body := acode K fuel (lpL fn)) S k (n + 1) J hS
    rw [← hf] at this
    rw [this, aloop_exit h3]
  have hm : acode K fuel (.seq (lpB fn) (.block id (.loop (lpL fn)))) sA = some (.normal, sE) := by
    rw [acode_seq_normal h2]
    exact acode_block_exit hl
  rw [acode_seq_normal hm, h4]
  exact h5
end
end Go.Mo


namespace Go.Mo
open Go Go.RowKit
noncomputable section

def bodyOf (fn : Func) : Code := match fn.body with | some c => c | none => .skip

/-- What is left of a sequence behind its first n parts. -/
def tl : Nat → Code → Code
  | 0, c => c
  | n + 1, .seq _ b => tl n b
  | _ + 1, c => c

def runHeads (K : Cx) (fuel : Nat) : Nat → Code → St → Option St
  | 0, _, s => some s
  | n + 1, .seq a b, s => match acode K fuel a s with | some (.normal, s') => runHeads K fuel n b s' | _ => none
  | _ + 1, _, _ => none

theorem acode_heads {K : Cx} {fuel : Nat} : ∀ (n : Nat) {c : Code} {s s' : St}, runHeads K fuel n c s = some s' → acode K fuel c s = acode K fuel (tl n c) s'
  | 0, c, s, s', h => by cases h; rfl
  | n + 1, c, s, s', h => by
    cases c <;> simp only [runHeads] at h <;> try (cases h; done)
    split at h
    · rename_i s1 h1
      rw [acode_seq_normal h1]
      exact acode_heads n h
    · cases h

def cB (c : Code) : Code := match c with | .seq (.seq b (.block _ (.loop _))) _ => b | _ => .skip
def cL (c : Code) : Code := match c with | .seq (.seq _ (.block _ (.loop l))) _ => l | _ => .skip
def cT (c : Code) : Code := match c with | .seq (.seq _ (.block _ (.loop _))) t => t | _ => .skip

/-- A loop at the head of a sequence, its J runs of k passes done. -/
theorem acode_cut {K : Cx} {fuel : Nat} {c b l t : Code} {id : Nat} {s sE : St} {S : Nat → St} {k n J : Nat} (hc : c = .seq (.seq b (.block id (.loop l))) t)
    (h2 : acode K fuel b s = some (.normal, S 0)) (hS : ∀ j, j < J → runK (acode K fuel l) k (S j) = some (S (j + 1))) (hf : fuel = J * k + (n + 1))
    (h3 : acode K fuel l (S J) = some (.exit id, sE)) : acode K fuel c s = acode K fuel t sE := by
  subst hc
  have hl : acode K fuel (.loop l) (S 0) = some (.exit id, sE) := by
    rw [acode_loop_eq]
    have := aloop_chunks (body := acode K fuel l) S k (n + 1) J hS
    rw [← hf] at this
    rw [this, aloop_exit h3]
  have hm : acode K fuel (.seq b (.block id (.loop l))) s = some (.normal, sE) := by
    rw [acode_seq_normal h2]
    exact acode_block_exit hl
  rw [acode_seq_normal hm]

def init (fn : Func) (cargs : List V) (cmem : List (List Seg)) (orc : List (Option Bool)) : St :=
  { fr := (Fr.full 12 fn.ntmps).ofArgs 0 cargs, n := fn.ntmps, mem := given cmem, orc, obs := [] }

/-- A function whose p parts are followed by a loop that is cut. -/
theorem evalE_cut {K : Cx} {fuel : Nat} {fn : Func} {cargs : List V} {cmem : List (List Seg)} {orc : List (Option Bool)} {E : List Nat} (p : Nat) {id : Nat} {b l t : Code} {sA : St} {S : Nat → St} {k n J : Nat} {sE : St}
    {x : Ex × St} {r : V × List (Bool × Bool) × List (Option Blk)}
    (hb : fn.body = some (bodyOf fn)) (hc : tl p (bodyOf fn) = .seq (.seq b (.block id (.loop l))) t)
    (h1 : runHeads K fuel p (bodyOf fn) (init fn cargs cmem orc) = some sA)
    (h2 : acode K fuel b sA = some (.normal, S 0)) (hS : ∀ j, j < J → runK (acode K fuel l) k (S j) = some (S (j + 1))) (hf : fuel = J * k + (n + 1))
    (h3 : acode K fuel l (S J) = some (.exit id, sE)) (h4 : acode K fuel t sE = some x) (h5 : endOf K fn E (some x) = some r) :
    evalE K fuel fn cargs cmem orc E = some r := by
  rw [evalE_end hb]
  show endOf K fn E (acode K fuel (bodyOf fn) (init fn cargs cmem orc)) = some r
  rw [acode_heads p h1, acode_cut hc h2 hS hf h3, h4]
  exact h5

def stO (x : Option St) : St := match x with | some s => s | none => ⟨.nil, 0, [], [], []⟩
def exO (x : Option (Ex × St)) : Ex × St := match x with | some x => x | none => (.ret, ⟨.nil, 0, [], [], []⟩)

/-! ### A contract out of two -/

def altSp (c : List V → Bool) (a b : Spec) : Spec := fun args fresh => bif c args then a args fresh else b args fresh

theorem EntryOk.alt {G : Gl} {P : Program} {f : Nat} {a b : Spec} (c : List V → Bool) (ha : EntryOk G P f a) (hb : EntryOk G P f b) : EntryOk G P f (altSp c a b) := by
  intro args fresh m v news fp h
  unfold altSp at h
  cases hc : c args <;> simp only [hc, cond_true, cond_false] at h
  · exact hb args fresh m v news fp h
  · exact ha args fresh m v news fp h

def firstNil : List V → Bool
  | .s .nil :: _ => true
  | _ => false
end
end Go.Mo


namespace Go.Mo
open Go Go.RowKit
noncomputable section

/-- A cipher's cells, a table's cells. -/
abbrev ciphC (kf kb : List (BitVec 32)) (k : List (BitVec 8)) (T : List (BitVec 32)) : List Seg := [.s (.bool true), .b32 44 kf, .b32 44 kb, .b8 16 k, .b32 512 T]
abbrev tabC (c : Sc) (st dl bl : List (BitVec 8)) : List Seg := [.s c, .b8 16 st, .b8 16 dl, .b8 1024 bl]

structure TP where
  st : List (BitVec 8)
  dl : List (BitVec 8)
  bl : List (BitVec 8)
  kf : List (BitVec 32)
  kb : List (BitVec 32)
  k : List (BitVec 8)
  T : List (BitVec 32)

def rdT (t : Nat) (f : Nat → TP → Option (V × List (List Seg))) : Rd (V × List (List Seg)) :=
  .read t fun x =>
    match x.gs with
    | [.s (.ptr c 0), .b8 16 st, .b8 16 dl, .b8 1024 bl] =>
      .read c fun y =>
        match y.gs with
        | [.s (.bool true), .b32 44 kf, .b32 44 kb, .b8 16 k, .b32 512 T] =>
          (match f c ⟨st, dl, bl, kf, kb, k, T⟩ with | some r => .pure r | none => .fail)
        | _ => .fail
    | _ => .fail

theorem rdT_run {m : Nat → Option Blk} {t : Nat} {f : Nat → TP → Option (V × List (List Seg))} {v : V} {news : List (List Seg)} {fp : List Nat} (h : (rdT t f).run m = some ((v, news), fp)) :
    ∃ c p x y, m t = some x ∧ x.gs = tabC (.ptr c 0) p.st p.dl p.bl ∧ m c = some y ∧ y.gs = ciphC p.kf p.kb p.k p.T ∧ f c p = some (v, news) := by
  obtain ⟨x, fp', h1, h2, _⟩ := read_run h
  split at h2
  · rename_i c st dl bl hx
    obtain ⟨y, fp2, h3, h4, _⟩ := read_run h2
    split at h4
    · rename_i kf kb k T hy
      split at h4
      · rename_i r hr
        cases h4
        exact ⟨c, ⟨st, dl, bl, kf, kb, k, T⟩, x, y, h1, hx, h3, hy, hr⟩
      · exact (fail_run h4).elim
    · exact (fail_run h4).elim
  · exact (fail_run h2).elim

theorem seesT {m : Nat → Option Blk} {t c : Nat} {p : TP} {x y : Blk} (h : m t = some x) (hg : x.gs = tabC (.ptr c 0) p.st p.dl p.bl) (h' : m c = some y) (hg' : y.gs = ciphC p.kf p.kb p.k p.T) :
    Sees (at2 t c) m [tabC (.ptr 1 0) p.st p.dl p.bl, ciphC p.kf p.kb p.k p.T] :=
  sees2 (σ := at2 t c) (x := x) (y := y) h hg h' hg'

/-- A number, known or not. -/
def ixI : Sc → Option Int
  | .i .i64 n => some n
  | .si n => some n
  | _ => none

theorem ixI_cv {π : Loc} {x : Sc} {n : Int} (h : ixI x = some n) {v : Value} (hv : x.cv π v) : (Sc.si n).cv π v := by
  unfold ixI at h
  split at h
  · cases h; exact hv
  · cases h; exact hv
  · cases h

/-- A contract out of two: of a table without a cipher, of another one. -/
def orU (a b : Spec) : Spec := fun args fresh =>
  match args with
  | .s (.ptr t 0) :: _ => .read t fun x => (match x.gs with | .s .nil :: _ => a args fresh | _ => b args fresh)
  | _ => .fail

theorem EntryOk.orU {G : Gl} {P : Program} {f : Nat} {a b : Spec} (ha : EntryOk G P f a) (hb : EntryOk G P f b) : EntryOk G P f (orU a b) := by
  intro args fresh m v news fp h
  unfold Mo.orU at h
  split at h
  · obtain ⟨x, fp', h1, h2, _⟩ := read_run h
    split at h2
    · exact ha _ fresh m v news _ h2
    · exact hb _ fresh m v news _ h2
  · cases h

/-- Arguments that stand for the same. -/
theorem Fits.args {G : Gl} {P : Program} {f : Nat} {args args' : List V} {fresh : Nat} {m : Nat → Option Blk} {v : V} {news : List (List Seg)}
    (h : Fits G P f args' fresh m v news) (ha : ∀ π vargs, argsCv π args vargs → argsCv π args' vargs) : Fits G P f args fresh m v news :=
  ⟨h.1, fun π w vargs h1 h2 h3 h4 h5 => h.2 π w vargs h1 h2 h3 (ha π vargs h4) h5⟩

theorem argsCv_last {π : Loc} {x y : Sc} (h : ∀ v, x.cv π v → y.cv π v) : ∀ {l : List V} {vargs : List Value}, argsCv π (l ++ [.s x]) vargs → argsCv π (l ++ [.s y]) vargs
  | [], _, ⟨v, vr, e, h1, h2⟩ => ⟨v, vr, e, h v h1, h2⟩
  | _ :: _, _, ⟨v, vr, e, h1, h2⟩ => ⟨v, vr, e, h1, argsCv_last h h2⟩
end
end Go.Mo


namespace Go.Mo
open Go Go.RowKit
noncomputable section

theorem acode_cutB {K : Cx} {fuel : Nat} {c l t : Code} {id : Nat} {sE : St} {S : Nat → St} {k n J : Nat} (hc : c = .seq (.block id (.loop l)) t)
    (hS : ∀ j, j < J → runK (acode K fuel l) k (S j) = some (S (j + 1))) (hf : fuel = J * k + (n + 1))
    (h3 : acode K fuel l (S J) = some (.exit id, sE)) : acode K fuel c (S 0) = acode K fuel t sE := by
  subst hc
  have hl : acode K fuel (.loop l) (S 0) = some (.exit id, sE) := by
    rw [acode_loop_eq]
    have := aloop_chunks (body := acode K fuel l) S k (n + 1) J hS
    rw [← hf] at this
    rw [this, aloop_exit h3]
  rw [acode_seq_normal (acode_block_exit hl)]

def frK (K : Cx) (fuel : Nat) (l : Code) (k : Nat) (s : St) : Fr := match runK (acode K fuel l) k s with | some s' => s'.fr | none => .nil

/-- A value that stands for the same. -/
theorem Fits.val {G : Gl} {P : Program} {f : Nat} {args : List V} {fresh : Nat} {m : Nat → Option Blk} {v v' : V} {news : List (List Seg)}
    (h : Fits G P f args fresh m v news) (hv : ∀ π rv, v.cv π rv → v'.cv π rv) : Fits G P f args fresh m v' news :=
  ⟨h.1, fun π w vargs h1 h2 h3 h4 h5 => (h.2 π w vargs h1 h2 h3 h4 h5).mono (by
    rintro e w' ⟨rv, ns, e1, p⟩
    exact ⟨rv, ns, e1, ⟨p.len, p.nodup, p.new, p.below, hv _ _ p.cv, p.blk⟩⟩)⟩

/-- A segment that names no block. -/
def Seg.flat : Seg → Bool
  | .s _ => false
  | _ => true

theorem flat_cv {π π' : Loc} : ∀ {gs : List Seg} {vs : List Value}, gs.all Seg.flat = true → segsCv π gs vs → segsCv π' gs vs
  | [], _, _, h => h
  | g :: gs, _, hf, ⟨a, b, e, h1, h2⟩ => by
    simp only [List.all_cons, Bool.and_eq_true] at hf
    refine ⟨a, b, e, ?_, flat_cv hf.2 h2⟩
    cases g with
    | s x => cases hf.1
    | _ => exact h1

/-- A call with a part of a slice: as one with a slice of its own. -/
theorem Fits.part {G : Gl} {P : Program} {f : Nat} {b o len sz fresh : Nat} {m : Nat → Option Blk} {blk : Blk} {gs rs : List Seg}
    (h : Fits G P f [.s (.osl 0 0 len sz)] 1 (fun i => if i = 0 then some ⟨gs, false⟩ else none) (.a rs) []) (hm : m b = some blk)
    (hg : getSegs blk.gs o (len * sz) = some gs) (hlen : len * sz ≠ 0) (hfl : gs.all Seg.flat = true) (hrs : rs.all Seg.flat = true) :
    Fits G P f [.s (.osl b o len sz)] fresh m (.a rs) [] := by
  refine ⟨h.1, fun π w vargs h1 h2 h3 h4 h5 => ?_⟩
  obtain ⟨v1, vr, rfl, ha, hr⟩ := h4
  have hr : vr = [] := hr
  subst hr
  obtain ⟨p, c, hp, hz, hlc, rfl⟩ := ha
  obtain ⟨p', vs, T, fz, e1, e2⟩ := h1 b blk hm
  rw [hp] at e1; cases e1
  obtain ⟨g1, g2⟩ := getSegs_cv e2.2.2.2 hg
  have hcl : (cut p (segsSize blk.gs) vs).length = segsSize blk.gs := cut_length (by have := e2.2.1; have := e2.2.2.1; omega)
  rw [hcl] at g1
  have g1' : o + len * sz ≤ segsSize blk.gs := by rcases g1 with q | q; exact absurd q hlen; exact q
  have hsz : segsSize gs = len * sz := by
    have := segsCv_length g2
    rw [List.length_take, List.length_drop, hcl] at this
    omega
  have hq : (List.drop o (cut p (segsSize blk.gs) vs)).take (len * sz) = cut ⟨p.n, p.base + o, p.z⟩ (len * sz) vs := by
    rw [cut_drop, cut_less (by omega)]
  rw [hq] at g2
  have hcall := h.2 (fun i => if i = 0 then some ⟨p.n, p.base + o, p.z⟩ else none) w [.slice (some ⟨p.n, p.base + o, none⟩) len c] (by
    intro i b' hi
    dsimp only at hi
    split at hi
    · rename_i hi0
      subst hi0
      cases hi
      refine ⟨⟨p.n, p.base + o, p.z⟩, vs, T, fz, by simp, e2.1, e2.2.1, ?_, ?_⟩
      · show p.base + o + segsSize gs ≤ p.z
        have := e2.2.2.1; omega
      · show segsCv _ gs (cut _ (segsSize gs) vs)
        rw [hsz]; exact flat_cv hfl g2
    · cases hi) h2 h3 ⟨_, [], rfl, ⟨⟨p.n, p.base + o, p.z⟩, c, by simp, by show p.base + o + 0 + c * szOf sz ≤ p.z; omega, hlc, rfl⟩, rfl⟩ (by simp)
  refine hcall.mono ?_
  rintro e w' ⟨rv, ns, e1, q⟩
  have hns : ns = [] := List.length_eq_zero_iff.1 q.len
  subst hns
  refine ⟨rv, [], e1, ⟨rfl, q.nodup, q.new, q.below, ?_, by simp⟩⟩
  obtain ⟨us, e3, e4⟩ := q.cv
  exact ⟨us, e3, flat_cv hrs e4⟩
end
end Go.Mo



namespace Go.Mo
open Go Go.RowKit
noncomputable section

/-! ### Code over any evaluator of regions -/

abbrev Rg := Array Oper → Bool → St → Option St

def acodeG (rg : Rg) (fuel : Nat) : Code → St → Option (Ex × St)
  | .skip, s => some (.normal, s)
  | .label _, s => some (.normal, s)
  | .region _ ops draw, s =>
    match rg ops draw s with
    | some s' => some (.normal, s')
    | none => none
  | .seq a b, s =>
    match acodeG rg fuel a s with
    | some (.normal, s') => acodeG rg fuel b s'
    | r => r
  | .cond c a b, s =>
    match evL s.fr c with
    | .s (.bool true) => acodeG rg fuel a s
    | .s (.bool false) => acodeG rg fuel b s
    | _ => none
  | .block id a, s =>
    match acodeG rg fuel a s with
    | some (.exit id', s') => bif Nat.beq id' id then some (.normal, s') else some (.exit id', s')
    | r => r
  | .loop a, s => aloop (acodeG rg fuel a) fuel s
  | .scope a, s => acodeG rg fuel a s
  | .exit id, s => some (.exit id, s)
  | .ret, s => some (.ret, s)
  | _, _ => none

/-- What an evaluator of regions owes. -/
def RgOk (G : Gl) (K : Cx) (w0 : World) (rg : Rg) : Prop :=
  ∀ (id : Nat) (ops : Array Oper) (draw : Bool) (s s' : St), s.ok → rg ops draw s = some s' → s'.ok ∧ s'.n = s.n ∧ (ObsOk s'.obs → ObsOk s.obs ∧ ∀ (Q : Exit → Act → World → Prop) (π : Loc) (a : Act) (w : World), RelS G π s.fs s.n w0 a w →
    (∀ π' a' w', RelS G π' s'.fs s.n w0 a' w' → Q .normal a' w') → ∀ nf, (Code.region id ops draw).wpIn (fz G.ro) nf K.P Q a w)

theorem rgOk_plain {G : Gl} {K : Cx} {w0 : World} (hG : Good G K) : RgOk G K w0 (aregion K) := fun _ _ _ _ _ hs h => aregion_wp hG hs h

section
variable {G : Gl} {K : Cx} {w0 : World} {rg : Rg}
theorem acodeG_wp (hG : RgOk G K w0 rg) (fuel : Nat) : ∀ (c : Code) (s : St) (x : Ex) (s' : St), s.ok → acodeG rg fuel c s = some (x, s') → Stands G K w0 c s x s' := by
  intro c
  induction c with
  | skip =>
    intro s x s' hs h
    cases h
    exact ⟨hs, rfl, fun hobs => ⟨hobs, fun Q π a w hR hQ nf => wpIn_skip (hQ π a w hR)⟩⟩
  | label l =>
    intro s x s' hs h
    cases h
    exact ⟨hs, rfl, fun hobs => ⟨hobs, fun Q π a w hR hQ nf => wpIn_label (hQ π a w hR)⟩⟩
  | scope a iha =>
    intro s x s' hs h
    simp only [acodeG] at h
    obtain ⟨e1, e2, e3⟩ := iha _ _ _ hs h
    refine ⟨e1, e2, fun hobs => ?_⟩
    obtain ⟨g3, g4⟩ := e3 hobs
    refine ⟨g3, fun Q π a w hR hQ nf => ?_⟩
    refine wpIn_scope_straight (g4 _ π a w hR (fun π' a' w' hR' => ?_) nf)
    have := hQ π' a' w' hR'
    cases x with
    | normal => exact this
    | exit id => exact this
    | ret => exact this
  | region id ops draw =>
    intro s x s' hs h
    simp only [acodeG] at h
    split at h
    · rename_i s1 h1
      cases h
      exact hG id ops draw s _ hs h1
    · cases h
  | seq a b iha ihb =>
    intro s x s' hs h
    simp only [acodeG] at h
    split at h
    · rename_i s1 h1
      obtain ⟨e1, e2, e3⟩ := iha _ _ _ hs h1
      obtain ⟨f1, f2, f3⟩ := ihb _ _ _ e1 h
      refine ⟨f1, f2.trans e2, fun hobs => ?_⟩
      obtain ⟨g1, g2⟩ := f3 hobs
      obtain ⟨g3, g4⟩ := e3 g1
      refine ⟨g3, fun Q π a w hR hQ nf => ?_⟩
      refine wpIn_seq (g4 _ π a w hR (fun π' a' w' hR' => ?_) nf)
      exact g2 Q π' a' w' (e2 ▸ hR') (fun π'' a'' w'' hR'' => hQ π'' a'' w'' (by rw [e2] at hR''; exact hR'')) nf
    · rename_i r hne
      obtain ⟨e1, e2, e3⟩ := iha _ _ _ hs h
      refine ⟨e1, e2, fun hobs => ?_⟩
      obtain ⟨g3, g4⟩ := e3 hobs
      refine ⟨g3, fun Q π a w hR hQ nf => ?_⟩
      refine wpIn_seq (g4 _ π a w hR (fun π' a' w' hR' => ?_) nf)
      cases x with
      | normal => exact absurd h (hne _)
      | exit id => exact hQ π' a' w' hR'
      | ret => exact hQ π' a' w' hR'
  | cond c a b iha ihb =>
    intro s x s' hs h
    simp only [acodeG] at h
    split at h
    · rename_i hc
      obtain ⟨e1, e2, e3⟩ := iha _ _ _ hs h
      refine ⟨e1, e2, fun hobs => ?_⟩
      obtain ⟨g3, g4⟩ := e3 hobs
      refine ⟨g3, fun Q π a w hR hQ nf => ?_⟩
      have := hR.ev c
      simp only [St.fs] at this
      rw [← evL_evG, hc] at this
      exact wpIn_cond_true this (g4 Q π a w hR hQ nf)
    · rename_i hc
      obtain ⟨e1, e2, e3⟩ := ihb _ _ _ hs h
      refine ⟨e1, e2, fun hobs => ?_⟩
      obtain ⟨g3, g4⟩ := e3 hobs
      refine ⟨g3, fun Q π a w hR hQ nf => ?_⟩
      have := hR.ev c
      simp only [St.fs] at this
      rw [← evL_evG, hc] at this
      exact wpIn_cond_false this (g4 Q π a w hR hQ nf)
    · cases h
  | block id a iha =>
    intro s x s' hs h
    simp only [acodeG] at h
    split at h
    · rename_i id' s1 h1
      obtain ⟨e1, e2, e3⟩ := iha _ _ _ hs h1
      have hs1 : s' = s1 := by cases hq : Nat.beq id' id <;> simp only [hq, cond_true, cond_false] at h <;> cases h <;> rfl
      subst hs1
      refine ⟨e1, e2, fun hobs => ?_⟩
      obtain ⟨g3, g4⟩ := e3 hobs
      refine ⟨g3, fun Q π a w hR hQ nf => ?_⟩
      refine wpIn_block (g4 _ π a w hR (fun π' a' w' hR' => ?_) nf)
      have := hQ π' a' w' hR'
      simp only [Ex.out, Exit.inBlock]
      cases hq : Nat.beq id' id <;> simp only [hq, cond_true, cond_false] at h <;> cases h
      · rw [if_neg (fun e => by subst e; simp at hq)]; exact this
      · rw [if_pos (Nat.eq_of_beq_eq_true hq)]; exact this
    · rename_i r hne
      obtain ⟨e1, e2, e3⟩ := iha _ _ _ hs h
      refine ⟨e1, e2, fun hobs => ?_⟩
      obtain ⟨g3, g4⟩ := e3 hobs
      refine ⟨g3, fun Q π a w hR hQ nf => ?_⟩
      refine wpIn_block (g4 _ π a w hR (fun π' a' w' hR' => ?_) nf)
      have := hQ π' a' w' hR'
      cases x with
      | exit id => exact absurd h (hne _ _)
      | normal => exact this
      | ret => exact this
  | loop a iha =>
    intro s x s' hs h
    simp only [acodeG] at h
    obtain ⟨e1, e2, e3⟩ := aloop_wp (fun s x s' => iha s x s') fuel s x s' hs h
    refine ⟨e1, e2, fun hobs => ?_⟩
    obtain ⟨g3, g4⟩ := e3 hobs
    exact ⟨g3, fun Q π a w hR hQ nf => wpIn_loop_rounds fuel (g4 Q π a w hR hQ nf)⟩
  | exit id =>
    intro s x s' hs h
    cases h
    exact ⟨hs, rfl, fun hobs => ⟨hobs, fun Q π a w hR hQ nf => wpIn_exit (hQ π a w hR)⟩⟩
  | ret =>
    intro s x s' hs h
    cases h
    exact ⟨hs, rfl, fun hobs => ⟨hobs, fun Q π a w hR hQ nf => wpIn_ret (hQ π a w hR)⟩⟩
  | _ => intro s x s' hs h; cases h
end

/-! ### A region whose last operation is walked in place -/

/-- The closures that are walked in place. -/
abbrev Inl := Nat → Option Func

def lastArgs (inl : Inl) (fr : Fr) (o : Oper) : Option (Func × List V) :=
  match o.op with
  | .call c =>
    match c.callee with
    | .value f =>
      match evL fr f with
      | .s (.fn n caps) =>
        match inl n with
        | some fn => some (fn, c.args.toList.map (evL fr) ++ capArgs caps)
        | none => none
      | _ => none
    | _ => none
  | _ => none

def aregionL (K : Cx) (inl : Inl) (fuel : Nat) (ops : Array Oper) (draw : Bool) (s : St) : Option St :=
  let z := ops.size - 1
  match aops K ops.toList 0 (ops.toList.take z) s with
  | none => none
  | some (xs, s1) =>
    match ops.toList.drop z with
    | [o] =>
      match o.guard with
      | some _ => none
      | none =>
        bif dstOk s.n o.dst then
          match lastArgs inl s1.fr o with
          | none => none
          | some (fn, args) =>
            bif Nat.ble args.length fn.ntmps && Nat.ble (fn.ntmps + 1) 4096 then
              match afunc K fuel fn args s1.mem [] with
              | none => none
              | some (v, s2) =>
                let s' : St := { fr := putL s1.fr o.dst v, n := s.n, mem := s2.mem, orc := s1.orc, obs := s2.obs ++ s1.obs }
                let ws := waitsL ops.toList []
                bif draw then (bif pairsOk ops ws xs && (edgesB 0 ops.toList && (List.range z).all (memB (getL [] ws z))) then some s' else none) else some s'
            else none
        else none
    | _ => none

/-- Regions as ever; those that cannot be carried out so, with their last operation walked in place. -/
def rgL (K : Cx) (inl : Inl) (fuel : Nat) : Rg := fun ops draw s =>
  match aregion K ops draw s with
  | some s' => some s'
  | none => aregionL K inl fuel ops draw s

def InlOk (P : Program) (inl : Inl) : Prop := ∀ n fn, inl n = some fn → P.funcs[n]? = some fn ∧ (fn.name == "runtime.NumGoroutine") = false
end

section
variable {G : Gl} {K : Cx} {π : Loc} {w0 w : World} {P : Program} {s : FS} {n : Nat} {a : Act} {ops : Array Oper}

theorem wpAny_execL (nf : Nat) (hE : EnvOk G K) {Q : Exit → Act → World → Prop} {send : FS} (hb : edgesB 0 ops.toList = true) {z : Nat} (hz : z + 1 = ops.size)
    (hw : ∀ i, i < z → i ∈ getL [] (waitsL ops.toList []) z) (hQ : ∀ π a w, RelS G π send n w0 a w → wpOpIn (fz G.ro) nf K.P ops Q z (fun a w => Q .normal a w) a w) :
    ∀ (k : Nat) (R : List Info) (listed : Array Bool) (s : FS) (π : Loc) (a : Act) (w : World), R.length = k → RelS G π s n w0 a w → Exec K ops n R s send →
      listed.size = ops.size → (∀ i, i < z → (listed.getD i true = false ↔ ∃ x ∈ R, x.i = i)) → listed.getD z true = false → (∀ x ∈ R, x.i < z) →
      R.Pairwise (fun x y => x.i < y.i ∧ pairOk ops (waitsL ops.toList []) x y = true) →
      (∀ i j, listed.getD i false = true → j ∈ getL [] (waitsL ops.toList []) i → listed.getD j false = true) →
      wpAnyIn (fz G.ro) nf K.P .any ops Q (k + 1) listed a w
  | 0, R, listed, s, π, a, w, hk, hR, hx, hsz, hin, hlz, hlt, hpw, hcl => by
    have : R = [] := List.length_eq_zero_iff.1 hk
    subst this
    have hs : s = send := hx
    subst hs
    have hall : ∀ i, i < z → listed.getD i false = true := by
      intro i hi
      cases hq : listed.getD i false with
      | true => rfl
      | false =>
        rw [← getD_tf (by omega)] at hq
        obtain ⟨y, hy, _⟩ := (hin i hi).1 hq
        cases hy
    have honly : ∀ i, i ∈ Region.ready .any ops listed → i = z := by
      intro i hi
      obtain ⟨h1, h2, _⟩ := ready_iff.1 hi
      by_cases e : i = z
      · exact e
      · exfalso
        have := hall i (by omega)
        rw [← getD_tf (by omega), h2] at this; cases this
    refine ⟨fun hnil => ?_, fun i hi => ?_⟩
    · exfalso
      have : z ∈ Region.ready .any ops listed := by
        refine ready_iff.2 ⟨by omega, hlz, ops[z], by simp, fun d hd => ?_⟩
        have hlt' := edgesB_spec (o := ops[z]) (i := z) hb (by simp) d hd
        rw [Nat.zero_add] at hlt'
        exact hall d hlt'
      rw [hnil] at this; cases this
    · have := honly i hi
      subst this
      refine wpOpIn_mono (fun a w h => ?_) (hQ π a w hR)
      refine ⟨?_, h⟩
      rw [List.eq_nil_iff_forall_not_mem]
      intro j hj
      obtain ⟨h1, h2, _⟩ := ready_iff.1 hj
      simp only [Array.getD_eq_getD_getElem?, Array.getElem?_setIfInBounds] at h2
      by_cases e : i = j
      · subst e; simp [hsz, h1] at h2
      · rw [if_neg e] at h2
        have := hall j (by omega)
        rw [← getD_tf (by omega), Array.getD_eq_getD_getElem?, h2] at this; cases this
  | k + 1, R, listed, s, π, a, w, hk, hR, hx, hsz, hin, hlz, hlt, hpw, hcl => by
    refine ⟨fun hnil => ?_, fun i hi => ?_⟩
    · exfalso
      match R, hk with
      | x :: r, _ =>
        have hxi := hlt x (by simp)
        have : x.i ∈ Region.ready .any ops listed := by
          refine ready_iff.2 ⟨by omega, (hin _ hxi).2 ⟨x, by simp, rfl⟩, ops[x.i], by simp, fun d hd => ?_⟩
          have hlt' := edgesB_spec (o := ops[x.i]) (i := x.i) hb (by simp) d hd
          rw [Nat.zero_add] at hlt'
          have hdsz : d < z := by omega
          cases hq : listed.getD d false with
          | true => rfl
          | false =>
            rw [← getD_tf (by omega)] at hq
            obtain ⟨y, hy, hyd⟩ := (hin d hdsz).1 hq
            rcases List.mem_cons.1 hy with e | e
            · subst e; omega
            · have := (List.pairwise_cons.1 hpw).1 y e
              omega
        rw [hnil] at this; cases this
    · obtain ⟨h1, h2, o, ho, hp⟩ := ready_iff.1 hi
      have hiz : i < z := by
        by_cases e : i < z
        · exact e
        · exfalso
          have hiz : i = z := by omega
          subst hiz
          match R, hk with
          | x :: r, _ =>
            have hxi := hlt x (by simp)
            have hxl := (hin _ hxi).2 ⟨x, by simp, rfl⟩
            rw [getD_tf (by omega)] at hxl
            rcases waitsL_spec _ _ _ _ (hw x.i hxi) with ⟨q, _⟩ | ⟨o', ho', _, q⟩
            · simp at q
            · have : o' = o := by
                simp only [List.length_nil, Nat.sub_zero, Array.getElem?_toList] at ho'
                rw [ho] at ho'; cases ho'; rfl
              subst this
              rcases q with q | ⟨d, hd, q⟩
              · rw [hp _ q] at hxl; cases hxl
              · rw [hcl d x.i (hp d hd) q] at hxl; cases hxl
      obtain ⟨y, hy, rfl⟩ := (hin i hiz).1 h2
      obtain ⟨pre, post, rfl⟩ := List.append_of_mem hy
      have hpw' := List.pairwise_append.1 hpw
      have hind : ∀ z ∈ pre, Indep ops z y := by
        intro z hz
        obtain ⟨hlt1, hok⟩ := hpw'.2.2 z hz y (by simp)
        unfold pairOk at hok
        simp only [Bool.or_eq_true, Bool.and_eq_true] at hok
        rcases hok with hok | ⟨f1, f2⟩
        · exfalso
          have hzi := memB_iff.1 hok
          have hzl : listed.getD z.i true = false := (hin z.i (hlt z (by simp [hz]))).2 ⟨z, by simp [hz], rfl⟩
          rw [getD_tf (by have := hlt z (by simp [hz]); omega)] at hzl
          rcases waitsL_spec _ _ _ _ hzi with ⟨q, _⟩ | ⟨o', ho', _, q⟩
          · simp at q
          · have : o' = o := by
              simp only [List.length_nil, Nat.sub_zero, Array.getElem?_toList] at ho'
              rw [ho] at ho'; cases ho'; rfl
            subst this
            rcases q with q | ⟨d, hd, q⟩
            · rw [hp _ q] at hzl; cases hzl
            · rw [hcl d z.i (hp d hd) q] at hzl; cases hzl
        · refine ⟨f1, ?_⟩
          split at f2
          · rename_i a' b' e1 e2; exact ⟨a', b', e1, e2, f2⟩
          · cases f2
      obtain ⟨hen, hex⟩ := bubble hind hx
      refine hen.wpOp hE hR (nf := nf) fun π' a' w' _ hR' => ?_
      have hsz' : (listed.setIfInBounds y.i true).size = ops.size := by simp [hsz]
      have hset : ∀ j d, (listed.setIfInBounds y.i true).getD j d = if j = y.i then true else listed.getD j d := by
        intro j d
        simp only [Array.getD_eq_getD_getElem?, Array.getElem?_setIfInBounds]
        by_cases e : y.i = j
        · subst e; simp [hsz, h1]
        · rw [if_neg e, if_neg (Ne.symm e)]
      have hne : ∀ z ∈ pre ++ post, z.i ≠ y.i := by
        intro z hz
        rcases List.mem_append.1 hz with q | q
        · have := (hpw'.2.2 z q y (by simp)).1; omega
        · have := ((List.pairwise_cons.1 hpw'.2.1).1 z q).1; omega
      refine wpAny_execL nf hE hb hz hw hQ k (pre ++ post) _ _ π' a' w' (by simp at hk ⊢; omega) hR' hex hsz' ?_ ?_ ?_ ?_ ?_
      · intro j hj
        rw [hset]
        by_cases e : j = y.i
        · subst e
          rw [if_pos rfl]
          constructor
          · intro q; cases q
          · rintro ⟨z, hz, q⟩; exact absurd q (hne z hz)
        · rw [if_neg e, hin j hj]
          constructor
          · rintro ⟨z, hz, q⟩
            refine ⟨z, ?_, q⟩
            rcases List.mem_append.1 hz with r | r
            · simp [r]
            · rcases List.mem_cons.1 r with r | r
              · subst r; exact absurd q.symm e
              · simp [r]
          · rintro ⟨z, hz, q⟩
            refine ⟨z, ?_, q⟩
            rcases List.mem_append.1 hz with r | r <;> simp [r]
      · rw [hset, if_neg (by omega)]; exact hlz
      · intro z hz
        refine hlt z ?_
        rcases List.mem_append.1 hz with r | r <;> simp [r]
      · refine hpw.sublist ?_
        exact List.Sublist.append_left (List.sublist_cons_self _ _) _
      · intro i' j hi' hj
        rw [hset] at hi' ⊢
        by_cases ej : j = y.i
        · rw [if_pos ej]
        · rw [if_neg ej]
          by_cases ei : i' = y.i
          · subst ei
            rcases waitsL_spec _ _ _ _ hj with ⟨q, _⟩ | ⟨o', ho', _, q⟩
            · simp at q
            · have : o' = o := by
                simp only [List.length_nil, Nat.sub_zero, Array.getElem?_toList] at ho'
                rw [ho] at ho'; cases ho'; rfl
              subst this
              rcases q with q | ⟨d, hd, q⟩
              · exact hp _ q
              · exact hcl d j (hp d hd) q
          · rw [if_neg ei] at hi'
            exact hcl i' j hi' hj

theorem wpOps_execL (nf : Nat) (hE : EnvOk G K) {Q : Exit → Act → World → Prop} {send : FS} {rest : List Nat} (hQ : ∀ π a w, RelS G π send n w0 a w → wpOpsIn (fz G.ro) nf K.P ops Q rest a w) :
    ∀ (R : List Info) (s : FS) (π : Loc) (a : Act) (w : World), RelS G π s n w0 a w → Exec K ops n R s send → wpOpsIn (fz G.ro) nf K.P ops Q (R.map (·.i) ++ rest) a w
  | [], s, π, a, w, hR, hx => by
    have hs : s = send := hx
    subst hs
    exact hQ _ _ _ hR
  | x :: r, s, π, a, w, hR, ⟨hx, hr⟩ => by
    rw [List.map_cons, List.cons_append, wpOpsIn_cons]
    exact hx.wpOp hE hR (nf := nf) fun π' a' w' _ hR' => wpOps_execL nf hE hQ r _ π' a' w' hR' hr

/-- The closure, walked in place. -/
theorem inline_wp (hG : Good G K) {inl : Inl} (hi : InlOk K.P inl) {fuel : Nat} {o : Oper} {s1 s2 : St} {fn : Func} {args : List V} {v : V} {next : Act → World → Prop} {Q : Exit → Act → World → Prop}
    (hl : lastArgs inl s1.fr o = some (fn, args)) (ha1 : args.length ≤ fn.ntmps) (ha2 : fn.ntmps < 4096) (hf : afunc K fuel fn args s1.mem [] = some (v, s2)) (hobs : ObsOk s2.obs) (hR : RelS G π s1.fs n w0 a w)
    (hk : ∀ rv w' π', π.le π' → v.cv π' rv → Rel G π' (memL s2.mem) w0 w' → next (a.put o.dst rv) w') : o.wp K.P a w next Q ∧ ∀ c, o.op ≠ .defer c := by
  unfold lastArgs at hl
  split at hl
  · rename_i c ho'
    refine ⟨?_, fun c' e => by rw [ho'] at e; cases e⟩
    split at hl
    · rename_i f hc
      split at hl
      · rename_i m caps hfv
        split at hl
        · rename_i fn' hin
          simp only [Option.some.injEq, Prod.mk.injEq] at hl
          obtain ⟨rfl, rfl⟩ := hl
          obtain ⟨e1, e3⟩ := hi _ _ hin
          have hcv := hR.ev f
          simp only [St.fs] at hcv
          rw [← evL_evG, hfv] at hcv
          obtain ⟨vs, e4, e5⟩ := hcv
          have hev : ∀ x, (evL s1.fr x).cv π (a.eval x) := fun x => by have := hR.ev x; simp only [St.fs] at this; rw [← evL_evG] at this; exact this
          have hargs := argsCv_append (argsCv_map hev c.args.toList) (capArgs_cv e5)
          have hR0 : Rel { G with base := π, ro := none, ds := [] } π (memL s1.mem) w0 w := ⟨hR.mem.blk, hR.mem.inj, hR.mem.dom, hR.mem.glob, hR.mem.globOld, hR.mem.below, π.le_refl, hR.mem.oth⟩
          have hcall := afunc_calls (G := { G with base := π, ro := none, ds := [] }) ⟨hG.env, hG.mixed⟩ e1 hf hobs ha1 ha2 hR0 hargs rfl rfl
          have hbody : fn'.body.isSome = true := by
            unfold afunc at hf
            cases hb : fn'.body with
            | none => rw [hb] at hf; cases hf
            | some c => rfl
          have hx : (execOp a.eval o).run K.P w = .ok (.enter m (c.args.toList.map a.eval ++ vs).toArray) w := by
            have hn : ¬ fn'.body = none := by intro q; rw [q] at hbody; cases hbody
            have e3' : ¬ fn'.name = "runtime.NumGoroutine" := by simpa using e3
            simp [execOp, ho', resolve, hc, e4, Deferred.ofValue, invoke, callFunc, e1, e3', hn]
          unfold Oper.wp
          rw [hx]
          refine hcall.mono ?_
          rintro e w' ⟨rv, π', rfl, hv, hR'⟩
          exact hk rv w' π' hR'.base hv ⟨hR'.blk, hR'.inj, hR'.dom, hR'.glob, hR'.globOld, hR'.below, Loc.le_trans hR.mem.base hR'.base, hR'.oth⟩
        · cases hl
      · cases hl
    · cases hl
  · cases hl

theorem aregionL_wp (hG : Good G K) {inl : Inl} (hi : InlOk K.P inl) {fuel id : Nat} {draw : Bool} {s s' : St} (hs : s.ok) (h : aregionL K inl fuel ops draw s = some s') :
    s'.ok ∧ s'.n = s.n ∧ (ObsOk s'.obs → ObsOk s.obs ∧ ∀ (Q : Exit → Act → World → Prop) (π : Loc) (a : Act) (w : World), RelS G π s.fs s.n w0 a w →
      (∀ π' a' w', RelS G π' s'.fs s.n w0 a' w' → Q .normal a' w') → ∀ nf, (Code.region id ops draw).wpIn (fz G.ro) nf K.P Q a w) := by
  unfold aregionL at h
  simp only at h
  split at h
  · cases h
  · rename_i xs s1 h1
    split at h
    · rename_i o hdrop
      have hne : ops.size ≠ 0 := by
        intro e
        have := congrArg List.length hdrop
        simp [e] at this
      have hz : ops.size - 1 + 1 = ops.size := by omega
      have ho : ops[ops.size - 1]? = some o := by
        have := congrArg (·[0]?) hdrop
        simpa using this
      split at h
      · cases h
      · rename_i hguard
        cases hd : dstOk s.n o.dst <;> simp only [hd, cond_true, cond_false] at h
        · cases h
        · split at h
          · cases h
          · rename_i fn args hl
            cases hb2 : (Nat.ble args.length fn.ntmps && Nat.ble (fn.ntmps + 1) 4096) <;> simp only [hb2, cond_true, cond_false] at h
            · cases h
            · simp only [Bool.and_eq_true] at hb2
              have ha1 := Nat.le_of_ble_eq_true hb2.1
              have ha2 := Nat.le_of_ble_eq_true hb2.2
              split at h
              · cases h
              · rename_i v s2 hf
                obtain ⟨e1, e2, e3, e4⟩ := aops_spec (ops := ops) (ops.toList.take (ops.size - 1)) 0 s s1 xs
                  (fun j o' hj => by rw [List.getElem?_take] at hj; split at hj; (simpa using hj); cases hj) hs h1
                have hmap : xs.map (·.i) = List.range (ops.size - 1) := by rw [e1, List.range_eq_range']; simp
                have hlen : xs.length = ops.size - 1 := by have := congrArg List.length hmap; simpa using this
                have hs' : s' = { fr := putL s1.fr o.dst v, n := s.n, mem := s2.mem, orc := s1.orc, obs := s2.obs ++ s1.obs } ∧
                    (draw = true → pairsOk ops (waitsL ops.toList []) xs = true ∧ edgesB 0 ops.toList = true ∧ (List.range (ops.size - 1)).all (memB (getL [] (waitsL ops.toList []) (ops.size - 1))) = true) := by
                  cases draw <;> simp only [cond_true, cond_false] at h
                  · exact ⟨(Option.some.inj h).symm, fun q => by cases q⟩
                  · cases hc : (pairsOk ops (waitsL ops.toList []) xs && (edgesB 0 ops.toList && (List.range (ops.size - 1)).all (memB (getL [] (waitsL ops.toList []) (ops.size - 1))))) <;> simp only [hc, cond_true, cond_false] at h
                    · cases h
                    · simp only [Bool.and_eq_true] at hc
                      exact ⟨(Option.some.inj h).symm, fun _ => hc⟩
                obtain ⟨rfl, hdraw⟩ := hs'
                refine ⟨fun i hi => ?_, rfl, fun hobs => ?_⟩
                · exact putL_ok e2 _ _ i (by rw [e3]; exact hi)
                · have hob2 : ObsOk s2.obs := fun p hp => hobs p (by simp [hp])
                  obtain ⟨g1, g2⟩ := e4 fun p hp => hobs p (by simp [hp])
                  refine ⟨g1, fun Q π a w hR hQ nf => ?_⟩
                  have hlast : ∀ (K' : Act → World → Prop), (∀ a w, Q .normal a w → K' a w) → ∀ π a w, RelS G π s1.fs s.n w0 a w → wpOpIn (fz G.ro) nf K.P ops Q (ops.size - 1) K' a w := by
                    intro K' hK π1 a1 w1 hR1
                    unfold Go.wpOpIn
                    simp only [ho]
                    have hw : Region.wanted o (yielded ops a1.tmps) = true := by unfold Region.wanted; rw [hguard]
                    rw [if_pos hw]
                    have hk : ∀ rv w' π', π1.le π' → v.cv π' rv → Rel G π' (memL s2.mem) w0 w' → K' (a1.put o.dst rv) w' := by
                      intro rv w' π' h1 h2 h3
                      refine hK _ _ (hQ π' _ _ ?_)
                      have := hR1.put (s := s1.fs) h1 h2 h3 hd
                      simp only [St.fs] at this ⊢
                      rw [putL_get e2 (by rw [e3]; exact hd)]
                      exact this
                    obtain ⟨k1, k2⟩ := inline_wp (w0 := w0) (next := K') (Q := Q) hG hi hl ha1 ha2 hf hob2 hR1 hk
                    exact wpIn_of_wp k2 k1
                  cases draw
                  · refine wpIn_region ?_
                    have hr : List.range ops.size = xs.map (·.i) ++ [ops.size - 1] := by
                      rw [hmap, ← hz, List.range_succ]; simp
                    rw [hr]
                    refine wpOps_execL nf hG.env (fun π1 a1 w1 hR1 => ?_) xs _ π a w hR g2
                    rw [wpOpsIn_cons]
                    exact hlast _ (fun a w h => h) π1 a1 w1 hR1
                  · obtain ⟨c1, c2, c3⟩ := hdraw rfl
                    refine wpIn_region_any hG.mixed ?_
                    have hsz : ops.size = xs.length + 1 := by omega
                    rw [show wpAnyIn (fz G.ro) nf K.P .any ops Q ops.size = wpAnyIn (fz G.ro) nf K.P .any ops Q (xs.length + 1) by rw [← hsz]]
                    refine wpAny_execL nf hG.env c2 hz (fun i hi => memB_iff.1 (List.all_eq_true.1 c3 i (by simpa using hi))) (hlast _ (fun a w h => h)) xs.length xs _ s.fs π a _ rfl hR.drew g2 (by simp) ?_ ?_ ?_ ?_ ?_
                    · intro i hi
                      have h0 : (Array.replicate ops.size false).getD i true = false := by
                        have : i < ops.size := by omega
                        simp [this]
                      rw [h0]
                      refine ⟨fun _ => ?_, fun _ => rfl⟩
                      have : i ∈ xs.map (·.i) := by rw [hmap]; simpa using hi
                      exact List.mem_map.1 this
                    · have : ops.size - 1 < ops.size := by omega
                      simp [this]
                    · intro x hx
                      have : x.i ∈ xs.map (·.i) := List.mem_map.2 ⟨x, hx, rfl⟩
                      rw [hmap] at this; simpa using this
                    · have h1 := pairsOk_pairwise c1
                      have h2 : xs.Pairwise (fun x y => x.i < y.i) := by
                        have : (xs.map (·.i)).Pairwise (· < ·) := by rw [hmap]; exact List.pairwise_lt_range
                        exact List.pairwise_map.1 this
                      exact List.Pairwise.imp₂ (fun _ _ p q => ⟨p, q⟩) h2 h1
                    · intro i j hi _
                      simp [Array.getD_eq_getD_getElem?, Array.getElem?_replicate] at hi
                      split at hi <;> simp at hi
    · cases h

theorem rgOk_L {w0 : World} (hG : Good G K) {inl : Inl} (hi : InlOk K.P inl) {fuel : Nat} : RgOk G K w0 (rgL K inl fuel) := by
  intro id ops draw s s' hs h
  unfold rgL at h
  split at h
  · rename_i s1 h1
    cases h
    exact aregion_wp hG hs h1
  · exact aregionL_wp hG hi hs h
end
end Go.Mo


namespace Go.Mo
open Go Go.RowKit
noncomputable section

theorem renCaps_id : ∀ (l : List (Nat × Nat)), renCaps (fun i => i) l = l
  | [] => rfl
  | (b, o) :: r => by simp only [renCaps, renCaps_id r]
theorem Sc.ren_id (x : Sc) : x.ren (fun i => i) = x := by cases x <;> simp [Sc.ren, renCaps_id]
theorem renSegs_id : ∀ (gs : List Seg), renSegs (fun i => i) gs = gs
  | [] => rfl
  | g :: r => by
    simp only [renSegs, renSegs_id r]
    cases g <;> simp [Seg.ren, Sc.ren_id]
theorem renTup_id : ∀ (l : List (Bool × List Seg)), renTup (fun i => i) l = l
  | [] => rfl
  | (b, gs) :: r => by simp only [renTup, renSegs_id, renTup_id r]
theorem V.ren_id (v : V) : v.ren (fun i => i) = v := by cases v <;> simp [V.ren, Sc.ren_id, renSegs_id, renTup_id]

section
variable {π π' : Loc} {ok : Nat → Bool}
/-- What names blocks alone that lie as they lay stands for the same. -/
theorem cv_keep (h : ∀ i, ok i = true → π' i = π i) {x : V} {v : Value} (hb : x.below ok = true) (hv : x.cv π v) : x.cv π' v := by
  have := (ren_v (π' := π) (π := π') (σ := fun i => i) (ok := ok) (fun i n hi => by rw [h i hi]) hb).1 hv
  rwa [V.ren_id] at this
theorem sc_keep (h : ∀ i, ok i = true → π' i = π i) {x : Sc} {v : Value} (hb : x.below ok = true) (hv : x.cv π v) : x.cv π' v := by
  have := (ren_sc (π' := π) (π := π') (σ := fun i => i) (ok := ok) (fun i n hi => by rw [h i hi]) hb).1 hv
  rwa [Sc.ren_id] at this
theorem segs_keep (h : ∀ i, ok i = true → π' i = π i) {gs : List Seg} {vs : List Value} (hb : segsBelow ok gs = true) (hv : segsCv π gs vs) : segsCv π' gs vs := by
  have := (ren_segs (π' := π) (π := π') (σ := fun i => i) (ok := ok) (fun i n hi => by rw [h i hi]) hb).1 hv
  rwa [renSegs_id] at this
end

/-- Each block names blocks alone that are there. -/
def memOk (mem : List (Option Blk)) : Bool :=
  mem.all fun x => match x with | some b => segsBelow (fun j => (memL mem j).isSome) b.gs | none => true

theorem memOk_spec {mem : List (Option Blk)} (h : memOk mem = true) {i : Nat} {b : Blk} (hi : memL mem i = some b) : segsBelow (fun j => (memL mem j).isSome) b.gs = true := by
  unfold memL at hi
  rw [getL_getD] at hi
  have hm : some b ∈ mem := by
    simp only [List.getD] at hi
    cases hq : mem[i]? with
    | none => rw [hq] at hi; cases hi
    | some x => rw [hq] at hi; simp at hi; subst hi; exact List.mem_of_getElem? hq
  exact List.all_eq_true.1 h _ hm

section
variable {G : Gl} {K : Cx} {π : Loc} {w0 w w' : World} {P : Program}

/-- Fewer blocks are spoken of. -/
theorem Rel.forget {m : Nat → Option Blk} {mem : List (Option Blk)} (h : Rel G π m w0 w) {B : Loc} (hm : ∀ i b, memL mem i = some b → m i = some b) (hok : memOk mem = true)
    (hB : ∀ i p, B i = some p → π i = some p ∧ memL mem i ≠ none) (r : Option Nat) (d : List Deferred) :
    Rel { G with base := B, kw := none, ro := r, ds := d } (fun i => if (memL mem i).isSome then π i else none) (memL mem) w0 w := by
  refine ⟨?_, ?_, ?_, h.glob, h.globOld, h.below, ?_, fun w1 e => by cases e⟩
  · intro i b hi
    obtain ⟨p, vs, T, fz, e1, e2, e3⟩ := h.blk i b (hm i b hi)
    refine ⟨p, vs, T, fz, by simp [hi, e1], ⟨e2.1, e2.2.1, e2.2.2.1, segs_keep (fun j hj => ?_) (memOk_spec hok hi) e2.2.2.2⟩, e3⟩
    simp [hj]
  · intro i j p q bi bj hne hi hj pi pj
    simp only [hi, Option.isSome_some, if_true] at pi
    simp only [hj, Option.isSome_some, if_true] at pj
    exact h.inj i j p q bi bj hne (hm _ _ hi) (hm _ _ hj) pi pj
  · intro i hi
    simp [hi]
  · intro i p hi
    obtain ⟨h1, h2⟩ := hB i p hi
    have : (memL mem i).isSome = true := by cases hq : memL mem i with | none => exact absurd hq h2 | some b => rfl
    simp [this, h1]

/-- What is no cells has turned. -/
theorem Rel.other {m : Nat → Option Blk} (h : Rel G π m w0 w) (hc : ∀ (k : Nat) (cs : Array Value) (T : TypeId) (fz : Nat × Nat), w.heap[k]? = some (Obj.cells cs T fz) → w'.heap[k]? = some (Obj.cells cs T fz)) (hb : Below w0.heap.size w0 w')
    (kw : Option World) (hk : ∀ w1, kw = some w1 → Oth w1 w') (r : Option Nat) (d : List Deferred) : Rel { G with kw := kw, ro := r, ds := d } π m w0 w' := by
  refine ⟨?_, h.inj, h.dom, ?_, h.globOld, hb, h.base, hk⟩
  · intro i b hi
    obtain ⟨p, vs, T, fz, e1, e2, e3⟩ := h.blk i b hi
    exact ⟨p, vs, T, fz, e1, ⟨hc _ _ _ _ e2.1, e2.2⟩, e3⟩
  · show w'.heap[G.g]? = some G.obj
    rw [hb.block _ h.globOld, ← h.below.block _ h.globOld]; exact h.glob

theorem putObj_size (W : World) (l : Nat) (o : Obj) : (W.putObj l o).heap.size = W.heap.size := by simp [World.putObj]
theorem putObj_cells {W : World} {l : Nat} {o : Obj} (o' : Obj) (hl : W.heap[l]? = some o) (ho : ∀ cs T fz, o ≠ .cells cs T fz) :
    ∀ (k : Nat) (cs : Array Value) (T : TypeId) (fz : Nat × Nat), W.heap[k]? = some (Obj.cells cs T fz) → (W.putObj l o').heap[k]? = some (Obj.cells cs T fz) := by
  intro k cs T fz hk
  have : k ≠ l := by intro e; subst e; rw [hl] at hk; cases hk; exact ho _ _ _ rfl
  rw [World.putObj_heap_other this]; exact hk
theorem putObj_below {n0 : Nat} {A W : World} {l : Nat} (o' : Obj) (h : Below n0 A W) (hl : n0 ≤ l) : Below n0 A (W.putObj l o') :=
  h.trans ⟨rfl, rfl, rfl, by rw [putObj_size]; exact Nat.le_refl _, fun k hk => World.putObj_heap_other (by omega)⟩
end

/-! ### Bytes -/

def BytesAt (W : World) (v : Value) (l : List (BitVec 8)) : Prop :=
  ∃ a c, v = .slice a l.length c ∧ l.length ≤ c ∧ (l ≠ [] → ∃ (b o : Nat) (vs : List Value) (T : TypeId) (fz : Nat × Nat), a = some ⟨b, o, none⟩ ∧ W.heap[b]? = some (.cells vs.toArray T fz) ∧ (vs.drop o).take l.length = l.map v8)

def bytesIn (x : Option Blk) (o n : Nat) : Option (List (BitVec 8)) :=
  match x with
  | some blk => (match getSegs blk.gs o n with | some [.b8 _ l] => some l | _ => none)
  | none => none

def bytesOf (m : Nat → Option Blk) : Sc → Option (List (BitVec 8))
  | .nilSlice => some []
  | .empty => some []
  | .osl b o n 1 => bif Nat.beq n 0 then some [] else bytesIn (m b) o n
  | .slice b o n c => bif Nat.ble n c then (bif Nat.beq n 0 then some [] else bytesIn (m b) o n) else none
  | _ => none

section
variable {π : Loc} {m : Nat → Option Blk} {w : World}
theorem bytesIn_at (hm : MemRel π m w) {b o n : Nat} {bs : List (BitVec 8)} (hn : Nat.beq n 0 = false) (h : bytesIn (m b) o n = some bs) :
    bs.length = n ∧ ∃ (p : Pl) (vs : List Value) (T : TypeId) (fz : Nat × Nat), π b = some p ∧ w.heap[p.n]? = some (.cells vs.toArray T fz) ∧ (vs.drop (p.base + o)).take n = bs.map v8 ∧ p.base + o + n ≤ p.z ∧ vs.length = p.z := by
  unfold bytesIn at h
  split at h
  · rename_i blk hb
    split at h
    · rename_i q l hg
      cases h
      obtain ⟨p, vs, T, fz, e1, e2⟩ := hm b blk hb
      obtain ⟨g1, a, r, g2, g3, g4⟩ := getSegs_cv e2.2.2.2 hg
      have g4 : r = [] := g4
      subst g4
      obtain ⟨g5, g6⟩ := g3
      have hn0 : n ≠ 0 := fun e => by subst e; cases hn
      have hcl : (cut p (segsSize blk.gs) vs).length = segsSize blk.gs := cut_length (by have := e2.2.1; have := e2.2.2.1; omega)
      rw [hcl] at g1
      have g1' : o + n ≤ segsSize blk.gs := by rcases g1 with q | q; exact absurd q hn0; exact q
      rw [List.append_nil] at g2
      have hlen : bs.length = n := by
        have h2 := congrArg List.length g2
        rw [List.length_take, List.length_drop, hcl, g6] at h2
        simp only [List.length_map] at h2
        omega
      refine ⟨hlen, p, vs, T, fz, e1, e2.1, ?_, by have := e2.2.2.1; omega, e2.2.1⟩
      rw [cut_take (.inr (by rw [hcl]; exact g1')), g2, g6]
    · cases h
  · cases h

theorem bytesOf_at (hm : MemRel π m w) {sl : Sc} {bs : List (BitVec 8)} {v : Value} (h : bytesOf m sl = some bs) (hv : sl.cv π v) : BytesAt w v bs := by
  unfold bytesOf at h
  split at h
  · cases h
    have hv : v = .slice none 0 0 := hv
    exact ⟨none, 0, hv, Nat.le_refl _, fun q => absurd rfl q⟩
  · cases h
    obtain ⟨a, c, hv⟩ := hv
    exact ⟨a, c, hv, Nat.zero_le _, fun q => absurd rfl q⟩
  · rename_i b o n
    obtain ⟨p, c, e1, e2, e3, rfl⟩ := hv
    cases hn : Nat.beq n 0 <;> simp only [hn, cond_true, cond_false] at h
    · obtain ⟨rfl, p', vs, T, fz, f1, f2, f3, _⟩ := bytesIn_at hm hn h
      rw [e1] at f1; cases f1
      exact ⟨_, c, rfl, e3, fun _ => ⟨_, _, vs, T, fz, rfl, f2, f3⟩⟩
    · cases h
      have := Nat.eq_of_beq_eq_true hn
      subst this
      exact ⟨_, c, rfl, e3, fun q => absurd rfl q⟩
  · rename_i b o n c
    obtain ⟨p, e1, rfl⟩ := hv
    cases hc : Nat.ble n c <;> simp only [hc, cond_true, cond_false] at h
    · cases h
    have hle := Nat.le_of_ble_eq_true hc
    cases hn : Nat.beq n 0 <;> simp only [hn, cond_true, cond_false] at h
    · obtain ⟨rfl, p', vs, T, fz, f1, f2, f3, _⟩ := bytesIn_at hm hn h
      rw [e1] at f1; cases f1
      exact ⟨_, c, rfl, hle, fun _ => ⟨_, _, vs, T, fz, rfl, f2, f3⟩⟩
    · cases h
      have := Nat.eq_of_beq_eq_true hn
      subst this
      exact ⟨_, c, rfl, hle, fun q => absurd rfl q⟩
  · cases h
end

/-- The i-th block of bytes. -/
def part16 (bs : List (BitVec 8)) (j : Nat) : List (BitVec 8) := (bs.drop (16 * j)).take 16

/-- The contract of the iterator: for bytes of which a box holds the slice, the blocks come one by one with their numbers from 1. -/
def AllOk (P : Program) (f : Nat) : Prop :=
  ∀ (nf l bn bo : Nat) (bs : List (BitVec 8)) (J : Nat → World → Prop) (W : World), bs.length ≤ 100000 →
    (∀ j W1, J j W1 → ∃ v, W1.cell? ⟨bn, bo, none⟩ = some v ∧ BytesAt W1 v bs) →
    (∀ nf' j W1, j < bs.length / 16 → J j W1 → YieldAt (fz none) nf' P l #[.int .i64 ((j + 1 : Nat) : Int), .agg ((part16 bs j).map v8).toArray] W1 fun e W' => e = .returned (.bool true) ∧ J (j + 1) W') →
    J 0 W → CallsIn (fz none) nf P f #[.func (.yield l) #[] #[], .pointer (some ⟨bn, bo, none⟩)] W fun e W' => (∃ v, e = .returned v) ∧ J (bs.length / 16) W'

/-- The slots of a round. -/
def roundFr (fr : Fr) (p0 p1 : Nat) (bs : List (BitVec 8)) (j : Nat) : Fr := (fr.set p0 (.s (.i .i64 ((j + 1 : Nat) : Int)))).set p1 (.a [.b8 16 (part16 bs j)])

/-- Slots that name these blocks alone. -/
def cleanFr (ok : Nat → Bool) (f : Fr) : Fr :=
  Fr.rec (motive := fun _ => Fr) .nil (fun _ v _ cl cr => .node cl (bif v.below ok then v else .s .any) cr) f

theorem cleanFr_nil (ok : Nat → Bool) : cleanFr ok .nil = .nil := rfl
theorem cleanFr_node (ok : Nat → Bool) (l : Fr) (v : V) (r : Fr) : cleanFr ok (.node l v r) = .node (cleanFr ok l) (bif v.below ok then v else .s .any) (cleanFr ok r) := rfl

theorem cleanFr_get (ok : Nat → Bool) : ∀ (f : Fr) (i : Nat), ((cleanFr ok f).get i).below ok = true ∧ ((cleanFr ok f).get i = .s .any ∨ (cleanFr ok f).get i = f.get i)
  | .nil, i => ⟨rfl, .inl rfl⟩
  | .node l v r, i => by
    rw [cleanFr_node, Fr.get_node, Fr.get_node]
    cases Nat.beq i 0
    · cases Nat.beq (i % 2) 1
      · exact cleanFr_get ok r _
      · exact cleanFr_get ok l _
    · simp only [cond_true]
      cases hb : v.below ok
      · exact ⟨rfl, .inl rfl⟩
      · exact ⟨hb, .inr rfl⟩

theorem cleanFr_has (ok : Nat → Bool) : ∀ (f : Fr) (i : Nat), (cleanFr ok f).has i = f.has i
  | .nil, i => rfl
  | .node l v r, i => by
    rw [cleanFr_node]
    simp only [Fr.has, cleanFr_has ok l, cleanFr_has ok r]

/-- What is reckoned of the rounds: M j: the memory after j of them. -/
structure RangeEv (rg : Rg) (fuel : Nat) (assign body : Code) (p0 p1 : Nat) (fr : Fr) (n : Nat) (ok : Nat → Bool) (sl : Sc) (bx : Nat) (bs : List (BitVec 8)) (M : Nat → List (Option Blk)) : Prop where
  small : bs.length ≤ 100000
  round : ∀ j, j < bs.length / 16 → ∃ s1 s2, acodeG rg fuel assign ⟨roundFr fr p0 p1 bs j, n, M j, [], []⟩ = some (.normal, s1) ∧ acodeG rg fuel body s1 = some (.normal, s2) ∧ ObsOk s2.obs ∧
    (∀ i b, memL (M (j + 1)) i = some b → memL s2.mem i = some b)
  mem : ∀ j, j ≤ bs.length / 16 → memOk (M j) = true
  keep : ∀ j i, j ≤ bs.length / 16 → ok i = true → memL (M j) i ≠ none
  box : ∀ j, j ≤ bs.length / 16 → ∃ b, memL (M j) bx = some b ∧ getSc b.gs 0 = some sl
  data : ∀ j, j ≤ bs.length / 16 → bytesOf (memL (M j)) sl = some bs
  okbx : ok bx = true
  has : ∀ i, i < n → fr.has i = true
  p0 : p0 < n
  p1 : p1 < n

section
variable {G : Gl} {K : Cx} {π : Loc} {w0 w : World} {a : Act} {inl : Inl}

theorem slots_round {π' : Loc} {fr : Fr} {tmps : Array Value} {n p0 p1 : Nat} {bs : List (BitVec 8)} {j : Nat} (hs : ∀ i, (fr.get i).cv π' (tmps.getD i undef)) (hz : tmps.size = n) (hh : ∀ i, i < n → fr.has i = true)
    (h0 : p0 < n) (h1 : p1 < n) (hl : (part16 bs j).length = 16) :
    ∀ i, ((roundFr fr p0 p1 bs j).get i).cv π' (((tmps.setIfInBounds p0 (.int .i64 ((j + 1 : Nat) : Int))).setIfInBounds p1 (.agg ((part16 bs j).map v8).toArray)).getD i undef) := by
  intro i
  unfold roundFr
  rw [Fr.get_set _ _ _ _ (by rw [Fr.has_set]; exact hh _ h1)]
  by_cases e1 : i = p1
  · subst e1
    rw [if_pos rfl]
    have : (((tmps.setIfInBounds p0 (.int .i64 ((j + 1 : Nat) : Int))).setIfInBounds i (.agg ((part16 bs j).map v8).toArray)).getD i undef) = .agg ((part16 bs j).map v8).toArray := by
      simp [hz, h1]
    rw [this]
    exact ⟨_, rfl, _, [], by rw [List.append_nil], ⟨hl, rfl⟩, rfl⟩
  · rw [if_neg e1, Fr.get_set _ _ _ _ (hh _ h0)]
    by_cases e0 : i = p0
    · subst e0
      rw [if_pos rfl]
      have : (((tmps.setIfInBounds i (.int .i64 ((j + 1 : Nat) : Int))).setIfInBounds p1 (.agg ((part16 bs j).map v8).toArray)).getD i undef) = .int .i64 ((j + 1 : Nat) : Int) := by
        simp only [Array.getD_eq_getD_getElem?, Array.getElem?_setIfInBounds]
        rw [if_neg (Ne.symm e1)]
        simp [hz, h0]
      rw [this]
      exact rfl
    · rw [if_neg e0]
      have : (((tmps.setIfInBounds p0 (.int .i64 ((j + 1 : Nat) : Int))).setIfInBounds p1 (.agg ((part16 bs j).map v8).toArray)).getD i undef) = tmps.getD i undef := by
        simp only [Array.getD_eq_getD_getElem?, Array.getElem?_setIfInBounds]
        rw [if_neg (Ne.symm e1), if_neg (Ne.symm e0)]
      rw [this]; exact hs i

theorem fold_params (t : Array Value) (p0 p1 : Tmp) (x y : Value) : ((#[p0, p1] : Array Tmp).zip #[x, y]).foldl (fun tmps (t, a) => tmps.setIfInBounds t a) t = (t.setIfInBounds p0 x).setIfInBounds p1 y := by
  simp

theorem range_wp (hG : Good G K) (hi : InlOk K.P inl) {fuel fA : Nat} {g : Operand} {assign body : Code} {p0 p1 : Nat} {s : St} {ok : Nat → Bool} {sl : Sc} {bx : Nat} {bs : List (BitVec 8)} {M : Nat → List (Option Blk)}
    (hfA : enters K.P fA) (hA : AllOk K.P fA) (ev : RangeEv (rgL K inl fuel) fuel assign body p0 p1 (cleanFr ok s.fr) s.n ok sl bx bs M)
    (hg : evL s.fr g = .s (.fn fA [(bx, 0)])) (hM0 : ∀ i b, memL (M 0) i = some b → memL s.mem i = some b)
    (hR : RelS G π s.fs s.n w0 a w) (hbase : ∀ i p, G.base i = some p → ok i = true) {Q : Exit → Act → World → Prop}
    (hQ : ∀ D π' a' w', RelS { G with kw := none, ro := none, ds := { target := .collected D, args := #[] } :: G.ds } π' ⟨(cleanFr ok s.fr).get, memL (M (bs.length / 16))⟩ s.n w0 a' w' → w0.heap.size ≤ D →
      w'.heap[D]? = some (.deferred (some [])) → Q .normal a' w') :
    ∀ nf, 1 ≤ nf → (Code.rangeFunc g #[p0, p1] assign body).wpIn (fz none) nf K.P Q a w := by
  intro nf hnf
  obtain ⟨fnA, hfA1, hfA2, hfA3⟩ := hfA
  refine wpIn_rangeFunc ?_
  intro fn hfn
  have hsz : w0.heap.size ≤ w.heap.size := hR.mem.below.size
  -- the kept blocks' places
  obtain ⟨B, hB⟩ : ∃ B : Loc, B = fun i => if ok i = true then π i else none := ⟨_, rfl⟩
  have hBπ : ∀ i p, B i = some p → π i = some p ∧ ok i = true := by
    intro i p h; rw [hB] at h; simp only at h; split at h
    · rename_i ho; exact ⟨h, ho⟩
    · cases h
  have hBok : ∀ i, ok i = true → B i = π i := by intro i h; rw [hB]; simp [h]
  -- the iterator's value
  have hgv := hR.ev g
  simp only [St.fs] at hgv
  rw [← evL_evG, hg] at hgv
  obtain ⟨vs, hgv, hcap⟩ := hgv
  obtain ⟨pb, vr, hpb, rfl, hvr⟩ := hcap
  have hvr : vr = [] := hvr
  subst hvr
  have hBbx : B bx = some pb := by rw [hBok bx ev.okbx]; exact hpb
  obtain ⟨rec, hrec⟩ : ∃ rec : LoopState → Option Code → Loop, rec = fun st pe => { state := st, pending := pe, fn, tmps := a.tmps, params := #[p0, p1], assign, body, defers := w.heap.size } := ⟨_, rfl⟩
  obtain ⟨W1, hW1⟩ : ∃ W1, (w.alloc (.deferred (some []))).alloc (.loop (rec .ready none)) = W1 := ⟨_, rfl⟩
  have hL1 : W1.heap[w.heap.size + 1]? = some (.loop (rec .ready none)) := by
    rw [← hW1]; have := World.alloc_heap_new (w.alloc (.deferred (some []))) (.loop (rec .ready none)); rwa [World.size_alloc] at this
  have hK1 : W1.heap[w.heap.size]? = some (.deferred (some [])) := by
    rw [← hW1]; exact (Below.heap_alloc _ _ _ (by simp)).trans (World.alloc_heap_new w _)
  have hold1 : ∀ k, k < w.heap.size → W1.heap[k]? = w.heap[k]? := by
    intro k hk; rw [← hW1]
    exact (Below.heap_alloc _ _ _ (by simp; omega)).trans (Below.heap_alloc _ _ _ hk)
  have hb1 : Below w0.heap.size w0 W1 := by
    rw [← hW1]; exact (hR.mem.below.alloc hR.mem.below.size _).alloc (by simp; omega) _
  -- the invariant
  obtain ⟨J, hJ⟩ : ∃ J : Nat → World → Prop, J = fun j W => ∃ π', Rel { G with base := B, kw := none, ro := none, ds := [] } π' (memL (M j)) w0 W ∧ j ≤ bs.length / 16 ∧
      W.heap[w.heap.size + 1]? = some (.loop (rec .ready none)) ∧ W.heap[w.heap.size]? = some (.deferred (some [])) := ⟨_, rfl⟩
  have hslots : ∀ π', B.le π' → ∀ i, ((cleanFr ok s.fr).get i).cv π' (a.tmps.getD i undef) := by
    intro π' hle i
    obtain ⟨c1, c2⟩ := cleanFr_get ok s.fr i
    rcases c2 with c2 | c2
    · rw [c2]; exact True.intro
    · have hs := hR.slots i
      simp only [St.fs] at hs
      rw [← c2] at hs
      exact V.cv_mono hle (cv_keep (ok := ok) (π := π) (π' := B) hBok c1 hs)
  have hJ0 : J 0 W1 := by
    rw [hJ]
    have h1 := hR.mem.forget (B := B) hM0 (ev.mem 0 (Nat.zero_le _)) (fun i p hi => ⟨(hBπ i p hi).1, ev.keep 0 i (Nat.zero_le _) (hBπ i p hi).2⟩) none []
    refine ⟨_, h1.other (w' := W1) (fun k cs T fz hk => ?_) hb1 none (fun _ e => by cases e) none [], Nat.zero_le _, hL1, hK1⟩
    rw [hold1 k (Array.getElem?_eq_some_iff.1 hk).1]; exact hk
  refine ⟨w.heap.size + 1, [{ target := .collected w.heap.size, args := #[] }], W1, { target := .fn (.func fA) #[.pointer (some ⟨pb.n, pb.base + 0, none⟩)], args := #[.func (.yield (w.heap.size + 1)) #[] #[]] }, W1, fA,
    #[.func (.yield (w.heap.size + 1)) #[] #[]] ++ #[.pointer (some ⟨pb.n, pb.base + 0, none⟩)], W1, ?_, ?_, ?_, ?_, fun _ => hnf, ?_⟩
  · rw [← hW1, hrec]; exact run_enterLoop_outer _ _ _ _ _
  · simp only [resolve, hgv]
    simp [go_sem]
  · intro f' hf'; exact True.intro
  · have hn : ¬ fnA.body = none := by intro q; rw [q] at hfA2; cases hfA2
    have e3' : ¬ fnA.name = "runtime.NumGoroutine" := by simpa using hfA3
    simp [invoke, callFunc, hfA1, e3', hn]
  · refine (hA (nf - 1) (w.heap.size + 1) pb.n (pb.base + 0) bs J W1 ev.small ?_ ?_ hJ0).mono ?_
    · -- what the box and the bytes hold
      intro j W2 hj
      rw [hJ] at hj
      obtain ⟨π', hr, hjk, _, _⟩ := hj
      obtain ⟨b, hb, hsc⟩ := ev.box j hjk
      obtain ⟨p, vs, T, fz, e1, e2, _⟩ := hr.blk bx b hb
      have e3 := hr.base bx pb hBbx
      rw [e1] at e3; cases e3
      obtain ⟨v, hv1, hv2⟩ := getSc_cv e2.2.2.2 hsc
      refine ⟨v, ?_, bytesOf_at hr.mem (ev.data j hjk) hv2⟩
      have hv3 := cut_get hv1
      simp only [World.cell?, e2.1]
      simpa using hv3
    · -- a round
      intro nf' j W2 hjk hj
      rw [hJ] at hj
      obtain ⟨π', hr, _, hl, hk⟩ := hj
      have hlt : w.heap.size + 1 < W2.heap.size := (Array.getElem?_eq_some_iff.1 hl).1
      have hy := run_yield (P := K.P) (args := #[.int .i64 ((j + 1 : Nat) : Int), .agg ((part16 bs j).map v8).toArray]) hl (by rw [hrec]; rfl)
      rw [hrec] at hy
      obtain ⟨s1, s2, ev1, ev2, ev3, ev4⟩ := ev.round j hjk
      have hpl : (part16 bs j).length = 16 := by
        unfold part16
        rw [List.length_take, List.length_drop]
        omega
      refine ⟨fn, _, assign, body, hy, roundIn_of_wpIn (F := fz none) hfn ?_⟩
      have hok0 : (St.mk (roundFr (cleanFr ok s.fr) p0 p1 bs j) s.n (M j) [] []).ok := by
        intro i hi'
        show (roundFr _ _ _ _ _).has i = true
        unfold roundFr
        rw [Fr.has_set, Fr.has_set]; exact ev.has i hi'
      have hGx : ∀ kw r, Good { G with base := B, kw := kw, ro := r, ds := [] } K := fun _ _ => ⟨hG.env, hG.mixed⟩
      -- the assignment
      obtain ⟨f1, f2, f3⟩ := acodeG_wp (G := { G with base := B, kw := some W2, ro := some (w.heap.size + 1), ds := [] }) (w0 := w0) (rgOk_L (hGx _ _) hi) fuel assign _ _ _ hok0 ev1
      have f0' := fun (W3 : World) => acodeG_wp (G := { G with base := B, kw := some W3, ro := some (w.heap.size + 1), ds := [] }) (w0 := w0) (rgOk_L (hGx _ _) hi) fuel body _ _ _ f1 ev2
      have f3' := fun (W3 : World) => (f0' W3).2.2
      have hobs1 := ((f3' W2) ev3).1
      refine (f3 hobs1).2 _ π' _ W2 ?_ ?_ nf'
      · refine ⟨hr.other (fun _ _ _ _ h => h) hr.below (some W2) (fun w1 e => by cases e; exact Oth.refl _) _ _, rfl, ?_, ?_⟩
        · simp [hR.size]
        · intro i
          have := slots_round (hslots π' hr.base) hR.size ev.has ev.p0 ev.p1 hpl i
          rw [← fold_params] at this
          exact this
      · intro π1 a1 W3 hR1
        have hoth1 : Oth W2 W3 := hR1.mem.oth W2 rfl
        have hl3 : W3.heap[w.heap.size + 1]? = some (.loop (rec .ready none)) := hoth1.same _ _ hl (by intro _ _ _ q; cases q)
        have hk3 : W3.heap[w.heap.size]? = some (.deferred (some [])) := hoth1.same _ _ hk (by intro _ _ _ q; cases q)
        refine ⟨_, run_beginRound hl3 (by rw [hrec]), ?_⟩
        obtain ⟨W4, hW4⟩ : ∃ W4, W3.putObj (w.heap.size + 1) (.loop { rec .ready none with state := .busy }) = W4 := ⟨_, rfl⟩
        rw [hW4]
        have hlt3 : w.heap.size + 1 < W3.heap.size := (Array.getElem?_eq_some_iff.1 hl3).1
        have hl4 : W4.heap[w.heap.size + 1]? = some (.loop { rec .ready none with state := .busy }) := by rw [← hW4]; exact World.putObj_heap_same hlt3
        have hk4 : W4.heap[w.heap.size]? = some (.deferred (some [])) := by rw [← hW4]; exact (World.putObj_heap_other (by omega)).trans hk3
        have hb4 : Below w0.heap.size w0 W4 := by rw [← hW4]; exact putObj_below _ hR1.mem.below (by omega)
        refine ((f3' W4) ev3).2 _ π1 _ W4 ?_ ?_ nf'
        · refine ⟨?_, hR1.defers, hR1.size.trans f2.symm, hR1.slots⟩
          refine hR1.mem.other (fun k cs T fz hk' => ?_) hb4 (some W4) (fun w1 e => by cases e; exact Oth.refl _) _ _
          rw [← hW4]; exact putObj_cells _ hl3 (by intro _ _ _ q; cases q) k cs T fz hk'
        · intro π2 a2 W5 hR2
          have hoth2 : Oth W4 W5 := hR2.mem.oth W4 rfl
          have hl5 := hoth2.same _ _ hl4 (by intro _ _ _ q; cases q)
          have hk5 := hoth2.same _ _ hk4 (by intro _ _ _ q; cases q)
          have hend := run_endRound (P := K.P) none hl5
          refine ⟨_, _, hend, rfl, ?_⟩
          have hlt5 : w.heap.size + 1 < W5.heap.size := (Array.getElem?_eq_some_iff.1 hl5).1
          rw [hJ]
          have h1 := hR2.mem.forget (B := B) ev4 (ev.mem (j + 1) hjk) (fun i p hi' => ⟨hR2.mem.base i p hi', ev.keep (j + 1) i hjk (hBπ i p hi').2⟩) none []
          refine ⟨_, h1.other (fun k cs T fz hk' => ?_) ?_ none (fun _ e => by cases e) none [], hjk, ?_, ?_⟩
          · exact putObj_cells _ hl5 (by intro _ _ _ q; cases q) k cs T fz hk'
          · exact putObj_below _ hR2.mem.below (by omega)
          · have := World.putObj_heap_same (w := W5) (o := .loop { { rec .ready none with state := .busy } with state := if (none : Option Code).isNone then .ready else .done, pending := none }) hlt5
            rw [hrec] at this ⊢
            exact this
          · exact (World.putObj_heap_other (by omega)).trans hk5
    · -- behind the iterator
      rintro e W2 ⟨⟨v, rfl⟩, hj⟩
      rw [hJ] at hj
      obtain ⟨π', hr, _, hl, hk⟩ := hj
      refine ⟨none, _, by have := run_endLoop (P := K.P) hl (by rw [hrec]; simp); rw [hrec] at this; exact this, ?_⟩
      refine hQ w.heap.size π' _ _ ⟨?_, ?_, ?_, ?_⟩ hsz ((World.putObj_heap_other (by omega)).trans hk)
      · have h2 := hr.other (w' := W2.putObj (w.heap.size + 1) (.loop { rec .ready none with state := .exhausted })) (putObj_cells _ hl (by intro _ _ _ q; cases q)) (putObj_below _ hr.below (by omega)) none (fun _ e => by cases e) none ({ target := .collected w.heap.size, args := #[] } :: G.ds)
        rw [hrec] at h2
        refine ⟨h2.blk, h2.inj, h2.dom, h2.glob, h2.globOld, h2.below, fun i p hi' => h2.base i p ?_, fun _ e => by cases e⟩
        show B i = some p
        rw [hBok i (hbase i p hi')]; exact hR.mem.base i p hi'
      · simp [hR.defers]
      · exact hR.size
      · exact hslots π' hr.base
end
end
end Go.Mo


namespace Go.Mo
open Go Go.RowKit
noncomputable section

/-- The blocks that a callee is told of; some are not there. -/
def givenO : List (Option (List Seg)) → List (Option Blk)
  | [] => []
  | some gs :: r => some ⟨gs, false⟩ :: givenO r
  | none :: r => none :: givenO r

theorem givenO_get : ∀ (l : List (Option (List Seg))) (i : Nat), memL (givenO l) i = ((l[i]?).getD none).map (⟨·, false⟩)
  | [], i => by simp [givenO, memL_nil]
  | some gs :: r, 0 => by simp [givenO, memL_zero]
  | none :: r, 0 => by simp [givenO, memL_zero]
  | some gs :: r, i + 1 => by simp [givenO, memL_succ, givenO_get r i]
  | none :: r, i + 1 => by simp [givenO, memL_succ, givenO_get r i]

/-- The callee's block i: the caller's block σ i from the cell o i on. -/
def underW (π : Loc) (σ o : Nat → Nat) (cmem : List (Option (List Seg))) : Loc := fun i =>
  match (cmem[i]?).getD none with
  | some _ => (π (σ i)).map fun p => ⟨p.n, p.base + o i, p.z⟩
  | none => none

theorem underW_some {π : Loc} {σ o : Nat → Nat} {cmem : List (Option (List Seg))} {i : Nat} {gs : List Seg} (h : cmem[i]? = some (some gs)) : underW π σ o cmem i = (π (σ i)).map fun p => ⟨p.n, p.base + o i, p.z⟩ := by
  simp [underW, h]
theorem underW_none {π : Loc} {σ o : Nat → Nat} {cmem : List (Option (List Seg))} {i : Nat} (h : (cmem[i]?).getD none = none) : underW π σ o cmem i = none := by
  simp [underW, h]

/-- What the caller's memory must hold: the first k blocks whole, the others parts that name no block. -/
structure SeesW (σ o : Nat → Nat) (m : Nat → Option Blk) (cmem : List (Option (List Seg))) (k : Nat) : Prop where
  whole : ∀ i gs, i < k → cmem[i]? = some (some gs) → o i = 0 ∧ ∃ b, m (σ i) = some b ∧ b.gs = renSegs σ gs
  part : ∀ i gs, k ≤ i → cmem[i]? = some (some gs) → gs.all Seg.flat = true ∧ segsSize gs ≠ 0 ∧ ∃ b, m (σ i) = some b ∧ getSegs b.gs (o i) (segsSize gs) = some gs
  there : ∀ i, i < k → ∃ gs, cmem[i]? = some (some gs)
  names : ∀ i gs, i < k → cmem[i]? = some (some gs) → segsBelow (upTo k) gs = true

def newIdx (E : List Nat) (fresh i : Nat) : Nat := fresh + idx i E

section
variable {G : Gl} {K : Cx} {P : Program} {m : Nat → Option Blk}

theorem fits_calls {f : Nat} {args cargs : List V} {cmem : List (Option (List Seg))} {k : Nat} {v : V} {mem : List (Option Blk)} {E : List Nat} {gsl : List (List Seg)} (hent : enters P f)
    (hcall : ∀ (π0 : Loc) (w : World) (vargs : List Value), Rel { G with base := π0, ro := none, kw := none, ds := [] } π0 (memL (givenO cmem)) w w → argsCv π0 cargs vargs →
      Calls P f vargs.toArray w fun e w' => ∃ rv π', e = .returned rv ∧ v.cv π' rv ∧ Rel { G with base := π0, ro := none, kw := none, ds := [] } π' (memL mem) w w')
    (hE : E.map (memL mem) = newBlks gsl) (s6 : v.below (memB E) = true) (s7 : gsl.all (segsBelow (memB E)) = true) (s8 : nodupB E = true) {σ o : Nat → Nat} (hσ : SeesW σ o m cmem k) (fresh : Nat)
    (hargs : ∀ π w vargs, MemRel π m w → argsCv π args vargs → argsCv (underW π σ o cmem) cargs vargs) :
    Fits G P f args fresh m (v.ren (newIdx E fresh)) (gsl.map (renSegs (newIdx E fresh))) := by
  have hnd := nodupB_iff s8
  have hlen : gsl.length = E.length := by
    have := congrArg List.length hE
    have h2 : ∀ l, (newBlks l).length = l.length := by intro l; induction l with | nil => rfl | cons a l ih => simp [newBlks, ih]
    rw [h2] at this; simpa using this.symm
  have hblk : ∀ (j : Nat) (id : Nat) (gs : List Seg), E[j]? = some id → gsl[j]? = some gs → memL mem id = some ⟨gs, true⟩ := by
    intro j id gs h1 h2
    have := congrArg (·[j]?) hE
    simp only [List.getElem?_map, newBlks_get, h1, h2, Option.map_some, Option.some.injEq] at this
    exact this
  refine ⟨hent, fun π w vargs hm hlt hg ha hfr => ?_⟩
  -- the callee's view
  have hR : Rel { G with base := underW π σ o cmem, ro := none, kw := none, ds := [] } (underW π σ o cmem) (memL (givenO cmem)) w w := by
    refine ⟨?_, ?_, ?_, hg, hlt, Below.refl _ _, Loc.le_refl _, fun w1 e => by cases e⟩
    · intro i b hb
      rw [givenO_get] at hb
      obtain ⟨gs, hgs, rfl⟩ : ∃ gs, cmem[i]? = some (some gs) ∧ b = ⟨gs, false⟩ := by
        cases hq : cmem[i]? with
        | none => rw [hq] at hb; cases hb
        | some x => cases x with
          | none => rw [hq] at hb; cases hb
          | some gs => rw [hq] at hb; exact ⟨gs, rfl, (Option.some.inj hb).symm⟩
      by_cases hk : i < k
      · obtain ⟨ho, b', hb', e⟩ := hσ.whole i gs hk hgs
        obtain ⟨p, vs, T, fz, e1, e2⟩ := hm _ _ hb'
        refine ⟨⟨p.n, p.base + o i, p.z⟩, vs, T, fz, by rw [underW_some hgs, e1]; rfl, ?_, fun q => by cases q⟩
        rw [e] at e2
        obtain ⟨a1, a2, a3, a4⟩ := e2
        rw [ren_size] at a3 a4
        rw [ho]
        refine ⟨a1, a2, a3, (ren_segs (ok := upTo k) (fun j q hj => ?_) (hσ.names i gs hk hgs)).2 a4⟩
        have hj := upTo_lt hj
        obtain ⟨gs', hgs'⟩ := hσ.there j hj
        rw [underW_some hgs', (hσ.whole j gs' hj hgs').1]
        cases π (σ j) <;> simp
      · obtain ⟨h1, h2, b', hb', hg'⟩ := hσ.part i gs (by omega) hgs
        obtain ⟨p, vs, T, fz, e1, e2⟩ := hm _ _ hb'
        refine ⟨⟨p.n, p.base + o i, p.z⟩, vs, T, fz, by rw [underW_some hgs, e1]; rfl, ?_, fun q => by cases q⟩
        obtain ⟨g1, g2⟩ := getSegs_cv e2.2.2.2 hg'
        have hcl : (cut p (segsSize b'.gs) vs).length = segsSize b'.gs := cut_length (by have := e2.2.1; have := e2.2.2.1; omega)
        rw [hcl] at g1
        have g1' : o i + segsSize gs ≤ segsSize b'.gs := by rcases g1 with q | q; exact absurd q h2; exact q
        refine ⟨e2.1, e2.2.1, by have := e2.2.2.1; show p.base + o i + segsSize gs ≤ p.z; omega, ?_⟩
        have hq : (List.drop (o i) (cut p (segsSize b'.gs) vs)).take (segsSize gs) = cut ⟨p.n, p.base + o i, p.z⟩ (segsSize gs) vs := by
          rw [cut_drop, cut_less (by omega)]
        rw [hq] at g2
        exact flat_cv h1 g2
    · intro i j p q bi bj _ hi _ _ _ _ hwr
      rw [givenO_get, Option.map_eq_some_iff] at hi
      obtain ⟨gs, _, rfl⟩ := hi
      cases hwr
    · intro i hi
      rw [givenO_get, Option.map_eq_none_iff] at hi
      exact underW_none hi
  refine (hcall _ w vargs hR (hargs π w vargs hm ha)).mono ?_
  rintro e w' ⟨rv, π', rfl, hcv, hR'⟩
  have hpl : ∀ j, j < E.length → ∃ p, ∃ gs, gsl[j]? = some gs ∧ π' (E.getD j 0) = some p ∧ w.heap.size ≤ p.n ∧ ∃ vs T, Holds π' p gs w' vs T (0, 0) := by
    intro j hj
    have h1 : E[j]? = some (E.getD j 0) := by simp [List.getD, hj]
    have h2 : gsl[j]? = some gsl[j] := by simp [hlen, hj]
    obtain ⟨p, vs, T, fz, e1, e2, e3⟩ := hR'.blk _ _ (hblk j _ _ h1 h2)
    obtain ⟨rfl, h3⟩ := e3 rfl
    exact ⟨p, _, h2, e1, h3, vs, T, e2⟩
  let pl : Nat → Pl := fun i => (π' i).getD ⟨0, 0, 0⟩
  have hpl' : ∀ j, j < E.length → π' (E.getD j 0) = some (pl (E.getD j 0)) := by
    intro j hj
    obtain ⟨p, gs, _, h2, _⟩ := hpl j hj
    simp only [pl, h2, Option.getD_some]
  have hns : ∀ j (h : j < E.length), (E.map pl)[j]? = some (pl (E.getD j 0)) := by
    intro j h; simp [List.getD, h]
  have hren : ∀ i p, memB E i = true → (π' i = some p ↔ ext π fresh (E.map pl) (newIdx E fresh i) = some p) := by
    intro i p hi
    unfold newIdx
    have hmem := memB_iff.1 hi
    have hget := idx_mem hmem
    have hlt' : idx i E < E.length := (List.getElem?_eq_some_iff.1 hget).1
    rw [ext_spec, if_pos (by simp; omega), Nat.add_sub_cancel_left, hns _ hlt']
    have hgd : E.getD (idx i E) 0 = i := by simp [List.getD, hget]
    rw [hgd]
    have := hpl' _ hlt'
    rw [hgd] at this
    rw [this]
  refine ⟨rv, E.map pl, rfl, ⟨by simp [hlen], ?_, ?_, hR'.below, (ren_v hren s6).1 hcv, ?_⟩⟩
  · rw [List.map_map, List.Nodup, List.pairwise_iff_getElem]
    intro i j hi hj hij
    simp only [List.length_map] at hi hj
    simp only [List.getElem_map, Function.comp]
    intro heq
    obtain ⟨p, gs, g1, g2, _, _⟩ := hpl i hi
    obtain ⟨q, hs', k1, k2, _, _⟩ := hpl j hj
    have e1 : E[i]? = some (E.getD i 0) := by simp [List.getD, hi]
    have e2 : E[j]? = some (E.getD j 0) := by simp [List.getD, hj]
    have e3 : E.getD i 0 = E[i] := by simp [List.getD, hi]
    have e4 : E.getD j 0 = E[j] := by simp [List.getD, hj]
    have hne : E.getD i 0 ≠ E.getD j 0 := by
      rw [e3, e4]
      intro q
      have e5 : E[i]? = E[j]? := by rw [List.getElem?_eq_getElem hi, List.getElem?_eq_getElem hj, q]
      have e6 : i = j := (List.getElem?_inj hi hnd).1 e5
      omega
    have heq' : p.n = q.n := by
      have a1 : pl E[i] = p := by rw [← e3]; simp only [pl, g2, Option.getD_some]
      have a2 : pl E[j] = q := by rw [← e4]; simp only [pl, k2, Option.getD_some]
      rw [a1, a2] at heq; exact heq
    have := (hR'.inj _ _ p q _ _ hne (hblk i _ _ e1 g1) (hblk j _ _ e2 k1) g2 k2 heq' rfl).2
    cases this
  · intro p hp'
    obtain ⟨id, hid, rfl⟩ := List.mem_map.1 hp'
    obtain ⟨j, hj, rfl⟩ := List.getElem_of_mem hid
    obtain ⟨p, gs, _, g2, g3, _⟩ := hpl j hj
    have e3 : E.getD j 0 = E[j] := by simp [List.getD, hj]
    rw [e3] at g2
    simp [pl, g2, g3]
  · intro j p gs hj hg'
    rw [List.getElem?_map, Option.map_eq_some_iff] at hg'
    obtain ⟨gs0, hgs0, rfl⟩ := hg'
    have hjl : j < E.length := by rw [← hlen]; exact (List.getElem?_eq_some_iff.1 hgs0).1
    rw [hns j hjl] at hj
    cases hj
    obtain ⟨p, gs1, g1, g2, _, vs, T, hh⟩ := hpl j hjl
    rw [hgs0] at g1; cases g1
    have hpe : pl (E.getD j 0) = p := by simp only [pl, g2, Option.getD_some]
    rw [hpe]
    obtain ⟨a1, a2, a3, a4⟩ := hh
    refine ⟨vs, T, a1, a2, by rw [ren_size]; exact a3, ?_⟩
    rw [ren_size]
    exact (ren_segs hren (List.all_eq_true.1 s7 _ (List.mem_of_getElem? hgs0))).1 a4
end

/-! ### Functions over any evaluator of regions -/

def afuncG (K : Cx) (rg : Rg) (fuel : Nat) (fn : Func) (args : List V) (mem : List (Option Blk)) (orc : List (Option Bool)) : Option (V × St) :=
  match fn.body with
  | none => none
  | some c =>
    match acodeG rg fuel c { fr := (Fr.full 12 fn.ntmps).ofArgs 0 args, n := fn.ntmps, mem, orc, obs := [] } with
    | some (.normal, s) => match aresults K s fn.results.toList with | some v => some (v, s) | none => none
    | some (.ret, s) => match aresults K s fn.results.toList with | some v => some (v, s) | none => none
    | _ => none

/-- The evaluation's answer: the value, what was taken for granted, the new blocks E. -/
def evalG (K : Cx) (rg : Rg) (fuel : Nat) (fn : Func) (cargs : List V) (cmem : List (Option (List Seg))) (orc : List (Option Bool)) (E : List Nat) : Option (V × List (Bool × Bool) × List (Option Blk)) :=
  match afuncG K rg fuel fn cargs (givenO cmem) orc with
  | some (v, s) => some (v, s.obs, E.map (memL s.mem))
  | none => none

/-- What is to be looked at beside the evaluation. -/
def sideG (fn : Func) (cargs : List V) (v : V) (E : List Nat) (gsl : List (List Seg)) : Bool :=
  !(fn.name == "runtime.NumGoroutine") && (Nat.ble cargs.length fn.ntmps && (Nat.ble (fn.ntmps + 1) 4096 && (v.below (memB E) && ((gsl.all (segsBelow (memB E))) && nodupB E))))

section
variable {G : Gl} {K : Cx} {m : Nat → Option Blk}

theorem fitsG (hG : Good G K) {inl : Inl} (hi : InlOk K.P inl) {f : Nat} {fn : Func} (fuel fuel' : Nat) (cargs : List V) (cmem : List (Option (List Seg))) (k : Nat) (orc : List (Option Bool)) {v : V} {obs : List (Bool × Bool)} (E : List Nat) {gsl : List (List Seg)}
    (hf : K.P.funcs[f]? = some fn) (he : evalG K (rgL K inl fuel') fuel fn cargs cmem orc E = some (v, obs, newBlks gsl)) (hobs : ObsOk obs) (hs : sideG fn cargs v E gsl = true) {σ o : Nat → Nat} (hσ : SeesW σ o m cmem k) (fresh : Nat)
    {args : List V} (hargs : ∀ π w vargs, MemRel π m w → argsCv π args vargs → argsCv (underW π σ o cmem) cargs vargs) {v' : V} {news : List (List Seg)}
    (hv : v.ren (newIdx E fresh) = v') (hn : gsl.map (renSegs (newIdx E fresh)) = news) : Fits G K.P f args fresh m v' news := by
  subst hv; subst hn
  unfold evalG at he
  split at he
  · rename_i v1 s' hev
    simp only [Option.some.injEq, Prod.mk.injEq] at he
    obtain ⟨rfl, rfl, hE⟩ := he
    simp only [sideG, Bool.and_eq_true, Bool.not_eq_true'] at hs
    obtain ⟨s1, s2, s3, s4, s5, s6⟩ := hs
    have h1 := Nat.le_of_ble_eq_true s2
    have h2 : fn.ntmps < 4096 := Nat.le_of_ble_eq_true s3
    unfold afuncG at hev
    split at hev
    · cases hev
    · rename_i c hb
      refine fits_calls (mem := s'.mem) (E := E) (gsl := gsl) ⟨fn, hf, by rw [hb]; rfl, s1⟩ (fun π0 w vargs hR ha => ?_) hE s4 s5 s6 hσ fresh hargs
      have hinit := relS_init hR ha h1 h2 rfl
      have hok : (St.mk ((Fr.full 12 fn.ntmps).ofArgs 0 cargs) fn.ntmps (givenO cmem) orc []).ok := fun i hi => by
        show (Fr.ofArgs _ _ _).has i = true
        rw [ofArgs_has]; exact Fr.full_has 12 fn.ntmps i (by simpa using h2) hi
      have hGx : Good { G with base := π0, ro := none, kw := none, ds := [] } K := ⟨hG.env, hG.mixed⟩
      refine calls_of_wp hf hb ?_
      split at hev
      · rename_i s1 hc
        split at hev
        · rename_i v' hv
          cases hev
          obtain ⟨e1, e2, e3⟩ := acodeG_wp (G := { G with base := π0, ro := none, kw := none, ds := [] }) (w0 := w) (rgOk_L hGx hi) fuel c _ _ _ hok hc
          refine wpIn_wide.1 (?_ : c.wpIn (fz none) 0 K.P _ _ _)
          refine (e3 hobs).2 _ π0 _ w hinit (fun π' a' w' hR' => ?_) 0
          obtain ⟨rv, hrv, hcv⟩ := aresults_run hR' hv
          exact ⟨hR'.defers, rv, hrv, rv, π', rfl, hcv, hR'.mem⟩
        · cases hev
      · rename_i s1 hc
        split at hev
        · rename_i v' hv
          cases hev
          obtain ⟨e1, e2, e3⟩ := acodeG_wp (G := { G with base := π0, ro := none, kw := none, ds := [] }) (w0 := w) (rgOk_L hGx hi) fuel c _ _ _ hok hc
          refine wpIn_wide.1 (?_ : c.wpIn (fz none) 0 K.P _ _ _)
          refine (e3 hobs).2 _ π0 _ w hinit (fun π' a' w' hR' => ?_) 0
          obtain ⟨rv, hrv, hcv⟩ := aresults_run hR' hv
          exact ⟨hR'.defers, rv, hrv, rv, π', rfl, hcv, hR'.mem⟩
        · cases hev
      · cases hev
  · cases he

/-! ### A function that ranges over blocks -/

def runHeadsG (rg : Rg) (fuel : Nat) : Nat → Code → St → Option St
  | 0, _, s => some s
  | n + 1, .seq a b, s => match acodeG rg fuel a s with | some (.normal, s') => runHeadsG rg fuel n b s' | _ => none
  | _ + 1, _, _ => none

theorem headsG_wp {w0 : World} {rg : Rg} (hG : RgOk G K w0 rg) {fuel : Nat} : ∀ (p : Nat) {c : Code} {s s' : St}, s.ok → runHeadsG rg fuel p c s = some s' → s'.ok ∧ s'.n = s.n ∧ (ObsOk s'.obs → ObsOk s.obs ∧
    ∀ (Q : Exit → Act → World → Prop) (π : Loc) (a : Act) (w : World), RelS G π s.fs s.n w0 a w → ∀ nf, (∀ π' a' w', RelS G π' s'.fs s.n w0 a' w' → (tl p c).wpIn (fz G.ro) nf K.P Q a' w') → c.wpIn (fz G.ro) nf K.P Q a w)
  | 0, c, s, s', hs, h => by
    cases h
    exact ⟨hs, rfl, fun hobs => ⟨hobs, fun Q π a w hR nf hk => hk π a w hR⟩⟩
  | p + 1, .seq a b, s, s', hs, h => by
    simp only [runHeadsG] at h
    split at h
    · rename_i s1 h1
      obtain ⟨e1, e2, e3⟩ := acodeG_wp hG fuel a s _ s1 hs h1
      obtain ⟨f1, f2, f3⟩ := headsG_wp hG p e1 h
      refine ⟨f1, f2.trans e2, fun hobs => ?_⟩
      obtain ⟨g1, g2⟩ := f3 hobs
      obtain ⟨g3, g4⟩ := e3 g1
      refine ⟨g3, fun Q π a0 w hR nf hk => ?_⟩
      refine wpIn_seq (g4 _ π a0 w hR (fun π' a' w' hR' => ?_) nf)
      exact g2 Q π' a' w' (e2 ▸ hR') nf (fun π'' a'' w'' hR'' => hk π'' a'' w'' (by rw [e2] at hR''; exact hR''))
    · cases h
  | p + 1, .skip, s, s', hs, h => by cases h
  | p + 1, .region .., s, s', hs, h => by cases h
  | p + 1, .block .., s, s', hs, h => by cases h
  | p + 1, .loop .., s, s', hs, h => by cases h
  | p + 1, .scope .., s, s', hs, h => by cases h
  | p + 1, .cond .., s, s', hs, h => by cases h
  | p + 1, .exit .., s, s', hs, h => by cases h
  | p + 1, .ret, s, s', hs, h => by cases h
  | p + 1, .label .., s, s', hs, h => by cases h
  | p + 1, .goto .., s, s', hs, h => by cases h
  | p + 1, .rangeFunc .., s, s', hs, h => by cases h

/-- The memory less some blocks, and less what lies behind. -/
def dropM : List Nat → List (Option Blk) → List (Option Blk)
  | [], mem => mem
  | d :: r, mem => dropM r (mem.set d none)
def cutM (ds : List Nat) (n : Nat) (mem : List (Option Blk)) : List (Option Blk) := (dropM ds mem).take n

theorem memL_get (mem : List (Option Blk)) (i : Nat) : memL mem i = (mem[i]?).getD none := by
  unfold memL; rw [getL_getD]; simp [List.getD]

theorem dropM_sub : ∀ (ds : List Nat) (mem : List (Option Blk)) (i : Nat) (b : Blk), memL (dropM ds mem) i = some b → memL mem i = some b
  | [], _, _, _, h => h
  | d :: r, mem, i, b, h => by
    have := dropM_sub r _ i b h
    rw [memL_get] at this ⊢
    rw [List.getElem?_set] at this
    by_cases e : d = i
    · subst e
      rw [if_pos rfl] at this
      split at this <;> cases this
    · rw [if_neg e] at this; exact this

theorem cutM_sub {ds : List Nat} {n : Nat} {mem : List (Option Blk)} {i : Nat} {b : Blk} (h : memL (cutM ds n mem) i = some b) : memL mem i = some b := by
  unfold cutM at h
  refine dropM_sub ds mem i b ?_
  rw [memL_get] at h ⊢
  rw [List.getElem?_take] at h
  split at h
  · exact h
  · cases h

/-- One round, reckoned. -/
def roundG (rg : Rg) (fuel : Nat) (assign body : Code) (p0 p1 : Nat) (fr : Fr) (n : Nat) (bs : List (BitVec 8)) (j : Nat) (mem : List (Option Blk)) (ds : List Nat) (z : Nat) : Option (List (Bool × Bool) × List (Option Blk)) :=
  match acodeG rg fuel assign ⟨roundFr fr p0 p1 bs j, n, mem, [], []⟩ with
  | some (.normal, s1) => match acodeG rg fuel body s1 with | some (.normal, s2) => some (s2.obs, cutM ds z s2.mem) | _ => none
  | _ => none

theorem roundG_some {rg : Rg} {fuel : Nat} {assign body : Code} {p0 p1 : Nat} {fr : Fr} {n : Nat} {bs : List (BitVec 8)} {j : Nat} {mem mem' : List (Option Blk)} {ds : List Nat} {z : Nat}
    (h : roundG rg fuel assign body p0 p1 fr n bs j mem ds z = some ([], mem')) :
    ∃ s1 s2, acodeG rg fuel assign ⟨roundFr fr p0 p1 bs j, n, mem, [], []⟩ = some (.normal, s1) ∧ acodeG rg fuel body s1 = some (.normal, s2) ∧ ObsOk s2.obs ∧ (∀ i b, memL mem' i = some b → memL s2.mem i = some b) := by
  unfold roundG at h
  split at h
  · rename_i s1 h1
    split at h
    · rename_i s2 h2
      simp only [Option.some.injEq, Prod.mk.injEq] at h
      obtain ⟨h3, rfl⟩ := h
      exact ⟨s1, s2, h1, h2, (by rw [h3]; intro p hp; cases hp), fun i b => cutM_sub⟩
    · cases h
  · cases h

/-- What can be looked at of the memory between two rounds. -/
def statM (L : List Nat) (mem : List (Option Blk)) : Bool :=
  memOk mem && (L.all fun i => (memL mem i).isSome)

theorem range_calls (hG : Good G K) {inl : Inl} (hi : InlOk K.P inl) {f fA : Nat} {fn : Func} {fuel fuel' : Nat} {cargs : List V} {cmem : List (Option (List Seg))} {orc : List (Option Bool)} {c : Code} (p : Nat) {id : Nat} {g : Operand} {assign body r t : Code} {p0 p1 : Nat} {sA s : St}
    {L : List Nat} {sl : Sc} {bx : Nat} {bs : List (BitVec 8)} {M : Nat → List (Option Blk)} {x : Ex} {sF : St} {v : V}
    (hf : K.P.funcs[f]? = some fn) (hb : fn.body = some c) (h1 : cargs.length ≤ fn.ntmps) (h2 : fn.ntmps < 4096)
    (hc : tl p c = .seq (.seq r (.block id (.rangeFunc g #[p0, p1] assign body))) t)
    (hA : runHeadsG (rgL K inl fuel') fuel p c (St.mk ((Fr.full 12 fn.ntmps).ofArgs 0 cargs) fn.ntmps (givenO cmem) orc []) = some sA)
    (hr : acodeG (rgL K inl fuel') fuel r sA = some (.normal, s))
    (hfA : enters K.P fA) (hAll : AllOk K.P fA) (ev : RangeEv (rgL K inl fuel') fuel' assign body p0 p1 (cleanFr (memB L) s.fr) s.n (memB L) sl bx bs M)
    (hg : evL s.fr g = .s (.fn fA [(bx, 0)])) (hM0 : ∀ i b, memL (M 0) i = some b → memL s.mem i = some b) (hL : ∀ i, memL (givenO cmem) i ≠ none → memB L i = true)
    (ht : acodeG (rgL K inl fuel') fuel t ⟨cleanFr (memB L) s.fr, s.n, M (bs.length / 16), s.orc, s.obs⟩ = some (x, sF)) (hx : x = .normal ∨ x = .ret)
    (hv : aresults K sF fn.results.toList = some v) (hobs : ObsOk sF.obs) (π0 : Loc) (w : World) (vargs : List Value)
    (hR : Rel { G with base := π0, ro := none, kw := none, ds := [] } π0 (memL (givenO cmem)) w w) (ha : argsCv π0 cargs vargs) :
    Calls K.P f vargs.toArray w fun e w' => ∃ rv π', e = .returned rv ∧ v.cv π' rv ∧ Rel { G with base := π0, ro := none, kw := none, ds := [] } π' (memL sF.mem) w w' := by
  have hinit := relS_init hR ha h1 h2 rfl
  have hok : (St.mk ((Fr.full 12 fn.ntmps).ofArgs 0 cargs) fn.ntmps (givenO cmem) orc []).ok := fun i hi => by
    show (Fr.ofArgs _ _ _).has i = true
    rw [ofArgs_has]; exact Fr.full_has 12 fn.ntmps i (by simpa using h2) hi
  have hGx : ∀ kw ds, Good { G with base := π0, ro := none, kw := kw, ds := ds } K := fun _ _ => ⟨hG.env, hG.mixed⟩
  obtain ⟨a1, a2, a3⟩ := headsG_wp (G := { G with base := π0, ro := none, kw := none, ds := [] }) (w0 := w) (rgOk_L (hGx _ _) hi) p hok hA
  obtain ⟨b1, b2, b3⟩ := acodeG_wp (G := { G with base := π0, ro := none, kw := none, ds := [] }) (w0 := w) (rgOk_L (hGx _ _) hi) fuel r _ _ _ a1 hr
  have hokE : (St.mk (cleanFr (memB L) s.fr) s.n (M (bs.length / 16)) s.orc s.obs).ok := ev.has
  have c0 := fun (kw : Option World) (ds : List Deferred) => acodeG_wp (G := { G with base := π0, ro := none, kw := kw, ds := ds }) (w0 := w) (rgOk_L (hGx kw ds) hi) fuel t _ _ _ hokE ht
  have hobsE : ObsOk s.obs := ((c0 none []).2.2 hobs).1
  have hobsA := (b3 hobsE).1
  refine callsIn_wide.1 (callsIn_of_wp_marks (F := Fence.wide) (n := 1) hf hb True.intro ?_)
  refine (a3 hobsA).2 _ π0 _ w hinit 1 (fun π1 a1' w1 hR1 => ?_)
  rw [hc]
  refine wpIn_seq (wpIn_seq ((b3 hobsE).2 _ π1 a1' w1 (a2 ▸ hR1) (fun π2 a2' w2 hR2 => ?_) 1))
  refine wpIn_block ?_
  rw [b2.symm] at hR2
  refine range_wp (G := { G with base := π0, ro := none, kw := none, ds := [] }) (hGx _ _) hi hfA hAll ev hg hM0 hR2 (fun i q hq => ?_) (fun D π3 a3' w3 hR3 hD hk => ?_) 1 (Nat.le_refl _)
  · refine hL i fun e => ?_
    have hq : π0 i = some q := hq
    have := hR.dom i e
    rw [this] at hq; cases hq
  · -- behind the loop
    show (t.wpIn (fz none) 1 K.P _ a3' w3)
    have hR3' : RelS { G with base := π0, ro := none, kw := some w3, ds := [{ target := .collected D, args := #[] }] } π3 ⟨(cleanFr (memB L) s.fr).get, memL (M (bs.length / 16))⟩ s.n w a3' w3 :=
      ⟨hR3.mem.other (fun _ _ _ _ h => h) hR3.mem.below (some w3) (fun w1 e => by cases e; exact Oth.refl _) _ _, hR3.defers, hR3.size, hR3.slots⟩
    obtain ⟨d1, d2, d3⟩ := c0 (some w3) [{ target := .collected D, args := #[] }]
    have fin : ∀ π' a' w', RelS { G with base := π0, ro := none, kw := some w3, ds := [{ target := .collected D, args := #[] }] } π' sF.fs s.n w a' w' →
        LeavesInM Fence.wide 1 K.P fn a'.tmps (fun e w' => ∃ rv π', e = .returned rv ∧ v.cv π' rv ∧ Rel { G with base := π0, ro := none, kw := none, ds := [] } π' (memL sF.mem) w w') a'.defers .returning w' := by
      intro π' a' w' hR'
      have hoth : Oth w3 w' := hR'.mem.oth w3 rfl
      have hk' := hoth.same D _ hk (by intro _ _ _ q; cases q)
      rw [hR'.defers]
      refine ⟨by simp, .inl ⟨D, _, rfl, run_takeDeferred hk', ?_⟩⟩
      have hR4 : RelS { G with base := π0, ro := none, kw := none, ds := [{ target := .collected D, args := #[] }] } π' sF.fs s.n w a' (w'.putObj D (.deferred none)) :=
        ⟨hR'.mem.other (putObj_cells _ hk' (by intro _ _ _ q; cases q)) (putObj_below _ hR'.mem.below hD) none (fun _ e => by cases e) _ _, hR'.defers, hR'.size, hR'.slots⟩
      obtain ⟨rv, hrv, hcv⟩ := aresults_run hR4 hv
      exact ⟨rv, hrv, rv, π', rfl, hcv, hR4.mem.other (fun _ _ _ _ h => h) hR4.mem.below none (fun _ e => by cases e) _ _⟩
    refine (d3 hobs).2 _ π3 a3' w3 hR3' (fun π' a' w' hR' => ?_) 1
    rcases hx with rfl | rfl
    · exact fin π' a' w' hR'
    · exact fin π' a' w' hR'
end
end
end Go.Mo

