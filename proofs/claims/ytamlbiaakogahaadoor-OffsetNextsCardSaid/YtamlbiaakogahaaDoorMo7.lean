/- The abstract evaluator, part 7: calls; every operation; contracts. -/
import Derived.Test.YtamlbiaakogahaaDoorMoA
namespace Go.Mo
open Go Go.RowKit

def ext (π : Loc) (fresh : Nat) : List Pl → Loc
  | [] => π
  | n :: ns => ext (updL π fresh n) (fresh + 1) ns

theorem ext_spec : ∀ (ns : List Pl) (π : Loc) (fresh i : Nat), ext π fresh ns i = if fresh ≤ i ∧ i < fresh + ns.length then ns[i - fresh]? else π i
  | [], π, fresh, i => by
    simp only [ext, List.length_nil]
    rw [if_neg (by omega)]
  | n :: ns, π, fresh, i => by
    simp only [ext, List.length_cons]
    rw [ext_spec ns]
    by_cases h : i = fresh
    · subst h
      rw [if_neg (by omega), if_pos (by omega)]
      simp [updL]
    · by_cases h2 : fresh + 1 ≤ i ∧ i < fresh + 1 + ns.length
      · rw [if_pos h2, if_pos (by omega), show i - fresh = (i - (fresh + 1)) + 1 by omega]
        rfl
      · rw [if_neg h2, if_neg (by omega)]
        simp [updL, h]

theorem newsM_spec : ∀ (ns : List (List Seg)) (m : Nat → Option Blk) (fresh i : Nat),
    newsM m fresh ns i = if fresh ≤ i ∧ i < fresh + ns.length then (ns[i - fresh]?).map (⟨·, true⟩) else m i
  | [], m, fresh, i => by
    simp only [newsM, List.length_nil]
    rw [if_neg (by omega)]
  | n :: ns, m, fresh, i => by
    simp only [newsM, List.length_cons]
    rw [newsM_spec ns]
    by_cases h : i = fresh
    · subst h
      rw [if_neg (by omega), if_pos (by omega)]
      simp [updM]
    · by_cases h2 : fresh + 1 ≤ i ∧ i < fresh + 1 + ns.length
      · rw [if_pos h2, if_pos (by omega), show i - fresh = (i - (fresh + 1)) + 1 by omega]
        rfl
      · rw [if_neg h2, if_neg (by omega)]
        simp [updM, h]

/-- What the blocks that a call was told of hold. -/
def MemRel (π : Loc) (m : Nat → Option Blk) (w : World) : Prop :=
  ∀ i b, m i = some b → ∃ p vs T fz, π i = some p ∧ Holds π p b.gs w vs T fz

/-- What a call leaves behind: its value, new blocks, all that was there as it was. -/
structure Post (π : Loc) (fresh : Nat) (v : V) (news : List (List Seg)) (w w' : World) (rv : Value) (ns : List Pl) : Prop where
  len : ns.length = news.length
  nodup : (ns.map (·.n)).Nodup
  new : ∀ p ∈ ns, w.heap.size ≤ p.n
  below : Below w.heap.size w w'
  cv : v.cv (ext π fresh ns) rv
  blk : ∀ (j : Nat) (p : Pl) (gs : List Seg), ns[j]? = some p → news[j]? = some gs → ∃ (vs : List Value) (T : TypeId), Holds (ext π fresh ns) p gs w' vs T (0, 0)

def argsCv (π : Loc) : List V → List Value → Prop
  | [], vs => vs = []
  | a :: r, vs => ∃ v vr, vs = v :: vr ∧ a.cv π v ∧ argsCv π r vr

def enters (P : Program) (f : Nat) : Prop := ∃ fn, P.funcs[f]? = some fn ∧ fn.body.isSome = true ∧ (fn.name == "runtime.NumGoroutine") = false

/-- The contract: function f, called with these arguments where the memory reads as m, hands back v and the new blocks. -/
def Fits (G : Gl) (P : Program) (f : Nat) (args : List V) (fresh : Nat) (m : Nat → Option Blk) (v : V) (news : List (List Seg)) : Prop :=
  enters P f ∧ ∀ (π : Loc) (w : World) (vargs : List Value), MemRel π m w → G.g < w.heap.size → w.heap[G.g]? = some G.obj → argsCv π args vargs → (∀ j, j < news.length → π (fresh + j) = none) →
    Calls P f vargs.toArray w (fun e w' => ∃ rv ns, e = .returned rv ∧ Post π fresh v news w w' rv ns)

def EnvOk (G : Gl) (K : Cx) : Prop :=
  ∀ f args fresh m v news fp, (K.env f args fresh).run m = some ((v, news), fp) → ObsOk (K.obl f args) → Fits G K.P f args fresh m v news

section
variable {G : Gl} {K : Cx} {π : Loc} {m : Nat → Option Blk} {w0 w : World} {fresh : Nat} {out : Out} {fp : List Nat} {P : Program}

theorem Rel.mem (h : Rel G π m w0 w) : MemRel π m w := fun i b hi =>
  let ⟨p, vs, T, fz, e1, e2, _⟩ := h.blk i b hi
  ⟨p, vs, T, fz, e1, e2⟩

theorem Rel.call {v : V} {news : List (List Seg)} {w' : World} {rv : Value} {ns : List Pl} (h : Rel G π m w0 w) (hf : ∀ j, j < news.length → m (fresh + j) = none)
    (hp : Post π fresh v news w w' rv ns) : π.le (ext π fresh ns) ∧ Rel G (ext π fresh ns) (newsM m fresh news) w0 w' := by
  have hle : π.le (ext π fresh ns) := by
    intro i n hi
    rw [ext_spec]
    split
    · rename_i hc
      have := h.dom i (by have := hf (i - fresh) (by rw [← hp.len]; omega); rwa [show fresh + (i - fresh) = i by omega] at this)
      rw [hi] at this; cases this
    · exact hi
  have hold : ∀ n, n < w.heap.size → w'.heap[n]? = w.heap[n]? := fun n hn => hp.below.block n hn
  have hinside : ∀ i p, fresh ≤ i ∧ i < fresh + ns.length → ext π fresh ns i = some p → ns[i - fresh]? = some p ∧ w.heap.size ≤ p.n := by
    intro i p hi he
    rw [ext_spec, if_pos hi] at he
    exact ⟨he, hp.new p (List.mem_of_getElem? he)⟩
  have hout : ∀ i p, ¬ (fresh ≤ i ∧ i < fresh + ns.length) → ext π fresh ns i = some p → π i = some p ∧ p.n < w.heap.size := by
    intro i p hi he
    rw [ext_spec, if_neg hi] at he
    exact ⟨he, h.lt he⟩
  have hb : Below w0.heap.size w0 w' := h.below.trans (hp.below.mono h.below.size)
  refine ⟨hle, ⟨?_, ?_, ?_, ?_, h.globOld, hb, Loc.le_trans h.base hle⟩⟩
  · intro i b hi
    rw [newsM_spec] at hi
    split at hi
    · rename_i hc
      rw [Option.map_eq_some_iff] at hi
      obtain ⟨gs, hgs, rfl⟩ := hi
      have hlt : i - fresh < ns.length := by have := hp.len; omega
      obtain ⟨vs, T, h1⟩ := hp.blk (i - fresh) ns[i - fresh] gs (by simp [hlt]) hgs
      have hn : w.heap.size ≤ (ns[i - fresh]).n := hp.new _ (List.getElem_mem hlt)
      refine ⟨ns[i - fresh], vs, T, (0, 0), ?_, h1, fun _ => ⟨rfl, Nat.le_trans h.below.size hn⟩⟩
      rw [ext_spec, if_pos (by have := hp.len; omega)]; simp [hlt]
    · obtain ⟨p, vs, T, fz, e1, e2, e4⟩ := h.blk i b hi
      exact ⟨p, vs, T, fz, hle _ _ e1, e2.mono hle (hold p.n e2.lt), e4⟩
  · intro i j p q bi bj hne hi hj pi pj hpq hwr
    rw [newsM_spec] at hi hj
    by_cases ci : fresh ≤ i ∧ i < fresh + ns.length <;> by_cases cj : fresh ≤ j ∧ j < fresh + ns.length
    · exfalso
      obtain ⟨a1, _⟩ := hinside i p ci pi
      obtain ⟨b1, _⟩ := hinside j q cj pj
      have e1 : (ns.map (·.n))[i - fresh]? = some p.n := by simp [a1]
      have e2 : (ns.map (·.n))[j - fresh]? = some q.n := by simp [b1]
      rw [hpq] at e1
      have := (List.getElem?_inj (by simp; omega) hp.nodup).1 (e1.trans e2.symm)
      omega
    · have := (hinside i p ci pi).2
      have := (hout j q cj pj).2
      omega
    · have := (hinside j q cj pj).2
      have := (hout i p ci pi).2
      omega
    · rw [if_neg (by rw [← hp.len]; exact ci)] at hi
      rw [if_neg (by rw [← hp.len]; exact cj)] at hj
      exact h.inj i j p q bi bj hne hi hj (hout i p ci pi).1 (hout j q cj pj).1 hpq hwr
  · intro i hi
    rw [newsM_spec] at hi
    rw [ext_spec]
    split at hi
    · rename_i hc
      rw [Option.map_eq_none_iff] at hi
      simp at hi; omega
    · rename_i hc
      rw [if_neg (by rw [hp.len]; exact hc)]; exact h.dom i hi
  · rw [hold _ (Array.getElem?_eq_some_iff.1 h.glob).1]; exact h.glob

theorem rdOut_run {ob : List (Bool × Bool)} : ∀ {r : Rd (V × List (List Seg))} {out : Out} {fp : List Nat}, (rdOut ob r).run m = some (out, fp) →
    ∃ v news, r.run m = some ((v, news), fp) ∧ out = ⟨v, news, none, ob⟩
  | .pure (v, news), _, _, h => by cases h; exact ⟨v, news, rfl, rfl⟩
  | .read id k, out, fp, h => by
    simp only [rdOut] at h
    obtain ⟨b, fp', hb, hk, rfl⟩ := read_run h
    obtain ⟨v, news, h1, h2⟩ := rdOut_run hk
    exact ⟨v, news, by simp [Rd.run, hb, h1], h2⟩
  | .fail, _, _, h => by cases h

theorem argsCv_append : ∀ {a b : List V} {u v : List Value}, argsCv π a u → argsCv π b v → argsCv π (a ++ b) (u ++ v)
  | [], _, _, _, e, k => by subst e; exact k
  | _ :: _, _, _, v, ⟨x, r, e, h1, h2⟩, k => ⟨x, r ++ v, by subst e; rfl, h1, argsCv_append h2 k⟩

theorem argsCv_map {ev : Operand → V} {ρ : Operand → Value} (hev : ∀ x, (ev x).cv π (ρ x)) : ∀ (l : List Operand), argsCv π (l.map ev) (l.map ρ)
  | [] => rfl
  | x :: r => ⟨ρ x, r.map ρ, rfl, hev x, argsCv_map hev r⟩

theorem capArgs_cv : ∀ {caps : List (Nat × Nat)} {vs : List Value}, capsCv π caps vs → argsCv π (capArgs caps) vs
  | [], _, e => e
  | (_, _) :: _, _, ⟨n, vr, hn, e, h⟩ => ⟨_, vr, e, ⟨n, hn, rfl⟩, capArgs_cv h⟩

theorem args1 {args : Array Operand} {ev : Operand → V} {x : V} (h : args.toList.map ev = [x]) : ∃ o, args = #[o] ∧ ev o = x := by
  obtain ⟨l⟩ := args
  match l, h with
  | [o], h => simp at h; exact ⟨o, rfl, h⟩

theorem args2 {args : Array Operand} {ev : Operand → V} {x y : V} (h : args.toList.map ev = [x, y]) : ∃ o p, args = #[o, p] ∧ ev o = x ∧ ev p = y := by
  obtain ⟨l⟩ := args
  match l, h with
  | [o, p], h => simp at h; exact ⟨o, p, rfl, h.1, h.2⟩

theorem buildSlice_news {ev : Operand → V} {t : TypeId} {len : Nat} {parts : List (Nat × Operand)} (h : (abuildSlice K fresh ev t len parts).run m = some (out, fp)) : out.news.length = 1 := by
  unfold abuildSlice at h
  split at h
  · rename_i e sz hty
    cases h0 : Nat.beq len 0 <;> simp only [h0, cond_true, cond_false] at h
    · split at h
      · rename_i z hz
        cases hc : (Nat.ble (len * sz) 16777216 && !(Nat.beq (len * sz) 0) && zeroElemOk z && Nat.beq (segsSize z) sz) <;> simp only [hc, cond_true, cond_false] at h
        · exact (fail_run h).elim
        · split at h
          · split at h
            · cases h; rfl
            · exact (fail_run h).elim
          · exact (fail_run h).elim
      · exact (fail_run h).elim
    · split at h
      · cases h; rfl
      · exact (fail_run h).elim
  · exact (fail_run h).elim

/-- Every operation. -/
theorem aop_wp (hE : EnvOk G K) {ans : Option Bool} {o : Oper} {a : Act} {ev : Operand → V} {next : Act → World → Prop} {Q : Exit → Act → World → Prop}
    (hR : Rel G π m w0 w) (hev : ∀ x, (ev x).cv π (a.eval x)) (h : (aop K ans fresh ev o).run m = some (out, fp)) (ho : ObsOk out.obs)
    (hf : ∀ j, j < out.news.length → m (fresh + j) = none)
    (hk : ∀ rv w' π', π.le π' → out.v.cv π' rv → Rel G π' (effM m fresh out) w0 w' → next (a.put o.dst rv) w') : o.wp K.P a w next Q := by
  have val : ∀ (s : Sem Value), (execOp a.eval o = do pure (.value (← s))) → Res G K.P π m w0 fresh out s w → o.wp K.P a w next Q := by
    intro s hs ⟨rv, w', π', h1, h2, h3, h4⟩
    unfold Oper.wp
    rw [hs, Sem.run_bind, h1]
    exact hk rv w' π' h2 h3 h4
  have f0 : out.news.length = 1 → m fresh = none := fun e => hf 0 (by omega)
  unfold aop at h
  split at h
  · rename_i x ho'
    have := okV_run h; subst this
    exact val (Pure.pure (a.eval x)) (by simp only [execOp, ho']; rfl) (Res.pure hR rfl (hev x))
  · rename_i x ho'
    have := okV_run h; subst this
    exact val (Pure.pure (a.eval x)) (by simp only [execOp, ho']; rfl) (Res.pure hR rfl (hev x))
  · rename_i c x y ho'
    split at h
    · rename_i t hc
      have := okV_run h; subst this
      have hcv := hev c
      rw [hc] at hcv
      have hcv : a.eval c = .bool t := hcv
      refine val (do if ← asBool (a.eval c) then Pure.pure (a.eval x) else Pure.pure (a.eval y)) ?_ (Res.pure hR (rv := bif t then a.eval x else a.eval y) ?_ ?_)
      · simp only [execOp, ho', hcv]; cases t <;> rfl
      · rw [hcv]; cases t <;> rfl
      · cases t
        · exact hev y
        · exact hev x
    · exact (fail_run h).elim
  · rename_i t ho'
    split at h
    · rename_i gs hz
      refine val _ (by simp only [execOp, ho']) (s_alloc hR (f0 (by cases h; rfl)) hz h)
    · exact (fail_run h).elim
  · rename_i t x ho'
    refine val (Instr.box t (a.eval x)) (by simp only [execOp, ho']) (s_box hR (f0 ?_) (hev x) h)
    unfold abox at h
    split at h
    · cases h; rfl
    · exact (fail_run h).elim
  · rename_i t x ho'
    exact val _ (by simp only [execOp, ho']) (s_load hR (hev x) h)
  · rename_i t x y ho'
    obtain ⟨w', h1, h2, h3⟩ := s_store (fresh := fresh) hR (unpix_cv (hev x)) (hev y) h
    unfold Oper.wp
    simp only [execOp, ho', Sem.run_bind, h1, Result.andThen_ok, Sem.run_pure, Oper.upon]
    exact hk _ w' π π.le_refl (by rw [h2]; rfl) h3
  · rename_i x ho'
    split at h
    · rename_i b off hx
      have := okS_run h; subst this
      have hcv := hev x
      rw [hx] at hcv
      obtain ⟨n, hn, e⟩ := hcv
      refine val (Pure.pure (.pointer (some ⟨n.n, n.base + off, none⟩))) ?_ (Res.pure hR rfl ⟨n, hn, rfl⟩)
      simp only [execOp, ho', e]; rfl
    · exact (fail_run h).elim
  · rename_i op t x y yt ho'
    exact val _ (by simp only [execOp, ho']) (s_bin (ox := x) (oy := y) hR (hev x) (hev y) h ho)
  · rename_i op t x ho'
    exact val _ (by simp only [execOp, ho']) (s_un hR (hev x) h)
  · rename_i s d x ho'
    exact val _ (by simp only [execOp, ho']) (s_conv hR (hev x) h)
  · rename_i fn first captured ho'
    exact val _ (by simp only [execOp, ho']) (s_makeFunc hR hev h)
  · rename_i t x lo hi mx ho'
    exact val _ (by simp only [execOp, ho']) (s_slice hR hev (hev x) h)
  · rename_i t x ho'
    exact val _ (by simp only [execOp, ho']) (s_toArr hR (hev x) h)
  · rename_i t x f ho'
    exact val _ (by simp only [execOp, ho']) (s_fieldAddr hR (hev x) h)
  · rename_i t x f ho'
    exact val _ (by simp only [execOp, ho']) (s_field hR (hev x) h)
  · rename_i t x ix ho'
    exact val _ (by simp only [execOp, ho']) (s_indexAddr hR (hev x) (hev ix) h)
  · rename_i t x ix ho'
    exact val _ (by simp only [execOp, ho']) (s_index hR (hev x) (hev ix) h)
  · rename_i x i ho'
    exact val _ (by simp only [execOp, ho']) (s_extract hR (hev x) h)
  · rename_i t parts ho'
    exact val _ (by simp only [execOp, ho']) (s_build hR hev h)
  · rename_i t len parts ho'
    exact val _ (by simp only [execOp, ho']) (s_buildSlice hR (f0 (buildSlice_news h)) hev h)
  · rename_i t x ho'
    exact val _ (by simp only [execOp, ho']) (s_makeIface hR (hev x) h)
  · rename_i c ho'
    unfold acall at h
    split at h
    · rename_i f hc
      split at h
      · rename_i n caps hf'
        obtain ⟨v, news, h1, rfl⟩ := rdOut_run h
        obtain ⟨⟨fn, e1, e2, e3⟩, hcall⟩ := hE _ _ _ _ _ _ _ h1 ho
        have hcv := hev f
        rw [hf'] at hcv
        obtain ⟨vs, e4, e5⟩ := hcv
        have hargs := argsCv_append (argsCv_map hev c.args.toList) (capArgs_cv e5)
        have hc1 := hcall π w _ hR.mem (Array.getElem?_eq_some_iff.1 hR.glob).1 hR.glob hargs (fun j hj => hR.dom _ (hf j hj))
        have hx : (execOp a.eval o).run K.P w = .ok (.enter n (c.args.toList.map a.eval ++ vs).toArray) w := by
          have hn : ¬ fn.body = none := by intro q; rw [q] at e2; cases e2
          have e3' : ¬ fn.name = "runtime.NumGoroutine" := by simpa using e3
          simp [execOp, ho', resolve, hc, e4, Deferred.ofValue, invoke, callFunc, e1, e3', hn]
        unfold Oper.wp
        rw [hx]
        refine hc1.mono ?_
        rintro e w' ⟨rv, ns, rfl, hp⟩
        obtain ⟨g1, g2⟩ := hR.call hf hp
        exact hk rv w' _ g1 hp.cv g2
      · exact (fail_run h).elim
    · rename_i b hc
      have bi : ∀ (s : Sem Value), (builtin b c.argTypes o.type (c.args.map fun | .const _ => true | _ => false) (c.args.map a.eval) = do pure (.value (← s))) →
          Res G K.P π m w0 fresh out s w → o.wp K.P a w next Q := by
        intro s hs hr
        refine val s ?_ hr
        rw [← hs]
        simp [execOp, ho', resolve, hc, invoke]
        rfl
      unfold abuiltin at h
      split at h
      · rename_i t ts x ht hx
        split at h
        · rename_i e hty
          obtain ⟨ox, e2, rfl⟩ := args1 hx
          refine bi (Builtin.len_ (t :: ts).toArray o.type #[a.eval ox]) ?_ (s_len hty hR (hev ox) h)
          have e1 : c.argTypes = (t :: ts).toArray := by rw [← ht]
          rw [e1, e2]; simp [builtin]
        · exact (fail_run h).elim
      · rename_i x y hx
        obtain ⟨ox, oy, e2, rfl, rfl⟩ := args2 hx
        obtain ⟨p, q, e3, e4, hres⟩ := amax_run (fresh := fresh) hR (hev ox) (hev oy) h
        refine bi (Builtin.max_ c.argTypes o.type #[a.eval ox, a.eval oy]) ?_ (hres _ (by rw [e3, e4, run_max]; rfl))
        rw [e2]; simp [builtin]
      · rename_i x y hx
        obtain ⟨ox, oy, e2, rfl, rfl⟩ := args2 hx
        obtain ⟨p, q, e3, e4, hres⟩ := amax_run (fresh := fresh) hR (hev ox) (hev oy) h
        refine bi (Builtin.min_ c.argTypes o.type #[a.eval ox, a.eval oy]) ?_ (hres _ (by rw [e3, e4, run_min]; rfl))
        rw [e2]; simp [builtin]
      · rename_i t ts x y ht hx
        obtain ⟨ox, oy, e2, rfl, rfl⟩ := args2 hx
        obtain ⟨rv, w', h1, h2, h3⟩ := s_copy (fresh := fresh) (ty := o.type) (ts := ts) hR (hev ox) (hev oy) h
        refine bi (Builtin.copy_ (t :: ts).toArray o.type #[a.eval ox, a.eval oy]) ?_ ⟨rv, w', π, h1, π.le_refl, h2, h3⟩
        have e1 : c.argTypes = (t :: ts).toArray := by rw [← ht]
        rw [e1, e2]; simp [builtin]
      · rename_i t t' ts x y ht hx
        obtain ⟨ox, oy, e2, rfl, rfl⟩ := args2 hx
        split at h
        · rename_i e hty
          refine bi (Builtin.append_ (t :: t' :: ts).toArray o.type #[a.eval ox, a.eval oy]) ?_ (s_append hty hR (hev ox) (hev oy) h hf)
          have e1 : c.argTypes = (t :: t' :: ts).toArray := by rw [← ht]
          rw [e1, e2]; simp [builtin]
        · exact (fail_run h).elim
      · exact (fail_run h).elim
    · exact (fail_run h).elim
  · exact (fail_run h).elim
end
end Go.Mo
