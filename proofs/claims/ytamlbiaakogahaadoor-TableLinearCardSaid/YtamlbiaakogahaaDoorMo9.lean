/- The abstract evaluator, part 9: every order that a region's edges allow comes to one end; from the evaluator's states to these. -/
import Derived.Test.YtamlbiaakogahaaDoorMo8
namespace Go.Mo
open Go Go.RowKit

section
variable {G : Gl} {K : Cx} {π : Loc} {w0 w : World} {P : Program} {s : FS} {n : Nat} {a : Act} {ops : Array Oper}

theorem getL_getD {α : Type} (d : α) (l : List α) (i : Nat) : getL d l i = l.getD i d := nth_eq d l i

theorem getDl {α : Type} (l m : List α) (d : α) (i : Nat) (h : i < l.length) : (l ++ m).getD i d = l.getD i d := by
  simp [List.getD, List.getElem?_append_left h]
theorem getDr {α : Type} (l m : List α) (d : α) (i : Nat) (h : l.length ≤ i) : (l ++ m).getD i d = m.getD (i - l.length) d := by
  simp [List.getD, List.getElem?_append_right h]

def preds (o : Oper) : List Nat := (o.after.toList.filter (Region.binds .any ·)).map (·.on)

theorem mem_uniqGo {j : Nat} : ∀ {l : List Nat} {m : Nat}, j ∈ uniqGo m l → j ∈ l
  | [], _, h => h
  | x :: r, m, h => by
    unfold uniqGo at h
    cases hq : Nat.beq (m / 2 ^ x % 2) 1 <;> simp only [hq, cond_true, cond_false] at h
    · rcases List.mem_cons.1 h with h | h
      · subst h; exact List.mem_cons_self ..
      · exact List.mem_cons_of_mem _ (mem_uniqGo h)
    · exact List.mem_cons_of_mem _ (mem_uniqGo h)

theorem waitsL_old : ∀ (L : List Oper) (acc : List (List Nat)) (i : Nat), i < acc.length → getL [] (waitsL L acc) i = getL [] acc i
  | [], _, _, _ => rfl
  | o :: r, acc, i, h => by
    simp only [waitsL]
    rw [waitsL_old r _ i (by simp; omega)]
    simp only [getL_getD]
    rw [getDl _ _ _ _ h]

theorem waitsL_spec : ∀ (L : List Oper) (acc : List (List Nat)) (i j : Nat), j ∈ getL [] (waitsL L acc) i →
    (i < acc.length ∧ j ∈ getL [] acc i) ∨ ∃ o, L[i - acc.length]? = some o ∧ acc.length ≤ i ∧ (j ∈ preds o ∨ ∃ d ∈ preds o, j ∈ getL [] (waitsL L acc) d)
  | [], acc, i, j, h => by
    simp only [waitsL] at h
    left
    refine ⟨?_, h⟩
    rcases Nat.lt_or_ge i acc.length with q | q
    · exact q
    · rw [getL_getD] at h; simp [List.getD, List.getElem?_eq_none q] at h
  | o :: r, acc, i, j, h => by
    have hx := h
    simp only [waitsL] at h
    rcases waitsL_spec r _ i j h with ⟨h1, h2⟩ | ⟨o', h1, h2, h3⟩
    · simp only [List.length_append, List.length_singleton] at h1
      by_cases hi : i < acc.length
      · left
        rw [getL_getD, getDl _ _ _ _ hi, ← getL_getD] at h2
        exact ⟨hi, h2⟩
      · have e : i = acc.length := by omega
        right
        refine ⟨o, by simp [e], by omega, ?_⟩
        rw [getL_getD, getDr _ _ _ _ (by omega), e] at h2
        simp only [Nat.sub_self, List.getD_cons_zero] at h2
        rcases List.mem_append.1 (mem_uniqGo h2) with h2 | h2
        · exact .inl h2
        · right
          rw [List.mem_flatMap] at h2
          obtain ⟨d, hd, hj⟩ := h2
          refine ⟨d, hd, ?_⟩
          have hlt : d < acc.length := by
            rcases Nat.lt_or_ge d acc.length with q | q
            · exact q
            · rw [getL_getD] at hj; simp [List.getD, List.getElem?_eq_none q] at hj
          rw [waitsL_old _ _ _ hlt]; exact hj
    · right
      simp only [List.length_append, List.length_singleton] at h1 h2
      refine ⟨o', ?_, by omega, ?_⟩
      · rw [show i - acc.length = (i - (acc.length + 1)) + 1 by omega]; simpa using h1
      · simpa only [waitsL] using h3

theorem ready_iff {listed : Array Bool} {i : Nat} : i ∈ Region.ready .any ops listed ↔
    i < ops.size ∧ listed.getD i true = false ∧ ∃ o, ops[i]? = some o ∧ ∀ d ∈ preds o, listed.getD d false = true := by
  unfold Region.ready preds
  simp only [List.mem_filter, List.mem_range, Bool.and_eq_true, Bool.not_eq_true']
  constructor
  · rintro ⟨h1, h2, h3⟩
    refine ⟨h1, h2, ops[i], by simp [h1], ?_⟩
    simp only [Array.getElem?_eq_getElem h1, Option.map_some, Option.getD_some] at h3
    intro d hd
    simp only [List.mem_map, List.mem_filter] at hd
    obtain ⟨e, ⟨he, hb⟩, rfl⟩ := hd
    rw [Array.all_eq_true'] at h3
    have := h3 e (by simpa using he)
    simpa [hb] using this
  · rintro ⟨h1, h2, o, ho, h3⟩
    refine ⟨h1, h2, ?_⟩
    simp only [ho, Option.map_some, Option.getD_some]
    rw [Array.all_eq_true']
    intro e he
    by_cases hb : Region.binds .any e = true
    · have := h3 e.on (List.mem_map.2 ⟨e, List.mem_filter.2 ⟨by simpa using he, hb⟩, rfl⟩)
      simp [this]
    · simp [hb]

theorem edgesB_spec : ∀ {L : List Oper} {k i : Nat} {o : Oper}, edgesB k L = true → L[i]? = some o → ∀ d ∈ preds o, d < k + i
  | [], _, _, _, _, h => by simp at h
  | x :: r, k, i, o, hb, h => by
    simp only [edgesB, Bool.and_eq_true] at hb
    intro d hd
    cases i with
    | zero =>
      simp at h; subst h
      simp only [preds, List.mem_map, List.mem_filter] at hd
      obtain ⟨e, ⟨he, hb'⟩, rfl⟩ := hd
      have := List.all_eq_true.1 hb.1 e he
      simp [hb'] at this
      omega
    | succ i =>
      have := edgesB_spec hb.2 (by simpa using h) d hd
      omega

theorem getD_tf {listed : Array Bool} {i : Nat} (hi : i < listed.size) : listed.getD i true = listed.getD i false := by
  simp [hi]

theorem wpAny_exec (hE : EnvOk G K) {Q : Exit → Act → World → Prop} {send : FS} (hb : edgesB 0 ops.toList = true) (hQ : ∀ π a w, RelS G π send n w0 a w → Q .normal a w) :
    ∀ (k : Nat) (R : List Info) (listed : Array Bool) (s : FS) (π : Loc) (a : Act) (w : World), R.length = k → RelS G π s n w0 a w → Exec K ops n R s send →
      listed.size = ops.size → (∀ i, i < ops.size → (listed.getD i true = false ↔ ∃ x ∈ R, x.i = i)) → (∀ x ∈ R, x.i < ops.size) →
      R.Pairwise (fun x y => x.i < y.i ∧ pairOk ops (waitsL ops.toList []) x y = true) →
      (∀ i j, listed.getD i false = true → j ∈ getL [] (waitsL ops.toList []) i → listed.getD j false = true) →
      wpAny K.P .any ops Q k listed a w
  | 0, R, listed, s, π, a, w, hk, hR, hx, hsz, hin, hlt, hpw, hcl => by
    have : R = [] := List.length_eq_zero_iff.1 hk
    subst this
    have hs : s = send := hx
    subst hs
    refine ⟨?_, hQ _ _ _ hR⟩
    rw [List.eq_nil_iff_forall_not_mem]
    intro i hi
    obtain ⟨h1, h2, _⟩ := ready_iff.1 hi
    obtain ⟨x, hx, _⟩ := (hin i h1).1 h2
    cases hx
  | k + 1, R, listed, s, π, a, w, hk, hR, hx, hsz, hin, hlt, hpw, hcl => by
    refine ⟨fun hnil => ?_, fun i hi => ?_⟩
    · exfalso
      match R, hk with
      | x :: r, _ =>
        have hxi := hlt x (by simp)
        have : x.i ∈ Region.ready .any ops listed := by
          refine ready_iff.2 ⟨hxi, (hin _ hxi).2 ⟨x, by simp, rfl⟩, ops[x.i], by simp [hxi], fun d hd => ?_⟩
          have hlt' := edgesB_spec (o := ops[x.i]) (i := x.i) hb (by simp [hxi]) d hd
          rw [Nat.zero_add] at hlt'
          have hdsz : d < ops.size := by omega
          cases hq : listed.getD d false with
          | true => rfl
          | false =>
            rw [← getD_tf (by omega)] at hq
            obtain ⟨y, hy, hyd⟩ := (hin d hdsz).1 hq
            rcases List.mem_cons.1 hy with e | e
            · subst e; omega
            · have := (List.pairwise_cons.1 hpw).1 y e
              omega
        rw [hnil] at this; cases this
    · obtain ⟨h1, h2, o, ho, hp⟩ := ready_iff.1 hi
      obtain ⟨y, hy, rfl⟩ := (hin i h1).1 h2
      obtain ⟨pre, post, rfl⟩ := List.append_of_mem hy
      have hpw' := List.pairwise_append.1 hpw
      have hind : ∀ z ∈ pre, Indep ops z y := by
        intro z hz
        obtain ⟨hlt1, hok⟩ := hpw'.2.2 z hz y (by simp)
        unfold pairOk at hok
        simp only [Bool.or_eq_true, Bool.and_eq_true] at hok
        rcases hok with hok | ⟨f1, f2⟩
        · exfalso
          have hzi := memB_iff.1 hok
          have hzl : listed.getD z.i true = false := (hin z.i (hlt z (by simp [hz]))).2 ⟨z, by simp [hz], rfl⟩
          rw [getD_tf (by have := hlt z (by simp [hz]); omega)] at hzl
          rcases waitsL_spec _ _ _ _ hzi with ⟨q, _⟩ | ⟨o', ho', _, q⟩
          · simp at q
          · have : o' = o := by
              simp only [List.length_nil, Nat.sub_zero, Array.getElem?_toList] at ho'
              rw [ho] at ho'; cases ho'; rfl
            subst this
            rcases q with q | ⟨d, hd, q⟩
            · rw [hp _ q] at hzl; cases hzl
            · rw [hcl d z.i (hp d hd) q] at hzl; cases hzl
        · refine ⟨f1, ?_⟩
          split at f2
          · rename_i a' b' e1 e2; exact ⟨a', b', e1, e2, f2⟩
          · cases f2
      obtain ⟨hen, hex⟩ := bubble hind hx
      refine hen.wpOp hE hR fun π' a' w' _ hR' => ?_
      have hsz' : (listed.setIfInBounds y.i true).size = ops.size := by simp [hsz]
      have hset : ∀ j d, (listed.setIfInBounds y.i true).getD j d = if j = y.i then true else listed.getD j d := by
        intro j d
        simp only [Array.getD_eq_getD_getElem?, Array.getElem?_setIfInBounds]
        by_cases e : y.i = j
        · subst e; simp [hsz, h1]
        · rw [if_neg e, if_neg (Ne.symm e)]
      have hne : ∀ z ∈ pre ++ post, z.i ≠ y.i := by
        intro z hz
        rcases List.mem_append.1 hz with q | q
        · have := (hpw'.2.2 z q y (by simp)).1; omega
        · have := ((List.pairwise_cons.1 hpw'.2.1).1 z q).1; omega
      refine wpAny_exec hE hb hQ k (pre ++ post) _ _ π' a' w' (by simp at hk ⊢; omega) hR' hex hsz' ?_ ?_ ?_ ?_
      · intro j hj
        rw [hset]
        by_cases e : j = y.i
        · subst e
          rw [if_pos rfl]
          constructor
          · intro q; cases q
          · rintro ⟨z, hz, q⟩; exact absurd q (hne z hz)
        · rw [if_neg e, hin j hj]
          constructor
          · rintro ⟨z, hz, q⟩
            refine ⟨z, ?_, q⟩
            rcases List.mem_append.1 hz with r | r
            · simp [r]
            · rcases List.mem_cons.1 r with r | r
              · subst r; exact absurd q.symm e
              · simp [r]
          · rintro ⟨z, hz, q⟩
            refine ⟨z, ?_, q⟩
            rcases List.mem_append.1 hz with r | r <;> simp [r]
      · intro z hz
        refine hlt z ?_
        rcases List.mem_append.1 hz with r | r <;> simp [r]
      · refine hpw.sublist ?_
        exact List.Sublist.append_left (List.sublist_cons_self _ _) _
      · intro i' j hi' hj
        rw [hset] at hi' ⊢
        by_cases ej : j = y.i
        · rw [if_pos ej]
        · rw [if_neg ej]
          by_cases ei : i' = y.i
          · subst ei
            rcases waitsL_spec _ _ _ _ hj with ⟨q, _⟩ | ⟨o', ho', _, q⟩
            · simp at q
            · have : o' = o := by
                simp only [List.length_nil, Nat.sub_zero, Array.getElem?_toList] at ho'
                rw [ho] at ho'; cases ho'; rfl
              subst this
              rcases q with q | ⟨d, hd, q⟩
              · exact hp _ q
              · exact hcl d j (hp d hd) q
          · rw [if_neg ei] at hi'
            exact hcl i' j hi' hj

theorem wpOps_exec (hE : EnvOk G K) {Q : Exit → Act → World → Prop} {send : FS} (hQ : ∀ π a w, RelS G π send n w0 a w → Q .normal a w) :
    ∀ (R : List Info) (s : FS) (π : Loc) (a : Act) (w : World), RelS G π s n w0 a w → Exec K ops n R s send → wpOps K.P ops Q (R.map (·.i)) a w
  | [], s, π, a, w, hR, hx => by
    have hs : s = send := hx
    subst hs
    exact hQ _ _ _ hR
  | x :: r, s, π, a, w, hR, ⟨hx, hr⟩ => by
    rw [List.map_cons, wpOps_cons]
    exact hx.wpOp hE hR fun π' a' w' _ hR' => wpOps_exec hE hQ r _ π' a' w' hR' hr
end
end Go.Mo
