/- The abstract evaluator, part 10: the evaluator's states; code; a function's call. -/
import Derived.Test.YtamlbiaakogahaaDoorMo9
import Derived.Scope
namespace Go.Mo
open Go Go.RowKit

theorem Fr.get_set : ∀ (f : Fr) (i j : Nat) (v : V), f.has i = true → (f.set i v).get j = if j = i then v else f.get j
  | .nil, _, _, _, h => by cases h
  | .node l x r, i, j, v, h => by
    simp only [Fr.has] at h
    cases h0 : Nat.beq i 0 <;> simp only [h0, cond_true, cond_false] at h
    · have hi : i ≠ 0 := fun e => by subst e; cases h0
      cases h1 : Nat.beq (i % 2) 1 <;> simp only [h1, cond_true, cond_false] at h
      · have hi2 : i % 2 = 0 := by
          have : i % 2 ≠ 1 := fun e => by rw [e] at h1; cases h1
          omega
        simp only [Fr.set_node, h0, h1, cond_false, Fr.get_node]
        cases j0 : Nat.beq j 0
        · have hj : j ≠ 0 := fun e => by subst e; cases j0
          cases j1 : Nat.beq (j % 2) 1
          · have hj2 : j % 2 = 0 := by
              have : j % 2 ≠ 1 := fun e => by rw [e] at j1; cases j1
              omega
            simp only [cond_false]
            rw [Fr.get_set r _ _ v h]
            by_cases e : j = i
            · subst e; rw [if_pos rfl, if_pos rfl]
            · rw [if_neg e, if_neg (by omega)]
          · have hj2 := Nat.eq_of_beq_eq_true j1
            simp only [cond_false, cond_true]
            rw [if_neg (by omega)]
        · have hj := Nat.eq_of_beq_eq_true j0
          simp only [cond_true]
          rw [if_neg (by omega)]
      · have hi2 := Nat.eq_of_beq_eq_true h1
        simp only [Fr.set_node, h0, h1, cond_false, cond_true, Fr.get_node]
        cases j0 : Nat.beq j 0
        · have hj : j ≠ 0 := fun e => by subst e; cases j0
          cases j1 : Nat.beq (j % 2) 1
          · have hj2 : j % 2 = 0 := by
              have : j % 2 ≠ 1 := fun e => by rw [e] at j1; cases j1
              omega
            simp only [cond_false]
            rw [if_neg (by omega)]
          · have hj2 := Nat.eq_of_beq_eq_true j1
            simp only [cond_false, cond_true]
            rw [Fr.get_set l _ _ v h]
            by_cases e : j = i
            · subst e; rw [if_pos rfl, if_pos rfl]
            · rw [if_neg e, if_neg (by omega)]
        · have hj := Nat.eq_of_beq_eq_true j0
          simp only [cond_true]
          rw [if_neg (by omega)]
    · have hi := Nat.eq_of_beq_eq_true h0
      subst hi
      simp only [Fr.set_node, h0, cond_true, Fr.get_node]
      cases j0 : Nat.beq j 0
      · have hj : j ≠ 0 := fun e => by subst e; cases j0
        simp only [cond_false]
        rw [if_neg hj]
      · have hj := Nat.eq_of_beq_eq_true j0
        simp only [cond_true]
        rw [if_pos hj]

theorem Fr.has_set : ∀ (f : Fr) (i j : Nat) (v : V), (f.set i v).has j = f.has j
  | .nil, _, _, _ => rfl
  | .node l x r, i, j, v => by
    simp only [Fr.set_node]
    cases Nat.beq i 0 <;> simp only [cond_true, cond_false]
    · cases Nat.beq (i % 2) 1 <;> simp only [cond_true, cond_false, Fr.has]
      · rw [Fr.has_set r]
      · rw [Fr.has_set l]
    · simp only [Fr.has]

theorem Fr.full_has : ∀ (f n i : Nat), n < 2 ^ f → i < n → (Fr.full f n).has i = true
  | 0, n, i, h, hi => by simp at h; omega
  | f + 1, n, i, h, hi => by
    simp only [Fr.full]
    have h0 : Nat.beq n 0 = false := by
      cases q : Nat.beq n 0
      · rfl
      · have := Nat.eq_of_beq_eq_true q; omega
    rw [Nat.pow_succ] at h
    simp only [h0, cond_false, Fr.has]
    cases i0 : Nat.beq i 0
    · have hi0 : i ≠ 0 := fun e => by subst e; cases i0
      cases i1 : Nat.beq (i % 2) 1
      · have : i % 2 ≠ 1 := fun e => by rw [e] at i1; cases i1
        simp only [cond_false]
        exact Fr.full_has f _ _ (by omega) (by omega)
      · have := Nat.eq_of_beq_eq_true i1
        simp only [cond_false, cond_true]
        exact Fr.full_has f _ _ (by omega) (by omega)
    · rfl

theorem Fr.full_get : ∀ (f n i : Nat), (Fr.full f n).get i = .s .undef ∨ (Fr.full f n).get i = .s .any
  | 0, n, i => .inr rfl
  | f + 1, n, i => by
    simp only [Fr.full]
    cases Nat.beq n 0
    · simp only [cond_false, Fr.get_node]
      cases Nat.beq i 0
      · cases Nat.beq (i % 2) 1
        · simp only [cond_false]; exact Fr.full_get f _ _
        · simp only [cond_false, cond_true]; exact Fr.full_get f _ _
      · exact .inl rfl
    · exact .inr rfl

noncomputable def St.fs (s : St) : FS := ⟨s.fr.get, memL s.mem⟩

/-- The tree has all slots. -/
def St.ok (s : St) : Prop := ∀ i, i < s.n → s.fr.has i = true

theorem memL_nil (j : Nat) : memL [] j = none := by unfold memL; rw [getL_getD]; simp
theorem memL_zero (x : Option Blk) (r : List (Option Blk)) : memL (x :: r) 0 = x := by unfold memL; rw [getL_getD]; simp
theorem memL_succ (x : Option Blk) (r : List (Option Blk)) (j : Nat) : memL (x :: r) (j + 1) = memL r j := by
  unfold memL; rw [getL_getD, getL_getD]; simp

theorem memL_padSet : ∀ (mem : List (Option Blk)) (i j : Nat) (b : Blk), memL (padSet mem i b) j = if j = i then some b else memL mem j
  | [], 0, 0, b => by simp [padSet, memL_zero]
  | [], 0, j + 1, b => by simp [padSet, memL_succ, memL_nil]
  | [], i + 1, 0, b => by simp [padSet, memL_zero, memL_nil]
  | [], i + 1, j + 1, b => by
    simp only [padSet, memL_succ]
    rw [memL_padSet [] i j b]
    by_cases e : j = i
    · rw [if_pos e, if_pos (by omega)]
    · rw [if_neg e, if_neg (by omega), memL_nil, memL_nil]
  | x :: r, 0, 0, b => by simp [padSet, memL_zero]
  | x :: r, 0, j + 1, b => by simp [padSet, memL_succ]
  | x :: r, i + 1, 0, b => by simp [padSet, memL_zero]
  | x :: r, i + 1, j + 1, b => by
    simp only [padSet, memL_succ]
    rw [memL_padSet r i j b]
    by_cases e : j = i
    · rw [if_pos e, if_pos (by omega)]
    · rw [if_neg e, if_neg (by omega)]

theorem memL_padSet' (mem : List (Option Blk)) (i : Nat) (b : Blk) : memL (padSet mem i b) = updM (memL mem) i b := by
  funext j; rw [memL_padSet]; rfl

theorem memL_layNews : ∀ (news : List (List Seg)) (mem : List (Option Blk)) (fresh : Nat), memL (layNews mem fresh news) = newsM (memL mem) fresh news
  | [], _, _ => rfl
  | gs :: r, mem, fresh => by
    simp only [layNews, newsM]
    rw [memL_layNews r, memL_padSet']

theorem memL_layWr (mem : List (Option Blk)) (x : Option (Nat × Blk)) : memL (layWr mem x) = wrM (memL mem) x := by
  cases x with
  | none => rfl
  | some p => obtain ⟨b, gs⟩ := p; exact memL_padSet' _ _ _

theorem memL_free (mem : List (Option Blk)) (j : Nat) : memL mem (mem.length + j) = none := by
  unfold memL
  rw [getL_getD]
  simp [List.getD]

section
variable {G : Gl} {K : Cx} {π : Loc} {w0 w : World} {P : Program} {n : Nat} {a : Act} {ops : Array Oper}

theorem evL_evG (fr : Fr) : evL fr = evG fr.get := by funext x; cases x <;> rfl

theorem guardL_guardF (fr : Fr) (o : Oper) : guardL ops.toList fr o = guardF ops fr.get o := by
  unfold guardL guardF
  cases o.guard with
  | none => rfl
  | some p =>
    obtain ⟨j, want⟩ := p
    simp only
    have : getL none (ops.toList.map some) j = ops[j]? := by
      rw [getL_getD]
      simp only [List.getD, List.getElem?_map, Array.getElem?_toList]
      cases ops[j]? <;> rfl
    rw [this]
    cases ops[j]? with
    | none => rfl
    | some oj =>
      simp only [Option.bind_some]
      cases oj.dst <;> rfl

theorem putL_get {s : St} (hs : s.ok) {dst : Option Tmp} (hd : dstOk s.n dst = true) (v : V) : (putL s.fr dst v).get = putF s.fr.get dst v := by
  cases dst with
  | none => rfl
  | some d =>
    funext j
    simp only [putL, putF]
    exact Fr.get_set _ _ _ _ (hs d (Nat.le_of_ble_eq_true hd))

theorem putL_ok {s : St} (hs : s.ok) (dst : Option Tmp) (v : V) : ∀ i, i < s.n → (putL s.fr dst v).has i = true := by
  intro i hi
  cases dst with
  | none => exact hs i hi
  | some d => simp only [putL]; rw [Fr.has_set]; exact hs i hi

theorem astep_spec {i : Nat} {o : Oper} {s s' : St} {x : Info} (ho : ops[i]? = some o) (hs : s.ok) (h : astep K ops.toList i o s = some (x, s')) :
    x.i = i ∧ s'.ok ∧ s'.n = s.n ∧ s'.fs = s.fs.app ops x ∧ (ObsOk s'.obs → ObsOk s.obs ∧ Enabled K ops s.n x s.fs) := by
  unfold astep at h
  cases hd : dstOk s.n o.dst <;> simp only [hd, cond_true, cond_false] at h
  · cases h
  · split at h
    · cases h
    · rename_i hg
      cases h
      rw [guardL_guardF] at hg
      refine ⟨rfl, putL_ok hs _ _, rfl, ?_, fun hobs => ⟨hobs, ⟨o, ho, hd, .inr ⟨rfl, hg, rfl, rfl⟩⟩, (by intro p hp; cases hp), (by intro j hj; cases hj)⟩⟩
      simp only [St.fs, FS.app, dstAt, ho, Option.bind_some]
      rw [putL_get hs hd]
      rfl
    · rename_i hg
      rw [guardL_guardF] at hg
      split at h
      · cases h
      · rename_i out fp hr
        cases h
        rw [evL_evG] at hr
        refine ⟨rfl, putL_ok hs _ _, rfl, ?_, fun hobs => ⟨fun p hp => hobs p (by simp [hp]), ⟨o, ho, hd, .inl ⟨rfl, hg, hr⟩⟩, fun p hp => hobs p (by simp [hp]), fun j _ => memL_free _ _⟩⟩
        simp only [St.fs, FS.app, dstAt, ho, Option.bind_some]
        rw [putL_get hs hd, memL_layNews, memL_layWr]
        rfl

theorem aops_spec : ∀ (rest : List Oper) (k : Nat) (s s' : St) (xs : List Info), (∀ j o, rest[j]? = some o → ops[k + j]? = some o) → s.ok → aops K ops.toList k rest s = some (xs, s') →
    xs.map (·.i) = List.range' k rest.length ∧ s'.ok ∧ s'.n = s.n ∧ (ObsOk s'.obs → ObsOk s.obs ∧ Exec K ops s.n xs s.fs s'.fs)
  | [], k, s, s', xs, _, hs, h => by
    cases h; exact ⟨rfl, hs, rfl, fun ho => ⟨ho, rfl⟩⟩
  | o :: r, k, s, s', xs, hop, hs, h => by
    simp only [aops] at h
    split at h
    · cases h
    · rename_i x s1 h1
      split at h
      · cases h
      · rename_i ys s2 h2
        cases h
        obtain ⟨e1, e2, e3, e4, e5⟩ := astep_spec (hop 0 o rfl) hs h1
        obtain ⟨f1, f2, f3, f4⟩ := aops_spec r (k + 1) s1 s' ys (fun j o' hj => by have := hop (j + 1) o' (by simpa using hj); rwa [show k + (j + 1) = k + 1 + j by omega] at this) e2 h2
        refine ⟨?_, f2, f3.trans e3, fun hobs => ?_⟩
        · simp only [List.map_cons, f1, e1, List.length_cons, List.range'_succ, Nat.add_zero]
        · obtain ⟨g1, g2⟩ := f4 hobs
          obtain ⟨g3, g4⟩ := e5 g1
          rw [e3, e4] at g2
          exact ⟨g3, g4, g2⟩

theorem pairsOk_pairwise : ∀ {xs : List Info} {W : List (List Nat)}, pairsOk ops W xs = true → xs.Pairwise (fun x y => pairOk ops W x y = true)
  | [], _, _ => List.Pairwise.nil
  | x :: r, W, h => by
    simp only [pairsOk, Bool.and_eq_true] at h
    exact List.Pairwise.cons (fun y hy => List.all_eq_true.1 h.1 y hy) (pairsOk_pairwise h.2)

theorem RelS.drew {π : Loc} {s : FS} (h : RelS G π s n w0 a w) : RelS G π s n w0 a w.drew := ⟨h.mem.drew, h.defers, h.size, h.slots⟩

/-- What is asked of the place: contracts, and that the orders are mixed. -/
structure Good (G : Gl) (K : Cx) : Prop where
  env : EnvOk G K
  mixed : K.P.follows .mixedOrders = true

theorem aregion_wp (hG : Good G K) {id : Nat} {draw : Bool} {s s' : St} (hs : s.ok) (h : aregion K ops draw s = some s') :
    s'.ok ∧ s'.n = s.n ∧ (ObsOk s'.obs → ObsOk s.obs ∧ ∀ (Q : Exit → Act → World → Prop) (π : Loc) (a : Act) (w : World), RelS G π s.fs s.n w0 a w →
      (∀ π' a' w', RelS G π' s'.fs s.n w0 a' w' → Q .normal a' w') → (Code.region id ops draw).wp K.P Q a w) := by
  unfold aregion at h
  split at h
  · cases h
  · rename_i xs s1 h1
    obtain ⟨e1, e2, e3, e4⟩ := aops_spec (ops := ops) ops.toList 0 s s1 xs (fun j o hj => by simpa using hj) hs h1
    have hmap : xs.map (·.i) = List.range ops.size := by rw [e1, List.range_eq_range']; simp
    have hlen : xs.length = ops.size := by have := congrArg List.length hmap; simpa using this
    cases draw <;> simp only [cond_true, cond_false] at h
    · cases h
      refine ⟨e2, e3, fun hobs => ⟨(e4 hobs).1, fun Q π a w hR hQ => ?_⟩⟩
      refine wp_region ?_
      rw [← hmap]
      exact wpOps_exec hG.env hQ xs _ π a w hR (e4 hobs).2
    · cases hc : (pairsOk ops (waitsL ops.toList []) xs && edgesB 0 ops.toList) <;> simp only [hc, cond_true, cond_false] at h
      · cases h
      · cases h
        simp only [Bool.and_eq_true] at hc
        refine ⟨e2, e3, fun hobs => ⟨(e4 hobs).1, fun Q π a w hR hQ => ?_⟩⟩
        refine wp_region_any hG.mixed ?_
        rw [← hlen]
        have hmem : ∀ x ∈ xs, x.i < ops.size := fun x hx => by
          have : x.i ∈ xs.map (·.i) := List.mem_map.2 ⟨x, hx, rfl⟩
          rw [hmap] at this; simpa using this
        refine wpAny_exec hG.env hc.2 hQ xs.length xs _ s.fs π a _ rfl hR.drew (e4 hobs).2 (by simp [hlen]) ?_ hmem ?_ ?_
        · intro i hi
          have h0 : (Array.replicate xs.length false).getD i true = false := by simp [hlen, hi]
          rw [h0]
          refine ⟨fun _ => ?_, fun _ => rfl⟩
          have : i ∈ xs.map (·.i) := by rw [hmap]; simpa using hi
          exact List.mem_map.1 this
        · have h1 := pairsOk_pairwise hc.1
          have h2 : xs.Pairwise (fun x y => x.i < y.i) := by
            have : (xs.map (·.i)).Pairwise (· < ·) := by rw [hmap]; exact List.pairwise_lt_range
            exact List.pairwise_map.1 this
          exact List.Pairwise.imp₂ (fun _ _ p q => ⟨p, q⟩) h2 h1
        · intro i j hi _
          simp [Array.getD_eq_getD_getElem?, Array.getElem?_replicate] at hi
          split at hi <;> simp at hi

/-! ### Code -/

def Ex.out : Ex → Exit
  | .normal => .normal
  | .exit id => .exit id
  | .ret => .ret

/-- What the evaluator's answer says of a piece of code. -/
def Stands (G : Gl) (K : Cx) (w0 : World) (c : Code) (s : St) (x : Ex) (s' : St) : Prop :=
  s'.ok ∧ s'.n = s.n ∧ (ObsOk s'.obs → ObsOk s.obs ∧ ∀ (Q : Exit → Act → World → Prop) (π : Loc) (a : Act) (w : World), RelS G π s.fs s.n w0 a w →
    (∀ π' a' w', RelS G π' s'.fs s.n w0 a' w' → Q x.out a' w') → c.wp K.P Q a w)

theorem aloop_wp {body : Code} {f : St → Option (Ex × St)} (hf : ∀ s x s', s.ok → f s = some (x, s') → Stands G K w0 body s x s') :
    ∀ (k : Nat) (s : St) (x : Ex) (s' : St), s.ok → aloop f k s = some (x, s') → s'.ok ∧ s'.n = s.n ∧ (ObsOk s'.obs → ObsOk s.obs ∧ ∀ (Q : Exit → Act → World → Prop) (π : Loc) (a : Act) (w : World),
      RelS G π s.fs s.n w0 a w → (∀ π' a' w', RelS G π' s'.fs s.n w0 a' w' → Q x.out a' w') → Code.rounds K.P body Q k a w)
  | 0, s, x, s', _, h => by cases h
  | k + 1, s, x, s', hs, h => by
    simp only [aloop] at h
    split at h
    · rename_i s1 h1
      obtain ⟨e1, e2, e3⟩ := hf _ _ _ hs h1
      obtain ⟨f1, f2, f3⟩ := aloop_wp hf k s1 x s' e1 h
      refine ⟨f1, f2.trans e2, fun hobs => ?_⟩
      obtain ⟨g1, g2⟩ := f3 hobs
      obtain ⟨g3, g4⟩ := e3 g1
      refine ⟨g3, fun Q π a w hR hQ => ?_⟩
      rw [rounds_succ]
      refine g4 _ π a w hR fun π' a' w' hR' => ?_
      exact g2 Q π' a' w' (e2 ▸ hR') fun π'' a'' w'' hR'' => hQ π'' a'' w'' (by rw [e2] at hR''; exact hR'')
    · rename_i r hne
      obtain ⟨e1, e2, e3⟩ := hf _ _ _ hs h
      refine ⟨e1, e2, fun hobs => ?_⟩
      obtain ⟨g3, g4⟩ := e3 hobs
      refine ⟨g3, fun Q π a w hR hQ => ?_⟩
      rw [rounds_succ]
      refine g4 _ π a w hR fun π' a' w' hR' => ?_
      cases x with
      | normal => exact absurd h (hne _)
      | exit id => exact hQ π' a' w' hR'
      | ret => exact hQ π' a' w' hR'

theorem acode_wp (hG : Good G K) (fuel : Nat) : ∀ (c : Code) (s : St) (x : Ex) (s' : St), s.ok → acode K fuel c s = some (x, s') → Stands G K w0 c s x s' := by
  intro c
  induction c with
  | skip =>
    intro s x s' hs h
    cases h
    exact ⟨hs, rfl, fun hobs => ⟨hobs, fun Q π a w hR hQ => wp_skip (hQ π a w hR)⟩⟩
  | label l =>
    intro s x s' hs h
    cases h
    exact ⟨hs, rfl, fun hobs => ⟨hobs, fun Q π a w hR hQ => wp_label (hQ π a w hR)⟩⟩
  | scope a iha =>
    intro s x s' hs h
    simp only [acode] at h
    obtain ⟨e1, e2, e3⟩ := iha _ _ _ hs h
    refine ⟨e1, e2, fun hobs => ?_⟩
    obtain ⟨g3, g4⟩ := e3 hobs
    refine ⟨g3, fun Q π a w hR hQ => ?_⟩
    refine wp_scope_straight (g4 _ π a w hR fun π' a' w' hR' => ?_)
    have := hQ π' a' w' hR'
    cases x with
    | normal => exact this
    | exit id => exact this
    | ret => exact this
  | region id ops draw =>
    intro s x s' hs h
    simp only [acode] at h
    split at h
    · rename_i s1 h1
      cases h
      exact aregion_wp hG hs h1
    · cases h
  | seq a b iha ihb =>
    intro s x s' hs h
    simp only [acode] at h
    split at h
    · rename_i s1 h1
      obtain ⟨e1, e2, e3⟩ := iha _ _ _ hs h1
      obtain ⟨f1, f2, f3⟩ := ihb _ _ _ e1 h
      refine ⟨f1, f2.trans e2, fun hobs => ?_⟩
      obtain ⟨g1, g2⟩ := f3 hobs
      obtain ⟨g3, g4⟩ := e3 g1
      refine ⟨g3, fun Q π a w hR hQ => ?_⟩
      refine wp_seq (g4 _ π a w hR fun π' a' w' hR' => ?_)
      exact g2 Q π' a' w' (e2 ▸ hR') fun π'' a'' w'' hR'' => hQ π'' a'' w'' (by rw [e2] at hR''; exact hR'')
    · rename_i r hne
      obtain ⟨e1, e2, e3⟩ := iha _ _ _ hs h
      refine ⟨e1, e2, fun hobs => ?_⟩
      obtain ⟨g3, g4⟩ := e3 hobs
      refine ⟨g3, fun Q π a w hR hQ => ?_⟩
      refine wp_seq (g4 _ π a w hR fun π' a' w' hR' => ?_)
      cases x with
      | normal => exact absurd h (hne _)
      | exit id => exact hQ π' a' w' hR'
      | ret => exact hQ π' a' w' hR'
  | cond c a b iha ihb =>
    intro s x s' hs h
    simp only [acode] at h
    split at h
    · rename_i hc
      obtain ⟨e1, e2, e3⟩ := iha _ _ _ hs h
      refine ⟨e1, e2, fun hobs => ?_⟩
      obtain ⟨g3, g4⟩ := e3 hobs
      refine ⟨g3, fun Q π a w hR hQ => ?_⟩
      have := hR.ev c
      simp only [St.fs] at this
      rw [← evL_evG, hc] at this
      exact wp_cond_true this (g4 Q π a w hR hQ)
    · rename_i hc
      obtain ⟨e1, e2, e3⟩ := ihb _ _ _ hs h
      refine ⟨e1, e2, fun hobs => ?_⟩
      obtain ⟨g3, g4⟩ := e3 hobs
      refine ⟨g3, fun Q π a w hR hQ => ?_⟩
      have := hR.ev c
      simp only [St.fs] at this
      rw [← evL_evG, hc] at this
      exact wp_cond_false this (g4 Q π a w hR hQ)
    · cases h
  | block id a iha =>
    intro s x s' hs h
    simp only [acode] at h
    split at h
    · rename_i id' s1 h1
      obtain ⟨e1, e2, e3⟩ := iha _ _ _ hs h1
      have hs1 : s' = s1 := by cases hq : Nat.beq id' id <;> simp only [hq, cond_true, cond_false] at h <;> cases h <;> rfl
      subst hs1
      refine ⟨e1, e2, fun hobs => ?_⟩
      obtain ⟨g3, g4⟩ := e3 hobs
      refine ⟨g3, fun Q π a w hR hQ => ?_⟩
      refine wp_block (g4 _ π a w hR fun π' a' w' hR' => ?_)
      have := hQ π' a' w' hR'
      simp only [Ex.out, Exit.inBlock]
      cases hq : Nat.beq id' id <;> simp only [hq, cond_true, cond_false] at h <;> cases h
      · rw [if_neg (fun e => by subst e; simp at hq)]; exact this
      · rw [if_pos (Nat.eq_of_beq_eq_true hq)]; exact this
    · rename_i r hne
      obtain ⟨e1, e2, e3⟩ := iha _ _ _ hs h
      refine ⟨e1, e2, fun hobs => ?_⟩
      obtain ⟨g3, g4⟩ := e3 hobs
      refine ⟨g3, fun Q π a w hR hQ => ?_⟩
      refine wp_block (g4 _ π a w hR fun π' a' w' hR' => ?_)
      have := hQ π' a' w' hR'
      cases x with
      | exit id => exact absurd h (hne _ _)
      | normal => exact this
      | ret => exact this
  | loop a iha =>
    intro s x s' hs h
    simp only [acode] at h
    obtain ⟨e1, e2, e3⟩ := aloop_wp (fun s x s' => iha s x s') fuel s x s' hs h
    refine ⟨e1, e2, fun hobs => ?_⟩
    obtain ⟨g3, g4⟩ := e3 hobs
    exact ⟨g3, fun Q π a w hR hQ => wp_loop_rounds fuel (g4 Q π a w hR hQ)⟩
  | exit id =>
    intro s x s' hs h
    cases h
    exact ⟨hs, rfl, fun hobs => ⟨hobs, fun Q π a w hR hQ => wp_exit (hQ π a w hR)⟩⟩
  | ret =>
    intro s x s' hs h
    cases h
    exact ⟨hs, rfl, fun hobs => ⟨hobs, fun Q π a w hR hQ => wp_ret (hQ π a w hR)⟩⟩
  | _ => intro s x s' hs h; cases h
end
end Go.Mo
