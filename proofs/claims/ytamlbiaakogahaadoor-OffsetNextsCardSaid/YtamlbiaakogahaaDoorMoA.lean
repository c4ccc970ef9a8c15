/- The abstract evaluator: append. -/
import Derived.Test.YtamlbiaakogahaaDoorMo6
namespace Go.Mo
open Go Go.RowKit
section
variable {G : Gl} {K : Cx} {π : Loc} {m : Nat → Option Blk} {w0 w : World} {fresh : Nat} {out : Out} {fp : List Nat} {P : Program}

theorem updM_twice (m : Nat → Option Blk) (b : Nat) (x y : Blk) : updM (updM m b x) b y = updM m b y := by
  funext j; unfold updM; split <;> rfl

theorem segsCv_split : ∀ {gs hs : List Seg} {ws : List Value}, segsCv π (gs ++ hs) ws → ∃ a b, ws = a ++ b ∧ segsCv π gs a ∧ segsCv π hs b
  | [], _, ws, h => ⟨[], ws, rfl, rfl, h⟩
  | _ :: _, _, _, ⟨a, b, e, ha, hb⟩ => by
    obtain ⟨c, d, e', hc, hd⟩ := segsCv_split hb
    subst e'; subst e
    exact ⟨a ++ c, d, by simp, ⟨a, c, rfl, ha, hc⟩, hd⟩

theorem halves_cv {gs pre old : List Seg} {off n : Nat} {vs : List Value} (h : halves gs off n = some (pre, old)) (hs : segsSize gs = off + n) (hc : segsCv π gs vs) :
    segsCv π pre (vs.take (segsSize pre)) ∧ segsSize pre ≤ off ∧ segsCv π old (vs.drop off) ∧ segsSize old = n := by
  have hl := segsCv_length hc
  unfold halves at h
  cases h0 : Nat.beq off 0 <;> simp only [h0, cond_true, cond_false] at h
  · split at h
    · rename_i pre' old' h1 h2
      cases h
      obtain ⟨_, a2⟩ := getSegs_cv hc h1
      obtain ⟨_, b2⟩ := getSegs_cv hc h2
      rw [List.drop_zero] at a2
      have l1 := segsCv_length a2
      rw [List.length_take, Nat.min_eq_left (by omega)] at l1
      rw [List.take_of_length_le (by simp; omega)] at b2
      have l2 := segsCv_length b2
      rw [List.length_drop] at l2
      refine ⟨by rw [← l1]; exact a2, by omega, b2, by omega⟩
    · cases h
  · cases h
    have h0 := Nat.eq_of_beq_eq_true h0
    subst h0
    exact ⟨by simp [segsSize, segsCv], by simp [segsSize], by rw [List.drop_zero]; exact hc, by omega⟩

theorem cut_less {p : Pl} {k j : Nat} {vs : List Value} (h : j ≤ k) : (cut p k vs).take j = cut p j vs := by
  unfold cut; rw [List.take_take, Nat.min_eq_left h]

theorem cut_drop {p : Pl} {k j : Nat} {vs : List Value} : (cut p k vs).drop j = cut ⟨p.n, p.base + j, p.z⟩ (k - j) vs := by
  unfold cut; rw [List.drop_take, List.drop_drop]

/-- Of a block only the first cells are kept, to be read. -/
theorem Rel.halve (h : Rel G π m w0 w) {b : Nat} {blk : Blk} (hb : m b = some blk) (hw : blk.wr = true) {pre : List Seg} (hs : segsSize pre ≤ segsSize blk.gs)
    (hc : ∀ vs, segsCv π blk.gs vs → segsCv π pre (vs.take (segsSize pre))) : Rel G π (updM m b ⟨pre, false⟩) w0 w := by
  refine ⟨?_, ?_, ?_, h.glob, h.globOld, h.below, h.base⟩
  · intro j c hj
    unfold updM at hj
    split at hj
    · rename_i e; subst e; cases hj
      obtain ⟨p, vs, T, fz, e1, e2, _⟩ := h.blk j blk hb
      refine ⟨p, vs, T, fz, e1, ⟨e2.1, e2.2.1, by have := e2.2.2.1; show _ + segsSize pre ≤ _; omega, ?_⟩, fun q => by cases q⟩
      have := hc _ e2.2.2.2
      rw [cut_less hs] at this
      exact this
    · exact h.blk j c hj
  · intro i j p q bi bj hne hi hj pi pj hpq hwr
    unfold updM at hi hj
    split at hi
    · cases hi; cases hwr
    · split at hj
      · rename_i e; subst e
        have := (h.inj i j p q bi blk hne hi hb pi pj hpq hwr).2
        rw [hw] at this; cases this
      · exact h.inj i j p q bi bj hne hi hj pi pj hpq hwr
  · intro j hj
    unfold updM at hj
    split at hj
    · cases hj
    · exact h.dom j hj

/-- A block's cells from off on get a new number; those before stay to be read. -/
theorem Rel.move (h : Rel G π m w0 w) {b fresh : Nat} {gs pre old : List Seg} {off : Nat} {p : Pl} (hb : m b = some ⟨gs, true⟩) (hp : π b = some p) (hf : m fresh = none)
    (hs : segsSize pre ≤ off) (hz : off + segsSize old = segsSize gs) (hc : ∀ vs, segsCv π gs vs → segsCv π pre (vs.take (segsSize pre)) ∧ segsCv π old (vs.drop off)) :
    π.le (updL π fresh ⟨p.n, p.base + off, p.z⟩) ∧ Rel G (updL π fresh ⟨p.n, p.base + off, p.z⟩) (updM (updM m b ⟨pre, false⟩) fresh ⟨old, true⟩) w0 w := by
  have hle := updL_le h hf ⟨p.n, p.base + off, p.z⟩
  have hne : b ≠ fresh := fun e => by subst e; rw [hb] at hf; cases hf
  have hk := h.halve hb rfl (pre := pre) (by show _ ≤ segsSize gs; omega) fun vs q => (hc vs q).1
  refine ⟨hle, ⟨?_, ?_, ?_, h.glob, h.globOld, h.below, Loc.le_trans h.base hle⟩⟩
  · intro j c hj
    unfold updM at hj
    split at hj
    · rename_i e; subst e; cases hj
      obtain ⟨p', vs, T, fz, e1, e2, e3⟩ := h.blk b _ hb
      rw [hp] at e1; cases e1
      refine ⟨⟨p.n, p.base + off, p.z⟩, vs, T, fz, by simp [updL], ⟨e2.1, e2.2.1, ?_, ?_⟩, e3⟩
      · have := e2.2.2.1
        show p.base + off + segsSize old ≤ p.z
        have e4 : p.base + segsSize gs ≤ p.z := this
        omega
      · have := (hc _ e2.2.2.2).2
        rw [cut_drop] at this
        have e5 : segsSize gs - off = segsSize old := by omega
        rw [show segsSize (Blk.mk gs true).gs - off = segsSize old from e5] at this
        exact segsCv_mono hle this
    · obtain ⟨p', vs, T, fz, e1, e2, e3⟩ := hk.blk j c hj
      exact ⟨p', vs, T, fz, hle _ _ e1, e2.mono hle rfl, e3⟩
  · intro i j q r bi bj hij hi hj pi pj hqr hwr
    unfold updM at hi hj
    unfold updL at pi pj
    split at hi
    · rename_i x1
      rw [if_pos x1] at pi; cases pi; cases hi
      split at hj
      · rename_i x2; exact absurd (x1.trans x2.symm) hij
      · rename_i x2
        rw [if_neg x2] at pj
        split at hj
        · rename_i x3; subst x3
          cases hj
          rw [hp] at pj; cases pj
          exact ⟨.inr (by show p.base + segsSize pre ≤ p.base + off; omega), rfl⟩
        · rename_i x3
          obtain ⟨g1, g2⟩ := h.inj b j p r _ bj (Ne.symm x3) hb hj hp pj hqr rfl
          exact ⟨g1.imp id fun g => by show _ ≤ p.base + off; omega, g2⟩
    · rename_i x1
      rw [if_neg x1] at pi
      split at hi
      · cases hi; cases hwr
      · rename_i x3
        split at hj
        · rename_i x2
          rw [if_pos x2] at pj; cases pj
          have := (h.inj i b q p bi _ x3 hi hb pi hp hqr hwr).2
          cases this
        · rename_i x2
          rw [if_neg x2] at pj
          split at hj
          · rename_i x4; subst x4
            have := (h.inj i j q r bi _ x3 hi hb pi pj hqr hwr).2
            cases this
          · exact h.inj i j q r bi bj hij hi hj pi pj hqr hwr
  · intro j hj
    unfold updM at hj; unfold updL
    split at hj
    · cases hj
    · rename_i x1
      rw [if_neg x1]
      split at hj
      · cases hj
      · exact h.dom j hj

theorem joinSegs_cv : ∀ {gs hs : List Seg} {us vs : List Value}, segsCv π gs us → segsCv π hs vs → segsCv π (joinSegs gs hs) (us ++ vs) := by
  intro gs
  induction gs with
  | nil => intro hs us vs hg hh; have : us = [] := hg; subst this; exact hh
  | cons g gs ih =>
    intro hs us vs hg hh
    unfold joinSegs
    split
    · rename_i e; cases e
    · rename_i n l k l' hs' e
      cases e
      obtain ⟨a, b, rfl, ⟨h1, rfl⟩, h3⟩ := hg
      have : b = [] := h3
      subst this
      obtain ⟨c, d, rfl, ⟨h4, rfl⟩, h6⟩ := hh
      exact ⟨l.map v8 ++ l'.map v8, d, by simp, ⟨by simp; omega, by simp⟩, h6⟩
    · rename_i n l k l' hs' e
      cases e
      obtain ⟨a, b, rfl, ⟨h1, rfl⟩, h3⟩ := hg
      have : b = [] := h3
      subst this
      obtain ⟨c, d, rfl, ⟨h4, rfl⟩, h6⟩ := hh
      exact ⟨l.map v64 ++ l'.map v64, d, by simp, ⟨by simp; omega, by simp⟩, h6⟩
    · rename_i n l x hs' e
      cases e
      obtain ⟨a, b, rfl, ⟨h1, rfl⟩, h3⟩ := hg
      have : b = [] := h3
      subst this
      obtain ⟨c, d, rfl, ⟨v, rfl, hv⟩, h6⟩ := hh
      have hv : v = .int .i64 x := hv
      subst hv
      exact ⟨l.map v64 ++ [v64 x], d, by simp [v64], ⟨by simp; omega, by simp⟩, h6⟩
    · rename_i n l x hs' e
      cases e
      obtain ⟨a, b, rfl, ⟨h1, rfl⟩, h3⟩ := hg
      have : b = [] := h3
      subst this
      obtain ⟨c, d, rfl, ⟨v, rfl, hv⟩, h6⟩ := hh
      have hv : v = .int .i64 x := hv
      subst hv
      exact ⟨l.map v64 ++ [v64 x], d, by simp [v64], ⟨by simp; omega, by simp⟩, h6⟩
    · rename_i y x hs' e
      cases e
      obtain ⟨a, b, rfl, ⟨u, rfl, hu⟩, h3⟩ := hg
      have : b = [] := h3
      subst this
      obtain ⟨c, d, rfl, ⟨v, rfl, hv⟩, h6⟩ := hh
      have hu : u = .int .i64 y := hu
      have hv : v = .int .i64 x := hv
      subst hu; subst hv
      exact ⟨[v64 y, v64 x], d, by simp [v64], ⟨rfl, rfl⟩, h6⟩
    · rename_i y x hs' e
      cases e
      obtain ⟨a, b, rfl, ⟨u, rfl, hu⟩, h3⟩ := hg
      have : b = [] := h3
      subst this
      obtain ⟨c, d, rfl, ⟨v, rfl, hv⟩, h6⟩ := hh
      have hu : u = .int .i64 y := hu
      have hv : v = .int .i64 x := hv
      subst hu; subst hv
      exact ⟨[v64 y, v64 x], d, by simp [v64], ⟨rfl, rfl⟩, h6⟩
    · rename_i n l x hs' e
      cases e
      obtain ⟨a, b, rfl, ⟨h1, rfl⟩, h3⟩ := hg
      have : b = [] := h3
      subst this
      obtain ⟨c, d, rfl, ⟨v, rfl, hv⟩, h6⟩ := hh
      have hv : v = .int .u8 (x.toNat : Int) := hv
      subst hv
      exact ⟨l.map v8 ++ [v8 x], d, by simp [v8], ⟨by simp; omega, by simp⟩, h6⟩
    · rename_i g' gs' e _ _ _ _ _ _ _
      cases e
      obtain ⟨a, b, rfl, h1, h2⟩ := hg
      exact ⟨a, b ++ vs, by simp, h1, ih h2 hh⟩

/-! ### The built-in append -/

theorem append_fits {t t' ty e e' : TypeId} {ts : List TypeId} {i : TypeInfo} {a : Addr} {len cap k : Nat} {xv : Value} {us : List Value} {w' : World} (hu : P.underlying t = some (.slice e)) (hu' : P.underlying t' = some (.slice e'))
    (hi : P.info? e = some i) (hx : ∃ a c, xv = .slice a k c) (hfit : len + k ≤ cap) (h1 : (Builtin.firstCells i.size k xv).run P w = .ok us.toArray w)
    (h2 : (storeCells (a.add (len * i.size)) us 0).run P w = .ok () w') :
    (Builtin.append_ (t :: t' :: ts).toArray ty #[.slice (some a) len cap, xv]).run P w = .ok (.slice (some a) (len + k) cap) w' := by
  obtain ⟨a', c', rfl⟩ := hx
  simp [Builtin.append_, run_underlying hu, run_underlying hu', Builtin.lenOf, run_size hi, hfit, h1, h2]

def roomOf (w : World) (need old e : Nat) : Nat := need + w.tape w.drawn (.appendCap need old e) % (2 ^ 63 - need)

theorem append_grows {t t' ty e e' : TypeId} {ts : List TypeId} {i : TypeInfo} {zv : Value} {a : Option Addr} {len cap k : Nat} {xv : Value} {os us : List Value} (hu : P.underlying t = some (.slice e)) (hu' : P.underlying t' = some (.slice e'))
    (hi : P.info? e = some i) (hz : i.zero = some zv) (hx : ∃ a c, xv = .slice a k c) (hfit : cap < len + k) (hsmall : len + k ≤ 1000000) (hb : i.bytes ≤ 64)
    (h0 : ∀ W : World, W.heap = w.heap → (Builtin.firstCells i.size len (.slice a len cap)).run P W = .ok os.toArray W)
    (h1 : ∀ W : World, W.heap = w.heap → (Builtin.firstCells i.size k xv).run P W = .ok us.toArray W) :
    (Builtin.append_ (t :: t' :: ts).toArray ty #[.slice a len cap, xv]).run P w =
      .ok (.slice (some ⟨w.heap.size, 0, none⟩) (len + k) (roomOf w (len + k) cap e))
        (w.drew.alloc (.cells (os ++ (us ++ (Builtin.zeroCells zv.cells (roomOf w (len + k) cap e - (len + k))).toList)).toArray e)) := by
  obtain ⟨a', c', rfl⟩ := hx
  have g1 : ¬ (len + k ≤ cap) := by omega
  have g2 : Builtin.nextslicecap (len + k) cap * i.bytes ≤ 281474976710656 := growslice_fits hfit (by
    have : (len + k) * i.bytes ≤ 1000000 * 64 := Nat.mul_le_mul hsmall hb
    omega)
  have g3 : ¬ (Builtin.nextslicecap (len + k) cap * i.bytes > 2 ^ 48) := by omega
  have g4 : ¬ ((((len + k : Nat) : Int) > IntKind.i64.max) ∧ (False ∨ i.bytes = 0)) := by
    intro q
    have := q.1
    simp [IntKind.max, IntKind.signed, IntKind.bits] at this
    omega
  have e0 := h0 w.drew rfl
  have e1 := h1 w.drew rfl
  have hzv : ∀ W, (zeroValue e).run P W = .ok zv W := fun W => by simp [zeroValue, run_info hi, hz]
  have hcut : (Question.appendCap (len + k) cap e).cut (w.tape w.drawn (Question.appendCap (len + k) cap e)) = roomOf w (len + k) cap e := rfl
  simp [Builtin.append_, run_underlying hu, run_underlying hu', Builtin.lenOf, run_size hi, run_info hi, g1, hzv, newRow]
  rw [if_neg (by omega), if_neg (by omega), if_neg (by simp [Question.forced]), e0]
  simp only [Result.andThen_ok]
  rw [e1]
  simp only [Result.andThen_ok, hcut]
  congr 2
  congr 1
  apply Array.ext'
  simp

theorem zeroCells_size (z : Array Value) (n : Nat) : (Builtin.zeroCells z n).size = n * z.size := by simp [Builtin.zeroCells]

theorem roomOf_ge (w : World) (need old e : Nat) : need ≤ roomOf w need old e := by unfold roomOf; omega

/-- The row that append lays anew. -/
theorem grown_rel {t t' ty e e' : TypeId} {ts : List TypeId} {i : TypeInfo} {zv : Value} {a : Option Addr} {len cap k : Nat} {xv : Value} {os us : List Value} {old new : List Seg} {m' : Nat → Option Blk}
    (hR : Rel G π m' w0 w) (hf : m' fresh = none)
    (hu : K.P.underlying t = some (.slice e)) (hu' : K.P.underlying t' = some (.slice e'))
    (hi : K.P.info? e = some i) (hz : i.zero = some zv) (hzs : zv.cells.size = i.size) (hx : ∃ a c, xv = .slice a k c) (hfit : cap < len + k) (hsmall : len + k ≤ 1000000) (hb : i.bytes ≤ 64)
    (h0 : ∀ W : World, W.heap = w.heap → (Builtin.firstCells i.size len (.slice a len cap)).run K.P W = .ok os.toArray W)
    (h1 : ∀ W : World, W.heap = w.heap → (Builtin.firstCells i.size k xv).run K.P W = .ok us.toArray W)
    (ho : segsCv π old os) (hn : segsCv π new us) (hlo : os.length = len * i.size) (hln : us.length = k * i.size) :
    ∃ rv w' π', (Builtin.append_ (t :: t' :: ts).toArray ty #[.slice a len cap, xv]).run K.P w = .ok rv w' ∧ π.le π' ∧ (V.s (.osl fresh 0 (len + k) i.size)).cv π' rv ∧
      Rel G π' (updM m' fresh ⟨joinSegs old new, true⟩) w0 w' := by
  have hrun := append_grows (P := K.P) (ty := ty) (ts := ts) hu hu' hi hz hx hfit hsmall hb h0 h1
  rw [← List.append_assoc] at hrun
  obtain ⟨g1, g2⟩ := hR.drew.allocRow hf (joinSegs_cv ho hn) (Builtin.zeroCells zv.cells (roomOf w (len + k) cap e - (len + k))).toList e
  have hge := roomOf_ge w (len + k) cap e
  refine ⟨_, _, _, hrun, g1, ⟨⟨w.heap.size, 0, _⟩, roomOf w (len + k) cap e, by simp [updL]; rfl, ?_, hge, rfl⟩, g2⟩
  simp only [zeroCells_size, hlo, hln, hzs, Nat.zero_add]
  rw [← Nat.add_mul, ← Nat.add_mul]
  exact Nat.le_of_eq (by congr 1; omega)

theorem cut_grow {p : Pl} {vs us : List Value} {L : Nat} (h : p.base + L + us.length ≤ vs.length) : cut p (L + us.length) (splice vs (p.base + L) us) = cut p L vs ++ us := by
  unfold cut splice
  have e1 : (vs.take (p.base + L)).length = p.base + L := by simp; omega
  rw [List.drop_append_of_le_length (by omega), List.drop_take]
  have e2 : (List.take (p.base + L - p.base) (List.drop p.base vs)).length = L := by simp; omega
  rw [List.take_append, List.take_of_length_le (by omega), e2, show L + us.length - L = us.length by omega, List.take_left]
  rw [show p.base + L - p.base = L by omega]

theorem appendNew_run {sz len : Nat} {kill : Option (Nat × Blk)} {old new : List Seg} (h : (appendNew fresh sz len kill old new).run m = some (out, fp)) :
    out = ⟨.s (.osl fresh 0 len sz), [joinSegs old new], kill, []⟩ := by cases h; rfl

theorem s_append {t t' : TypeId} {ts : List TypeId} {x y : V} {xv yv : Value} {ty : TypeId} {e2 : TypeId × Nat} (hty' : tySlice K.P t' = some e2) (hR : Rel G π m w0 w) (hx : x.cv π xv) (hy : y.cv π yv)
    (h : (aappend K fresh t x y).run m = some (out, fp)) (hf : ∀ j, j < out.news.length → m (fresh + j) = none) :
    Res G K.P π m w0 fresh out (Builtin.append_ (t :: t' :: ts).toArray ty #[xv, yv]) w := by
  obtain ⟨hu', _⟩ := tySlice_some (e := e2.1) (sz := e2.2) hty'
  have hf1 : out.news.length = 1 → m fresh = none := fun q => hf 0 (by omega)
  unfold aappend at h
  split at h
  · rename_i e sz src k hty hsrc
    obtain ⟨hu, i, hi, rfl⟩ := tySlice_some hty
    have hsc := srcOf_cv hsrc hy
    have hyv := hsc.len
    cases hk0 : Nat.beq k 0 <;> simp only [hk0, cond_true, cond_false] at h
    · split at h
      · rename_i i' d hi' hd
        rw [hi] at hi'; cases hi'
        split at h
        · exact (fail_run h).elim
        · rename_i zv hz
          cases hc : (Nat.ble i.bytes 64 && !(Nat.beq i.size 0) && Nat.beq zv.cells.size i.size) <;> simp only [hc, cond_true, cond_false] at h
          · exact (fail_run h).elim
          · simp only [Bool.and_eq_true, Bool.not_eq_true'] at hc
            have c1 := Nat.le_of_ble_eq_true hc.1.1
            have c2 : i.size ≠ 0 := fun q => by have := hc.1.2; rw [q] at this; cases this
            have c3 := Nat.eq_of_beq_eq_true hc.2
            have ck : k ≠ 0 := fun q => by subst q; cases hk0
            split at h
            · cases hl : Nat.ble k appendLimit <;> simp only [hl, cond_true, cond_false] at h
              · exact (fail_run h).elim
              · have hl' : k ≤ 1000000 := Nat.le_of_ble_eq_true hl
                have hxv : xv = .slice none 0 0 := by
                  unfold dstOf at hd
                  split at hd
                  · exact hx
                  · cases hd
                  · rename_i z; cases hq : Nat.beq z i.size <;> simp only [hq, cond_true, cond_false] at hd <;> cases hd
                  · cases hd
                subst hxv
                obtain ⟨new, us, fp', h1, h2, h3, h4, h5⟩ := readSrc_run (P := K.P) hR hsc h
                have := appendNew_run h1
                subst this
                have hg := grown_rel (ty := ty) (ts := ts) (len := 0) (cap := 0) (a := none) (old := []) (os := []) hR (hf1 rfl) hu hu' hi hz c3 hyv (by omega) (by omega) c1
                  (fun W _ => rfl) h5 rfl h2 (by simp) h3
                obtain ⟨rv, w', π', g1, g2, g3, g4⟩ := hg
                rw [Nat.zero_add] at g3
                exact ⟨rv, w', π', g1, g2, g3, g4⟩
            · rename_i b off len cap
              cases hl : Nat.ble (len + k) appendLimit <;> simp only [hl, cond_true, cond_false] at h
              · exact (fail_run h).elim
              · have hl' : len + k ≤ 1000000 := Nat.le_of_ble_eq_true hl
                have hxe : x = .s (.slice b off len cap) := by
                  unfold dstOf at hd
                  split at hd
                  · cases hd
                  · cases hd; rfl
                  · rename_i z; cases hq : Nat.beq z i.size <;> simp only [hq, cond_true, cond_false] at hd <;> cases hd
                  · cases hd
                subst hxe
                obtain ⟨p, hp, rfl⟩ := hx
                cases hq : Nat.ble (len + k) cap <;> simp only [hq, cond_true, cond_false] at h
                · have hlt : cap < len + k := by
                    rcases Nat.lt_or_ge cap (len + k) with r | r
                    · exact r
                    · rw [Nat.ble_eq_true_of_le r] at hq; cases hq
                  obtain ⟨old, os, fp1, a1, a2, a3, a4, a5⟩ := readSrc_run (P := K.P) (s := some (b, off)) (len := len) hR (show SrcCv π (some (b, off)) len _ from ⟨p, cap, hp, rfl⟩) h
                  obtain ⟨new, us, fp', h1, h2, h3, h4, h5⟩ := readSrc_run (P := K.P) hR hsc a1
                  have := appendNew_run h1
                  subst this
                  exact grown_rel (ty := ty) (ts := ts) hR (hf1 rfl) hu hu' hi hz c3 hyv hlt hl' c1 a5 h5 a2 h2 a3 h3
                · have hle := Nat.le_of_ble_eq_true hq
                  obtain ⟨new, us, fp', h1, h2, h3, h4, h5⟩ := readSrc_run (P := K.P) hR hsc h
                  split at h1
                  · exact (fail_run h1).elim
                  · rename_i pp ps
                    obtain ⟨blk, fp2, hb, hk, _⟩ := read_run h1
                    cases hw : blk.wr <;> simp only [hw, cond_true, cond_false] at hk
                    · exact (fail_run hk).elim
                    · split at hk
                      · rename_i gs hput
                        cases hk
                        obtain ⟨w', s1, s2⟩ := store_run (P := K.P) hR hb hp hw h2 h4 (by simp) hput
                        refine ⟨_, w', π, append_fits (ts := ts) (ty := ty) hu hu' hi hyv hle (h5 w rfl) ?_, π.le_refl, ⟨p, hp, rfl⟩, s2⟩
                        rw [addr_add, Nat.add_assoc]; exact s1
                      · exact (fail_run hk).elim
            · rename_i b off len
              cases hl : Nat.ble (len + k) appendLimit <;> simp only [hl, cond_true, cond_false] at h
              · exact (fail_run h).elim
              · have hl' : len + k ≤ 1000000 := Nat.le_of_ble_eq_true hl
                have hxe : x = .s (.osl b off len i.size) := by
                  unfold dstOf at hd
                  split at hd
                  · cases hd
                  · cases hd
                  · rename_i z
                    cases hq : Nat.beq z i.size <;> simp only [hq, cond_true, cond_false] at hd <;> cases hd
                    rw [Nat.eq_of_beq_eq_true hq]
                  · cases hd
                subst hxe
                obtain ⟨p, c, hp, hcz, hlc, rfl⟩ := hx
                obtain ⟨blk, fp1, hb, hk, _⟩ := read_run h
                split at hk
                · rename_i pre old hhv
                  cases hw : (blk.wr && Nat.beq (segsSize blk.gs) (off + len * i.size) && solidSegs old) <;> simp only [hw, cond_true, cond_false] at hk
                  · exact (fail_run hk).elim
                  · simp only [Bool.and_eq_true] at hw
                    obtain ⟨⟨w1, w2⟩, w3⟩ := hw
                    have w2 := Nat.eq_of_beq_eq_true w2
                    obtain ⟨new, us, fp', h1, h2, h3, h4, h5⟩ := readSrc_run (P := K.P) hR hsc hk
                    have := appendNew_run h1
                    subst this
                    have hfr := hf1 rfl
                    obtain ⟨p', vs, T, fz, f1, f2, f4⟩ := hR.blk b blk hb
                    rw [hp] at f1; cases f1
                    obtain ⟨f5, f6⟩ := f4 w1
                    subst f5
                    have hb1 := f2.2.1
                    have hb2 := f2.2.2.1
                    have hne : b ≠ fresh := fun q => by subst q; rw [hb] at hfr; cases hfr
                    obtain ⟨q1, q2, q3, q4⟩ := halves_cv hhv w2 f2.2.2.2
                    have hcl : (cut p (segsSize blk.gs) vs).length = segsSize blk.gs := cut_length (by omega)
                    have hol : ((cut p (segsSize blk.gs) vs).drop off).length = len * i.size := by rw [List.length_drop, hcl]; omega
                    by_cases hroom : len + k ≤ c
                    · have hmul : (len + k) * i.size ≤ c * i.size := Nat.mul_le_mul_right _ hroom
                      have hfit : p.base + segsSize blk.gs + us.length ≤ vs.length := by rw [h3]; rw [Nat.add_mul] at hmul; omega
                      have hst := run_storeCells_at K.P p.n (p.base + segsSize blk.gs) T us 0 vs.toArray w f2.1 (by simp; omega) h4
                      have hjc := segsCv_append f2.2.2.2 h2
                      have hjs : segsSize (blk.gs ++ new) = segsSize blk.gs + us.length := by rw [← segsCv_length hjc]; simp [hcl]
                      have hwr := hR.write (vs := splice vs (p.base + segsSize blk.gs) us) (gs := blk.gs ++ new) hb w1 hp f2.1 (splice_length (by omega)) (splice_take (by omega) (by omega)) (by omega)
                        (by rw [hjs, cut_grow hfit]; exact hjc)
                      have hjo : segsSize (joinSegs old new) = len * i.size + us.length := by rw [← segsCv_length (joinSegs_cv q3 h2)]; simp [hol]
                      obtain ⟨g1, g2⟩ := hwr.move (fresh := fresh) (b := b) (gs := blk.gs ++ new) (pre := pre) (old := joinSegs old new) (off := off) (by simp [updM]) hp (by simp [updM, Ne.symm hne, hfr]) q2
                        (by rw [hjs, hjo]; omega)
                        (by
                          intro us' hus'
                          obtain ⟨a, b', rfl, ha, hb'⟩ := segsCv_split hus'
                          have hal := segsCv_length ha
                          obtain ⟨r1, r2, r3, _⟩ := halves_cv hhv w2 ha
                          constructor
                          · rw [List.take_append_of_le_length (by omega)]; exact r1
                          · rw [List.drop_append_of_le_length (by omega)]; exact joinSegs_cv r3 hb')
                      rw [updM_twice] at g2
                      refine ⟨.slice (some ⟨p.n, p.base + off, none⟩) (len + k) c, _, _, append_fits (ts := ts) (ty := ty) hu hu' hi hyv hroom (h5 w rfl) ?_, g1, ⟨⟨p.n, p.base + off, p.z⟩, c, by simp [updL], by show p.base + off + 0 + c * i.size ≤ p.z; omega, hroom, rfl⟩, g2⟩
                      rw [addr_add, show p.base + off + len * i.size = p.base + segsSize blk.gs by omega, hst]
                      simp [splice]
                    · have hold : ∀ W : World, W.heap = w.heap → (Builtin.firstCells i.size len (.slice (some ⟨p.n, p.base + off, none⟩) len c)).run K.P W = .ok ((cut p (segsSize blk.gs) vs).drop off).toArray W := by
                        intro W hW
                        simp only [Builtin.firstCells]
                        rw [run_cells (o := p.base + off) (w := W) (by rw [hW]; exact f2.1) (by right; omega)]
                        rw [cut_drop]
                        unfold cut
                        rw [w2, Nat.add_sub_cancel_left]
                      exact grown_rel (ty := ty) (ts := ts) (hR.halve hb w1 (pre := pre) (by omega) fun us' hus' => (halves_cv hhv w2 hus').1) (by show updM m b _ fresh = none; simp [updM, Ne.symm hne, hfr]) hu hu' hi hz c3 hyv (by omega) hl' c1 hold h5 q3 h2 hol h3
                · exact (fail_run hk).elim
      · exact (fail_run h).elim
    · have hk := Nat.eq_of_beq_eq_true hk0
      subst hk
      obtain ⟨a', c', rfl⟩ := hyv
      have zero : ∀ a len cap, xv = .slice a len cap → len ≤ cap → (Builtin.append_ (t :: t' :: ts).toArray ty #[xv, .slice a' 0 c']).run K.P w = .ok xv w := by
        rintro a len cap rfl hle
        have e1 : (Builtin.firstCells i.size 0 (.slice a' 0 c')).run K.P w = .ok #[] w := by
          cases a' with
          | none => rfl
          | some a' => simp only [Builtin.firstCells, Nat.zero_mul]; rfl
        cases a with
        | none => simp [Builtin.append_, run_underlying hu, run_underlying hu', Builtin.lenOf, run_size hi, hle, e1]
        | some a =>
          have e2 : ∀ A, (storeCells A [] 0).run K.P w = .ok () w := fun A => rfl
          simp [Builtin.append_, run_underlying hu, run_underlying hu', Builtin.lenOf, run_size hi, hle, e1, e2]
      unfold appendNone at h
      split at h
      · have := okV_run h; subst this
        exact Res.pure hR (zero none 0 0 hx (Nat.le_refl _)) hx
      · have := okV_run h; subst this
        obtain ⟨a, c, e⟩ := hx
        exact Res.pure hR (zero a 0 c e (Nat.zero_le _)) ⟨a, c, e⟩
      · have := okV_run h; subst this
        have hx' := hx
        obtain ⟨p, c, _, _, hle, e⟩ := hx'
        exact Res.pure hR (zero _ _ c e hle) hx
      · rename_i len cap
        cases hq : Nat.ble len cap <;> simp only [hq, cond_true, cond_false] at h
        · exact (fail_run h).elim
        · have := okV_run h; subst this
          have hx' := hx
          obtain ⟨p, _, e⟩ := hx'
          exact Res.pure hR (zero _ _ _ e (Nat.le_of_ble_eq_true hq)) hx
      · exact (fail_run h).elim
  · exact (fail_run h).elim
end
end Go.Mo
