/- The abstract evaluator, part 6: slices, literals, calls; every operation. -/
import Derived.Test.YtamlbiaakogahaaDoorMo5
namespace Go.Mo
open Go Go.RowKit
section
variable {G : Gl} {K : Cx} {π : Loc} {m : Nat → Option Blk} {w0 w : World} {fresh : Nat} {out : Out} {fp : List Nat} {P : Program}

/-! ### Slices -/

theorem bnd_cv {ev : Operand → V} {ρ : Operand → Value} (hev : ∀ x, (ev x).cv π (ρ x)) {x : Option Operand} {d l : Nat} (h : bnd ev x d = some l) :
    (x = none ∧ l = d) ∨ ∃ o k, x = some o ∧ ρ o = .int k (l : Int) := by
  unfold bnd at h
  split at h
  · cases h; exact .inl ⟨rfl, rfl⟩
  · rename_i o
    split at h
    · rename_i y hy
      have := hev o
      rw [hy] at this
      obtain ⟨k, hk⟩ := scNat_cv h this
      exact .inr ⟨o, k, rfl, hk⟩
    · cases h

theorem run_bounds {ev : Operand → V} {ρ : Operand → Value} (hev : ∀ x, (ev x).cv π (ρ x)) {lo hi : Option Operand} {len cap l h : Nat} (isS : Bool)
    (hl : bnd ev lo 0 = some l) (hh : bnd ev hi len = some h) (h1 : l ≤ h) (h2 : h ≤ cap) :
    (Instr.sliceBounds isS len cap (lo.map ρ) (hi.map ρ) none).run P w = .ok (l, h, cap) w := by
  have run1 : ∀ (k : IntKind) (i y : Nat) (c : BoundsCode), i ≤ y → (Instr.sliceBound (.int k (i : Int)) y c).run P w = .ok i w := fun k i y c hle => by
    rw [run_sliceBound w k i y c (by omega) (by omega)]; rfl
  rcases bnd_cv hev hl with ⟨rfl, rfl⟩ | ⟨ol, kl, rfl, el⟩ <;> rcases bnd_cv hev hh with ⟨rfl, rfl⟩ | ⟨oh, kh, rfl, eh⟩
  · simp [Instr.sliceBounds]
  · simp [Instr.sliceBounds, eh, run1 _ _ _ _ h2]
  · simp [Instr.sliceBounds, el, run1 _ _ _ _ h1]
  · simp [Instr.sliceBounds, el, eh, run1 _ _ _ _ h1, run1 _ _ _ _ h2]

theorem run_slice_slice {ev : Operand → V} {ρ : Operand → Value} (hev : ∀ x, (ev x).cv π (ρ x)) {t e : TypeId} {i : TypeInfo} {lo hi : Option Operand} {n o len cap l h : Nat}
    (hu : P.underlying t = some (.slice e)) (hi' : P.info? e = some i) (hl : bnd ev lo 0 = some l) (hh : bnd ev hi len = some h) (h1 : l ≤ h) (h2 : h ≤ cap) :
    (Instr.sliceAt t (.slice (some ⟨n, o, none⟩) len cap) (lo.map ρ) (hi.map ρ) none).run P w =
      .ok (.slice (some (if cap = l then ⟨n, o, none⟩ else ⟨n, o + l * i.size, none⟩)) (h - l) (cap - l)) w := by
  simp only [Instr.sliceAt, Sem.run_bind, run_underlying hu, Result.andThen_ok, Instr.slice, Sem.run_pure, run_bounds hev true hl hh h1 h2, run_size hi']
  by_cases hq : cap = l
  · simp [hq]
  · simp [hq, addr_add]

theorem s_slice {ev : Operand → V} {ρ : Operand → Value} {t : TypeId} {x : V} {xv : Value} {lo hi mx : Option Operand} (hR : Rel G π m w0 w) (hev : ∀ x, (ev x).cv π (ρ x))
    (hx : x.cv π xv) (h : (aslice K ev t x lo hi mx).run m = some (out, fp)) : Res G K.P π m w0 fresh out (Instr.sliceAt t xv (lo.map ρ) (hi.map ρ) (mx.map ρ)) w := by
  unfold aslice at h
  split at h
  · rename_i b off
    obtain ⟨nn, hn, rfl⟩ := hx
    split at h
    · rename_i n e sz hty
      obtain ⟨hu, i, hi', rfl⟩ := tyArr_some hty
      split at h
      · rename_i l hh hl hh'
        cases hc : (Nat.ble l hh && Nat.ble hh n) <;> simp only [hc, cond_true, cond_false] at h
        · exact (fail_run h).elim
        · have := okS_run h; subst this
          simp only [Bool.and_eq_true] at hc
          have h1 := Nat.le_of_ble_eq_true hc.1
          have h2 := Nat.le_of_ble_eq_true hc.2
          refine Res.pure hR (rv := .slice (some ⟨nn.n, nn.base + (bif Nat.beq n l then off else off + l * i.size), none⟩) (hh - l) (n - l)) ?_ ⟨nn, hn, rfl⟩
          simp only [Instr.sliceAt, Sem.run_bind, run_underlying hu, Result.andThen_ok, Instr.sureAddr, Sem.run_pure, Option.map_none, run_bounds hev false hl hh' h1 h2, run_size hi']
          cases hq : Nat.beq n l
          · have : ¬ n = l := fun e => by subst e; simp at hq
            simp [this, addr_add, Nat.add_assoc]
          · have := Nat.eq_of_beq_eq_true hq
            simp [this]
      · exact (fail_run h).elim
    · exact (fail_run h).elim
  · rename_i b off len cap
    obtain ⟨nn, hn, rfl⟩ := hx
    split at h
    · rename_i e sz hty
      obtain ⟨hu, i, hi', rfl⟩ := tySlice_some hty
      split at h
      · rename_i l hh hl hh'
        cases hc : (Nat.ble l hh && Nat.ble hh cap) <;> simp only [hc, cond_true, cond_false] at h
        · exact (fail_run h).elim
        · have := okS_run h; subst this
          simp only [Bool.and_eq_true] at hc
          have h1 := Nat.le_of_ble_eq_true hc.1
          have h2 := Nat.le_of_ble_eq_true hc.2
          refine Res.pure hR (run_slice_slice hev hu hi' hl hh' h1 h2) ⟨nn, hn, ?_⟩
          cases hq : Nat.beq cap l
          · have : ¬ cap = l := fun e => by subst e; simp at hq
            simp [this, Nat.add_assoc]
          · have := Nat.eq_of_beq_eq_true hq
            simp [this]
      · exact (fail_run h).elim
    · exact (fail_run h).elim
  · rename_i b off len z
    obtain ⟨nn, c, hn, hcz, hlc, rfl⟩ := hx
    split at h
    · rename_i e sz hty
      obtain ⟨hu, i, hi', rfl⟩ := tySlice_some hty
      split at h
      · rename_i l hh hl hh'
        cases hc : (Nat.ble l hh && Nat.ble hh len && Nat.beq z i.size) <;> simp only [hc, cond_true, cond_false] at h
        · exact (fail_run h).elim
        · have := okS_run h; subst this
          simp only [Bool.and_eq_true] at hc
          have h1 := Nat.le_of_ble_eq_true hc.1.1
          have h2 := Nat.le_of_ble_eq_true hc.1.2
          have h3 := Nat.eq_of_beq_eq_true hc.2
          subst h3
          refine Res.pure hR (run_slice_slice hev hu hi' hl hh' h1 (by omega)) ?_
          cases hq : Nat.blt l len
          · have hle : ¬ l < len := fun q => by rw [show Nat.blt l len = true from Nat.ble_eq_true_of_le q] at hq; cases hq
            have : hh - l = 0 := by omega
            simp only [cond_false, this]
            exact ⟨_, _, rfl⟩
          · have hlt : l < len := Nat.le_of_ble_eq_true hq
            have hne : ¬ c = l := by omega
            simp only [cond_true, if_neg hne]
            refine ⟨nn, c - l, hn, ?_, by omega, by rw [Nat.add_assoc]⟩
            have e : c * i.size = l * i.size + (c - l) * i.size := by rw [← Nat.add_mul]; congr 1; omega
            omega
      · exact (fail_run h).elim
    · exact (fail_run h).elim
  · exact (fail_run h).elim

/-! ### Literals -/

theorem foldl_splice (off : Nat) : ∀ (vs : List Value) (k : Nat) (cells : Array Value), off + k + vs.length ≤ cells.size →
    (vs.zipIdx k).foldl (fun cs (x : Value × Nat) => cs.setIfInBounds (off + x.2) x.1) cells = (splice cells.toList (off + k) vs).toArray
  | [], k, cells, h => by simp [splice]
  | v :: vs, k, cells, h => by
    simp only [List.length_cons] at h
    rw [List.zipIdx_cons, List.foldl_cons, foldl_splice off vs (k + 1) _ (by simp; omega)]
    simp only [Array.toList_setIfInBounds]
    rw [← splice_one v (by simp; omega), show off + (k + 1) = off + k + [v].length by simp; omega, splice_splice (by simp; omega)]
    rfl

theorem afill_cv {ev : Operand → V} {ρ : Operand → Value} (hev : ∀ x, (ev x).cv π (ρ x)) {place : Nat → Option (Nat × Nat)} :
    ∀ {parts : List (Nat × Operand)} {gs rs : List Seg} {cells : Array Value}, segsCv π gs cells.toList → afill place ev gs parts = some rs →
      ∃ cells', Instr.fill place cells (parts.map fun (i, x) => (i, ρ x)) = some cells' ∧ segsCv π rs cells'.toList
  | [], gs, rs, cells, hc, h => by cases h; exact ⟨cells, rfl, hc⟩
  | (i, x) :: r, gs, rs, cells, hc, h => by
    unfold afill at h
    split at h
    · rename_i off size p ps hp hx
      cases hq : Nat.beq (segsSize (p :: ps)) size <;> simp only [hq, cond_true, cond_false] at h
      · cases h
      · have hsz := Nat.eq_of_beq_eq_true hq
        split at h
        · rename_i gs' hgs'
          obtain ⟨vs, e1, e2, _⟩ := segsOfV_cv (hev x) hx
          obtain ⟨h1, h2⟩ := putSegs_cv hc e2 hgs'
          have hlen := segsCv_length e2
          have hfit : off + vs.length ≤ cells.size := by
            rcases h1 with h1 | h1
            · cases h1
            · simpa using h1
          have hf := foldl_splice off vs 0 cells (by omega)
          simp only [Nat.add_zero] at hf
          obtain ⟨cells', h3, h4⟩ := afill_cv hev (place := place) (parts := r) (cells := (splice cells.toList off vs).toArray) (by simpa using h2) h
          refine ⟨cells', ?_, h4⟩
          simp only [List.map_cons, Instr.fill, hp, e1, List.size_toArray]
          rw [if_neg (by simp; omega)]
          have hz : vs.toArray.zipIdx = (vs.zipIdx 0).toArray := by simp
          rw [hz, List.foldl_toArray', hf]
          · exact h3
          · simp
        · cases h
    · cases h

theorem tySizes_mapM : ∀ {fs : List Field} {ns : List Nat}, tySizes P fs = some ns →
    fs.mapM (fun f => (P.info? f.type).map fun i => (f.offset, i.size)) = some ((fs.zip ns).map fun (f, n) => (f.offset, n)) ∧ ns.length = fs.length
  | [], ns, h => by cases h; exact ⟨rfl, rfl⟩
  | f :: r, ns, h => by
    unfold tySizes at h
    split at h
    · rename_i n ns' h1 h2
      cases h
      obtain ⟨i, hi, rfl⟩ := tySize_some h1
      obtain ⟨h3, h4⟩ := tySizes_mapM h2
      exact ⟨by simp [List.mapM_cons, hi, h3], by simp [h4]⟩
    · cases h

theorem s_build {ev : Operand → V} {ρ : Operand → Value} {t : TypeId} {parts : Array (Nat × Operand)} (hR : Rel G π m w0 w) (hev : ∀ x, (ev x).cv π (ρ x))
    (h : (abuild K ev t parts.toList).run m = some (out, fp)) : Res G K.P π m w0 fresh out (Instr.build t (parts.map fun (i, x) => (i, ρ x))) w := by
  unfold abuild at h
  split at h
  · rename_i z fs hz hu
    obtain ⟨it, zv, hit, hzv, hcz⟩ := zeroSegs_cv (π := π) hz
    split at h
    · rename_i ns hns
      obtain ⟨rs, hr, rfl⟩ := okSegs_run h
      obtain ⟨h3, h4⟩ := tySizes_mapM hns
      obtain ⟨cells, h1, h2⟩ := afill_cv hev (cells := zv.cells) hcz hr
      refine Res.pure hR (rv := .agg cells) (run_build w t _ cells ?_) ⟨cells.toList, by simp, h2⟩
      unfold Program.built
      simp only [hit, hu, hzv, h3]
      rw [← h1]
      congr 1
      · funext i
        simp only [List.getElem?_toArray, List.getElem?_map, List.zip]
        rw [List.getElem?_zipWith]
        cases fs.toList[i]? <;> cases ns[i]? <;> rfl
      · simp
    · exact (fail_run h).elim
  · rename_i z k e hz hu
    obtain ⟨it, zv, hit, hzv, hcz⟩ := zeroSegs_cv (π := π) hz
    split at h
    · rename_i sz hsz
      obtain ⟨ie, hie, rfl⟩ := tySize_some hsz
      obtain ⟨rs, hr, rfl⟩ := okSegs_run h
      obtain ⟨cells, h1, h2⟩ := afill_cv hev (cells := zv.cells) hcz hr
      refine Res.pure hR (rv := .agg cells) (run_build w t _ cells ?_) ⟨cells.toList, by simp, h2⟩
      unfold Program.built
      simp only [hit, hu, hzv, hie]
      rw [← h1]
      simp
    · exact (fail_run h).elim
  · exact (fail_run h).elim

theorem zeroRow_cv {n : Nat} {z : List Seg} {g : Seg} {zs : List Value} (hz : segsCv π z zs) (h : zeroRow n z = some g) (hn : n * zs.length ≠ 0)
    (h0 : ∀ x, z = [.s (.b8 x)] → x = 0) (h1 : ∀ k x, z = [.s (.i k x)] → x = 0) (h2 : ∀ k l, z = [.b8 k l] → l = List.replicate k 0) :
    g.cv π ((Array.range (n * zs.length)).map (zs.toArray[· % zs.length]!)).toList := by
  have key : ∀ (v : Value) (k : Nat), zs = List.replicate k v → ((Array.range (n * zs.length)).map (zs.toArray[· % zs.length]!)).toList = List.replicate (n * k) v := by
    intro v k e
    subst e
    simp only [List.length_replicate] at hn ⊢
    have hk : 0 < k := Nat.pos_of_ne_zero fun e => by subst e; simp at hn
    apply List.ext_getElem (by simp)
    intro j h1 h2
    have : j % k < k := Nat.mod_lt _ hk
    simp [this]
  unfold zeroRow at h
  split at h
  · rename_i x
    cases h
    have := h0 x rfl; subst this
    obtain ⟨a, b, rfl, ⟨v, rfl, hv⟩, hb⟩ := hz
    have hb0 : b = [] := hb
    subst hb0
    rw [key v 1 rfl, Nat.mul_one]
    refine ⟨by simp, ?_⟩
    rw [List.map_replicate]; congr 1
  · rename_i x
    cases h
    have := h1 _ x rfl; subst this
    obtain ⟨a, b, rfl, ⟨v, rfl, hv⟩, hb⟩ := hz
    have hb0 : b = [] := hb
    subst hb0
    rw [key v 1 rfl, Nat.mul_one]
    refine ⟨by simp, ?_⟩
    rw [List.map_replicate]; congr 1
  · rename_i k l
    cases h
    have := h2 k l rfl; subst this
    obtain ⟨a, b, rfl, ⟨_, rfl⟩, hb⟩ := hz
    have hb0 : b = [] := hb
    subst hb0
    rw [key (v8 0) k (by rw [List.append_nil, List.map_replicate])]
    exact ⟨by simp, by rw [List.map_replicate]⟩
  · cases h

theorem Res.newRow {gs : List Seg} {vs : List Value} {s : Sem Value} {T : TypeId} {len cap : Nat} (hR : Rel G π m w0 w) (hf : m fresh = none) (hc : segsCv π gs vs)
    (hs : s.run K.P w = .ok (.slice (some ⟨w.heap.size, 0, none⟩) len cap) (w.alloc (.cells vs.toArray T))) : Res G K.P π m w0 fresh ⟨.s (.slice fresh 0 len cap), [gs], none, []⟩ s w := by
  obtain ⟨h1, h2⟩ := hR.alloc hf hc T
  exact ⟨_, _, _, hs, h1, ⟨⟨w.heap.size, 0, vs.length⟩, by simp [updL], rfl⟩, h2⟩

theorem s_buildSlice {ev : Operand → V} {ρ : Operand → Value} {t : TypeId} {len : Nat} {parts : Array (Nat × Operand)} (hR : Rel G π m w0 w) (hf : m fresh = none) (hev : ∀ x, (ev x).cv π (ρ x))
    (h : (abuildSlice K fresh ev t len parts.toList).run m = some (out, fp)) : Res G K.P π m w0 fresh out (Instr.buildSlice t len (parts.map fun (i, x) => (i, ρ x))) w := by
  unfold abuildSlice at h
  split at h
  · rename_i e sz hty
    obtain ⟨hu, i, hi, rfl⟩ := tySlice_some hty
    cases h0 : Nat.beq len 0 <;> simp only [h0, cond_true, cond_false] at h
    rotate_left
    · have hl0 := Nat.eq_of_beq_eq_true h0
      subst hl0
      split at h
      · rename_i hp
        cases h
        have hp' : parts = #[] := by simpa using hp
        subst hp'
        refine Res.newRow (T := e) (vs := []) hR hf rfl ?_
        simp only [Instr.buildSlice, Sem.run_bind, run_underlying hu, Result.andThen_ok, run_size hi]
        simp [Instr.fill, newRow]
        have e0 : Array.map (fun _ => (default : Value)) (Array.range 0) = #[] := by apply Array.ext'; simp
        rw [e0]
      · exact (fail_run h).elim
    split at h
    · rename_i z hz
      obtain ⟨it, zv, hit, hzv, hcz⟩ := zeroSegs_cv (π := π) hz
      rw [hi] at hit; cases hit
      cases hc : (Nat.ble (len * i.size) 16777216 && !(Nat.beq (len * i.size) 0) && zeroElemOk z && Nat.beq (segsSize z) i.size) <;> simp only [hc, cond_true, cond_false] at h
      · exact (fail_run h).elim
      · simp only [Bool.and_eq_true, Bool.not_eq_true'] at hc
        obtain ⟨⟨⟨c1, c2⟩, c3⟩, c4⟩ := hc
        have c1 := Nat.le_of_ble_eq_true c1
        have c4 := Nat.eq_of_beq_eq_true c4
        have c2 : len * i.size ≠ 0 := fun e => by rw [e] at c2; cases c2
        have hzl := segsCv_length hcz
        split at h
        · rename_i g hg
          split at h
          · rename_i gs hgs
            cases h
            have hg' := zeroRow_cv hcz hg (by rw [hzl, c4]; exact c2)
              (by rintro x rfl; simp only [zeroElemOk, beq_iff_eq] at c3; exact BitVec.eq_of_toNat_eq (by simpa using c3))
              (by rintro k x rfl; simpa [zeroElemOk] using c3)
              (by rintro k l rfl; simpa [zeroElemOk] using c3)
            rw [hzl, c4] at hg'
            obtain ⟨cells, h1, h2⟩ := afill_cv hev (cells := (Array.range (len * i.size)).map (zv.cells[· % i.size]!)) (gs := [g]) ⟨_, [], (List.append_nil _).symm, by simpa using hg', rfl⟩ hgs
            refine Res.newRow (T := e) hR hf h2 ?_
            have hsz : zv.cells.size = i.size := by rw [← Array.length_toList, hzl, c4]
            have h1' : Instr.fill (fun j => some (j * i.size, i.size)) ((Array.range (len * i.size)).map (zv.cells[· % zv.cells.size]!)) (parts.map fun (i, x) => (i, ρ x)).toList = some cells := by
              rw [hsz, ← h1]; simp
            simp only [Instr.buildSlice, Sem.run_bind, run_underlying hu, Result.andThen_ok, run_size hi]
            rw [if_neg (by omega), if_neg c2]
            simp only [zeroValue, Sem.run_bind, run_info hi, Result.andThen_ok, hzv, Sem.run_pure, h1', newRow, run_newObj]
            rfl
          · exact (fail_run h).elim
        · exact (fail_run h).elim
    · exact (fail_run h).elim
  · exact (fail_run h).elim

/-! ### Built-in functions -/

theorem s_len {t : TypeId} {ts : List TypeId} {x : V} {xv : Value} {ty : TypeId} {e : TypeId × Nat} (hty : tySlice K.P t = some e) (hR : Rel G π m w0 w) (hx : x.cv π xv)
    (h : (alen x).run m = some (out, fp)) : Res G K.P π m w0 fresh out (Builtin.len_ (t :: ts).toArray ty #[xv]) w := by
  obtain ⟨hu, _⟩ := tySlice_some (e := e.1) (sz := e.2) hty
  unfold alen at h
  split at h
  · have := okS_run h; subst this
    obtain ⟨n, _, rfl⟩ := hx
    exact Res.pure hR (by simp [Builtin.len_, run_underlying hu, goInt]) rfl
  · have := okS_run h; subst this
    obtain ⟨n, c, _, _, _, rfl⟩ := hx
    exact Res.pure hR (by simp [Builtin.len_, run_underlying hu, goInt]) rfl
  · have := okS_run h; subst this
    have hx : xv = .slice none 0 0 := hx
    subst hx
    exact Res.pure hR (by simp [Builtin.len_, run_underlying hu, goInt]) rfl
  · have := okS_run h; subst this
    obtain ⟨a, c, rfl⟩ := hx
    exact Res.pure hR (by simp [Builtin.len_, run_underlying hu, goInt]) rfl
  · exact (fail_run h).elim

theorem amax_run {mn : Bool} {x y : V} {xv yv : Value} (hR : Rel G π m w0 w) (hx : x.cv π xv) (hy : y.cv π yv) (h : (amax mn x y).run m = some (out, fp)) :
    ∃ a b, xv = .int .i64 a ∧ yv = .int .i64 b ∧ ∀ (s : Sem Value), s.run K.P w = .ok (.int .i64 (bif mn then (if b < a then b else a) else (if b > a then b else a))) w →
      Res G K.P π m w0 fresh out s w := by
  unfold amax at h
  split at h
  · rename_i x y
    split at h
    · rename_i a b h1 h2
      refine ⟨a, b, scInt_cv h1 hx, scInt_cv h2 hy, fun s hs => ?_⟩
      dsimp only at h
      cases hk : (known x && known y) <;> simp only [hk, cond_true, cond_false] at h
      · have := okS_run h; subst this
        exact Res.pure hR hs rfl
      · have := okS_run h; subst this
        exact Res.pure hR hs rfl
    · exact (fail_run h).elim
  · exact (fail_run h).elim

theorem run_max (ts : Array TypeId) (ty : TypeId) (a b : Int) : (Builtin.max_ ts ty #[.int .i64 a, .int .i64 b]).run P w = .ok (.int .i64 (if b > a then b else a)) w := by
  simp [Builtin.max_, Builtin.max2]

theorem run_min (ts : Array TypeId) (ty : TypeId) (a b : Int) : (Builtin.min_ ts ty #[.int .i64 a, .int .i64 b]).run P w = .ok (.int .i64 (if b < a then b else a)) w := by
  simp [Builtin.min_, Builtin.min2]

/-- What is known of a slice that is read. -/
def SrcCv (π : Loc) (x : Option (Nat × Nat)) (len : Nat) (v : Value) : Prop :=
  match x with
  | some (b, off) => ∃ p c, π b = some p ∧ v = .slice (some ⟨p.n, p.base + off, none⟩) len c
  | none => len = 0 ∧ ∃ a c, v = .slice a 0 c

theorem srcOf_cv {x : V} {xv : Value} {s : Option (Nat × Nat)} {len : Nat} (h : srcOf x = some (s, len)) (hx : x.cv π xv) : SrcCv π s len xv := by
  unfold srcOf at h
  split at h <;> cases h
  · obtain ⟨p, hp, rfl⟩ := hx; exact ⟨p, _, hp, rfl⟩
  · obtain ⟨p, c, hp, _, _, rfl⟩ := hx; exact ⟨p, c, hp, rfl⟩
  · exact ⟨rfl, none, 0, hx⟩
  · exact ⟨rfl, hx⟩

theorem SrcCv.len {s : Option (Nat × Nat)} {len : Nat} {v : Value} (h : SrcCv π s len v) : ∃ a c, v = .slice a len c := by
  match s, h with
  | some (b, off), ⟨p, c, _, e⟩ => exact ⟨_, c, e⟩
  | none, ⟨e, a, c, hv⟩ => subst e; exact ⟨a, c, hv⟩

/-- Reading the first n elements: firstCells gives the cells. -/
theorem readSrc_run {α : Type} {s : Option (Nat × Nat)} {len n sz : Nat} {k : List Seg → Rd α} {a : α} {xv : Value} (hR : Rel G π m w0 w) (hx : SrcCv π s len xv) (h : (readSrc s (n * sz) k).run m = some (a, fp)) :
    ∃ gs us fp', (k gs).run m = some (a, fp') ∧ segsCv π gs us ∧ us.length = n * sz ∧ (∀ v ∈ us, v.oneCell' = true) ∧ ∀ W : World, W.heap = w.heap → (Builtin.firstCells sz n xv).run P W = .ok (us : List Value).toArray W := by
  unfold readSrc at h
  cases h0 : Nat.beq (n * sz) 0 <;> simp only [h0, cond_true, cond_false] at h
  · split at h
    · rename_i b off
      obtain ⟨p, c, hp, rfl⟩ := hx
      obtain ⟨blk, fp', hb, hk, _⟩ := read_run h
      split at hk
      · rename_i gs hg
        cases hs : solidSegs gs <;> simp only [hs, cond_true, cond_false] at hk
        · exact (fail_run hk).elim
        · obtain ⟨p', vs, T, fz, e1, e2, _⟩ := hR.blk b blk hb
          rw [hp] at e1; cases e1
          obtain ⟨hle, hcv⟩ := getSegs_cv e2.2.2.2 hg
          have hcl := cut_length (p := p) (k := segsSize blk.gs) (vs := vs) (by rw [e2.2.1]; exact e2.2.2.1)
          have hne : n * sz ≠ 0 := fun e => by rw [e] at h0; cases h0
          have hlen : (((cut p (segsSize blk.gs) vs).drop off).take (n * sz)).length = n * sz := by
            rcases hle with q | q
            · exact absurd q hne
            · simp; omega
          refine ⟨gs, _, fp', hk, hcv, hlen, solidSegs_cv hcv hs, fun W hW => ?_⟩
          simp only [Builtin.firstCells]
          rw [run_cells (o := p.base + off) (w := W) (by rw [hW]; exact e2.1), cut_take hle]
          rcases hle with q | q
          · exact .inl q
          · right; have := e2.2.1; have := e2.2.2.1; omega
      · exact (fail_run hk).elim
    · exact (fail_run h).elim
  · have hz := Nat.eq_of_beq_eq_true h0
    refine ⟨[], [], fp, h, rfl, by simpa using hz.symm, by simp, fun W _ => ?_⟩
    obtain ⟨a', c, rfl⟩ := hx.len
    cases a' with
    | none => rfl
    | some a' => simp only [Builtin.firstCells, hz]; rfl

theorem storeCells_nil (a : Addr) (w : World) : (storeCells a [] 0).run P w = .ok () w := rfl

/-- Storing a row's cells. -/
theorem store_run {blk : Blk} {b off : Nat} {p : Pl} {pp : List Seg} {gs : List Seg} {us : List Value} (hR : Rel G π m w0 w) (hb : m b = some blk) (hp : π b = some p) (hw : blk.wr = true)
    (hc : segsCv π pp us) (h1 : ∀ v ∈ us, v.oneCell' = true) (hne : pp ≠ []) (hput : putSegs blk.gs off pp = some gs) :
    ∃ w', (storeCells ⟨p.n, p.base + off, none⟩ us 0).run P w = .ok () w' ∧ Rel G π (updM m b ⟨gs, true⟩) w0 w' := by
  obtain ⟨p', vs, T, fz, f1, f2, f4⟩ := hR.blk b blk hb
  rw [hp] at f1; cases f1
  obtain ⟨f5, f6⟩ := f4 hw
  subst f5
  obtain ⟨q1, q2⟩ := putSegs_cv f2.2.2.2 hc hput
  have hcl := cut_length (p := p) (k := segsSize blk.gs) (vs := vs) (by rw [f2.2.1]; exact f2.2.2.1)
  have hfit0 : off + us.length ≤ segsSize blk.gs := by
    rcases q1 with q1 | q1
    · exact absurd q1 hne
    · omega
  have hsz2 : segsSize gs = segsSize blk.gs := by rw [← segsCv_length q2, splice_length (by omega), hcl]
  have hb1 := f2.2.1
  have hb2 := f2.2.2.1
  have hst := run_storeCells_at P p.n (p.base + off) T us 0 vs.toArray w f2.1 (by simp; omega) h1
  refine ⟨_, ?_, hR.write (vs := splice vs (p.base + off) us) hb hw hp f2.1 (splice_length (by omega)) (splice_take (by omega) (by omega)) (by omega) (by rw [hsz2, cut_splice hfit0 (by omega)]; exact q2)⟩
  rw [hst]; simp [splice]

theorem run_copy {t : TypeId} {ts : List TypeId} {ty e : TypeId} {i : TypeInfo} {a : Option Addr} {len cap len' cap' : Nat} {a' : Option Addr} {us : List Value} {w' : World} (hu : P.underlying t = some (.slice e)) (hi : P.info? e = some i)
    (h1 : (Builtin.firstCells i.size (Nat.min len' len) (.slice a' len' cap')).run P w = .ok us.toArray w) (h2 : match a with | some a => (storeCells a us 0).run P w = .ok () w' | none => w' = w) :
    (Builtin.copy_ (t :: ts).toArray ty #[.slice a len cap, .slice a' len' cap']).run P w = .ok (goInt (Nat.min len' len)) w' := by
  cases a with
  | none => subst h2; simp [Builtin.copy_, run_underlying hu, Builtin.lenOf, run_size hi, h1]
  | some a => simp [Builtin.copy_, run_underlying hu, Builtin.lenOf, run_size hi, h1, h2]

theorem acopyTo_run {b off n : Nat} {gs : List Seg} {us : List Value} {p : Pl} (hR : Rel G π m w0 w) (hp : π b = some p) (hc : segsCv π gs us) (h1 : ∀ v ∈ us, v.oneCell' = true)
    (h : (acopyTo b off n gs).run m = some (out, fp)) : ∃ w', (storeCells ⟨p.n, p.base + off, none⟩ us 0).run P w = .ok () w' ∧ out.v = .s (.i .i64 n) ∧ Rel G π (effM m fresh out) w0 w' := by
  unfold acopyTo at h
  split at h
  · have := okS_run h; subst this
    have : us = [] := hc
    subst this
    exact ⟨w, storeCells_nil _ _, rfl, hR⟩
  · rename_i q qs
    obtain ⟨dst, fp', hb, hk, _⟩ := read_run h
    cases hw : dst.wr <;> simp only [hw, cond_true, cond_false] at hk
    · exact (fail_run hk).elim
    · split at hk
      · rename_i gs' hput
        cases hk
        obtain ⟨w', e1, e2⟩ := store_run (P := P) hR hb hp hw hc h1 (by simp) hput
        exact ⟨w', e1, rfl, e2⟩
      · exact (fail_run hk).elim

theorem s_copy {t : TypeId} {ts : List TypeId} {x y : V} {xv yv : Value} {ty : TypeId} (hR : Rel G π m w0 w) (hx : x.cv π xv) (hy : y.cv π yv)
    (h : (acopy K t x y).run m = some (out, fp)) : ∃ rv w', (Builtin.copy_ (t :: ts).toArray ty #[xv, yv]).run K.P w = .ok rv w' ∧ out.v.cv π rv ∧ Rel G π (effM m fresh out) w0 w' := by
  unfold acopy at h
  split at h
  · rename_i e sz src len' hty hsrc
    obtain ⟨hu, i, hi, rfl⟩ := tySlice_some hty
    have hsc := srcOf_cv hsrc hy
    obtain ⟨a', c', hyv⟩ := hsc.len
    have none_case : ∀ a c, xv = .slice a 0 c → out = ⟨.s (.i .i64 0), [], none, []⟩ → ∃ rv w', (Builtin.copy_ (t :: ts).toArray ty #[xv, yv]).run K.P w = .ok rv w' ∧ out.v.cv π rv ∧ Rel G π (effM m fresh out) w0 w' := by
      rintro a c rfl rfl
      subst hyv
      have hm : Nat.min len' 0 = 0 := Nat.min_zero _
      refine ⟨goInt (Nat.min len' 0), w, run_copy (us := []) (w' := w) hu hi ?_ ?_, by rw [hm]; rfl, hR⟩
      · rw [hm]
        cases a' with
        | none => rfl
        | some a' => simp only [Builtin.firstCells, Nat.zero_mul]; rfl
      · cases a with
        | none => rfl
        | some a => exact storeCells_nil _ _
    split at h
    · rename_i b off len cap
      obtain ⟨p, hp, rfl⟩ := hx
      obtain ⟨gs, us, fp', h1, h2, h3, h4, h5⟩ := readSrc_run (P := K.P) hR hsc h
      obtain ⟨w', e1, e2, e3⟩ := acopyTo_run (P := K.P) (fresh := fresh) hR hp h2 h4 h1
      rw [hyv] at h5 ⊢
      exact ⟨_, w', run_copy hu hi (h5 w rfl) e1, by rw [e2]; rfl, e3⟩
    · rename_i b off len z
      obtain ⟨p, c, hp, _, _, rfl⟩ := hx
      obtain ⟨gs, us, fp', h1, h2, h3, h4, h5⟩ := readSrc_run (P := K.P) hR hsc h
      obtain ⟨w', e1, e2, e3⟩ := acopyTo_run (P := K.P) (fresh := fresh) hR hp h2 h4 h1
      rw [hyv] at h5 ⊢
      exact ⟨_, w', run_copy hu hi (h5 w rfl) e1, by rw [e2]; rfl, e3⟩
    · exact none_case none 0 hx (okS_run h)
    · obtain ⟨a, c, hx⟩ := hx
      exact none_case a c hx (okS_run h)
    · exact (fail_run h).elim
  · exact (fail_run h).elim
end
end Go.Mo
