/- The abstract evaluator, part 5: the other operations. -/
import Derived.Test.YtamlbiaakogahaaDoorMo4
import Derived.DeepKeys
namespace Go.Mo
open Go Go.RowKit
section
variable {G : Gl} {K : Cx} {π : Loc} {m : Nat → Option Blk} {w0 w : World} {fresh : Nat} {out : Out} {fp : List Nat} {P : Program}

/-! ### Equality -/

theorem u8Arr_some {t : TypeId} {n : Nat} (h : u8Arr P t = some n) :
    ∃ e i, P.underlying t = some (.array n e) ∧ P.underlying e = some (.int .u8) ∧ P.info? e = some i ∧ i.size = 1 ∧ P.eqGuardType P.depth t = false := by
  unfold u8Arr at h
  split at h
  · rename_i n' e hu
    split at h
    · rename_i i he hi
      cases hc : (Nat.beq i.size 1 && !(P.eqGuardType P.depth t)) <;> simp only [hc, cond_true, cond_false] at h <;> cases h
      simp only [Bool.and_eq_true, Bool.not_eq_true'] at hc
      exact ⟨e, i, hu, he, hi, Nat.eq_of_beq_eq_true hc.1, hc.2⟩
    · cases h
  · cases h

theorem part_u8 {e : TypeId} (he : P.underlying e = some (.int .u8)) {l : List (BitVec 8)} {j : Nat} (hj : j < l.length) :
    (part e (l.map v8).toArray j).run P w = .ok (v8 (l.getD j 0)) w := by
  have hv : ((l.map v8).toArray)[j]? = some (v8 (l.getD j 0)) := by rw [← nth_eq]; simpa using getMapD v8 (0 : BitVec 8) hj
  have ha : (isAgg e).run P w = .ok false w := by simp [isAgg, run_underlying he]
  simp only [part, Sem.run_bind, ha, Result.andThen_ok, Bool.false_eq_true, if_false, hv, Sem.run_pure]

theorem eqItems_u8 (d : Nat) {e : TypeId} (he : P.underlying e = some (.int .u8)) {l l' : List (BitVec 8)} : ∀ (is : List Nat), (∀ j ∈ is, j < l.length ∧ j < l'.length) →
    (Op.eqItems (d + 1) e 1 (l.map v8).toArray (l'.map v8).toArray is).run P w = .ok (is.all fun j => decide (l.getD j 0 = l'.getD j 0)) w
  | [], _ => by simp [Op.eqItems]
  | j :: is, h => by
    obtain ⟨h1, h2⟩ := h j (by simp)
    have ih := eqItems_u8 d he (l := l) (l' := l') is (fun k hk => h k (by simp [hk]))
    have hq : (Op.equalIn (d + 1) e (v8 (l.getD j 0)) (v8 (l'.getD j 0))).run P w = .ok (decide (l.getD j 0 = l'.getD j 0)) w := by
      rw [show v8 (l.getD j 0) = .int .u8 ((l.getD j 0).toNat : Int) from rfl, show v8 (l'.getD j 0) = .int .u8 ((l'.getD j 0).toNat : Int) from rfl, run_equalIn_int w d e .u8 .u8 _ _ he]
      congr 1
      rw [Bool.eq_iff_iff, beq_iff_eq, decide_eq_true_iff]
      constructor
      · intro q; exact BitVec.eq_of_toNat_eq (by exact_mod_cast q)
      · intro q; rw [q]
    simp only [Op.eqItems, Nat.mul_one, Sem.run_bind, part_u8 he h1, part_u8 he h2, hq, Result.andThen_ok, List.all_cons]
    cases hb : decide (l.getD j 0 = l'.getD j 0)
    · simp
    · simp only [Bool.not_true, Bool.false_eq_true, if_false, Bool.true_and]; exact ih

theorem all_range {l l' : List (BitVec 8)} {n : Nat} (hl : l.length = n) (hl' : l'.length = n) : ((List.range n).all fun j => decide (l.getD j 0 = l'.getD j 0)) = decide (l = l') := by
  rw [Bool.eq_iff_iff, List.all_eq_true, decide_eq_true_iff]
  constructor
  · intro h
    apply List.ext_getElem (by omega)
    intro j h1 h2
    have := h j (by simp; omega)
    simp only [decide_eq_true_eq] at this
    simpa [List.getD, h1, h2] using this
  · intro h j _; subst h; simp

theorem neqB_some {op : BinOp} {b r : Bool} (h : neqB op b = some r) : (op = .eql ∧ r = b) ∨ (op = .neq ∧ r = !b) := by
  cases op <;> simp only [neqB, Option.some.injEq, reduceCtorEq] at h
  · exact .inl ⟨rfl, h.symm⟩
  · exact .inr ⟨rfl, h.symm⟩

theorem eqIn_nils {d : Nat} {t e : TypeId} (hu : P.underlying t = some (.pointer e)) (b : Option Addr) : (Op.equalIn (d + 1) t (.pointer none) (.pointer b)).run P w = .ok b.isNone w := by
  simp only [Op.equalIn, Sem.run_bind, run_underlying hu, Result.andThen_ok, Sem.run_pure]
theorem eqIn_ptr_nil {d : Nat} {t e : TypeId} (hu : P.underlying t = some (.pointer e)) (a : Addr) : (Op.equalIn (d + 1) t (.pointer (some a)) (.pointer none)).run P w = .ok false w := by
  simp only [Op.equalIn, Sem.run_bind, run_underlying hu, Result.andThen_ok, Sem.run_pure]
theorem eqIn_bool {d : Nat} {t : TypeId} (hu : P.underlying t = some .bool) (a b : Bool) : (Op.equalIn (d + 1) t (.bool a) (.bool b)).run P w = .ok (a == b) w := by
  simp only [Op.equalIn, Sem.run_bind, run_underlying hu, Result.andThen_ok, Sem.run_pure]

theorem run_eql_of {t : TypeId} {x y : Value} {ox oy : Operand} {b : Bool} {op : BinOp} {r : Bool} (hr : neqB op b = some r)
    (hq : (∃ p q, x = .pointer p ∧ y = .pointer q) ∨ ∃ p q, x = .bool p ∧ y = .bool q)
    (h : (Op.equalIn (9999 + 1) t x y).run P w = .ok b w) : (do eqGuard op t ox oy x y; binOp op t x y).run P w = .ok (.bool r) w := by
  have h' : (Op.equal t x y).run P w = .ok b w := h
  rcases hq with ⟨p, q, rfl, rfl⟩ | ⟨p, q, rfl, rfl⟩ <;> rcases neqB_some hr with ⟨rfl, rfl⟩ | ⟨rfl, rfl⟩
  · show (do Pure.pure (Value.bool (← Op.equal t _ _)) : Sem Value).run P w = _
    rw [Sem.run_bind, h']; rfl
  · show (do Pure.pure (Value.bool (!(← Op.equal t _ _))) : Sem Value).run P w = _
    rw [Sem.run_bind, h']; rfl
  · show (do Pure.pure (Value.bool (← Op.equal t _ _)) : Sem Value).run P w = _
    rw [Sem.run_bind, h']; rfl
  · show (do Pure.pure (Value.bool (!(← Op.equal t _ _))) : Sem Value).run P w = _
    rw [Sem.run_bind, h']; rfl

theorem isPtrTy_some {t : TypeId} (h : isPtrTy P t = true) : ∃ e, P.underlying t = some (.pointer e) := by
  unfold isPtrTy at h
  split at h
  · rename_i e hu; exact ⟨e, hu⟩
  · cases h

theorem isBoolTy_some {t : TypeId} (h : isBoolTy P t = true) : P.underlying t = some .bool := by
  unfold isBoolTy at h
  split at h
  · rename_i hu; exact hu
  · cases h

theorem okBool_run {x : Option Bool} (h : (okBool x).run m = some (out, fp)) : ∃ r, x = some r ∧ out = ⟨.s (.bool r), [], none, []⟩ := by
  cases x with
  | none => cases h
  | some r => cases h; exact ⟨r, rfl, rfl⟩

theorem s_bin {ans : Option Bool} {op : BinOp} {x y : V} {xv yv : Value} {t : TypeId} {ox oy : Operand} (hR : Rel G π m w0 w) (hx : x.cv π xv) (hy : y.cv π yv)
    (h : (abin K ans op t x y).run m = some (out, fp)) (ho : ObsOk out.obs) :
    Res G K.P π m w0 fresh out (do eqGuard op t ox oy xv yv; binOp op t xv yv) w := by
  unfold abin at h
  split at h
  · rename_i xs
    split at h
    · rename_i ys
      have hx : xs.cv π xv := hx
      have hy : ys.cv π yv := hy
      unfold abinS at h
      split at h
      · split at h
        · obtain ⟨n, _, rfl⟩ := hx
          have hy : yv = .pointer none := hy
          subst hy
          cases hp : isPtrTy K.P t <;> simp only [hp, cond_true, cond_false] at h
          · exact (fail_run h).elim
          · obtain ⟨e, hu⟩ := isPtrTy_some hp
            obtain ⟨r, hr, rfl⟩ := okBool_run h
            exact Res.pure hR (run_eql_of hr (.inl ⟨_, _, rfl, rfl⟩) (eqIn_ptr_nil hu _)) rfl
        · exact (fail_run h).elim
      · have hx : xv = .pointer none := hx
        subst hx
        split at h
        · obtain ⟨n, _, rfl⟩ := hy
          cases hp : isPtrTy K.P t <;> simp only [hp, cond_true, cond_false] at h
          · exact (fail_run h).elim
          · obtain ⟨e, hu⟩ := isPtrTy_some hp
            obtain ⟨r, hr, rfl⟩ := okBool_run h
            exact Res.pure hR (run_eql_of hr (.inl ⟨_, _, rfl, rfl⟩) (eqIn_nils hu _)) rfl
        · have hy : yv = .pointer none := hy
          subst hy
          cases hp : isPtrTy K.P t <;> simp only [hp, cond_true, cond_false] at h
          · exact (fail_run h).elim
          · obtain ⟨e, hu⟩ := isPtrTy_some hp
            obtain ⟨r, hr, rfl⟩ := okBool_run h
            exact Res.pure hR (run_eql_of hr (.inl ⟨_, _, rfl, rfl⟩) (eqIn_nils hu _)) rfl
        · exact (fail_run h).elim
      · have hx : xv = .bool _ := hx
        subst hx
        split at h
        · have hy : yv = .bool _ := hy
          subst hy
          cases hp : isBoolTy K.P t <;> simp only [hp, cond_true, cond_false] at h
          · exact (fail_run h).elim
          · have hu := isBoolTy_some hp
            obtain ⟨r, hr, rfl⟩ := okBool_run h
            exact Res.pure hR (run_eql_of hr (.inr ⟨_, _, rfl, rfl⟩) (eqIn_bool hu _ _)) rfl
        · exact (fail_run h).elim
      · exact s_binInts hR hx hy h ho
    · exact (fail_run h).elim
  · split at h
    · unfold abinA at h
      split at h
      · rename_i n l n' l'
        split at h
        · rename_i k hk
          cases hc : (Nat.beq n k && Nat.beq n' k) <;> simp only [hc, cond_true, cond_false] at h
          · exact (fail_run h).elim
          · simp only [Bool.and_eq_true] at hc
            have hn := Nat.eq_of_beq_eq_true hc.1
            have hn' := Nat.eq_of_beq_eq_true hc.2
            subst hn; subst hn'
            obtain ⟨e, i, hu, he, hi, hsz, hg⟩ := u8Arr_some hk
            obtain ⟨vs, rfl, a, b, rfl, ⟨hl, rfl⟩, hb⟩ := hx
            obtain ⟨us, rfl, a', b', rfl, ⟨hl', rfl⟩, hb'⟩ := hy
            have hb0 : b = [] := hb
            have hb0' : b' = [] := hb'
            subst hb0; subst hb0'
            simp only [List.append_nil]
            have hrun : (Op.equalIn 10000 t (.agg (l.map v8).toArray) (.agg (l'.map v8).toArray)).run K.P w = .ok (decide (l = l')) w := by
              rw [show (10000 : Nat) = 9999 + 1 from rfl, run_equalIn_array w 9999 _ _ hu hi]
              have : K.P.cellsOf e = 1 := by simp [Program.cellsOf, hi, hsz]
              rw [this, show (9999 : Nat) = 9998 + 1 from rfl, eqItems_u8 9998 he _ (fun j hj => by simp at hj; omega), all_range hl hl']
            split at h
            · rename_i r hr
              obtain ⟨obs, rfl⟩ := answer_run h ho
              have hgd : ∀ op, (eqGuard op t ox oy (.agg (l.map v8).toArray) (.agg (l'.map v8).toArray)).run K.P w = .ok () w := fun op => run_eqGuard_agg w op t ox oy _ _ hg
              rcases neqB_some hr with ⟨rfl, rfl⟩ | ⟨rfl, rfl⟩
              · exact Res.pure hR (by rw [Sem.run_bind, hgd, Result.andThen_ok, run_eql_struct, hrun]; rfl) rfl
              · exact Res.pure hR (by rw [Sem.run_bind, hgd, Result.andThen_ok, run_neq_struct, hrun]; rfl) rfl
            · exact (fail_run h).elim
        · exact (fail_run h).elim
      · exact (fail_run h).elim
    · exact (fail_run h).elim
  · exact (fail_run h).elim

/-! ### Small ones -/

theorem s_un {op : UnOp} {x : V} {xv : Value} (hR : Rel G π m w0 w) (hx : x.cv π xv) (h : (aun op x).run m = some (out, fp)) :
    Res G K.P π m w0 fresh out (Op.unary op xv) w := by
  unfold aun at h
  split at h
  · have := okS_run h; subst this
    have hx : xv = .bool _ := hx
    subst hx
    exact Res.pure hR (by simp only [Op.unary, Sem.run_pure]) rfl
  · have := okS_run h; subst this
    have hx : xv = .int _ _ := hx
    subst hx
    exact Res.pure hR (by simp only [Op.unary, Op.intArith, Sem.run_pure, ← wrapF_eq]) rfl
  · have := okS_run h; subst this
    have hx : xv = .int _ _ := hx
    subst hx
    exact Res.pure hR (by simp only [Op.unary, Op.intArith, Sem.run_pure]) rfl
  · exact (fail_run h).elim

theorem s_conv {s d : TypeId} {x : V} {xv : Value} (hR : Rel G π m w0 w) (hx : x.cv π xv) (h : (aconv K s d x).run m = some (out, fp)) :
    Res G K.P π m w0 fresh out (convert s d xv) w := by
  unfold aconv at h
  split at h
  · rename_i ds k x' hs hd
    obtain ⟨r, hr, rfl⟩ := okSc_run h
    obtain ⟨kx, n, rfl, hc⟩ := convRes_cv hr hx
    refine Res.pure hR ?_ hc
    simp only [convert, Sem.run_bind, run_underlying hs, run_underlying hd, Result.andThen_ok]
    cases ds <;> rfl
  · exact (fail_run h).elim

theorem run_index_slice {t e : TypeId} {i : TypeInfo} {n o len cap j : Nat} {k : IntKind} (hu : P.underlying t = some (.slice e)) (hi : P.info? e = some i) (hj : j < len) :
    (Instr.indexAt t (.slice (some ⟨n, o, none⟩) len cap) (.int k (j : Int))).run P w = .ok (.pointer (some ⟨n, o + j * i.size, none⟩)) w := by
  simp only [Instr.indexAt, asIntOf, Sem.run_bind, Sem.run_pure, Result.andThen_ok, run_underlying hu]
  rw [if_pos ⟨by omega, by omega⟩]
  simp only [Sem.run_bind, run_size hi, Result.andThen_ok, Sem.run_pure, addr_add, Int.toNat_natCast]

theorem s_indexAddr {t : TypeId} {x ix : V} {xv iv : Value} (hR : Rel G π m w0 w) (hx : x.cv π xv) (hi : ix.cv π iv) (h : (aindexAddr K t x ix).run m = some (out, fp)) :
    Res G K.P π m w0 fresh out (Instr.indexAt t xv iv) w := by
  unfold aindexAddr at h
  split at h
  · rename_i b off ix
    obtain ⟨n, hn, rfl⟩ := hx
    split at h
    · rename_i len e sz hty
      obtain ⟨hu, i, hi', rfl⟩ := tyArr_some hty
      have go : ∀ (j : Nat) (k : IntKind), iv = .int k (j : Int) → j < len →
          (Instr.indexAt t (.pointer (some ⟨n.n, n.base + off, none⟩)) iv).run K.P w = .ok (.pointer (some ⟨n.n, n.base + (off + j * i.size), none⟩)) w := by
        intro j k e hj
        subst e
        simp only [Instr.indexAt, asIntOf, Sem.run_bind, Sem.run_pure, Result.andThen_ok, run_underlying hu, Instr.sureAddr]
        rw [if_pos ⟨by omega, by omega⟩]
        simp only [Sem.run_bind, run_size hi', Result.andThen_ok, Sem.run_pure, addr_add, Int.toNat_natCast, Nat.add_assoc]
      split at h
      · rename_i y
        have hiv : iv = .int .u8 (y.toNat : Int) := hi
        cases hc : (Nat.ble 256 len && Nat.beq i.size 1) <;> simp only [hc, cond_true, cond_false] at h
        · cases hb : Nat.blt y.toNat len <;> simp only [hb, cond_true, cond_false] at h
          · exact (fail_run h).elim
          · have := okS_run h; subst this
            have hlt : y.toNat < len := Nat.le_of_ble_eq_true hb
            exact Res.pure hR (go y.toNat .u8 hiv hlt) ⟨n, hn, rfl⟩
        · have := okS_run h; subst this
          simp only [Bool.and_eq_true] at hc
          have h1 := Nat.le_of_ble_eq_true hc.1
          have h2 := Nat.eq_of_beq_eq_true hc.2
          have hy := y.isLt
          have := go y.toNat .u8 hiv (by omega)
          rw [h2, Nat.mul_one] at this
          exact Res.pure hR this ⟨n, hn, rfl⟩
      · split at h
        · rename_i j hj
          obtain ⟨k, hk⟩ := scNat_cv hj hi
          cases hb : Nat.blt j len <;> simp only [hb, cond_true, cond_false] at h
          · exact (fail_run h).elim
          · have := okS_run h; subst this
            exact Res.pure hR (go j k hk (Nat.le_of_ble_eq_true hb)) ⟨n, hn, rfl⟩
        · exact (fail_run h).elim
    · exact (fail_run h).elim
  · rename_i b off len cap ix
    obtain ⟨n, hn, rfl⟩ := hx
    split at h
    · rename_i e sz hty
      obtain ⟨hu, i, hi', rfl⟩ := tySlice_some hty
      split at h
      · rename_i j hj
        obtain ⟨k, hk⟩ := scNat_cv hj hi
        cases hb : Nat.blt j len <;> simp only [hb, cond_true, cond_false] at h
        · exact (fail_run h).elim
        · have := okS_run h; subst this
          have hlt : j < len := Nat.le_of_ble_eq_true hb
          subst hk
          exact Res.pure hR (run_index_slice hu hi' hlt) ⟨n, hn, by rw [Nat.add_assoc]⟩
      · exact (fail_run h).elim
    · exact (fail_run h).elim
  · rename_i b off len z ix
    obtain ⟨n, c, hn, _, _, rfl⟩ := hx
    split at h
    · rename_i e sz hty
      obtain ⟨hu, i, hi', rfl⟩ := tySlice_some hty
      split at h
      · rename_i j hj
        obtain ⟨k, hk⟩ := scNat_cv hj hi
        cases hb : Nat.blt j len <;> simp only [hb, cond_true, cond_false] at h
        · exact (fail_run h).elim
        · have := okS_run h; subst this
          have hlt : j < len := Nat.le_of_ble_eq_true hb
          subst hk
          exact Res.pure hR (run_index_slice hu hi' hlt) ⟨n, hn, by rw [Nat.add_assoc]⟩
      · exact (fail_run h).elim
    · exact (fail_run h).elim
  · exact (fail_run h).elim

theorem s_fieldAddr {t : TypeId} {x : V} {xv : Value} {f : Nat} (hR : Rel G π m w0 w) (hx : x.cv π xv) (h : (afieldAddr K t x f).run m = some (out, fp)) :
    Res G K.P π m w0 fresh out (Instr.fieldAt t xv f) w := by
  unfold afieldAddr at h
  split at h
  · rename_i b off fs hu
    obtain ⟨n, hn, rfl⟩ := hx
    split at h
    · rename_i fl hf
      split at h
      · rename_i sz hsz
        obtain ⟨i, hi, rfl⟩ := tySize_some hsz
        cases hb : Nat.beq i.size 0 <;> simp only [hb, cond_true, cond_false] at h
        · have := okS_run h; subst this
          have h0 : ¬ i.size = 0 := fun e => by rw [e] at hb; cases hb
          refine Res.pure hR (rv := .pointer (some ⟨n.n, n.base + (off + fl.offset), none⟩)) ?_ ⟨n, hn, rfl⟩
          simp only [Instr.fieldAt, Sem.run_bind, run_underlying hu, Result.andThen_ok, hf, Instr.sureAddr, Sem.run_pure, fieldPlace, run_size hi, h0, if_false, addr_add, Nat.add_assoc]
        · exact (fail_run h).elim
      · exact (fail_run h).elim
    · exact (fail_run h).elim
  · exact (fail_run h).elim

theorem extract_toArray (vs : List Value) (o k : Nat) : vs.toArray.extract o (o + k) = ((vs.drop o).take k).toArray := by
  apply Array.ext'
  simp [List.extract, Nat.add_sub_cancel_left]

theorem s_part {t : TypeId} {gs : List Seg} {vs : List Value} {off : Nat} (hR : Rel G π m w0 w) (hc : segsCv π gs vs) (h : (apart K t gs off).run m = some (out, fp)) :
    Res G K.P π m w0 fresh out (part t vs.toArray off) w := by
  unfold apart at h
  split at h
  · rename_i sz hty
    obtain ⟨ha, i, hi, rfl⟩ := tyAgg_true hty
    obtain ⟨rs, hg, rfl⟩ := okSegs_run h
    obtain ⟨_, hcv⟩ := getSegs_cv hc hg
    refine Res.pure hR (rv := .agg ((vs.drop off).take i.size).toArray) ?_ ⟨_, rfl, hcv⟩
    simp only [part, Sem.run_bind, ha, Result.andThen_ok, if_true, run_size hi, Sem.run_pure, extract_toArray]
  · rename_i sz hty
    obtain ⟨ha, i, hi, rfl⟩ := tyAgg_false hty
    obtain ⟨y, hg, rfl⟩ := okSc_run h
    obtain ⟨v, hv, hcv⟩ := getSc_cv hc hg
    refine Res.pure hR (rv := v) ?_ hcv
    have : vs.toArray[off]? = some v := by simpa using hv
    simp only [part, Sem.run_bind, ha, Result.andThen_ok, Bool.false_eq_true, if_false, this, Sem.run_pure]
  · exact (fail_run h).elim

theorem s_index {t : TypeId} {x ix : V} {xv iv : Value} (hR : Rel G π m w0 w) (hx : x.cv π xv) (hi : ix.cv π iv) (h : (aindex K t x ix).run m = some (out, fp)) :
    Res G K.P π m w0 fresh out (Instr.index t xv iv) w := by
  unfold aindex at h
  split at h
  · rename_i gs ix
    obtain ⟨vs, rfl, hc⟩ := hx
    split at h
    · rename_i len e sz hty
      obtain ⟨hu, i, hi', rfl⟩ := tyArr_some hty
      split at h
      · rename_i y
        have hiv : iv = .int .u8 (y.toNat : Int) := hi
        cases hc' : (Nat.ble 256 len && Nat.beq i.size 1) <;> simp only [hc', cond_true, cond_false] at h
        · exact (fail_run h).elim
        · simp only [Bool.and_eq_true] at hc'
          have h1 := Nat.le_of_ble_eq_true hc'.1
          have h2 := Nat.eq_of_beq_eq_true hc'.2
          have hy := y.isLt
          split at h
          · rename_i sz' hag
            obtain ⟨ha, _, _, _⟩ := tyAgg_false hag
            obtain ⟨r, hg, rfl⟩ := okSc_run h
            obtain ⟨v, hv, hcv⟩ := getPix_cv hc hg
            refine Res.pure hR (rv := v) ?_ hcv
            subst hiv
            have hv' : vs.toArray[y.toNat]? = some v := by simpa using hv
            simp only [Instr.index, asIntOf, Sem.run_bind, Sem.run_pure, Result.andThen_ok, run_underlying hu]
            rw [if_pos ⟨by omega, by omega⟩]
            simp only [Sem.run_bind, run_size hi', Result.andThen_ok, h2, Nat.mul_one, Int.toNat_natCast, part, ha, Bool.false_eq_true, if_false, hv', Sem.run_pure]
          · exact (fail_run h).elim
      · split at h
        · rename_i j hj
          obtain ⟨k, rfl⟩ := scNat_cv hj hi
          cases hb : Nat.blt j len <;> simp only [hb, cond_true, cond_false] at h
          · exact (fail_run h).elim
          · have hlt : j < len := Nat.le_of_ble_eq_true hb
            obtain ⟨rv, w', π', hrun, h1, h2, h3⟩ := s_part (G := G) (w0 := w0) (w := w) (fresh := fresh) hR hc h
            refine ⟨rv, w', π', ?_, h1, h2, h3⟩
            simp only [Instr.index, asIntOf, Sem.run_bind, Sem.run_pure, Result.andThen_ok, run_underlying hu]
            rw [if_pos ⟨by omega, by omega⟩]
            simp only [Sem.run_bind, run_size hi', Result.andThen_ok, Int.toNat_natCast]
            exact hrun
        · exact (fail_run h).elim
    · exact (fail_run h).elim
  · exact (fail_run h).elim

theorem s_field {t : TypeId} {x : V} {xv : Value} {f : Nat} (hR : Rel G π m w0 w) (hx : x.cv π xv) (h : (afield K t x f).run m = some (out, fp)) :
    Res G K.P π m w0 fresh out (Instr.field t xv f) w := by
  unfold afield at h
  split at h
  · rename_i gs fs hu
    obtain ⟨vs, rfl, hc⟩ := hx
    split at h
    · rename_i fl hf
      obtain ⟨rv, w', π', hrun, h1, h2, h3⟩ := s_part (G := G) (w0 := w0) (w := w) (fresh := fresh) hR hc h
      refine ⟨rv, w', π', ?_, h1, h2, h3⟩
      simp only [Instr.field, Sem.run_bind, run_underlying hu, Result.andThen_ok, hf, asAgg, Sem.run_pure]
      exact hrun
    · exact (fail_run h).elim
  · exact (fail_run h).elim

theorem tupCv_get : ∀ {l : List (Bool × List Seg)} {vs : List Value} {i : Nat} {c : Bool × List Seg}, tupCv π l vs → l[i]? = some c → ∃ v, vs[i]? = some v ∧ compCv π c v
  | [], _, _, _, _, h => by simp at h
  | _ :: _, _, 0, _, ⟨v, vr, e, hc, _⟩, h => by subst e; simp at h; subst h; exact ⟨v, rfl, hc⟩
  | _ :: _, _, i + 1, _, ⟨v, vr, e, _, hr⟩, h => by subst e; simp at h; simpa using tupCv_get hr h

theorem s_extract {x : V} {xv : Value} {i : Nat} (hR : Rel G π m w0 w) (hx : x.cv π xv) (h : (aextract x i).run m = some (out, fp)) :
    Res G K.P π m w0 fresh out (Instr.extract xv i) w := by
  unfold aextract at h
  split at h
  · obtain ⟨vs, rfl, ht⟩ := hx
    split at h
    · rename_i x' hl
      have := okS_run h; subst this
      obtain ⟨v, hv, hc⟩ := tupCv_get ht hl
      have hv' : vs.toArray[i]? = some v := by simpa using hv
      exact Res.pure hR (rv := v) (by simp only [Instr.extract, hv', Sem.run_pure]) hc
    · rename_i gs hl
      have := okV_run h; subst this
      obtain ⟨v, hv, hc⟩ := tupCv_get ht hl
      have hv' : vs.toArray[i]? = some v := by simpa using hv
      exact Res.pure hR (rv := v) (by simp only [Instr.extract, hv', Sem.run_pure]) hc
    · exact (fail_run h).elim
  · exact (fail_run h).elim

theorem capsOf_cv {ev : Operand → V} {ρ : Operand → Value} (hev : ∀ x, (ev x).cv π (ρ x)) : ∀ {l : List Operand} {cs : List (Nat × Nat)}, capsOf ev l = some cs → capsCv π cs (l.map ρ)
  | [], cs, h => by cases h; rfl
  | x :: r, cs, h => by
    unfold capsOf at h
    split at h
    · rename_i b o l h1 h2
      cases h
      have hx := hev x
      rw [h1] at hx
      obtain ⟨n, hn, hv⟩ := hx
      exact ⟨n, r.map ρ, hn, by rw [List.map_cons, hv], capsOf_cv hev h2⟩
    · cases h

theorem s_makeFunc {ev : Operand → V} {ρ : Operand → Value} {fn : Fn} {first captured : Array Operand} (hR : Rel G π m w0 w) (hev : ∀ x, (ev x).cv π (ρ x))
    (h : (amakeFunc ev fn first captured).run m = some (out, fp)) : Res G K.P π m w0 fresh out (Instr.makeFunc fn (first.map ρ) (captured.map ρ)) w := by
  unfold amakeFunc at h
  split at h
  · rename_i f l h1 h2
    have := okS_run h; subst this
    have e : first = #[] := by simpa using h1
    subst e
    refine Res.pure hR (rv := .func (.func f) #[] (captured.map ρ)) (by simp [Instr.makeFunc]) ⟨captured.toList.map ρ, ?_, capsOf_cv hev h2⟩
    congr 1
    apply Array.ext'; simp
  · exact (fail_run h).elim

theorem s_makeIface {t : TypeId} {x : V} {xv : Value} (hR : Rel G π m w0 w) (hx : x.cv π xv) (h : (amakeIface K t x).run m = some (out, fp)) :
    Res G K.P π m w0 fresh out (Instr.makeInterface t xv) w := by
  unfold amakeIface at h
  split at h
  · split at h
    · rename_i k' k n hu hs
      have := okS_run h; subst this
      have := scInt_cv hs hx
      subst this
      exact Res.pure hR (rv := .iface t (.int k n)) (by simp [Instr.makeInterface, run_underlying hu]) rfl
    · exact (fail_run h).elim
  · exact (fail_run h).elim

theorem run_toArr {t e : TypeId} {n len cap : Nat} {a : Addr} (hu : P.underlying t = some (.array n e)) (h : n ≤ len) : (Instr.arrayAt t (.slice (some a) len cap)).run P w = .ok (.pointer (some a)) w := by
  simp only [Instr.arrayAt, Sem.run_bind, run_underlying hu, Result.andThen_ok]
  rw [if_neg (by omega)]; rfl

theorem s_toArr {t : TypeId} {x : V} {xv : Value} (hR : Rel G π m w0 w) (hx : x.cv π xv) (h : (atoArr K t x).run m = some (out, fp)) :
    Res G K.P π m w0 fresh out (Instr.arrayAt t xv) w := by
  unfold atoArr at h
  split at h
  · rename_i b off len cap n e sz hty
    obtain ⟨nn, hn, rfl⟩ := hx
    obtain ⟨hu, _⟩ := tyArr_some hty
    cases hb : Nat.ble n len <;> simp only [hb, cond_true, cond_false] at h
    · exact (fail_run h).elim
    · have := okS_run h; subst this
      exact Res.pure hR (run_toArr hu (Nat.le_of_ble_eq_true hb)) ⟨nn, hn, rfl⟩
  · rename_i b off len cap n e sz hty
    obtain ⟨nn, c, hn, _, _, rfl⟩ := hx
    obtain ⟨hu, _⟩ := tyArr_some hty
    cases hb : Nat.ble n len <;> simp only [hb, cond_true, cond_false] at h
    · exact (fail_run h).elim
    · have := okS_run h; subst this
      exact Res.pure hR (run_toArr hu (Nat.le_of_ble_eq_true hb)) ⟨nn, hn, rfl⟩
  · exact (fail_run h).elim
end
end Go.Mo
