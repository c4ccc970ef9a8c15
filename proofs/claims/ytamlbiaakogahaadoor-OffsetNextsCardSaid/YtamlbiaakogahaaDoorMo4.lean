/- The abstract evaluator, part 4: numbers. -/
import Derived.Test.YtamlbiaakogahaaDoorMo3
namespace Go.Mo
open Go Go.RowKit
section
variable {G : Gl} {K : Cx} {π : Loc} {m : Nat → Option Blk} {w0 w : World} {fresh : Nat} {out : Out} {fp : List Nat} {P : Program}

theorem scInt_cv {x : Sc} {k : IntKind} {a : Int} {v : Value} (h : scInt x = some (k, a)) (hx : x.cv π v) : v = .int k a := by
  cases x <;> simp only [scInt, Option.some.injEq, Prod.mk.injEq, reduceCtorEq] at h <;> (obtain ⟨rfl, rfl⟩ := h; exact hx)

theorem eqGuard_int (op : BinOp) (t : TypeId) (ox oy : Operand) (k k' : IntKind) (a b : Int) (w : World) : (eqGuard op t ox oy (.int k a) (.int k' b)).run P w = .ok () w := by
  cases op <;> rfl

theorem wrap_u {k : IntKind} (hs : k.signed = false) (n : Int) : k.wrap n = n % (2 ^ k.bits : Int) := by
  simp [IntKind.wrap, hs]

theorem wrap_lt {k : IntKind} (hs : k.signed = false) {n : Nat} (h : n < 2 ^ k.bits) : k.wrap (n : Int) = n := by
  rw [wrap_u hs]
  have h2 : ((2 : Int) ^ k.bits) = ((2 ^ k.bits : Nat) : Int) := by push_cast; rfl
  rw [h2]
  exact Int.emod_eq_of_lt (by omega) (by exact_mod_cast h)

theorem ofInt_nat {n : Nat} (x : BitVec n) : BitVec.ofInt n (x.toNat : Int) = x := by
  rw [BitVec.ofInt_natCast]; simp

theorem pow_cast (n : Nat) : ((2 : Int) ^ n) = ((2 ^ n : Nat) : Int) := by push_cast; rfl

theorem wrap_nat {k : IntKind} (hs : k.signed = false) (n : Nat) : k.wrap (n : Int) = ((n % 2 ^ k.bits : Nat) : Int) := by
  rw [wrap_u hs, pow_cast]; rfl

theorem bvRes_run {k : IntKind} (hs : k.signed = false) {op : BinOp} {x y r : BitVec k.bits} (h : bvRes op x y = some r) (t : TypeId) :
    (binOp op t (.int k x.toNat) (.int k y.toNat)).run P w = .ok (.int k r.toNat) w := by
  have hx := x.isLt
  have hy := y.isLt
  cases op <;> simp only [bvRes, Option.some.injEq, reduceCtorEq] at h
  case add => subst h; simp [binOp, Op.intArith, ← Int.natCast_add, wrap_nat hs, BitVec.toNat_add]
  case sub =>
    subst h
    simp only [binOp, ne_eq, not_true_eq_false, if_false, Op.intArith, Sem.run_pure, BitVec.toNat_sub]
    rw [wrap_u hs, pow_cast]
    generalize 2 ^ k.bits = M at hx hy
    have e : ((M - y.toNat + x.toNat : Nat) : Int) = ((x.toNat : Int) - y.toNat) + (M : Int) := by omega
    rw [Int.natCast_emod, e, Int.add_emod_right]
  case mul => subst h; simp [binOp, Op.intArith, ← Int.natCast_mul, wrap_nat hs, BitVec.toNat_mul]
  case quo =>
    split at h
    · cases h
    · rename_i hne
      cases h
      have h0 : ¬ ((y.toNat : Int) = 0) := fun e => hne (by exact_mod_cast e)
      have hlt : x.toNat / y.toNat < 2 ^ k.bits := Nat.lt_of_le_of_lt (Nat.div_le_self _ _) hx
      simp only [binOp, ne_eq, not_true_eq_false, if_false, Op.intDiv, h0, Sem.run_pure, BitVec.toNat_udiv]
      rw [← Int.ofNat_tdiv, wrap_lt hs hlt]
  case rem =>
    split at h
    · cases h
    · rename_i hne
      cases h
      have h0 : ¬ ((y.toNat : Int) = 0) := fun e => hne (by exact_mod_cast e)
      simp only [binOp, ne_eq, not_true_eq_false, if_false, Op.intDiv, h0, Sem.run_pure, BitVec.toNat_umod]
      rfl
  case and => subst h; simp only [binOp, ne_eq, not_true_eq_false, if_false, Op.intBits, ofInt_nat, Sem.run_pure]; rw [wrap_lt hs (x &&& y).isLt]
  case or => subst h; simp only [binOp, ne_eq, not_true_eq_false, if_false, Op.intBits, ofInt_nat, Sem.run_pure]; rw [wrap_lt hs (x ||| y).isLt]
  case xor => subst h; simp only [binOp, ne_eq, not_true_eq_false, if_false, Op.intBits, ofInt_nat, Sem.run_pure]; rw [wrap_lt hs (x ^^^ y).isLt]
  case andNot => subst h; simp only [binOp, ne_eq, not_true_eq_false, if_false, Op.intBits, ofInt_nat, Sem.run_pure]; rw [wrap_lt hs (x &&& ~~~y).isLt]

theorem wrapF_eq (k : IntKind) (n : Int) : wrapF k n = k.wrap n := by
  cases k <;> try rfl
  cases n with
  | ofNat m =>
    simp only [wrapF]
    cases h : Nat.ble 9223372036854775808 m
    · have hlt : m < 9223372036854775808 := by
        rcases Nat.lt_or_ge m 9223372036854775808 with q | q
        · exact q
        · rw [Nat.ble_eq_true_of_le q] at h; cases h
      simp only [cond_false]
      unfold IntKind.wrap
      simp only [IntKind.signed, IntKind.bits, Bool.true_and]
      split <;> simp_all <;> omega
    · rfl
  | negSucc m => rfl

theorem knownRes_run {k : IntKind} {op : BinOp} {a b r : Int} (h : knownRes op k a b = some r) (t : TypeId) :
    (binOp op t (.int k a) (.int k b)).run P w = .ok (.int k r) w := by
  cases op <;> simp only [knownRes, Option.some.injEq, reduceCtorEq, wrapF_eq] at h
  case quo =>
    split at h
    · cases h
    · rename_i hne
      cases h
      have h0 : ¬ (b = 0) := fun e => hne e
      simp [binOp, Op.intDiv, h0]
  case rem =>
    split at h
    · cases h
    · rename_i hne
      cases h
      have h0 : ¬ (b = 0) := fun e => hne e
      simp [binOp, Op.intDiv, h0]
  all_goals (subst h; simp [binOp, Op.intArith, Op.intBits])

theorem intRes_run {k : IntKind} {op : BinOp} {a b r : Int} (h : intRes op k a b = some r) (t : TypeId) :
    (binOp op t (.int k a) (.int k b)).run P w = .ok (.int k r) w := by
  cases op <;> simp only [intRes, Option.some.injEq, reduceCtorEq] at h
  case quo =>
    split at h
    · cases h
    · rename_i hne
      cases h
      have h0 : ¬ (b = 0) := fun e => hne e
      simp [binOp, Op.intDiv, h0]
  case rem =>
    split at h
    · cases h
    · rename_i hne
      cases h
      have h0 : ¬ (b = 0) := fun e => hne e
      simp [binOp, Op.intDiv, h0]
  all_goals (subst h; simp [binOp, Op.intArith, Op.intBits])

theorem cmpRes_run {k : IntKind} {op : BinOp} {a b : Int} {r : Bool} (h : cmpRes op a b = some r) (t : TypeId) :
    (binOp op t (.int k a) (.int k b)).run P w = .ok (.bool r) w := by
  cases op <;> simp only [cmpRes, Option.some.injEq, reduceCtorEq] at h
  all_goals (subst h; simp [binOp, Op.intCmp])
  all_goals rfl

theorem shl_min (x n b : Nat) : (x * 2 ^ min n b) % 2 ^ b = (x * 2 ^ n) % 2 ^ b := by
  rcases Nat.le_total n b with h | h
  · rw [Nat.min_eq_left h]
  · rw [Nat.min_eq_right h, Nat.mul_mod_left]
    obtain ⟨d, rfl⟩ := Nat.exists_eq_add_of_le h
    rw [Nat.pow_add, ← Nat.mul_assoc, Nat.mul_right_comm, Nat.mul_mod_left]

theorem shr_min (x n b : Nat) (hx : x < 2 ^ b) : x / 2 ^ min n b = x / 2 ^ n := by
  rcases Nat.le_total n b with h | h
  · rw [Nat.min_eq_left h]
  · rw [Nat.min_eq_right h, Nat.div_eq_of_lt hx, Nat.div_eq_of_lt (Nat.lt_of_lt_of_le hx (Nat.pow_le_pow_right (by omega) h))]

theorem shl_bv {k : IntKind} (hs : k.signed = false) (x : BitVec k.bits) (yk : IntKind) (n : Nat) (t : TypeId) :
    (binOp .shl t (.int k x.toNat) (.int yk n)).run P w = .ok (.int k (x <<< n).toNat) w := by
  have e : (x.toNat : Int) * 2 ^ min n k.bits = ((x.toNat * 2 ^ min n k.bits : Nat) : Int) := by push_cast; rfl
  simp only [binOp, Op.shift, Int.toNat_natCast, BitVec.toNat_shiftLeft, Nat.shiftLeft_eq]
  rw [if_neg (by omega)]
  simp only [Sem.run_pure, e, wrap_nat hs, shl_min]

theorem shr_bv {k : IntKind} (x : BitVec k.bits) (yk : IntKind) (n : Nat) (t : TypeId) :
    (binOp .shr t (.int k x.toNat) (.int yk n)).run P w = .ok (.int k (x >>> n).toNat) w := by
  simp only [binOp, Op.shift, Int.toNat_natCast, BitVec.toNat_ushiftRight, Nat.shiftRight_eq_div_pow]
  rw [if_neg (by omega)]
  simp only [Sem.run_pure]
  rw [pow_cast, Int.fdiv_eq_ediv_of_nonneg _ (Int.natCast_nonneg _), ← Int.natCast_ediv, shr_min _ _ _ x.isLt]

theorem shl_int {k : IntKind} (a : Int) (yk : IntKind) (n : Nat) (t : TypeId) :
    (binOp .shl t (.int k a) (.int yk n)).run P w = .ok (.int k (k.wrap (a * 2 ^ Nat.min n k.bits))) w := by
  simp only [binOp, Op.shift, Int.toNat_natCast]
  rw [if_neg (by omega)]; rfl

theorem shr_int {k : IntKind} (a : Int) (yk : IntKind) (n : Nat) (t : TypeId) :
    (binOp .shr t (.int k a) (.int yk n)).run P w = .ok (.int k (a.fdiv (2 ^ Nat.min n k.bits))) w := by
  simp only [binOp, Op.shift, Int.toNat_natCast]
  rw [if_neg (by omega)]; rfl

theorem scNat_cv {x : Sc} {n : Nat} {v : Value} (h : scNat x = some n) (hx : x.cv π v) : ∃ k, v = .int k (n : Int) := by
  unfold scNat at h
  split at h
  · rename_i k n' hs
    cases h
    exact ⟨k, scInt_cv hs hx⟩
  · cases h

theorem shiftRes_run {op : BinOp} {x y : Sc} {r : Sc} {n : Nat} {xv yv : Value} (h : shiftRes op x n = some r) (hn : scNat y = some n) (hx : x.cv π xv) (hy : y.cv π yv) (t : TypeId) :
    ∃ rv, (binOp op t xv yv).run P w = .ok rv w ∧ r.cv π rv := by
  obtain ⟨yk, rfl⟩ := scNat_cv hn hy
  unfold shiftRes at h
  split at h <;> cases h <;> simp only [Sc.cv] at hx <;> subst hx
  · exact ⟨_, shl_int _ _ _ _, by simp only [Sc.cv, wrapF_eq, pow_cast]⟩
  · exact ⟨_, shr_int _ _ _ _, by simp only [Sc.cv, pow_cast]⟩
  · exact ⟨_, shl_int (k := .i64) _ _ _ _, by simp only [Sc.cv, pow_cast]; rfl⟩
  · exact ⟨_, shr_int (k := .i64) _ _ _ _, by simp only [Sc.cv, pow_cast]; rfl⟩
  · exact ⟨_, shl_bv (k := .u8) rfl _ _ _ _, rfl⟩
  · exact ⟨_, shr_bv (k := .u8) _ _ _ _, rfl⟩
  · exact ⟨_, shl_bv (k := .u32) rfl _ _ _ _, rfl⟩
  · exact ⟨_, shr_bv (k := .u32) _ _ _ _, rfl⟩
  · exact ⟨_, shl_bv (k := .u64) rfl _ _ _ _, rfl⟩
  · exact ⟨_, shr_bv (k := .u64) _ _ _ _, rfl⟩

/-- What was taken for granted holds. -/
def ObsOk (l : List (Bool × Bool)) : Prop := ∀ p ∈ l, p.1 = p.2

theorem answer_run {ans : Option Bool} {b : Bool} (h : (answer ans b).run m = some (out, fp)) (ho : ObsOk out.obs) :
    ∃ obs, out = ⟨.s (.bool b), [], none, obs⟩ := by
  unfold answer at h
  split at h <;> cases h
  · exact ⟨_, rfl⟩
  · rename_i c
    have : b = c := ho (b, c) (by simp)
    subst this
    exact ⟨_, rfl⟩

theorem s_binInts {ans : Option Bool} {op : BinOp} {x y : Sc} {xv yv : Value} {t : TypeId} {ox oy : Operand} (hR : Rel G π m w0 w) (hx : x.cv π xv) (hy : y.cv π yv)
    (h : (binInts ans op x y).run m = some (out, fp)) (ho : ObsOk out.obs) :
    Res G K.P π m w0 fresh out (do eqGuard op t ox oy xv yv; binOp op t xv yv) w := by
  have core : ∀ rv v obs, out = ⟨v, [], none, obs⟩ → v.cv π rv → (∃ k k' a b, xv = .int k a ∧ yv = .int k' b) → (binOp op t xv yv).run K.P w = .ok rv w →
      Res G K.P π m w0 fresh out (do eqGuard op t ox oy xv yv; binOp op t xv yv) w := by
    intro rv v obs e hc hi hrun
    subst e
    obtain ⟨k, k', a, b, rfl, rfl⟩ := hi
    exact Res.pure hR (by rw [Sem.run_bind, eqGuard_int, Result.andThen_ok, hrun]) hc
  have shift : (∃ n r, scNat y = some n ∧ shiftRes op x n = some r ∧ out = ⟨.s r, [], none, []⟩) →
      Res G K.P π m w0 fresh out (do eqGuard op t ox oy xv yv; binOp op t xv yv) w := by
    rintro ⟨n, r, hn, hr, rfl⟩
    obtain ⟨rv, h1, h2⟩ := shiftRes_run (P := K.P) (w := w) hr hn hx hy t
    obtain ⟨yk, hyv⟩ := scNat_cv hn hy
    have hxv : ∃ k a, xv = .int k a := by
      unfold shiftRes at hr
      split at hr <;> first | (cases hr; done) | exact ⟨_, _, hx⟩
    obtain ⟨k, a, hxv⟩ := hxv
    exact core rv _ _ rfl h2 ⟨k, yk, a, n, hxv, hyv⟩ h1
  unfold binInts at h
  cases hs : isShift op <;> simp only [hs, cond_true, cond_false] at h
  · have known : ∀ k a b, xv = .int k a → yv = .int k b → (binKnown op k a b).run m = some (out, fp) → Res G K.P π m w0 fresh out (do eqGuard op t ox oy xv yv; binOp op t xv yv) w := by
      intro k a b e1 e2 h
      unfold binKnown at h
      split at h
      · rename_i r hr
        cases h
        exact core _ _ _ rfl rfl ⟨k, k, a, b, e1, e2⟩ (by rw [e1, e2]; exact cmpRes_run hr t)
      · split at h
        · rename_i r hr
          exact core _ _ _ (okS_run h) rfl ⟨k, k, a, b, e1, e2⟩ (by rw [e1, e2]; exact knownRes_run hr t)
        · exact (fail_run h).elim
    have sym : ∀ a b, xv = .int .i64 a → yv = .int .i64 b → (binSym ans op a b).run m = some (out, fp) → Res G K.P π m w0 fresh out (do eqGuard op t ox oy xv yv; binOp op t xv yv) w := by
      intro a b e1 e2 h
      unfold binSym at h
      split at h
      · rename_i r hr
        obtain ⟨obs, e⟩ := answer_run h ho
        exact core _ _ _ e rfl ⟨_, _, a, b, e1, e2⟩ (by rw [e1, e2]; exact cmpRes_run hr t)
      · split at h
        · rename_i r hr
          exact core _ _ _ (okS_run h) rfl ⟨_, _, a, b, e1, e2⟩ (by rw [e1, e2]; exact intRes_run hr t)
        · exact (fail_run h).elim
    have bv : ∀ (k : IntKind), k.signed = false → ∀ (mk : BitVec k.bits → Sc) (x y : BitVec k.bits), (∀ r, (mk r).cv π (.int k r.toNat)) → xv = .int k x.toNat → yv = .int k y.toNat →
        (binBv ans op mk x y).run m = some (out, fp) → Res G K.P π m w0 fresh out (do eqGuard op t ox oy xv yv; binOp op t xv yv) w := by
      intro k hsg mk x y hmk e1 e2 h
      unfold binBv at h
      split at h
      · rename_i r hr
        obtain ⟨obs, e⟩ := answer_run h ho
        exact core _ _ _ e rfl ⟨_, _, _, _, e1, e2⟩ (by rw [e1, e2]; exact cmpRes_run hr t)
      · split at h
        · rename_i r hr
          exact core _ _ _ (okS_run h) (hmk r) ⟨_, _, _, _, e1, e2⟩ (by rw [e1, e2]; exact bvRes_run hsg hr t)
        · exact (fail_run h).elim
    split at h
    · rename_i k a
      split at h
      · rename_i k' b
        cases hk : (k == k') <;> simp only [hk, cond_true, cond_false] at h
        · exact (fail_run h).elim
        · have hk' : k = k' := by simpa using hk
          subst hk'
          exact known k a b hx hy h
      · rename_i b
        cases hk : (k == .i64) <;> simp only [hk, cond_true, cond_false] at h
        · exact (fail_run h).elim
        · have hk' : k = .i64 := by simpa using hk
          subst hk'
          exact sym a b hx hy h
      · exact (fail_run h).elim
    · rename_i a
      split at h
      · rename_i k b
        cases hk : (k == .i64) <;> simp only [hk, cond_true, cond_false] at h
        · exact (fail_run h).elim
        · have hk' : k = .i64 := by simpa using hk
          subst hk'
          exact sym a b hx hy h
      · exact sym _ _ hx hy h
      · exact (fail_run h).elim
    · split at h
      · exact bv .u8 rfl .b8 _ _ (fun r => rfl) hx hy h
      · exact (fail_run h).elim
    · split at h
      · exact bv .u32 rfl .b32 _ _ (fun r => rfl) hx hy h
      · exact (fail_run h).elim
    · split at h
      · exact bv .u64 rfl .b64 _ _ (fun r => rfl) hx hy h
      · exact (fail_run h).elim
    · exact (fail_run h).elim
  · split at h
    · rename_i n hn
      obtain ⟨r, hr, e⟩ := okSc_run h
      exact shift ⟨n, r, hn, hr, e⟩
    · exact (fail_run h).elim

theorem conv_sw {k : IntKind} (hs : k.signed = false) {a : Nat} (y : BitVec a) : Value.int k (k.wrap (y.toNat : Int)) = Value.int k ((y.setWidth k.bits).toNat : Int) := by
  rw [wrap_nat hs, BitVec.toNat_setWidth]
theorem conv_id {k : IntKind} (hs : k.signed = false) (y : BitVec k.bits) : Value.int k (k.wrap (y.toNat : Int)) = Value.int k (y.toNat : Int) := by
  rw [wrap_lt hs y.isLt]
theorem conv_of {k : IntKind} (hs : k.signed = false) (n : Int) : Value.int k (k.wrap n) = Value.int k ((BitVec.ofInt k.bits n).toNat : Int) := by
  rw [wrap_u hs, BitVec.toNat_ofInt, pow_cast, Int.toNat_of_nonneg (Int.emod_nonneg _ (by have := Nat.two_pow_pos k.bits; omega))]
theorem conv_i64 {n : Nat} (h : n < 4294967296) : Value.int .i64 (IntKind.i64.wrap (n : Int)) = Value.int .i64 (n : Int) := by
  congr 1
  unfold IntKind.wrap
  simp only [IntKind.signed, IntKind.bits, Bool.true_and]
  split <;> simp_all <;> omega

theorem conv_known (k : IntKind) (n : Int) : Value.int k (k.wrap n) = Value.int k (wrapF k n) := by rw [wrapF_eq]

theorem convRes_cv {k : IntKind} {x r : Sc} {xv : Value} (h : convRes k x = some r) (hx : x.cv π xv) :
    ∃ kx n, xv = .int kx n ∧ r.cv π (.int k (k.wrap n)) := by
  unfold convRes at h
  split at h <;> cases h <;> refine ⟨_, _, hx, ?_⟩ <;> simp only [Sc.cv] <;> first
    | exact conv_known _ _
    | exact conv_id (k := .u8) rfl _
    | exact conv_id (k := .u32) rfl _
    | exact conv_id (k := .u64) rfl _
    | exact conv_sw (k := .u8) rfl _
    | exact conv_sw (k := .u32) rfl _
    | exact conv_sw (k := .u64) rfl _
    | exact conv_of (k := .u8) rfl _
    | exact conv_of (k := .u32) rfl _
    | exact conv_of (k := .u64) rfl _
    | (rename_i y; exact conv_i64 (Nat.lt_trans y.isLt (by decide)))
    | (rename_i y; exact conv_i64 y.isLt)
end
end Go.Mo
