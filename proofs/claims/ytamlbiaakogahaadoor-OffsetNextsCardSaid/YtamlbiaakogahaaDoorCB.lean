/- The contract of sbox.Back: its loop by hand. -/
import Derived.Test.YtamlbiaakogahaaDoorMo13
import Derived.Test.YtamlbiaakogahaaDoorC2
namespace Go.Proofs.YtamlbiaakogahaaDoor
open Go Go.Mo
noncomputable abbrev fB := Tryd.f100
noncomputable def bA : Code := match fB.body with | some (.seq a (.seq (.seq _ (.block _ (.loop _))) _)) => a | _ => .skip
noncomputable def bB : Code := match fB.body with | some (.seq _ (.seq (.seq b (.block _ (.loop _))) _)) => b | _ => .skip
noncomputable def bL : Code := match fB.body with | some (.seq _ (.seq (.seq _ (.block _ (.loop l))) _)) => l | _ => .skip
noncomputable def bT : Code := match fB.body with | some (.seq _ (.seq (.seq _ (.block _ (.loop _))) t)) => t | _ => .skip
theorem bBody : fB.body = some (.seq bA (.seq (.seq bB (.block 0 (.loop bL))) bT)) := by kernel_rfl
noncomputable def cI (i : Nat) : B8 := nth 0 sboxL i
noncomputable def tB (b : B8) (i : Nat) : Bool := decide (((cI i).toNat : Int) = (b.toNat : Int))
noncomputable def frI (b : B8) : Fr := (Fr.full 12 fB.ntmps).ofArgs 0 [.s (.b8 b)]
noncomputable def frA (b : B8) : Fr := (frI b).set 2 (.s (.b8 0))
noncomputable def frB0 (b : B8) : Fr := ((frA b).set 5 (.a [.b8 256 sboxL])).set 6 (.s (.i .i64 0))
noncomputable def iv (i : Nat) : V := .s (.i .i64 (.ofNat i))
noncomputable def frB (b : B8) (i : Nat) : Fr :=
  ((((((((((frB0 b).set 3 (iv i)).set 4 (.s (.b8 (cI i)))).set 6 (iv (i + 1))).set 7 (.s (.bool true))).set 8 (iv i)).set 9 (.s (.b8 (cI i)))).set 10 (.s (.b8 (cI i)))).set 11 (.s (.b8 b))).set 12 (.s (.bool false))).set 15 (iv (i + 1))
noncomputable def stB (fr : Fr) (o : List (Option Bool)) (obs : List (Bool × Bool)) : St := ⟨fr, fB.ntmps, [], o, obs⟩
noncomputable abbrev KB := K_Unmix
theorem b_pre1 (b : B8) (o : List (Option Bool)) : acode KB 300 bA (stB (frI b) o []) = some (.normal, stB (frA b) o []) := by kernel_rfl
theorem b_pre2 (b : B8) (o : List (Option Bool)) : acode KB 300 bB (stB (frA b) o []) = some (.normal, stB (frB0 b) o []) := by kernel_rfl
theorem b_first (b : B8) (o : List (Option Bool)) (obs : List (Bool × Bool)) :
    acode KB 300 bL (stB (frB0 b) (some false :: o) obs) = some (.normal, stB (frB b 0) o ((tB b 0, false) :: obs)) := by kernel_rfl
theorem b_first' (b : B8) (o : List (Option Bool)) (obs : List (Bool × Bool)) :
    retOf KB fB (acode KB 300 bL (stB (frB0 b) (some true :: o) obs)) = some (.s (.b8 0), (tB b 0, true) :: obs) := by kernel_rfl
theorem b_step (b : B8) (o : List (Option Bool)) (obs : List (Bool × Bool)) (n : Nat) (h : n < 255) :
    acode KB 300 bL (stB (frB b n) (some false :: o) obs) = some (.normal, stB (frB b (n + 1)) o ((tB b (n + 1), false) :: obs)) :=
  tab_all (f := fun n => acode KB 300 bL (stB (frB b n) (some false :: o) obs)) (g := fun n => some (.normal, stB (frB b (n + 1)) o ((tB b (n + 1), false) :: obs))) (N := 255) (by kernel_rfl) n h
theorem b_step' (b : B8) (o : List (Option Bool)) (obs : List (Bool × Bool)) (n : Nat) (h : n < 255) :
    retOf KB fB (acode KB 300 bL (stB (frB b n) (some true :: o) obs)) = some (.s (.b8 (BitVec.ofNat 8 (n + 1))), (tB b (n + 1), true) :: obs) :=
  tab_all (f := fun n => retOf KB fB (acode KB 300 bL (stB (frB b n) (some true :: o) obs))) (g := fun n => some (.s (.b8 (BitVec.ofNat 8 (n + 1))), (tB b (n + 1), true) :: obs)) (N := 255) (by kernel_rfl) n h

theorem tB_iff (b : B8) (i : Nat) : tB b i = Nat.beq (cI i).toNat b.toNat := by
  unfold tB
  cases h : Nat.beq (cI i).toNat b.toNat
  · simp only [decide_eq_false_iff_not]
    intro e
    have : (cI i).toNat = b.toNat := by omega
    rw [this] at h
    simp at h
  · have := Nat.eq_of_beq_eq_true h
    simp [this]

theorem scan (b : B8) : ∀ (l : List B8) (i : Nat), (∀ j, j < l.length → nth 0 l j = cI (i + j)) → (l.any fun c => Nat.beq c.toNat b.toNat) = true →
    ∃ k, k < l.length ∧ backGo i l b = BitVec.ofNat 8 (i + k) ∧ tB b (i + k) = true ∧ ∀ j, j < k → tB b (i + j) = false
  | [], _, _, h => by simp at h
  | c :: r, i, hc, h => by
    have h0 : c = cI i := hc 0 (by simp)
    unfold backGo
    cases hq : Nat.beq c.toNat b.toNat
    · simp only [List.any_cons, hq, Bool.false_or] at h
      obtain ⟨k, h1, h2, h3, h4⟩ := scan b r (i + 1) (fun j hj => by
        have := hc (j + 1) (by simpa using hj)
        rw [show i + 1 + j = i + (j + 1) by omega, ← this]; simp [nth_eq]) h
      refine ⟨k + 1, by simpa using h1, ?_, by rwa [show i + (k + 1) = i + 1 + k by omega], ?_⟩
      · simp only [cond_false, h2]; rw [show i + 1 + k = i + (k + 1) by omega]
      · intro j hj
        cases j with
        | zero => rw [tB_iff, Nat.add_zero, ← h0]; exact hq
        | succ j => rw [show i + (j + 1) = i + 1 + j by omega]; exact h4 j (by omega)
    · exact ⟨0, by simp, rfl, by rw [tB_iff, Nat.add_zero, ← h0]; exact hq, fun j hj => by omega⟩

theorem sbox_len : sboxL.length = 256 := by kernel_rfl
theorem sbox_onto (b : B8) : (sboxL.any fun c => Nat.beq c.toNat b.toNat) = true :=
  byte_all (f := fun b => sboxL.any fun c => Nat.beq c.toNat b.toNat) (g := fun _ => true) (by kernel_rfl) b

theorem back_ix (b : B8) : ∃ k, k < 256 ∧ back b = BitVec.ofNat 8 k ∧ tB b k = true ∧ ∀ j, j < k → tB b j = false := by
  obtain ⟨k, h1, h2, h3, h4⟩ := scan b sboxL 0 (fun j _ => by rw [Nat.zero_add]; rfl) (sbox_onto b)
  simp only [Nat.zero_add, sbox_len] at h1 h2 h3 h4
  exact ⟨k, h1, h2, h3, h4⟩

theorem ret_step {x : Option (Ex × St)} {y : V × List (Bool × Bool)} {body : St → Option (Ex × St)} {s : St} {n : Nat} (hx : body s = x) (h : retOf KB fB x = some y) :
    retOf KB fB (aloop body (n + 1) s) = some y := by
  obtain ⟨v, obs⟩ := y
  obtain ⟨s', e1, e2, e3⟩ := retOf_some h
  rw [aloop_ret (hx.trans e1), ← e1]; exact h

theorem b_loop (b : B8) : ∀ (k n i : Nat) (obs : List (Bool × Bool)), i + k < 255 → (∀ j, j < k → tB b (i + 1 + j) = false) → tB b (i + 1 + k) = true → ObsOk obs →
    ∃ obs', retOf KB fB (aloop (acode KB 300 bL) (k + 1 + n) (stB (frB b i) (List.replicate k (some false) ++ [some true]) obs)) = some (.s (.b8 (BitVec.ofNat 8 (i + 1 + k))), obs') ∧ ObsOk obs'
  | 0, n, i, obs, h, _, h2, ho => by
    refine ⟨(tB b (i + 1), true) :: obs, ?_, ?_⟩
    · rw [Nat.zero_add, Nat.add_comm 1 n]
      exact ret_step rfl (b_step' b [] obs i (by omega))
    · intro p hp
      rcases List.mem_cons.1 hp with rfl | hp
      · exact h2
      · exact ho p hp
  | k + 1, n, i, obs, h, h1, h2, ho => by
    obtain ⟨obs', e1, e2⟩ := b_loop b k n (i + 1) ((tB b (i + 1), false) :: obs) (by omega) (fun j hj => by
      rw [show i + 1 + 1 + j = i + 1 + (j + 1) by omega]; exact h1 (j + 1) (by omega)) (by rw [show i + 1 + 1 + k = i + 1 + (k + 1) by omega]; exact h2) (by
      intro p hp
      rcases List.mem_cons.1 hp with rfl | hp
      · exact h1 0 (by omega)
      · exact ho p hp)
    refine ⟨obs', ?_, e2⟩
    rw [show k + 1 + 1 + n = (k + 1 + n) + 1 by omega, List.replicate_succ, List.cons_append, aloop_normal (b_step b _ obs i (by omega))]
    rw [show i + 1 + (k + 1) = i + 1 + 1 + k by omega]; exact e1

theorem b_all (b : B8) : ∃ orc obs, evalE KB 300 fB [.s (.b8 b)] [] orc [] = some (.s (.b8 (back b)), obs, []) ∧ ObsOk obs := by
  obtain ⟨k, h1, h2, h3, h4⟩ := back_ix b
  have key : ∃ orc obs, retOf KB fB (aloop (acode KB 300 bL) 300 (stB (frB0 b) orc [])) = some (.s (.b8 (back b)), obs) ∧ ObsOk obs := by
    rw [h2]
    cases k with
    | zero =>
      refine ⟨[some true], _, ret_step (n := 299) rfl (b_first' b [] []), ?_⟩
      intro p hp
      simp only [List.mem_singleton] at hp
      subst hp; exact h3
    | succ k =>
      obtain ⟨obs', e1, e2⟩ := b_loop b k (298 - k) 0 [(tB b 0, false)] (by omega) (fun j hj => by rw [show 0 + 1 + j = j + 1 by omega]; exact h4 _ (by omega))
        (by rw [show 0 + 1 + k = k + 1 by omega]; exact h3) (by
          intro p hp
          simp only [List.mem_singleton] at hp
          subst hp; exact h4 0 (by omega))
      refine ⟨some false :: (List.replicate k (some false) ++ [some true]), obs', ?_, e2⟩
      rw [show (300 : Nat) = 299 + 1 by rfl, aloop_normal (b_first b _ [])]
      rw [show k + 1 + (298 - k) = 299 by omega, show 0 + 1 + k = k + 1 by omega] at e1
      exact e1
  obtain ⟨orc, obs, e1, e2⟩ := key
  obtain ⟨s', f1, f2, f3⟩ := retOf_some e1
  refine ⟨orc, obs, ?_, e2⟩
  rw [← f3]
  refine evalE_ret bBody ?_ f2
  rw [show (⟨(Fr.full 12 fB.ntmps).ofArgs 0 [.s (.b8 b)], fB.ntmps, given [], orc, []⟩ : St) = stB (frI b) orc [] from rfl]
  rw [acode_seq_normal (b_pre1 b orc)]
  refine acode_seq_ret ?_
  rw [acode_seq_normal (b_pre2 b orc)]
  exact acode_block_ret f1

noncomputable def sp_Back : List V → Option V
  | [.s (.b8 x)] => some (.s (.b8 (back x)))
  | _ => none
theorem e_Back (G : Gl) : EntryOk G Tryd.prog 100 (pureSp sp_Back) := by
  refine entry_pure (enters_of Tryd.func100 (by kernel_rfl)) ?_
  intro args v h π vargs ha fresh m
  unfold sp_Back at h
  split at h
  · rename_i x
    cases h
    obtain ⟨orc, obs, e1, e2⟩ := b_all x
    exact fitsP (K := KB) (obs := obs) ((good_Unmix G).good mixed) 300 _ orc Tryd.func100 e1 e2 (by kernel_rfl) rfl rfl fresh m
  · cases h
noncomputable def E_Back : List (Nat × Mo.Spec) := (100, pureSp sp_Back) :: E_Unmix
noncomputable def K_Back : Cx := cxOf Tryd.prog E_Back
theorem good_Back (G : Gl) : EnvL G Tryd.prog E_Back := .cons (e_Back G) (good_Unmix G)
end Go.Proofs.YtamlbiaakogahaaDoor
