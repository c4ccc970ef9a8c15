/- Contracts of functions by the evaluator (C51): SealParts. -/
import Derived.Test.YtamlbiaakogahaaDoorC50
namespace Go.Mo
open Go Go.RowKit
section
variable {G : Gl} {K : Cx} {inl : Inl} {m : Nat → Option Blk} {f : Nat} {fn : Func} {fuel : Nat} {orc : List (Option Bool)} {v : V} {obs : List (Bool × Bool)} {E : List Nat} {gsl : List (List Seg)} {fresh : Nat} {px pc : List V}
/-- One string, its length unknown. -/
theorem fits_S (hG : Good G K) (hi : InlOk K.P inl) (hf : K.P.funcs[f]? = some fn) {b : V} {n : Nat} {l : List (BitVec 8)} (hn : n ≠ 0) (hin : ByIn m 1 b n l) {qx qc : List V} (hp : Pures px pc) (hq : Pures qx qc)
    (he : ev2 K inl fuel fn (pc ++ (argS 0 n :: qc)) [some [.b8 n l], none] orc E v gsl = (some (v, obs, newBlks gsl), true)) (hobs : l.length = n → ObsOk obs) :
    Fits G K.P f (px ++ (b :: qx)) fresh m (v.ren (newIdx E fresh)) (gsl.map (renSegs (newIdx E fresh))) := by
  refine Fits.introM (ev2_enters hf he) fun π w vargs hm _ => ?_
  obtain ⟨hl, bb, oo, hb1, hb2⟩ := hin.win (by omega) hm
  rw [Nat.mul_one] at hl
  subst hl
  have hne : l ≠ [] := fun e => hn (by rw [e]; rfl)
  simp only [ev2, Prod.mk.injEq] at he
  have hs := sees_N hb1 (byAt_nil (b := 0) (o := 0))
  rw [memBy_ne hne] at hs
  refine fitsG hG hi fuel fuel _ _ 0 orc E hf he.1 (hobs rfl) he.2 hs fresh (fun π w vargs hm => argsW_app (hp _ _) (fun _ => argsW_cons (fun v hv => ?_) (hq _ _))) rfl rfl
  exact argS_cv (σ := lk [bb, 0]) (o := lk [oo, 0]) (i := 0) (hb2 π w v hm hv) hne rfl
end
end Go.Mo
namespace Go.Proofs.YtamlbiaakogahaaDoor
open Go Go.Mo
noncomputable section

/-! SealParts -/
noncomputable abbrev SPA := Tryd.f17
def noN (n : Nat) (x : List B8) : List B8 := bif Nat.beq n 0 then [] else x
def obsSP (ζ : LZ) (k nc s : List B8) (n : Nat) (l : List B8) : List (Bool × Bool) :=
  [tr (ζ.TAG (pZ ζ k) s (ζ.CD (pZ ζ k) nc n (nzL n l)) n (nzL n l) = ζ.RTAG (ζ.φ.W k) ζ.φ.SB s (ζ.CD (pZ ζ k) nc n (nzL n l)) n (nzL n l)), (true, true), (true, true), tr (ζ.CD (pZ ζ k) nc n (nzL n l) = ζ.RD (ζ.φ.W k) ζ.φ.SB nc n (nzL n l)), tr (ζ.CS (pZ ζ k) nc n (nzL n l) = ζ.RS (ζ.φ.W k) ζ.φ.SB nc n (nzL n l)),
   tr (noN n (ζ.CO (pZ ζ k) nc n (nzL n l)) = noN n (ζ.RO (ζ.φ.W k) ζ.φ.SB nc n (nzL n l)))]
noncomputable def spEv (ζ : LZ) (k nc s l : List B8) (n : Nat) := ev2 (K_Z1 ζ) noInl 80 SPA ([.a [.b8 16 k], .a [.b8 12 nc]] ++ (argB 0 n :: [.a [.b8 16 s]])) [memBy n l, none] [some true, some true, some true, some true, some true, some true] [] (.s (.bool true)) []
theorem l_SP0 (ζ : LZ) (k nc s l : List B8) : (List.range 30).map (fun i => spEv ζ k nc s l (0 + i)) = (List.range 30).map (fun i => (some (.s (.bool true), obsSP ζ k nc s (0 + i) l, newBlks []), true)) := by kernel_rfl
theorem l_SP1 (ζ : LZ) (k nc s l : List B8) : (List.range 30).map (fun i => spEv ζ k nc s l (30 + i)) = (List.range 30).map (fun i => (some (.s (.bool true), obsSP ζ k nc s (30 + i) l, newBlks []), true)) := by kernel_rfl
theorem l_SP2 (ζ : LZ) (k nc s l : List B8) : (List.range 30).map (fun i => spEv ζ k nc s l (60 + i)) = (List.range 30).map (fun i => (some (.s (.bool true), obsSP ζ k nc s (60 + i) l, newBlks []), true)) := by kernel_rfl
theorem l_SP3 (ζ : LZ) (k nc s l : List B8) : (List.range 30).map (fun i => spEv ζ k nc s l (90 + i)) = (List.range 30).map (fun i => (some (.s (.bool true), obsSP ζ k nc s (90 + i) l, newBlks []), true)) := by kernel_rfl
theorem l_SP4 (ζ : LZ) (k nc s l : List B8) : (List.range 31).map (fun i => spEv ζ k nc s l (120 + i)) = (List.range 31).map (fun i => (some (.s (.bool true), obsSP ζ k nc s (120 + i) l, newBlks []), true)) := by kernel_rfl
theorem l_SP (ζ : LZ) (k nc s l : List B8) {n : Nat} (hn : n < 151) : spEv ζ k nc s l n = (some (.s (.bool true), obsSP ζ k nc s n l, newBlks []), true) := by
  have key : ∀ {a N : Nat}, (List.range N).map (fun i => spEv ζ k nc s l (a + i)) = (List.range N).map (fun i => (some (.s (.bool true), obsSP ζ k nc s (a + i) l, newBlks []), true)) → a ≤ n → n < a + N → spEv ζ k nc s l n = (some (.s (.bool true), obsSP ζ k nc s n l, newBlks []), true) :=
    fun h h1 h2 => map_at' (f := spEv ζ k nc s l) (g := fun n => (some (.s (.bool true), obsSP ζ k nc s n l, newBlks []), true)) h h1 h2
  rcases Nat.lt_or_ge n 30 with h0 | h0
  · exact key (l_SP0 ζ k nc s l) (by omega) (by omega)
  rcases Nat.lt_or_ge n 60 with h1 | h1
  · exact key (l_SP1 ζ k nc s l) (by omega) (by omega)
  rcases Nat.lt_or_ge n 90 with h2 | h2
  · exact key (l_SP2 ζ k nc s l) (by omega) (by omega)
  rcases Nat.lt_or_ge n 120 with h3 | h3
  · exact key (l_SP3 ζ k nc s l) (by omega) (by omega)
  · exact key (l_SP4 ζ k nc s l) (by omega) (by omega)
theorem l_SPb (ζ : LZ) (k nc s : List B8) (n : Nat) (gs : List Seg) : ev2 (K_Z1 ζ) noInl 80 SPA ([.a [.b8 16 k], .a [.b8 12 nc]] ++ (argS 0 n :: [.a [.b8 16 s]])) [some gs, none] [some true] [] (.s (.bool true)) [] = (some (.s (.bool true), [tr ((150 : Int) < (n : Int))], newBlks []), true) := by kernel_rfl
theorem obsSP_ok (k nc s : List B8) {n : Nat} {l : List B8} (hl : l.length = n) (hn : n ≤ 150) : ObsOk (obsSP ζ0 k nc s n l) := by
  subst hl
  have e1 : ∀ o n l, ζ0.TAG (pZ ζ0 k) s o n l = tagF τ0 (pk k) s o n l := by intro o n l; kernel_rfl
  have e2 : ∀ o n l, ζ0.RTAG (ζ0.φ.W k) ζ0.φ.SB s o n l = rtagF υ0 (wk k) sB s o n l := by intro o n l; kernel_rfl
  have e3 : ∀ n l, ζ0.CD (pZ ζ0 k) nc n l = crD κ0 (pk k) nc n l := by intro n l; kernel_rfl
  have e4 : ∀ n l, ζ0.RD (ζ0.φ.W k) ζ0.φ.SB nc n l = rcD δ0 (wk k) sB nc n l := by intro n l; kernel_rfl
  have e5 : ∀ n l, ζ0.CS (pZ ζ0 k) nc n l = crS κ0 (pk k) nc n l := by intro n l; kernel_rfl
  have e6 : ∀ n l, ζ0.RS (ζ0.φ.W k) ζ0.φ.SB nc n l = rcS δ0 (wk k) sB nc n l := by intro n l; kernel_rfl
  have e7 : ∀ n l, ζ0.CO (pZ ζ0 k) nc n l = crO κ0 (pk k) nc n l := by intro n l; kernel_rfl
  have e8 : ∀ n l, ζ0.RO (ζ0.φ.W k) ζ0.φ.SB nc n l = rcO δ0 (wk k) sB nc n l := by intro n l; kernel_rfl
  unfold obsSP
  rw [nzL_len]
  refine obs_tr ?_ <| obs_ok1 rfl <| obs_ok1 rfl <| obs_tr ?_ <| obs_tr ?_ <| obs_tr ?_ obs_nil
  · rw [e1, e2, tag_eq k _ _ rfl (by omega)]
  · rw [e3, e4, crD_eq k nc (by omega)]
  · rw [e5, e6, crS_eq k nc rfl]
  · rw [e7, e8, crO_eq k nc rfl (by omega)]
theorem law_SealParts (G : Gl) (hG : DB G) (k nc l s : List B8) : Fits G Tryd.prog 17 [.a [.b8 16 k], .a [.b8 12 nc], argB 0 l.length, .a [.b8 16 s]] 2 (mBB l []) (.s (.bool true)) [] := by
  have hp : Pures [.a [.b8 16 k], .a [.b8 12 nc]] [.a [.b8 16 k], .a [.b8 12 nc]] := pures_flat rfl (pures_flat rfl pures_nil)
  have hq : Pures [.a [.b8 16 s]] [.a [.b8 16 s]] := pures_flat rfl pures_nil
  have hf := Tryd.func17
  rcases Nat.lt_or_ge 150 l.length with h | h
  · exact fits_S (good_Z1 G hG) noInl_ok hf (by omega) (inB0 l []) hp hq (l_SPb ζ0 k nc s l.length _) (fun _ => obs_tr (by omega) obs_nil)
  · exact fits_B (good_Z1 G hG) noInl_ok hf (inB0 l []) hp hq (l_SP ζ0 k nc s l (n := l.length) (by omega)) (fun _ => obsSP_ok k nc s rfl h)
end
end Go.Proofs.YtamlbiaakogahaaDoor
