/- Contracts of functions by the evaluator (C13). -/
import Derived.Test.YtamlbiaakogahaaDoorC12
import Derived.Test.YtamlbiaakogahaaDoorProg
namespace Go.Proofs.YtamlbiaakogahaaDoor
open Go Go.Mo
noncomputable section

def sp_Of : Mo.Spec := fun args _fresh =>
  match args with
  | [.s (.osl b o 128 1)] => rd1 b fun g => match g with | [.is N L] => (bif Nat.ble (o + 128) N then some (.a [.b8 16 (ofL (bif Nat.beq 128 N then L else (L.drop o).take 128))], []) else none) | _ => none
  | _ => .fail
theorem e_Of (G : Gl) : EntryOk G Tryd.prog 80 sp_Of := by
  intro args fresh m v news fp hx
  unfold sp_Of at hx
  split at hx
  · rename_i b o
    obtain ⟨x, hb, hk⟩ := rd1_run hx
    split at hk
    · rename_i N L hg
      cases hc : Nat.ble (o + 128) N <;> simp only [hc, cond_true, cond_false] at hk
      · cases hk
      cases hk
      refine Fits.part (blk := x) (gs := [.is 128 (bif Nat.beq 128 N then L else (L.drop o).take 128)]) ?_ hb ?_ (by decide) rfl rfl
      · exact fitsM (K := K_Bits) (obs := []) (v := .a [.b8 16 (ofL (bif Nat.beq 128 N then L else (L.drop o).take 128))]) (gsl := []) ((good_Bits G).good mixed) 200 [.s (.osl 0 0 128 1)] [[.is 128 (bif Nat.beq 128 N then L else (L.drop o).take 128)]] [] []
          Tryd.func80 (l_Of _) (by intro p hp; cases hp) (by kernel_rfl) (fun i => i) (sees1 (x := ⟨[.is 128 (bif Nat.beq 128 N then L else (L.drop o).take 128)], false⟩) rfl rfl) 1 rfl rfl rfl
      · rw [hg]
        have hle := Nat.le_of_ble_eq_true hc
        unfold getSegs
        have h1 : Nat.ble (Seg.is N L).size o = false := by
          cases hq : Nat.ble (Seg.is N L).size o
          · rfl
          · have := Nat.le_of_ble_eq_true hq
            have : N ≤ o := this
            omega
        have h2 : Nat.min (128 * 1) ((Seg.is N L).size - o) = 128 := by
          show Nat.min 128 (N - o) = 128
          exact Nat.min_eq_left (by omega)
        have h3 : Nat.beq (128 * 1) 0 = false := rfl
        simp only [h1, h2, h3, cond_false]
        simp only [Seg.sub, hc, cond_true]
        have h4 : getSegs [] 0 (128 * 1 - 128) = some [] := rfl
        rw [h4]
        cases hq : Nat.beq 128 N
        · rfl
        · have hN := Nat.eq_of_beq_eq_true hq
          subst hN
          rfl
    · cases hk
  · cases hx

def E_Of : List (Nat × Mo.Spec) := (80, sp_Of) :: E_Bits
def K_Of : Cx := cxOf Tryd.prog E_Of
theorem good_Of (G : Gl) : EnvL G Tryd.prog E_Of := .cons (e_Of G) (good_Bits G)

/-! Double: what it calls kept as names. -/
def spD_Bits (B : List B8 → List Int) : Mo.Spec := fun args fresh =>
  match args with
  | [.s (.slice b 0 16 16)] => rd1 b fun g => match g with | [.b8 16 l] => some (.s (.osl fresh 0 128 1), [[.is 128 (B l)]]) | _ => none
  | _ => .fail
def spD_Of (F : List Int → List B8) : Mo.Spec := fun args _fresh =>
  match args with
  | [.s (.osl b 0 128 1)] => rd1 b fun g => match g with | [.is 128 L] => some (.a [.b8 16 (F L)], []) | _ => none
  | _ => .fail
def E_D (B : List B8 → List Int) (F : List Int → List B8) : List (Nat × Mo.Spec) := (79, spD_Bits B) :: (80, spD_Of F) :: E_Of
def K_D (B : List B8 → List Int) (F : List Int → List B8) : Cx := cxOf Tryd.prog (E_D B F)
theorem eD_Of (G : Gl) : EntryOk G Tryd.prog 80 (spD_Of ofL) := by
  intro args fresh m v news fp hx
  refine e_Of G args fresh m v news fp ?_
  unfold spD_Of at hx
  split at hx
  · rename_i b
    obtain ⟨x, hb, hk⟩ := rd1_run hx
    split at hk
    · rename_i L hg
      cases hk
      have hfp : fp = [b] := by
        obtain ⟨y, fp', h1, h2, h3⟩ := read_run hx
        rw [hb] at h1; cases h1
        simp only [hg] at h2
        cases h2; exact h3
      subst hfp
      simp only [sp_Of, rd1, Rd.run, hb, hg]
      rfl
    · cases hk
  · cases hx
theorem good_D (G : Gl) : EnvL G Tryd.prog (E_D (fun l => bitsN l 16) ofL) := .cons (show EntryOk G Tryd.prog _ sp_Bits16 from e_Bits16 G) (.cons (eD_Of G) (good_Of G))
def tst (B : List Int) : Bool := decide (nth 0 ((B.drop 0).take 1) 0 = 1)
theorem l_RDbl (B : List B8 → List Int) (F : List Int → List B8) (l : List B8) (c : Bool) :
    evalE (K_D B F) 60 Tryd.f29 [.a [.b8 16 l]] [] [some c] [] = some (.a [.b8 16 (dblX F (B l) c)], [(tst (B l), c)], []) := by
  cases c <;> kernel_rfl
def sp_RDbl : List V → Option V
  | [.a [.b8 16 l]] => some (.a [.b8 16 (dblR l)])
  | _ => none
theorem e_RDbl (G : Gl) : EntryOk G Tryd.prog 29 (pureSp sp_RDbl) := by
  refine entry_pure (Go.Mo.enters_of Tryd.func29 (by kernel_rfl)) ?_
  intro args v h π vargs ha fresh m
  unfold sp_RDbl at h
  split at h
  · rename_i l
    cases h
    exact fitsP (K := K_D (fun l => bitsN l 16) ofL) (obs := [(tst (bitsN l 16), tst (bitsN l 16))]) ((good_D G).good mixed) 60 _ [some (tst (bitsN l 16))] Tryd.func29 (l_RDbl _ _ _ _) (by intro p hp; simp only [List.mem_cons, List.not_mem_nil, or_false] at hp; subst hp; rfl) (by kernel_rfl) rfl rfl fresh m
  · cases h

def E_RDbl : List (Nat × Mo.Spec) := (29, pureSp sp_RDbl) :: E_Of
def K_RDbl : Cx := cxOf Tryd.prog E_RDbl
theorem good_RDbl (G : Gl) : EnvL G Tryd.prog E_RDbl := .cons (e_RDbl G) (good_Of G)
end
end Go.Proofs.YtamlbiaakogahaaDoor
