/- Contracts of functions by the evaluator (C12). -/
import Derived.Test.YtamlbiaakogahaaDoorCS
import Derived.Test.YtamlbiaakogahaaDoorMo13
import Derived.Test.YtamlbiaakogahaaDoorSp1
import Derived.Test.YtamlbiaakogahaaDoorProg
import Derived.Test.YtamlbiaakogahaaDoorC11

namespace Go.Proofs.YtamlbiaakogahaaDoor
open Go Go.Mo
noncomputable section
def sp_RXor : List V → Option V
  | [.a [.b8 16 a], .a [.b8 16 b]] => some (.a [.b8 16 (xorL a b)])
  | _ => none
theorem e_RXor (G : Gl) : EntryOk G Tryd.prog 49 (pureSp sp_RXor) := by
  refine entry_pure (Go.Mo.enters_of Tryd.func49 (by kernel_rfl)) ?_
  intro args v h π vargs ha fresh m
  unfold sp_RXor at h
  split at h
  · rename_i a b
    cases h
    obtain ⟨k0, k1, k2, k3, k4, k5, k6, k7, k8, k9, k10, k11, k12, k13, k14, k15, rfl⟩ := list16 (args_b8 ha)
    obtain ⟨_, hb⟩ := args_tail ha
    obtain ⟨q0, q1, q2, q3, q4, q5, q6, q7, q8, q9, q10, q11, q12, q13, q14, q15, rfl⟩ := list16 (args_b8 hb)
    exact fitsP (K := K_0) (obs := []) ((good_0 G).good mixed) 60 _ [] Tryd.func49 (by kernel_rfl) (by intro p hp; cases hp) (by kernel_rfl) rfl rfl fresh m
  · cases h
def E_RXor : List (Nat × Mo.Spec) := (49, pureSp sp_RXor) :: E_0
def K_RXor : Cx := cxOf Tryd.prog E_RXor
theorem good_RXor (G : Gl) : EnvL G Tryd.prog E_RXor := .cons (e_RXor G) (good_0 G)

section
noncomputable abbrev bF16 := Tryd.f79
noncomputable abbrev bK16 : Cx := K_RXor
noncomputable abbrev bL16 := tl 2 (bodyOf bF16)
variable (l : List B8)
def kb16 : Nat → Nat → List (Option Blk)
  | 0, _ => []
  | n + 1, i => some ⟨[.is 1 [bitI (nth 0 l (i / 8)) (7 - i % 8)]], true⟩ :: some ⟨[], false⟩ :: kb16 n (i + 1)
def bM16 : Nat → List (Option Blk)
  | 0 => [some ⟨[.b8 16 l], false⟩]
  | j + 1 => some ⟨[.b8 16 l], false⟩ :: (kb16 l (8 * j + 7) 0 ++ [some ⟨[.is 1 [bitI (nth 0 l j) 0]], true⟩, some ⟨[.is (8 * j + 8) (bitsN l (j + 1))], true⟩])
def b016 : St := init bF16 [.s (.slice 0 0 16 16)] [[.b8 16 l]] []
def bA16 : St := stO (runHeads bK16 60 2 (bodyOf bF16) (b016 l))
def bfr16 : Fr := frAfter bK16 60 (cB bL16) (bA16 l)
def bsl16 : Nat → Sc
  | 0 => .nilSlice
  | j + 1 => .osl (16 * j + 16) 0 (8 * j + 8) 1
def bS16 : Nat → St
  | 0 => ⟨bfr16 l, bF16.ntmps, bM16 l 0, [], []⟩
  | j + 1 => ⟨frAfter bK16 60 (cL bL16) ⟨((bfr16 l).set 4 (.s (.i .i64 (.ofNat j)))).set 3 (.s (bsl16 j)), bF16.ntmps, bM16 l j, [], []⟩, bF16.ntmps, bM16 l (j + 1), [], []⟩
theorem bstep16 (j : Nat) (h : j < 16) : runK (acode bK16 60 (cL bL16)) 1 (bS16 l j) = some (bS16 l (j + 1)) :=
  tab_all (f := fun j => runK (acode bK16 60 (cL bL16)) 1 (bS16 l j)) (g := fun j => some (bS16 l (j + 1))) (N := 16) (by kernel_rfl) j h
def bE16 : St := stOf (acode bK16 60 (cL bL16) (bS16 l 16))
theorem bcut116 : runHeads bK16 60 2 (bodyOf bF16) (b016 l) = some (bA16 l) := by kernel_rfl
theorem bcut216 : bL16 = .seq (.seq (cB bL16) (.block 0 (.loop (cL bL16)))) (cT bL16) := by kernel_rfl
theorem bcut316 : acode bK16 60 (cB bL16) (bA16 l) = some (.normal, bS16 l 0) := by kernel_rfl
theorem bcut416 : acode bK16 60 (cL bL16) (bS16 l 16) = some (.exit 0, bE16 l) := by kernel_rfl
theorem l_Bits16 : evalE bK16 60 bF16 [.s (.slice 0 0 16 16)] [[.b8 16 l]] [] [256] = some (.s (.osl 256 0 128 1), [], newBlks [[.is 128 (bitsN l 16)]]) := by
  rw [evalE_end (c := bodyOf bF16) (by kernel_rfl)]
  show endOf bK16 bF16 [256] (acode bK16 60 (bodyOf bF16) (b016 l)) = _
  rw [(acode_heads 2 (bcut116 l)).trans (acode_cut (k := 1) (J := 16) (n := 43) bcut216 (bcut316 l) (bstep16 l) (by kernel_rfl) (bcut416 l))]
  kernel_rfl
end

def sp_Bits16 : Mo.Spec := fun args fresh =>
  match args with
  | [.s (.slice b 0 16 16)] => rd1 b fun g0 => match g0 with | [.b8 16 l] => some (.s (.osl fresh 0 128 1), [[.is 128 (bitsN l 16)]]) | _ => none
  | _ => .fail
theorem e_Bits16 (G : Gl) : EntryOk G Tryd.prog 79 sp_Bits16 := by
  intro args fresh m v news fp hx
  unfold sp_Bits16 at hx
  split at hx
  · rename_i b
    obtain ⟨x0, hb0, hk⟩ := rd1_run hx
    split at hk
    · rename_i l hg0
      cases hk
      refine Fits.intro (Go.Mo.enters_of Tryd.func79 (by kernel_rfl)) fun π vargs ha => ?_
      exact fitsM (K := K_RXor) (obs := []) (v := .s (.osl 256 0 128 1)) (gsl := [[.is 128 (bitsN l 16)]]) ((good_RXor G).good mixed) 60 [.s (.slice 0 0 16 16)] [[.b8 16 l]] [] [256] Tryd.func79 (l_Bits16 _) (by intro p hp; cases hp) (by kernel_rfl) (at1 b) (sees1 hb0 hg0) fresh (by kernel_rfl) (by kernel_rfl) (by kernel_rfl)
    · cases hk
  · cases hx

section
noncomputable abbrev bF24 := Tryd.f79
noncomputable abbrev bK24 : Cx := K_RXor
noncomputable abbrev bL24 := tl 2 (bodyOf bF24)
variable (l : List B8)
def kb24 : Nat → Nat → List (Option Blk)
  | 0, _ => []
  | n + 1, i => some ⟨[.is 1 [bitI (nth 0 l (i / 8)) (7 - i % 8)]], true⟩ :: some ⟨[], false⟩ :: kb24 n (i + 1)
def bM24 : Nat → List (Option Blk)
  | 0 => [some ⟨[.b8 24 l], false⟩]
  | j + 1 => some ⟨[.b8 24 l], false⟩ :: (kb24 l (8 * j + 7) 0 ++ [some ⟨[.is 1 [bitI (nth 0 l j) 0]], true⟩, some ⟨[.is (8 * j + 8) (bitsN l (j + 1))], true⟩])
def b024 : St := init bF24 [.s (.slice 0 0 24 24)] [[.b8 24 l]] []
def bA24 : St := stO (runHeads bK24 60 2 (bodyOf bF24) (b024 l))
def bfr24 : Fr := frAfter bK24 60 (cB bL24) (bA24 l)
def bsl24 : Nat → Sc
  | 0 => .nilSlice
  | j + 1 => .osl (16 * j + 16) 0 (8 * j + 8) 1
def bS24 : Nat → St
  | 0 => ⟨bfr24 l, bF24.ntmps, bM24 l 0, [], []⟩
  | j + 1 => ⟨frAfter bK24 60 (cL bL24) ⟨((bfr24 l).set 4 (.s (.i .i64 (.ofNat j)))).set 3 (.s (bsl24 j)), bF24.ntmps, bM24 l j, [], []⟩, bF24.ntmps, bM24 l (j + 1), [], []⟩
theorem bstep24 (j : Nat) (h : j < 24) : runK (acode bK24 60 (cL bL24)) 1 (bS24 l j) = some (bS24 l (j + 1)) :=
  tab_all (f := fun j => runK (acode bK24 60 (cL bL24)) 1 (bS24 l j)) (g := fun j => some (bS24 l (j + 1))) (N := 24) (by kernel_rfl) j h
def bE24 : St := stOf (acode bK24 60 (cL bL24) (bS24 l 24))
theorem bcut124 : runHeads bK24 60 2 (bodyOf bF24) (b024 l) = some (bA24 l) := by kernel_rfl
theorem bcut224 : bL24 = .seq (.seq (cB bL24) (.block 0 (.loop (cL bL24)))) (cT bL24) := by kernel_rfl
theorem bcut324 : acode bK24 60 (cB bL24) (bA24 l) = some (.normal, bS24 l 0) := by kernel_rfl
theorem bcut424 : acode bK24 60 (cL bL24) (bS24 l 24) = some (.exit 0, bE24 l) := by kernel_rfl
theorem l_Bits24 : evalE bK24 60 bF24 [.s (.slice 0 0 24 24)] [[.b8 24 l]] [] [384] = some (.s (.osl 384 0 192 1), [], newBlks [[.is 192 (bitsN l 24)]]) := by
  rw [evalE_end (c := bodyOf bF24) (by kernel_rfl)]
  show endOf bK24 bF24 [384] (acode bK24 60 (bodyOf bF24) (b024 l)) = _
  rw [(acode_heads 2 (bcut124 l)).trans (acode_cut (k := 1) (J := 24) (n := 35) bcut224 (bcut324 l) (bstep24 l) (by kernel_rfl) (bcut424 l))]
  kernel_rfl
end

def sp_Bits24 : Mo.Spec := fun args fresh =>
  match args with
  | [.s (.slice b 0 24 24)] => rd1 b fun g0 => match g0 with | [.b8 24 l] => some (.s (.osl fresh 0 192 1), [[.is 192 (bitsN l 24)]]) | _ => none
  | _ => .fail
theorem e_Bits24 (G : Gl) : EntryOk G Tryd.prog 79 sp_Bits24 := by
  intro args fresh m v news fp hx
  unfold sp_Bits24 at hx
  split at hx
  · rename_i b
    obtain ⟨x0, hb0, hk⟩ := rd1_run hx
    split at hk
    · rename_i l hg0
      cases hk
      refine Fits.intro (Go.Mo.enters_of Tryd.func79 (by kernel_rfl)) fun π vargs ha => ?_
      exact fitsM (K := K_RXor) (obs := []) (v := .s (.osl 384 0 192 1)) (gsl := [[.is 192 (bitsN l 24)]]) ((good_RXor G).good mixed) 60 [.s (.slice 0 0 24 24)] [[.b8 24 l]] [] [384] Tryd.func79 (l_Bits24 _) (by intro p hp; cases hp) (by kernel_rfl) (at1 b) (sees1 hb0 hg0) fresh (by kernel_rfl) (by kernel_rfl) (by kernel_rfl)
    · cases hk
  · cases hx
def is16 : List V → Bool
  | [.s (.slice _ _ n _)] => Nat.beq n 16
  | _ => false
def sp_Bits : Mo.Spec := altSp is16 sp_Bits16 sp_Bits24
theorem e_Bits (G : Gl) : EntryOk G Tryd.prog 79 sp_Bits := EntryOk.alt is16 (e_Bits16 G) (e_Bits24 G)
def E_Bits : List (Nat × Mo.Spec) := (79, sp_Bits) :: E_RXor
def K_Bits : Cx := cxOf Tryd.prog E_Bits
theorem good_Bits (G : Gl) : EnvL G Tryd.prog E_Bits := .cons (e_Bits G) (good_RXor G)

section
noncomputable abbrev oF := Tryd.f80
noncomputable abbrev oK : Cx := K_Bits
noncomputable abbrev oL := tl 2 (bodyOf oF)
variable (L : List Int)
def oM (j : Nat) : List (Option Blk) := [some ⟨[.is 128 L], false⟩, some ⟨[.b8 16 (List.replicate 16 0)], true⟩, some ⟨[.b8 16 (upL (ofB L) j 0 ++ List.replicate (16 - j) 0)], true⟩]
def o0 : St := init oF [.s (.osl 0 0 128 1)] [[.is 128 L]] []
def oA : St := stO (runHeads oK 60 2 (bodyOf oF) (o0 L))
def ofr : Fr := frAfter oK 60 (cB oL) (oA L)
def oS : Nat → St
  | 0 => ⟨ofr L, oF.ntmps, oM L 0, [], []⟩
  | j + 1 => ⟨frK oK 60 (cL oL) 8 ⟨(ofr L).set 4 (.s (.i .i64 (.ofNat (8 * j)))), oF.ntmps, oM L j, [], []⟩, oF.ntmps, oM L (j + 1), [], []⟩
theorem ostep (j : Nat) (h : j < 16) : runK (acode oK 200 (cL oL)) 8 (oS L j) = some (oS L (j + 1)) :=
  tab_all (f := fun j => runK (acode oK 200 (cL oL)) 8 (oS L j)) (g := fun j => some (oS L (j + 1))) (N := 16) (by kernel_rfl) j h
def oE : St := stOf (acode oK 200 (cL oL) (oS L 16))
theorem ocut1 : runHeads oK 200 2 (bodyOf oF) (o0 L) = some (oA L) := by kernel_rfl
theorem ocut2 : oL = .seq (.seq (cB oL) (.block 0 (.loop (cL oL)))) (cT oL) := by kernel_rfl
theorem ocut3 : acode oK 200 (cB oL) (oA L) = some (.normal, oS L 0) := by kernel_rfl
theorem ocut4 : acode oK 200 (cL oL) (oS L 16) = some (.exit 0, oE L) := by kernel_rfl
theorem l_Of : evalE oK 200 oF [.s (.osl 0 0 128 1)] [[.is 128 L]] [] [] = some (.a [.b8 16 (ofL L)], [], []) := by
  rw [evalE_end (c := bodyOf oF) (by kernel_rfl)]
  show endOf oK oF [] (acode oK 200 (bodyOf oF) (o0 L)) = _
  rw [(acode_heads 2 (ocut1 L)).trans (acode_cut (k := 8) (J := 16) (n := 71) ocut2 (ocut3 L) (ostep L) (by kernel_rfl) (ocut4 L))]
  kernel_rfl
end

end
end Go.Proofs.YtamlbiaakogahaaDoor


namespace Go.Proofs.YtamlbiaakogahaaDoor
open Go Go.Mo
noncomputable section

def sp_Of : Mo.Spec := fun args _fresh =>
  match args with
  | [.s (.osl b o 128 1)] => rd1 b fun g => match g with | [.is N L] => (bif Nat.ble (o + 128) N then some (.a [.b8 16 (ofL (bif Nat.beq 128 N then L else (L.drop o).take 128))], []) else none) | _ => none
  | _ => .fail
theorem e_Of (G : Gl) : EntryOk G Tryd.prog 80 sp_Of := by
  intro args fresh m v news fp hx
  unfold sp_Of at hx
  split at hx
  · rename_i b o
    obtain ⟨x, hb, hk⟩ := rd1_run hx
    split at hk
    · rename_i N L hg
      cases hc : Nat.ble (o + 128) N <;> simp only [hc, cond_true, cond_false] at hk
      · cases hk
      cases hk
      refine Fits.part (blk := x) (gs := [.is 128 (bif Nat.beq 128 N then L else (L.drop o).take 128)]) ?_ hb ?_ (by decide) rfl rfl
      · exact fitsM (K := K_Bits) (obs := []) (v := .a [.b8 16 (ofL (bif Nat.beq 128 N then L else (L.drop o).take 128))]) (gsl := []) ((good_Bits G).good mixed) 200 [.s (.osl 0 0 128 1)] [[.is 128 (bif Nat.beq 128 N then L else (L.drop o).take 128)]] [] []
          Tryd.func80 (l_Of _) (by intro p hp; cases hp) (by kernel_rfl) (fun i => i) (sees1 (x := ⟨[.is 128 (bif Nat.beq 128 N then L else (L.drop o).take 128)], false⟩) rfl rfl) 1 rfl rfl rfl
      · rw [hg]
        have hle := Nat.le_of_ble_eq_true hc
        unfold getSegs
        have h1 : Nat.ble (Seg.is N L).size o = false := by
          cases hq : Nat.ble (Seg.is N L).size o
          · rfl
          · have := Nat.le_of_ble_eq_true hq
            have : N ≤ o := this
            omega
        have h2 : Nat.min (128 * 1) ((Seg.is N L).size - o) = 128 := by
          show Nat.min 128 (N - o) = 128
          exact Nat.min_eq_left (by omega)
        have h3 : Nat.beq (128 * 1) 0 = false := rfl
        simp only [h1, h2, h3, cond_false]
        simp only [Seg.sub, hc, cond_true]
        have h4 : getSegs [] 0 (128 * 1 - 128) = some [] := rfl
        rw [h4]
        cases hq : Nat.beq 128 N
        · rfl
        · have hN := Nat.eq_of_beq_eq_true hq
          subst hN
          rfl
    · cases hk
  · cases hx

def E_Of : List (Nat × Mo.Spec) := (80, sp_Of) :: E_Bits
def K_Of : Cx := cxOf Tryd.prog E_Of
theorem good_Of (G : Gl) : EnvL G Tryd.prog E_Of := .cons (e_Of G) (good_Bits G)

/-! Double: what it calls kept as names. -/
def spD_Bits (B : List B8 → List Int) : Mo.Spec := fun args fresh =>
  match args with
  | [.s (.slice b 0 16 16)] => rd1 b fun g => match g with | [.b8 16 l] => some (.s (.osl fresh 0 128 1), [[.is 128 (B l)]]) | _ => none
  | _ => .fail
def spD_Of (F : List Int → List B8) : Mo.Spec := fun args _fresh =>
  match args with
  | [.s (.osl b 0 128 1)] => rd1 b fun g => match g with | [.is 128 L] => some (.a [.b8 16 (F L)], []) | _ => none
  | _ => .fail
def E_D (B : List B8 → List Int) (F : List Int → List B8) : List (Nat × Mo.Spec) := (79, spD_Bits B) :: (80, spD_Of F) :: E_Of
def K_D (B : List B8 → List Int) (F : List Int → List B8) : Cx := cxOf Tryd.prog (E_D B F)
theorem eD_Of (G : Gl) : EntryOk G Tryd.prog 80 (spD_Of ofL) := by
  intro args fresh m v news fp hx
  refine e_Of G args fresh m v news fp ?_
  unfold spD_Of at hx
  split at hx
  · rename_i b
    obtain ⟨x, hb, hk⟩ := rd1_run hx
    split at hk
    · rename_i L hg
      cases hk
      have hfp : fp = [b] := by
        obtain ⟨y, fp', h1, h2, h3⟩ := read_run hx
        rw [hb] at h1; cases h1
        simp only [hg] at h2
        cases h2; exact h3
      subst hfp
      simp only [sp_Of, rd1, Rd.run, hb, hg]
      rfl
    · cases hk
  · cases hx
theorem good_D (G : Gl) : EnvL G Tryd.prog (E_D (fun l => bitsN l 16) ofL) := .cons (show EntryOk G Tryd.prog _ sp_Bits16 from e_Bits16 G) (.cons (eD_Of G) (good_Of G))
def tst (B : List Int) : Bool := decide (nth 0 ((B.drop 0).take 1) 0 = 1)
theorem l_RDbl (B : List B8 → List Int) (F : List Int → List B8) (l : List B8) (c : Bool) :
    evalE (K_D B F) 60 Tryd.f29 [.a [.b8 16 l]] [] [some c] [] = some (.a [.b8 16 (dblX F (B l) c)], [(tst (B l), c)], []) := by
  cases c <;> kernel_rfl
def sp_RDbl : List V → Option V
  | [.a [.b8 16 l]] => some (.a [.b8 16 (dblR l)])
  | _ => none
theorem e_RDbl (G : Gl) : EntryOk G Tryd.prog 29 (pureSp sp_RDbl) := by
  refine entry_pure (Go.Mo.enters_of Tryd.func29 (by kernel_rfl)) ?_
  intro args v h π vargs ha fresh m
  unfold sp_RDbl at h
  split at h
  · rename_i l
    cases h
    exact fitsP (K := K_D (fun l => bitsN l 16) ofL) (obs := [(tst (bitsN l 16), tst (bitsN l 16))]) ((good_D G).good mixed) 60 _ [some (tst (bitsN l 16))] Tryd.func29 (l_RDbl _ _ _ _) (by intro p hp; simp only [List.mem_cons, List.not_mem_nil, or_false] at hp; subst hp; rfl) (by kernel_rfl) rfl rfl fresh m
  · cases h

def E_RDbl : List (Nat × Mo.Spec) := (29, pureSp sp_RDbl) :: E_Of
def K_RDbl : Cx := cxOf Tryd.prog E_RDbl
theorem good_RDbl (G : Gl) : EnvL G Tryd.prog E_RDbl := .cons (e_RDbl G) (good_Of G)
end
end Go.Proofs.YtamlbiaakogahaaDoor


namespace Go.Proofs.YtamlbiaakogahaaDoor
open Go Go.Mo
noncomputable section
def E_J : List (Nat × Mo.Spec) := E_RDbl ++ E_Prep
def K_J : Cx := cxOf Tryd.prog E_J
theorem good_J (G : Gl) : EnvL G Tryd.prog E_J := (good_RDbl G).append (good_Prep G)
/-! Zeros -/
noncomputable abbrev zF := Tryd.f78
def zf (x : BitVec 64) (k : Nat) : Option (V × List (Bool × Bool) × List (Option Blk)) := evalE K_J 80 zF [.s (.b64 x)] [] (orcZ k) []
def zg (x : BitVec 64) (k : Nat) : Option (V × List (Bool × Bool) × List (Option Blk)) := some (.s (.i .i64 (.ofNat k)), obsZ x k, [])
theorem l_Zeros0 (x : BitVec 64) : tabL (zf x) 65 = tabR (zg x) 65 := by kernel_rfl
def sp_RZeros : List V → Option V
  | [.s (.b64 x)] => some (.s (.si (zerR x)))
  | _ => none
theorem e_RZeros (G : Gl) : EntryOk G Tryd.prog 78 (pureSp sp_RZeros) := by
  refine entry_pure (Go.Mo.enters_of Tryd.func78 (by kernel_rfl)) ?_
  intro args v h π vargs ha fresh m
  unfold sp_RZeros at h
  split at h
  · rename_i x
    cases h
    have hk : zerGo 64 x < 65 := Nat.lt_succ_of_le (zerGo_spec 64 x).1
    have he : evalE K_J 80 zF [.s (.b64 x)] [] (orcZ (zerGo 64 x)) [] = some (.s (.i .i64 (.ofNat (zerGo 64 x))), obsZ x (zerGo 64 x), []) := tab_all (l_Zeros0 x) (zerGo 64 x) hk
    refine Fits.val (v := .s (.i .i64 (.ofNat (zerGo 64 x)))) ?_ (fun _ _ h => h)
    exact fitsP (K := K_J) (obs := obsZ x (zerGo 64 x)) ((good_J G).good mixed) 80 _ (orcZ (zerGo 64 x)) Tryd.func78 he (obsZ_ok x) (by kernel_rfl) rfl rfl fresh m
  · cases h
def E_RZeros : List (Nat × Mo.Spec) := (78, pureSp sp_RZeros) :: E_J
def K_RZeros : Cx := cxOf Tryd.prog E_RZeros
theorem good_RZeros (G : Gl) : EnvL G Tryd.prog E_RZeros := .cons (e_RZeros G) (good_J G)
def sp_RStar : Mo.Spec := fun args _fresh =>
  match args with
  | [.a [.b8 176 e, .b8 256 T]] => .pure (.a [.b8 16 (refEnc e T z16)], [])
  | _ => .fail
theorem e_RStar (G : Gl) : EntryOk G Tryd.prog 26 sp_RStar := by
  intro args fresh m v news fp hx
  unfold sp_RStar at hx
  split at hx
  · rename_i e T
    cases hx
    refine Fits.intro (Go.Mo.enters_of Tryd.func26 (by kernel_rfl)) fun π vargs ha => ?_
    exact fitsM (K := K_RZeros) (obs := []) (v := .a [.b8 16 (refEnc e T z16)]) (gsl := []) ((good_RZeros G).good mixed) 100 [.a [.b8 176 e, .b8 256 T]] [] [] [] Tryd.func26 (by kernel_rfl) (by intro p hp; cases hp) (by kernel_rfl) (fun i => i) sees0 fresh (by kernel_rfl) (by kernel_rfl) (by kernel_rfl)
  · cases hx
def E_RStar : List (Nat × Mo.Spec) := (26, sp_RStar) :: E_RZeros
def K_RStar : Cx := cxOf Tryd.prog E_RStar
theorem good_RStar (G : Gl) : EnvL G Tryd.prog E_RStar := .cons (e_RStar G) (good_RZeros G)

/-! At: the doubles kept as a name. -/
noncomputable abbrev atF := Tryd.f31
def spA1 (D : List B8 → List B8) : List V → Option V
  | [.a [.b8 16 l]] => some (.a [.b8 16 (D l)])
  | _ => none
def E_A (D : List B8 → List B8) : List (Nat × Mo.Spec) := (29, pureSp (spA1 D)) :: E_RStar
def K_A (D : List B8 → List B8) : Cx := cxOf Tryd.prog (E_A D)
theorem good_A (G : Gl) : EnvL G Tryd.prog (E_A dblR) := .cons (show EntryOk G Tryd.prog _ (pureSp sp_RDbl) from e_RDbl G) (good_RStar G)
def atf (D : List B8 → List B8) (s : List B8) (k : Nat) : Option (V × List (Bool × Bool) × List (Option Blk)) := evalE (K_A D) 80 atF [.a [.b8 16 s], .s (.si ((k : Int) - 1))] [] [] []
def atg (D : List B8 → List B8) (s : List B8) (k : Nat) : Option (V × List (Bool × Bool) × List (Option Blk)) := some (.a [.b8 16 (itD D s (k + 1))], [], [])
theorem l_RAt0 (D : List B8 → List B8) (s : List B8) : tabL (atf D s) 66 = tabR (atg D s) 66 := by kernel_rfl
def sp_RAt : Mo.Spec := fun args _fresh =>
  match args with
  | [.a [.b8 16 s], .s ix] => (match ixI ix with | some n => .pure (.a [.b8 16 (refAt dblR s n)], []) | none => .fail)
  | _ => .fail
def ob_RAt : Ob := fun args =>
  match args with
  | [_, .s ix] => (match ixI ix with | some n => [(decide (-1 ≤ n), true), (decide (n ≤ 64), true)] | none => [])
  | _ => []
theorem e_RAt (G : Gl) : EntryOkO G Tryd.prog 31 sp_RAt ob_RAt := by
  intro args fresh m v news fp hx ho
  unfold sp_RAt at hx
  split at hx
  · rename_i s ix
    split at hx
    · rename_i n hn
      cases hx
      simp only [ob_RAt, hn] at ho
      have h1 := of_decide_eq_true (ho _ (List.mem_cons_self ..))
      have h2 := of_decide_eq_true (ho _ (List.mem_cons_of_mem _ (List.mem_cons_self ..)))
      refine Fits.args (args' := [.a [.b8 16 s], .s (.si n)]) ?_ fun π vargs ha => argsCv_last (l := [.a [.b8 16 s]]) (fun _ hv => ixI_cv hn hv) ha
      have he : atf dblR s (n + 1).toNat = atg dblR s (n + 1).toNat := tab_all (l_RAt0 dblR s) _ (by omega)
      unfold atf atg at he
      rw [show (((n + 1).toNat : Nat) : Int) - 1 = n by omega, show (n + 1).toNat + 1 = (n + 2).toNat by omega] at he
      refine Fits.intro (Go.Mo.enters_of Tryd.func31 (by kernel_rfl)) fun π vargs ha => ?_
      exact fitsM (K := K_A dblR) (obs := []) (v := .a [.b8 16 (itD dblR s (n + 2).toNat)]) (gsl := []) ((good_A G).good mixed) 80 [.a [.b8 16 s], .s (.si n)] [] [] [] Tryd.func31 he (by intro p hp; cases hp) (by kernel_rfl) (fun i => i) sees0 fresh rfl rfl rfl
    · cases hx
  · cases hx
def C_RAt : List (Nat × Mo.Spec × Ob) := [(31, sp_RAt, ob_RAt)]
theorem cond_RAt (G : Gl) : CondL G Tryd.prog C_RAt := .cons (e_RAt G) .nil

end
end Go.Proofs.YtamlbiaakogahaaDoor


namespace Go.Proofs.YtamlbiaakogahaaDoor
open Go Go.Mo
noncomputable section

/-! For -/
theorem zerR_ok (x : BitVec 64) : ObsOk [(decide (-1 ≤ zerR x), true), (decide (zerR x ≤ 64), true)] := by
  have := (zerGo_spec 64 x).1
  intro q hq
  simp only [List.mem_cons, List.not_mem_nil, or_false] at hq
  unfold zerR at hq
  rcases hq with rfl | rfl
  · show decide (-1 ≤ ((zerGo 64 x : Nat) : Int)) = true
    exact decide_eq_true (by omega)
  · show decide (((zerGo 64 x : Nat) : Int) ≤ 64) = true
    exact decide_eq_true (by omega)
def sp_RFor : List V → Option V
  | [.a [.b8 16 s], .s (.b64 n)] => some (.a [.b8 16 (refAt dblR s (zerR n))])
  | _ => none
theorem e_RFor (G : Gl) : EntryOk G Tryd.prog 28 (pureSp sp_RFor) := by
  refine entry_pure (Go.Mo.enters_of Tryd.func28 (by kernel_rfl)) ?_
  intro args v h π vargs ha fresh m
  unfold sp_RFor at h
  split at h
  · rename_i s n
    cases h
    exact fitsP (K := cxC Tryd.prog C_RAt E_RStar) (obs := [(decide (-1 ≤ zerR n), true), (decide (zerR n ≤ 64), true)]) ((cond_RAt G).good (good_RStar G) mixed) 80 _ [] Tryd.func28 (by kernel_rfl) (zerR_ok n) (by kernel_rfl) rfl rfl fresh m
  · cases h
def E_RFor : List (Nat × Mo.Spec) := (28, pureSp sp_RFor) :: E_RStar
def K_RFor : Cx := cxOf Tryd.prog E_RFor
theorem good_RFor (G : Gl) : EnvL G Tryd.prog E_RFor := .cons (e_RFor G) (good_RStar G)

/-! Shift: what it calls kept as names. -/
noncomputable abbrev shF := Tryd.f48
def spS_Bits (B : List B8 → List Int) : Mo.Spec := fun args fresh =>
  match args with
  | [.s (.slice b 0 24 24)] => rd1 b fun g => match g with | [.b8 24 l] => some (.s (.osl fresh 0 192 1), [[.is 192 (B l)]]) | _ => none
  | _ => .fail
def spS_Of (F : List Int → List B8) : Mo.Spec := fun args _fresh =>
  match args with
  | [.s (.osl b o 128 1)] => rd1 b fun g => match g with | [.is 192 L] => (bif Nat.ble (o + 128) 192 then some (.a [.b8 16 (F ((L.drop o).take 128))], []) else none) | _ => none
  | _ => .fail
def E_Shn (B : List B8 → List Int) (F : List Int → List B8) : List (Nat × Mo.Spec) := (79, spS_Bits B) :: (80, spS_Of F) :: E_RFor
def K_Shn (B : List B8 → List Int) (F : List Int → List B8) : Cx := cxOf Tryd.prog (E_Shn B F)
theorem eS_Of (G : Gl) : EntryOk G Tryd.prog 80 (spS_Of ofL) := by
  intro args fresh m v news fp hx
  refine e_Of G args fresh m v news fp ?_
  unfold spS_Of at hx
  split at hx
  · rename_i b o
    obtain ⟨x, hb, hk⟩ := rd1_run hx
    split at hk
    · rename_i L hg
      cases hc : Nat.ble (o + 128) 192 <;> simp only [hc, cond_true, cond_false] at hk
      · cases hk
      cases hk
      have hfp : fp = [b] := by
        obtain ⟨y, fp', h1, h2, h3⟩ := read_run hx
        rw [hb] at h1; cases h1
        simp only [hg, hc, cond_true] at h2
        cases h2; exact h3
      subst hfp
      simp only [sp_Of, rd1, Rd.run, hb, hg, hc, cond_true]
      rfl
    · cases hk
  · cases hx
theorem good_Shn (G : Gl) : EnvL G Tryd.prog (E_Shn (fun l => bitsN l 24) ofL) := .cons (show EntryOk G Tryd.prog _ sp_Bits24 from e_Bits24 G) (.cons (eS_Of G) (good_RFor G))
def shf (B : List B8 → List Int) (F : List Int → List B8) (l : List B8) (k : Nat) : Option (V × List (Bool × Bool) × List (Option Blk)) := evalE (K_Shn B F) 60 shF [.a [.b8 24 l], .s (.si (.ofNat k))] [] [] []
def shg (B : List B8 → List Int) (F : List Int → List B8) (l : List B8) (k : Nat) : Option (V × List (Bool × Bool) × List (Option Blk)) := some (.a [.b8 16 (F (((B l).drop k).take 128))], [], [])
theorem l_RShift0 (B : List B8 → List Int) (F : List Int → List B8) (l : List B8) : tabL (shf B F l) 65 = tabR (shg B F l) 65 := by kernel_rfl
def sp_RSh : Mo.Spec := fun args _fresh =>
  match args with
  | [.a [.b8 24 l], .s ix] => (match ixI ix with | some n => .pure (.a [.b8 16 (shiftR l n)], []) | none => .fail)
  | _ => .fail
def ob_RSh : Ob := fun args =>
  match args with
  | [_, .s ix] => (match ixI ix with | some n => [(decide (0 ≤ n), true), (decide (n ≤ 64), true)] | none => [])
  | _ => []
theorem e_RSh (G : Gl) : EntryOkO G Tryd.prog 48 sp_RSh ob_RSh := by
  intro args fresh m v news fp hx ho
  unfold sp_RSh at hx
  split at hx
  · rename_i l ix
    split at hx
    · rename_i n hn
      cases hx
      simp only [ob_RSh, hn] at ho
      have h1 := of_decide_eq_true (ho _ (List.mem_cons_self ..))
      have h2 := of_decide_eq_true (ho _ (List.mem_cons_of_mem _ (List.mem_cons_self ..)))
      refine Fits.args (args' := [.a [.b8 24 l], .s (.si n)]) ?_ fun π vargs ha => argsCv_last (l := [.a [.b8 24 l]]) (fun _ hv => ixI_cv hn hv) ha
      have he : shf (fun l => bitsN l 24) ofL l n.toNat = shg (fun l => bitsN l 24) ofL l n.toNat := tab_all (l_RShift0 _ ofL l) _ (by omega)
      unfold shf shg at he
      rw [show (Int.ofNat n.toNat) = n from Int.toNat_of_nonneg h1] at he
      refine Fits.intro (Go.Mo.enters_of Tryd.func48 (by kernel_rfl)) fun π vargs ha => ?_
      exact fitsM (K := K_Shn (fun l => bitsN l 24) ofL) (obs := []) (v := .a [.b8 16 (shiftR l n)]) (gsl := []) ((good_Shn G).good mixed) 60 [.a [.b8 24 l], .s (.si n)] [] [] [] Tryd.func48 he (by intro p hp; cases hp) (by kernel_rfl) (fun i => i) sees0 fresh rfl rfl rfl
    · cases hx
  · cases hx
def C_RSh : List (Nat × Mo.Spec × Ob) := (48, sp_RSh, ob_RSh) :: C_RAt
theorem cond_RSh (G : Gl) : CondL G Tryd.prog C_RSh := .cons (e_RSh G) (cond_RAt G)

end
end Go.Proofs.YtamlbiaakogahaaDoor

