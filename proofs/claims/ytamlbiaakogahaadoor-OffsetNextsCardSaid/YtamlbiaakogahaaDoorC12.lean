/- Contracts of functions by the evaluator (C12). -/
import Derived.Test.YtamlbiaakogahaaDoorCS
import Derived.Test.YtamlbiaakogahaaDoorMo13
import Derived.Test.YtamlbiaakogahaaDoorSp5
import Derived.Test.YtamlbiaakogahaaDoorProg
namespace Go.Proofs.YtamlbiaakogahaaDoor
open Go Go.Mo
noncomputable section
def sp_RXor : List V → Option V
  | [.a [.b8 16 a], .a [.b8 16 b]] => some (.a [.b8 16 (xorL a b)])
  | _ => none
theorem e_RXor (G : Gl) : EntryOk G Tryd.prog 49 (pureSp sp_RXor) := by
  refine entry_pure (Go.Mo.enters_of Tryd.func49 (by kernel_rfl)) ?_
  intro args v h π vargs ha fresh m
  unfold sp_RXor at h
  split at h
  · rename_i a b
    cases h
    obtain ⟨k0, k1, k2, k3, k4, k5, k6, k7, k8, k9, k10, k11, k12, k13, k14, k15, rfl⟩ := list16 (args_b8 ha)
    obtain ⟨_, hb⟩ := args_tail ha
    obtain ⟨q0, q1, q2, q3, q4, q5, q6, q7, q8, q9, q10, q11, q12, q13, q14, q15, rfl⟩ := list16 (args_b8 hb)
    exact fitsP (K := K_0) (obs := []) ((good_0 G).good mixed) 60 _ [] Tryd.func49 (by kernel_rfl) (by intro p hp; cases hp) (by kernel_rfl) rfl rfl fresh m
  · cases h
def E_RXor : List (Nat × Mo.Spec) := (49, pureSp sp_RXor) :: E_0
def K_RXor : Cx := cxOf Tryd.prog E_RXor
theorem good_RXor (G : Gl) : EnvL G Tryd.prog E_RXor := .cons (e_RXor G) (good_0 G)

section
noncomputable abbrev bF16 := Tryd.f79
noncomputable abbrev bK16 : Cx := K_RXor
noncomputable abbrev bL16 := tl 2 (bodyOf bF16)
variable (l : List B8)
def kb16 : Nat → Nat → List (Option Blk)
  | 0, _ => []
  | n + 1, i => some ⟨[.is 1 [bitI (nth 0 l (i / 8)) (7 - i % 8)]], true⟩ :: some ⟨[], false⟩ :: kb16 n (i + 1)
def bM16 : Nat → List (Option Blk)
  | 0 => [some ⟨[.b8 16 l], false⟩]
  | j + 1 => some ⟨[.b8 16 l], false⟩ :: (kb16 l (8 * j + 7) 0 ++ [some ⟨[.is 1 [bitI (nth 0 l j) 0]], true⟩, some ⟨[.is (8 * j + 8) (bitsN l (j + 1))], true⟩])
def b016 : St := init bF16 [.s (.slice 0 0 16 16)] [[.b8 16 l]] []
def bA16 : St := stO (runHeads bK16 60 2 (bodyOf bF16) (b016 l))
def bfr16 : Fr := frAfter bK16 60 (cB bL16) (bA16 l)
def bsl16 : Nat → Sc
  | 0 => .nilSlice
  | j + 1 => .osl (16 * j + 16) 0 (8 * j + 8) 1
def bS16 : Nat → St
  | 0 => ⟨bfr16 l, bF16.ntmps, bM16 l 0, [], []⟩
  | j + 1 => ⟨frAfter bK16 60 (cL bL16) ⟨((bfr16 l).set 4 (.s (.i .i64 (.ofNat j)))).set 3 (.s (bsl16 j)), bF16.ntmps, bM16 l j, [], []⟩, bF16.ntmps, bM16 l (j + 1), [], []⟩
theorem bstep16 (j : Nat) (h : j < 16) : runK (acode bK16 60 (cL bL16)) 1 (bS16 l j) = some (bS16 l (j + 1)) :=
  tab_all (f := fun j => runK (acode bK16 60 (cL bL16)) 1 (bS16 l j)) (g := fun j => some (bS16 l (j + 1))) (N := 16) (by kernel_rfl) j h
def bE16 : St := stOf (acode bK16 60 (cL bL16) (bS16 l 16))
theorem bcut116 : runHeads bK16 60 2 (bodyOf bF16) (b016 l) = some (bA16 l) := by kernel_rfl
theorem bcut216 : bL16 = .seq (.seq (cB bL16) (.block 0 (.loop (cL bL16)))) (cT bL16) := by kernel_rfl
theorem bcut316 : acode bK16 60 (cB bL16) (bA16 l) = some (.normal, bS16 l 0) := by kernel_rfl
theorem bcut416 : acode bK16 60 (cL bL16) (bS16 l 16) = some (.exit 0, bE16 l) := by kernel_rfl
theorem l_Bits16 : evalE bK16 60 bF16 [.s (.slice 0 0 16 16)] [[.b8 16 l]] [] [256] = some (.s (.osl 256 0 128 1), [], newBlks [[.is 128 (bitsN l 16)]]) := by
  rw [evalE_end (c := bodyOf bF16) (by kernel_rfl)]
  show endOf bK16 bF16 [256] (acode bK16 60 (bodyOf bF16) (b016 l)) = _
  rw [(acode_heads 2 (bcut116 l)).trans (acode_cut (k := 1) (J := 16) (n := 43) bcut216 (bcut316 l) (bstep16 l) (by kernel_rfl) (bcut416 l))]
  kernel_rfl
end

def sp_Bits16 : Mo.Spec := fun args fresh =>
  match args with
  | [.s (.slice b 0 16 16)] => rd1 b fun g0 => match g0 with | [.b8 16 l] => some (.s (.osl fresh 0 128 1), [[.is 128 (bitsN l 16)]]) | _ => none
  | _ => .fail
theorem e_Bits16 (G : Gl) : EntryOk G Tryd.prog 79 sp_Bits16 := by
  intro args fresh m v news fp hx
  unfold sp_Bits16 at hx
  split at hx
  · rename_i b
    obtain ⟨x0, hb0, hk⟩ := rd1_run hx
    split at hk
    · rename_i l hg0
      cases hk
      refine Fits.intro (Go.Mo.enters_of Tryd.func79 (by kernel_rfl)) fun π vargs ha => ?_
      exact fitsM (K := K_RXor) (obs := []) (v := .s (.osl 256 0 128 1)) (gsl := [[.is 128 (bitsN l 16)]]) ((good_RXor G).good mixed) 60 [.s (.slice 0 0 16 16)] [[.b8 16 l]] [] [256] Tryd.func79 (l_Bits16 _) (by intro p hp; cases hp) (by kernel_rfl) (at1 b) (sees1 hb0 hg0) fresh (by kernel_rfl) (by kernel_rfl) (by kernel_rfl)
    · cases hk
  · cases hx

section
noncomputable abbrev bF24 := Tryd.f79
noncomputable abbrev bK24 : Cx := K_RXor
noncomputable abbrev bL24 := tl 2 (bodyOf bF24)
variable (l : List B8)
def kb24 : Nat → Nat → List (Option Blk)
  | 0, _ => []
  | n + 1, i => some ⟨[.is 1 [bitI (nth 0 l (i / 8)) (7 - i % 8)]], true⟩ :: some ⟨[], false⟩ :: kb24 n (i + 1)
def bM24 : Nat → List (Option Blk)
  | 0 => [some ⟨[.b8 24 l], false⟩]
  | j + 1 => some ⟨[.b8 24 l], false⟩ :: (kb24 l (8 * j + 7) 0 ++ [some ⟨[.is 1 [bitI (nth 0 l j) 0]], true⟩, some ⟨[.is (8 * j + 8) (bitsN l (j + 1))], true⟩])
def b024 : St := init bF24 [.s (.slice 0 0 24 24)] [[.b8 24 l]] []
def bA24 : St := stO (runHeads bK24 60 2 (bodyOf bF24) (b024 l))
def bfr24 : Fr := frAfter bK24 60 (cB bL24) (bA24 l)
def bsl24 : Nat → Sc
  | 0 => .nilSlice
  | j + 1 => .osl (16 * j + 16) 0 (8 * j + 8) 1
def bS24 : Nat → St
  | 0 => ⟨bfr24 l, bF24.ntmps, bM24 l 0, [], []⟩
  | j + 1 => ⟨frAfter bK24 60 (cL bL24) ⟨((bfr24 l).set 4 (.s (.i .i64 (.ofNat j)))).set 3 (.s (bsl24 j)), bF24.ntmps, bM24 l j, [], []⟩, bF24.ntmps, bM24 l (j + 1), [], []⟩
theorem bstep24 (j : Nat) (h : j < 24) : runK (acode bK24 60 (cL bL24)) 1 (bS24 l j) = some (bS24 l (j + 1)) :=
  tab_all (f := fun j => runK (acode bK24 60 (cL bL24)) 1 (bS24 l j)) (g := fun j => some (bS24 l (j + 1))) (N := 24) (by kernel_rfl) j h
def bE24 : St := stOf (acode bK24 60 (cL bL24) (bS24 l 24))
theorem bcut124 : runHeads bK24 60 2 (bodyOf bF24) (b024 l) = some (bA24 l) := by kernel_rfl
theorem bcut224 : bL24 = .seq (.seq (cB bL24) (.block 0 (.loop (cL bL24)))) (cT bL24) := by kernel_rfl
theorem bcut324 : acode bK24 60 (cB bL24) (bA24 l) = some (.normal, bS24 l 0) := by kernel_rfl
theorem bcut424 : acode bK24 60 (cL bL24) (bS24 l 24) = some (.exit 0, bE24 l) := by kernel_rfl
theorem l_Bits24 : evalE bK24 60 bF24 [.s (.slice 0 0 24 24)] [[.b8 24 l]] [] [384] = some (.s (.osl 384 0 192 1), [], newBlks [[.is 192 (bitsN l 24)]]) := by
  rw [evalE_end (c := bodyOf bF24) (by kernel_rfl)]
  show endOf bK24 bF24 [384] (acode bK24 60 (bodyOf bF24) (b024 l)) = _
  rw [(acode_heads 2 (bcut124 l)).trans (acode_cut (k := 1) (J := 24) (n := 35) bcut224 (bcut324 l) (bstep24 l) (by kernel_rfl) (bcut424 l))]
  kernel_rfl
end

def sp_Bits24 : Mo.Spec := fun args fresh =>
  match args with
  | [.s (.slice b 0 24 24)] => rd1 b fun g0 => match g0 with | [.b8 24 l] => some (.s (.osl fresh 0 192 1), [[.is 192 (bitsN l 24)]]) | _ => none
  | _ => .fail
theorem e_Bits24 (G : Gl) : EntryOk G Tryd.prog 79 sp_Bits24 := by
  intro args fresh m v news fp hx
  unfold sp_Bits24 at hx
  split at hx
  · rename_i b
    obtain ⟨x0, hb0, hk⟩ := rd1_run hx
    split at hk
    · rename_i l hg0
      cases hk
      refine Fits.intro (Go.Mo.enters_of Tryd.func79 (by kernel_rfl)) fun π vargs ha => ?_
      exact fitsM (K := K_RXor) (obs := []) (v := .s (.osl 384 0 192 1)) (gsl := [[.is 192 (bitsN l 24)]]) ((good_RXor G).good mixed) 60 [.s (.slice 0 0 24 24)] [[.b8 24 l]] [] [384] Tryd.func79 (l_Bits24 _) (by intro p hp; cases hp) (by kernel_rfl) (at1 b) (sees1 hb0 hg0) fresh (by kernel_rfl) (by kernel_rfl) (by kernel_rfl)
    · cases hk
  · cases hx
def is16 : List V → Bool
  | [.s (.slice _ _ n _)] => Nat.beq n 16
  | _ => false
def sp_Bits : Mo.Spec := altSp is16 sp_Bits16 sp_Bits24
theorem e_Bits (G : Gl) : EntryOk G Tryd.prog 79 sp_Bits := EntryOk.alt is16 (e_Bits16 G) (e_Bits24 G)
def E_Bits : List (Nat × Mo.Spec) := (79, sp_Bits) :: E_RXor
def K_Bits : Cx := cxOf Tryd.prog E_Bits
theorem good_Bits (G : Gl) : EnvL G Tryd.prog E_Bits := .cons (e_Bits G) (good_RXor G)

section
noncomputable abbrev oF := Tryd.f80
noncomputable abbrev oK : Cx := K_Bits
noncomputable abbrev oL := tl 2 (bodyOf oF)
variable (L : List Int)
def oM (j : Nat) : List (Option Blk) := [some ⟨[.is 128 L], false⟩, some ⟨[.b8 16 (List.replicate 16 0)], true⟩, some ⟨[.b8 16 (upL (ofB L) j 0 ++ List.replicate (16 - j) 0)], true⟩]
def o0 : St := init oF [.s (.osl 0 0 128 1)] [[.is 128 L]] []
def oA : St := stO (runHeads oK 60 2 (bodyOf oF) (o0 L))
def ofr : Fr := frAfter oK 60 (cB oL) (oA L)
def oS : Nat → St
  | 0 => ⟨ofr L, oF.ntmps, oM L 0, [], []⟩
  | j + 1 => ⟨frK oK 60 (cL oL) 8 ⟨(ofr L).set 4 (.s (.i .i64 (.ofNat (8 * j)))), oF.ntmps, oM L j, [], []⟩, oF.ntmps, oM L (j + 1), [], []⟩
theorem ostep (j : Nat) (h : j < 16) : runK (acode oK 200 (cL oL)) 8 (oS L j) = some (oS L (j + 1)) :=
  tab_all (f := fun j => runK (acode oK 200 (cL oL)) 8 (oS L j)) (g := fun j => some (oS L (j + 1))) (N := 16) (by kernel_rfl) j h
def oE : St := stOf (acode oK 200 (cL oL) (oS L 16))
theorem ocut1 : runHeads oK 200 2 (bodyOf oF) (o0 L) = some (oA L) := by kernel_rfl
theorem ocut2 : oL = .seq (.seq (cB oL) (.block 0 (.loop (cL oL)))) (cT oL) := by kernel_rfl
theorem ocut3 : acode oK 200 (cB oL) (oA L) = some (.normal, oS L 0) := by kernel_rfl
theorem ocut4 : acode oK 200 (cL oL) (oS L 16) = some (.exit 0, oE L) := by kernel_rfl
theorem l_Of : evalE oK 200 oF [.s (.osl 0 0 128 1)] [[.is 128 L]] [] [] = some (.a [.b8 16 (ofL L)], [], []) := by
  rw [evalE_end (c := bodyOf oF) (by kernel_rfl)]
  show endOf oK oF [] (acode oK 200 (bodyOf oF) (o0 L)) = _
  rw [(acode_heads 2 (ocut1 L)).trans (acode_cut (k := 8) (J := 16) (n := 71) ocut2 (ocut3 L) (ostep L) (by kernel_rfl) (ocut4 L))]
  kernel_rfl
end

end
end Go.Proofs.YtamlbiaakogahaaDoor
