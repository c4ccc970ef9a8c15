/- The iterator of block.All: the blocks of bytes come one by one. -/
import Derived.Test.YtamlbiaakogahaaDoorMo13
import Derived.Test.YtamlbiaakogahaaDoorProg
import Derived.Shelf.Abstract
import Derived.WalkKit
import Derived.OwnWalkIn
import Derived.TacticsInMore
import Derived.LoopNIn
import Derived.LoopIn
namespace Go.Proofs.YtamlbiaakogahaaDoor
open Go Go.Mo Go.RowKit Go.Shelf

attribute [local go_sem] Oper.semAt_some

theorem list16 {α : Type} {l : List α} (h : l.length = 16) : ∃ x0 x1 x2 x3 x4 x5 x6 x7 x8 x9 x10 x11 x12 x13 x14 x15, l = [x0, x1, x2, x3, x4, x5, x6, x7, x8, x9, x10, x11, x12, x13, x14, x15] := by
  match l, h with
  | [x0, x1, x2, x3, x4, x5, x6, x7, x8, x9, x10, x11, x12, x13, x14, x15], _ => exact ⟨_, _, _, _, _, _, _, _, _, _, _, _, _, _, _, _, rfl⟩

set_option maxRecDepth 100000 in
set_option maxHeartbeats 2000000 in
theorem all_ok : AllOk Tryd.prog 109 := by
  intro nf l bn bo bs J W hlen hJ hY h0
  have ef : fz none = Fence.wide := rfl
  simp only [ef] at hY ⊢
  refine callsIn_of_wp (F := Fence.wide) Tryd.func109 rfl True.intro ?_
  simp only [Tryd.ntmps109, List.size_toArray, List.length_cons, List.length_nil, Nat.reduceAdd, Nat.reduceSub, Array.replicate_succ, Array.replicate_zero, List.push_toArray, List.append_toArray, List.nil_append, List.cons_append]
  gi_wp2
  gi_loopw [3] (fun i wr => ∃ k : Nat, k ≤ bs.length / 16 ∧ i = .int .i64 ((k + 1 : Nat) : Int) ∧ J k wr)
    (fun i _ => bs.length / 16 + 1 - (intOf i).toNat)
  case atStart => exact ⟨0, Nat.zero_le _, rfl, h0⟩
  case round =>
    obtain ⟨k, hk, rfl, hJs⟩ := hrel
    obtain ⟨v, hv, a, c, rfl, hc, hcells⟩ := hJ k wr hJs
    by_cases hlt : k < bs.length / 16
    · obtain ⟨b, o, vs, T, fz', rfl, hb, hd⟩ := hcells (by intro e; subst e; simp at hlt)
      obtain ⟨fn, tmps, assign, body, hy, hR⟩ := hY (nf - 1) k wr hlt hJs
      have hle : 16 * k + 16 ≤ bs.length := by omega
      have hvl : o + bs.length ≤ vs.length := by
        have := congrArg List.length hd
        simp only [List.length_take, List.length_drop, List.length_map] at this
        omega
      have h1 : (Instr.arrayAt 22 (.slice (some ⟨b, o + k * 16, none⟩) ((k + 1) * 16 - k * 16) (c - k * 16))).run Tryd.prog wr = .ok (.pointer (some ⟨b, o + k * 16, none⟩)) wr :=
        run_toArr (n := 16) (tyArr_some (P := Tryd.prog) (t := 22) (n := 16) (e := 5) (sz := 1) (by kernel_rfl)).1 (by omega)
      have hpart : (vs.drop (o + k * 16)).take 16 = (part16 bs k).map v8 := by
        have := congrArg (fun l => (l.drop (16 * k)).take 16) hd
        simp only [List.drop_take, List.drop_drop, List.take_take] at this
        rw [Nat.min_eq_left (by omega)] at this
        unfold part16
        rw [List.map_take, List.map_drop, ← this, Nat.mul_comm k 16]
      obtain ⟨x0, x1, x2, x3, x4, x5, x6, x7, x8, x9, x10, x11, x12, x13, x14, x15, hx⟩ := list16 (l := part16 bs k) (by unfold part16; rw [List.length_take, List.length_drop]; omega)
      rw [hx] at hpart
      simp only [hx, List.map_cons, List.map_nil, v8] at hy
      have hcell : ∀ j v, ([x0, x1, x2, x3, x4, x5, x6, x7, x8, x9, x10, x11, x12, x13, x14, x15].map v8)[j]? = some v → wr.cell? ⟨b, o + k * 16 + j, none⟩ = some v := by
        intro j v hj
        rw [← hpart, List.getElem?_take] at hj
        split at hj
        · rw [List.getElem?_drop] at hj
          simp [World.cell?, hb, hj]
        · cases hj
      have c0 : wr.cell? ⟨b, o + k * 16, none⟩ = some (.int .u8 (x0.toNat : Int)) := hcell 0 _ rfl
      have c1 : wr.cell? ⟨b, o + k * 16 + 1, none⟩ = some (.int .u8 (x1.toNat : Int)) := hcell 1 _ rfl
      have c2 : wr.cell? ⟨b, o + k * 16 + 2, none⟩ = some (.int .u8 (x2.toNat : Int)) := hcell 2 _ rfl
      have c3 : wr.cell? ⟨b, o + k * 16 + 3, none⟩ = some (.int .u8 (x3.toNat : Int)) := hcell 3 _ rfl
      have c4 : wr.cell? ⟨b, o + k * 16 + 4, none⟩ = some (.int .u8 (x4.toNat : Int)) := hcell 4 _ rfl
      have c5 : wr.cell? ⟨b, o + k * 16 + 5, none⟩ = some (.int .u8 (x5.toNat : Int)) := hcell 5 _ rfl
      have c6 : wr.cell? ⟨b, o + k * 16 + 6, none⟩ = some (.int .u8 (x6.toNat : Int)) := hcell 6 _ rfl
      have c7 : wr.cell? ⟨b, o + k * 16 + 7, none⟩ = some (.int .u8 (x7.toNat : Int)) := hcell 7 _ rfl
      have c8 : wr.cell? ⟨b, o + k * 16 + 8, none⟩ = some (.int .u8 (x8.toNat : Int)) := hcell 8 _ rfl
      have c9 : wr.cell? ⟨b, o + k * 16 + 9, none⟩ = some (.int .u8 (x9.toNat : Int)) := hcell 9 _ rfl
      have c10 : wr.cell? ⟨b, o + k * 16 + 10, none⟩ = some (.int .u8 (x10.toNat : Int)) := hcell 10 _ rfl
      have c11 : wr.cell? ⟨b, o + k * 16 + 11, none⟩ = some (.int .u8 (x11.toNat : Int)) := hcell 11 _ rfl
      have c12 : wr.cell? ⟨b, o + k * 16 + 12, none⟩ = some (.int .u8 (x12.toNat : Int)) := hcell 12 _ rfl
      have c13 : wr.cell? ⟨b, o + k * 16 + 13, none⟩ = some (.int .u8 (x13.toNat : Int)) := hcell 13 _ rfl
      have c14 : wr.cell? ⟨b, o + k * 16 + 14, none⟩ = some (.int .u8 (x14.toNat : Int)) := hcell 14 _ rfl
      have c15 : wr.cell? ⟨b, o + k * 16 + 15, none⟩ = some (.int .u8 (x15.toNat : Int)) := hcell 15 _ rfl
      clear hcell
      rw [show ((k + 1 : Nat) : Int) = (k : Int) + 1 from rfl] at hy
      gi_wp2
      refine ⟨fun q => (by cases q), hR.mono ?_⟩
      rintro e W3 ⟨rfl, hJ3⟩
      gi_wp2
      go_roundw
      case rel => exact ⟨k + 1, by omega, by simp, hJ3⟩
      case measure => simp [intOf]; omega
    · obtain rfl : k = bs.length / 16 := by omega
      gi_wp2
      go_end0
      exact ⟨⟨_, rfl⟩, hJs⟩
end Go.Proofs.YtamlbiaakogahaaDoor
