/- Same: two strings of bytes are compared. -/
import Derived.Test.YtamlbiaakogahaaDoorMo13
import Derived.Test.YtamlbiaakogahaaDoorProg
import Derived.Shelf.Abstract
import Derived.WalkKit
import Derived.BigQuiet
import Derived.Handy
import Derived.LoopTactic
namespace Go.Proofs.YtamlbiaakogahaaDoor
open Go Go.Mo Go.RowKit Go.Shelf

set_option maxRecDepth 100000 in
set_option maxHeartbeats 2000000 in
theorem same_run (W : World) (n n' c c' b o b' o' : Nat) (f g : Nat → Int) (hn : n ≤ 100000) (hn' : n' ≤ 100000) (hc : n ≤ c) (hc' : n' ≤ c') (hf : ∀ j, j < n → W.cell? ⟨b, o + j, none⟩ = some (.int .u8 (f j))) (hg : ∀ j, j < n' → W.cell? ⟨b', o' + j, none⟩ = some (.int .u8 (g j))) :
    Calls Tryd.prog 60 #[.slice (some ⟨b, o, none⟩) n c, .slice (some ⟨b', o', none⟩) n' c'] W fun e w' => e = .returned (.bool (decide (n = n' ∧ ∀ j, j < n → f j = g j))) ∧ Below W.heap.size W w' := by
  by_cases hnn : n = n'
  · subst hnn
    go_enter Tryd.func60, Tryd.ntmps60
    go_wp2
    go_loopw [5] (fun i wr => wr.heap = W.heap ∧ Below W.heap.size W wr ∧ ∃ k : Nat, k ≤ n ∧ i = .int .i64 (k : Int) ∧ ∀ j, j < k → f j = g j) (fun i _ => n + 1 - (intOf i).toNat)
    case atStart => exact ⟨rfl, Below.refl _ _, 0, by omega, rfl, fun j hj => by omega⟩
    case round =>
      obtain ⟨hh, hB, k, hk, rfl, he⟩ := hrel
      by_cases hlt : k < n
      · have c1 := hf k hlt
        have c2 := hg k hlt
        simp only [World.cell?, ← hh] at c1 c2
        have d1 : wr.cell? ⟨b, o + k, none⟩ = some (.int .u8 (f k)) := c1
        have d2 : wr.cell? ⟨b', o' + k, none⟩ = some (.int .u8 (g k)) := c2
        by_cases hne : f k = g k
        · rw [← hne] at d2
          go_wp2
          go_quiet (fail)
          go_wp2
          go_roundw
          case rel => exact ⟨by simpa using hh, ⟨hB.os, hB.tape, hB.output, hB.size, hB.block⟩, k + 1, by omega, by simp, fun j hj => by rcases Nat.lt_or_ge j k with q | q; exact he j q; rw [show j = k by omega]; exact hne⟩
          case measure => simp [intOf]; omega
        · go_wp2
          go_quiet (fail)
          go_wp2
          · go_ret
            exact ⟨by simp; exact ⟨k, hlt, hne⟩, ⟨hB.os, hB.tape, hB.output, hB.size, hB.block⟩⟩
      · obtain rfl : k = n := by omega
        go_wp2
        go_ret
        exact ⟨by simpa using he, by go_grown⟩
  · go_enter Tryd.func60, Tryd.ntmps60
    go_wp2
    go_ret
    exact ⟨by simp [hnn], by go_grown⟩

set_option maxRecDepth 100000 in
set_option maxHeartbeats 2000000 in
theorem same_run0 (W : World) (n n' c c' : Nat) (a a' : Option Addr) (h : n = 0 ∨ n' = 0) : Calls Tryd.prog 60 #[.slice a n c, .slice a' n' c'] W fun e w' => e = .returned (.bool (decide (n = n'))) ∧ Below W.heap.size W w' := by
  by_cases hnn : n = n'
  · subst hnn
    obtain rfl : n = 0 := by omega
    go_enter Tryd.func60, Tryd.ntmps60
    go_wp2
    go_loopw [5] (fun i wr => wr = W ∧ i = .int .i64 0) (fun _ _ => 0)
    case atStart => exact ⟨rfl, rfl⟩
    case round =>
      obtain ⟨rfl, rfl⟩ := hrel
      go_wp2
      go_ret
      exact ⟨by simp, by go_grown⟩
  · go_enter Tryd.func60, Tryd.ntmps60
    go_wp2
    go_ret
    exact ⟨by simp [hnn], by go_grown⟩
end Go.Proofs.YtamlbiaakogahaaDoor
