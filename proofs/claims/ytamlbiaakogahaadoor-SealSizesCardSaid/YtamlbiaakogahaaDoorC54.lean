/- SealSizes: by the kit's walk. -/
import Derived.Test.YtamlbiaakogahaaDoorC50
import Derived.Test.YtamlbiaakogahaaDoorRow2
import Derived.Shelf.Abstract
import Derived.WalkKit
import Derived.BigQuiet
import Derived.Handy
import Derived.LoopTactic
namespace Go.Proofs.YtamlbiaakogahaaDoor
open Go Go.Mo Go.RowKit Go.Shelf

theorem sizes_run {G : Gl} (hG : DB G) (n : Int) (h0 : -32768 ≤ n) (h1 : n ≤ 32767) (W : World) (hg : G.g < W.heap.size) (ho : W.heap[G.g]? = some G.obj) :
    Calls Tryd.prog 20 #[.int .i16 n] W fun e w' => e = .returned (.bool true) ∧ Below W.heap.size W w' := by
  have hA : Calls Tryd.prog 58 #[] W fun e w' => e = .returned (.bool true) ∧ Below W.heap.size W w' := law_run (e_awake12 G hG) (args := []) rfl hg ho (vargs := []) rfl
  by_cases hn : n < 0
  · go_enter Tryd.func20, Tryd.ntmps20
    go_wp2_with fail
    go_call hA as e w' ⟨he, hb⟩
    subst he
    go_wp2
    go_ret
    exact ⟨rfl, hb⟩
  · go_enter Tryd.func20, Tryd.ntmps20
    go_wp2_with fail
    go_call hA as e w' ⟨he, hb⟩
    subst he
    go_wp2
    go_ret
    exact ⟨by simp, hb⟩
end Go.Proofs.YtamlbiaakogahaaDoor
