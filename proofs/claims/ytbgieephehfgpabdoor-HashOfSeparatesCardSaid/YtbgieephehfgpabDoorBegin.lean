/-
  What the program's Begin returns: the stream whose message is empty. No conditions.
-/
import Derived.Test.YtbgieephehfgpabDoorStreamAdd
namespace Go.Proofs.YtbgieephehfgpabDoor
open Go Go.RowKit Sha
set_option maxRecDepth 100000 in
set_option maxHeartbeats 4000000 in
theorem begin2_any (w : World) :
    Calls Tryd.prog 38 #[] w fun e w' => RepE [] e ∧ Below w.heap.size w w' := by
  go_enter Tryd.func38, Tryd.ntmps38
  go_wp2_with (with_reducible refine wpList_store_row rfl 70 (.tmp 0) (.tmp 2) rfl w.heap.size _ rfl rfl 70 _ (blk_new w _ _) ?hi ?hz ?h1 ?_)
  case hi => kernel_rfl
  case hz => kernel_rfl
  case h1 => kernel_rfl
  rw [World.setRow_alloc_new]
  go_wp2
  have hz : ((((((((zcStream.setIfInBounds 0 (Value.int IntKind.u32 1779033703)).setIfInBounds 1 (Value.int IntKind.u32 3144134277)).setIfInBounds 2 (Value.int IntKind.u32 1013904242)).setIfInBounds 3 (Value.int IntKind.u32 2773480762)).setIfInBounds 4 (Value.int IntKind.u32 1359893119)).setIfInBounds 5 (Value.int IntKind.u32 2600822924)).setIfInBounds 6 (Value.int IntKind.u32 528734635)).setIfInBounds 7 (Value.int IntKind.u32 1541459225)) = (sL s8init (List.replicate 64 0) 0).toArray := by kernel_rfl
  rw [hz]
  have hi : (Tryd.prog.info? 70).map (·.size) = some ((sL s8init (List.replicate 64 0) 0).toArray).size := by kernel_rfl
  exact bodyPost_ret (v := .agg (sL s8init (List.replicate 64 0) 0).toArray) (results_cell_row Tryd.results38 _ _ w.heap.size 70 _ _ _ rfl (blk_new w _ _) Tryd.underlying70 rfl hi) rfl ⟨⟨_, ⟨List.replicate 64 0, rfl, rfl, rfl⟩, rfl⟩, below_alloc1 w _⟩
end Go.Proofs.YtbgieephehfgpabDoor
