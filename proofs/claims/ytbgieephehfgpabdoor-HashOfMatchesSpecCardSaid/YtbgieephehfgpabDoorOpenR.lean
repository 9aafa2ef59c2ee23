/-
  What a row's three laid tables say: the program's and the reference's.
-/
import Derived.Test.YtbgieephehfgpabDoorOpen
import Derived.Test.YtbgieephehfgpabDoorRefSum
namespace Go.Proofs.YtbgieephehfgpabDoor
open Go Go.ChangeShapes Go.WideShapes Go.ChangeAt Go.RowKit Sha
theorem tab3_of_laid {W : World} (h : laidMetH Tryd.prog [("weirgate/weirgateref02.constants", Rows.laid_weirgate_weirgateref02_constants), ("weirgate/hash.nibbles", Rows.laid_weirgate_hash_nibbles), ("weirgate/hash.constants", Rows.laid_weirgate_hash_constants)] W) : Tabs W ∧ TabR W := by
  rw [MakeChecks.laidMetH_plain _ _ _ (by kernel_rfl)] at h
  obtain ⟨ps, ⟨g2, t2, cs2, f2, p2, q2, hg2, ht2, hv2, hd2, ⟨g0, t0, cs0, f0, p0, q0, hg0, ht0, hv0, hd0, ⟨g1, t1, cs1, f1, p1, q1, hg1, ht1, hv1, hd1, _, _⟩, _⟩, _⟩, _, _⟩ := h
  exact ⟨⟨nib_of hg0 ht0 hv0 hd0, ⟨con_of hg1 ht1 hv1 hd1⟩⟩, ⟨rcon_of hg2 ht2 hv2 hd2⟩⟩
theorem tabs3_of_laid {W : World} (h : laidMetH Tryd.prog [("weirgate/weirgateref02.constants", Rows.laid_weirgate_weirgateref02_constants), ("weirgate/hash.nibbles", Rows.laid_weirgate_hash_nibbles), ("weirgate/hash.constants", Rows.laid_weirgate_hash_constants)] W) : Tabs W := (tab3_of_laid h).1
end Go.Proofs.YtbgieephehfgpabDoor
