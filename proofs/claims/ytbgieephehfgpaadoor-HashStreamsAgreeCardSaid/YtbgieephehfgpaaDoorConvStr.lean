/-
  Go's []byte(s) of a string, as it reads. No conditions.
-/
import Derived.Test.YtbgieephehfgpaaDoorRead
import Derived.Lib.ConvBytes
import Derived.Lib.AtoiErrMem
import Derived.Laws.AppendOwn
namespace Go.Proofs.YtbgieephehfgpaaDoor
open Go Go.RowKit
theorem conv_str (w : World) (l : List UInt8) : ∃ v' w', (convert 9 22 (.string ⟨l.toArray⟩)).run Tryd.prog w = .ok v' w' ∧ RdB w' v' l ∧ Below w.heap.size w w' := by
  have hsz : (⟨l.toArray⟩ : ByteArray).size = l.length := by simp [ByteArray.size]
  refine ⟨_, _, Lib.run_convert_string_bytes w 9 22 5 ⟨l.toArray⟩ Tryd.underlying9 Tryd.underlying22 Tryd.underlying5, ⟨_, _, by rw [hsz], ?_, .inr ⟨w.heap.size, 0, rfl, ?_, ?_⟩⟩, Lib.bytesWorld_below _ _ _⟩
  · have := grownCap_ge w l.length 0 5
    exact this
  · rw [Lib.bytesWorld_size]; omega
  · intro i x hx
    have hi : i < l.length := (List.getElem?_eq_some_iff.1 hx).1
    rw [Nat.zero_add, Lib.bytesWorld_cell w 5 ⟨l.toArray⟩ i (by rw [hsz]; exact hi)]
    have hg : l.getD i 0 = x := by rw [List.getD_eq_getElem?_getD, hx]; rfl
    show some (Value.int .u8 ((l.getD i 0).toNat : Int)) = _
    rw [hg]
    rfl
end Go.Proofs.YtbgieephehfgpaaDoor
