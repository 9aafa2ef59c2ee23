/-
  The number of a slice of strings that came in is not beyond what a slice can hold. No conditions.
-/
import Derived.Test.YtbgieephehfgpabDoorBOpenS
namespace Go.Proofs.YtbgieephehfgpabDoor
open Go Go.ChangeShapes Go.WideShapes Go.RowKit
theorem open_strs_len {H : Type} {enc : TypeId × Value → H} {W : World} {v : Value} {d : DataW H} {p : List MemPlace} {t e : TypeId} {ps : List (List UInt8)} (ht : Tryd.prog.underlying t = some (.slice e)) (he : Tryd.prog.underlying e = some .string) (hc : Tryd.prog.cellsOf e = 1)
    (h : DataW.Trod enc Tryd.prog W 0 (fun _ => true) true t v d p) (hr : Rd mkS W v ps) : ps.length ≤ maxLen := by
  obtain ⟨x, cap, rfl, hcap, _⟩ := hr
  obtain ⟨fuel, hfu⟩ := h
  rcases open_strings ht he hc hfu with ⟨hcs, _⟩ | ⟨a', l, c, ss, hcs, _, hl, hm, _⟩
  · simp [Value.cells] at hcs
    simp [hcs]
  · simp [Value.cells] at hcs
    obtain ⟨_, rfl, rfl⟩ := hcs
    omega
end Go.Proofs.YtbgieephehfgpabDoor
