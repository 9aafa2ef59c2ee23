/-
  From a row's premises to what the walks ask: a slice of strings that came in. No conditions.
-/
import Derived.Test.YtbgieephehfgpabDoorJB8
import Derived.Test.YtbgieephehfgpabDoorJB3
namespace Go.Proofs.YtbgieephehfgpabDoor
open Go Go.ChangeShapes Go.WideShapes Go.RowKit
section
variable {H : Type} {enc : TypeId × Value → H} {W : World} {base : Nat} {v : Value} {d : DataW H} {p : List MemPlace} {t e : TypeId}
set_option maxRecDepth 100000 in
theorem open_rd_strs (ht : Tryd.prog.underlying t = some (.slice e)) (he : Tryd.prog.underlying e = some .string) (hc : Tryd.prog.cellsOf e = 1)
    (hv : Value.okWide Tryd.prog W .any base t v) (h : DataW.Trod enc Tryd.prog W 0 (fun _ => true) true t v d p) :
    ∃ ps : List (List UInt8), Rd mkS W v ps := by
  obtain ⟨a, len, cap, rfl⟩ := okWide_slice ht hv
  obtain ⟨fuel, hfu⟩ := h
  rcases open_strings ht he hc hfu with ⟨hcs, _⟩ | ⟨a', l, c, ss, hcs, _, hl, hm, hz, _, hcell, _⟩
  · simp [Value.cells] at hcs
    obtain ⟨rfl, rfl, rfl⟩ := hcs
    exact ⟨[], ⟨none, 0, rfl, by simp, .inl rfl⟩⟩
  · simp [Value.cells] at hcs
    obtain ⟨rfl, rfl, rfl⟩ := hcs
    have hzc : ss.length = cap := by simpa using hz
    have hlen : (ss.take len).length = len := by simp; omega
    refine ⟨(ss.take len).map fun s => s.data.toList, ⟨_, cap, by rw [List.length_map, hlen], by rw [List.length_map, hlen]; exact hl, ?_⟩⟩
    by_cases h0 : len = 0
    · left; subst h0; simp
    · right
      obtain ⟨b, off, spot⟩ := a'
      have hspot : spot = none := by simpa [Addr.add] using World.cell?_spot (hcell 0 (by omega))
      subst hspot
      have hc2 : ∀ j, j < ss.length → W.cell? ⟨b, off + j, none⟩ = some (.string (ss.getD j ByteArray.empty)) := fun j hj => by rw [← Go.WideShapes.add_plain]; exact hcell j hj
      refine ⟨b, off, rfl, ?_, ?_⟩
      · have := hc2 0 (by omega)
        exact Nat.lt_of_not_le fun hge => by
          have hn : W.cell? ⟨b, off + 0, none⟩ = none := by
            unfold World.cell?
            rw [Array.getElem?_eq_none hge]
          rw [hn] at this; cases this
      · intro i x hx
        rw [List.getElem?_map] at hx
        obtain ⟨z, hz1, rfl⟩ := Option.map_eq_some_iff.1 hx
        have hi : i < len := by
          have := (List.getElem?_eq_some_iff.1 hz1).1
          omega
        rw [List.getElem?_take, if_pos hi] at hz1
        rw [hc2 i (by omega), List.getD_eq_getElem?_getD, hz1]
        rfl
end
end Go.Proofs.YtbgieephehfgpabDoor
