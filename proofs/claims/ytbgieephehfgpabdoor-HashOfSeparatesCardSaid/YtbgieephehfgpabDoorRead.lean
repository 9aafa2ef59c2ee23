/-
  Words for slices that are read: what a slice's elements are in memory ('Rd'), that this holds on when blocks are made, and that Go's string(b) of a slice of bytes gives these bytes. No conditions.
-/
import Derived.Test.YtbgieephehfgpabDoorBase
namespace Go.Proofs.YtbgieephehfgpabDoor
open Go Go.RowKit
/-- the slice value v reads as the list l, its elements written by mk -/
def Rd {α : Type} (mk : α → Value) (w : World) (v : Value) (l : List α) : Prop :=
  ∃ a cap, v = .slice a l.length cap ∧ l.length ≤ cap ∧ (l = [] ∨ ∃ b off, a = some ⟨b, off, none⟩ ∧ b < w.heap.size ∧ ∀ i x, l[i]? = some x → w.cell? ⟨b, off + i, none⟩ = some (mk x))
def mkB (x : UInt8) : Value := .int .u8 (x.toNat : Int)
abbrev RdB := Rd mkB
theorem Rd.below {α : Type} {mk : α → Value} {w w' : World} {v : Value} {l : List α} (h : Rd mk w v l) (hb : Below w.heap.size w w') : Rd mk w' v l := by
  obtain ⟨a, cap, hv, hc, h⟩ := h
  refine ⟨a, cap, hv, hc, ?_⟩
  rcases h with h | ⟨b, off, ha, hlt, hcell⟩
  · exact .inl h
  · exact .inr ⟨b, off, ha, Nat.lt_of_lt_of_le hlt hb.size, fun i x hx => (hb.cell (p := ⟨b, off + i, none⟩) hlt).trans (hcell i x hx)⟩
theorem strOf_map (l : List UInt8) : strOfNums (l.map fun x => (x.toNat : Int)) = ⟨l.toArray⟩ := by
  unfold strOfNums
  congr 1
  simp [List.map_map, Function.comp_def]
theorem RdB.conv {P : Program} {w : World} {v : Value} {l : List UInt8} (h : RdB w v l) (src dst e : TypeId) (hs : P.underlying src = some (.slice e)) (he : P.underlying e = some (.int .u8)) (hd : P.underlying dst = some .string) :
    (convert src dst v).run P w = .ok (.string ⟨l.toArray⟩) w := by
  obtain ⟨a, cap, rfl, hc, h⟩ := h
  rcases h with rfl | ⟨b, off, rfl, hlt, hcell⟩
  · cases a with
    | none => exact run_convert_bytes_nil w src e hs he 0 cap dst hd
    | some a =>
      rw [run_convert_bytes_string w src dst e _ _ _ hs he hd]
      rw [run_bytesToString w _ _ cap [] (by have h0 := run_loadCells_list (P := P) w a [] (by simp); simpa using h0)]
      rfl
  · rw [run_convert_bytes_arg w src e hs he b off l.length cap (l.map fun x => (x.toNat : Int)) (by simp) ?_ dst hd, strOf_map]
    intro i hi
    have hx : l[i]? = some l[i] := List.getElem?_eq_getElem hi
    rw [hcell i _ hx]
    simp [mkB, List.getD, hi]
end Go.Proofs.YtbgieephehfgpabDoor
