/-
  From a row's premises to what the walks ask: an array of two bytes that came in. No conditions.
-/
import Derived.Test.YtbgieephehfgpabDoorOpen
namespace Go.Proofs.YtbgieephehfgpabDoor
open Go Go.ChangeShapes Go.WideShapes Go.RowKit
section
variable {H : Type} {enc : TypeId × Value → H} {W : World} {base : Nat} {v : Value} {d : DataW H} {p : List MemPlace} {t e : TypeId}
set_option maxRecDepth 100000 in
theorem open_two (ht : Tryd.prog.underlying t = some (.array 2 e)) (he : Tryd.prog.underlying e = some (.int .u8)) (hc : Tryd.prog.cellsOf e = 1) (hc2 : Tryd.prog.cellsOf t = 2)
    (hv : Value.okWide Tryd.prog W .any base t v) (h : DataW.Trod enc Tryd.prog W 0 (fun _ => true) true t v d p) :
    ∃ x y : Nat, x < 256 ∧ y < 256 ∧ v = .agg #[.int .u8 (x : Int), .int .u8 (y : Int)] := by
  simp only [Value.okWide, ht] at hv
  obtain ⟨cs, rfl, _, _⟩ := hv
  obtain ⟨fuel, hfu⟩ := h
  obtain ⟨xs, m, _, _, hl, hxl, hel⟩ := DataW.trod_array ht hfu
  rw [hc2] at hl
  have hsz : cs.toList.length = 2 := by simpa [Value.cells] using hl
  obtain ⟨l⟩ := cs
  match l, hsz with
  | [c0, c1], _ =>
    match xs, hxl with
    | [x0, x1], _ =>
      have h0 := hel 0 (by omega)
      have h1 := hel 1 (by omega)
      simp [hc, Value.cells] at h0 h1
      obtain ⟨z0, e0, _, w0⟩ := DataW.trod_int he h0
      obtain ⟨z1, e1, _, w1⟩ := DataW.trod_int he h1
      have b0 := bounds_u8 w0
      have b1 := bounds_u8 w1
      simp at e0 e1
      subst e0 e1
      refine ⟨z0.toNat, z1.toNat, by omega, by omega, ?_⟩
      rw [Int.toNat_of_nonneg b0.1, Int.toNat_of_nonneg b1.1]
end
end Go.Proofs.YtbgieephehfgpabDoor
