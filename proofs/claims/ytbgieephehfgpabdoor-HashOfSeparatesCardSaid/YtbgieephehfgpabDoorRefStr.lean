/-
  The reference's Few, on a slice of strings as it reads. No conditions beyond the sizes.
-/
import Derived.Test.YtbgieephehfgpabDoorOf
namespace Go.Proofs.YtbgieephehfgpabDoor
open Go Go.RowKit
set_option maxRecDepth 100000 in
theorem few_any (v : Value) (ps : List (List UInt8)) (w : World) (hr : Rd mkS w v ps) :
    Calls Tryd.prog 12 #[v] w fun e w' => (∃ b, e = .returned (.bool b) ∧ (b = true → ps.length ≤ 12 ∧ ∀ x ∈ ps, x.length ≤ 400)) ∧ w = w' := by
  obtain ⟨va, vcap, rfl, hvc, hvcell⟩ := hr
  by_cases h12 : ps.length ≤ 12
  · have hd : decide ((12 : Int) < (ps.length : Int)) = false := by simp; omega
    go_enter Tryd.func12, Tryd.ntmps12
    go_wp2
    go_loopw [3] (fun i wr => ∃ k : Nat, k ≤ ps.length ∧ i = .int .i64 (k : Int) ∧ (∀ x ∈ ps.take k, x.length ≤ 400) ∧ w = wr) (fun i _ => ps.length - (intOf i).toNat)
    case atStart => exact ⟨0, by omega, rfl, by simp, rfl⟩
    case round =>
      obtain ⟨k, hk, rfl, hall, rfl⟩ := hrel
      by_cases h : k < ps.length
      · rcases hvcell with hnil | ⟨b, off, rfl, hbl, hcell⟩
        · subst hnil; simp at h
        · obtain ⟨x, hx⟩ : ∃ x, ps[k]? = some x := ⟨_, List.getElem?_eq_getElem h⟩
          have hcx : w.cell? ⟨b, off + k, none⟩ = some (.string ⟨x.toArray⟩) := hcell k x hx
          have hsz : (⟨x.toArray⟩ : ByteArray).size = x.length := by simp [ByteArray.size]
          have hnx : ∀ y ∈ ps.take (k + 1), x.length ≤ 400 → y.length ≤ 400 := by
            intro y hy h4
            rw [List.take_add_one, hx] at hy
            rcases List.mem_append.1 hy with hy | hy
            · exact hall y hy
            · simp at hy; subst hy; exact h4
          clear hcell hall hx
          by_cases h4 : x.length ≤ 400
          · have hd4 : decide ((400 : Int) < (x.length : Int)) = false := by simp; omega
            go_wp2
            go_roundw
            case rel => exact ⟨k + 1, by omega, by go_num, fun y hy => hnx y hy h4, trivial⟩
            case measure => simp [intOf]; omega
          · have hd4 : decide ((400 : Int) < (x.length : Int)) = true := by simp; omega
            go_wp2
            go_ret
            exact ⟨⟨false, rfl, fun h => by cases h⟩, rfl⟩
      · obtain rfl : k = ps.length := by omega
        go_wp2
        go_ret
        exact ⟨⟨true, rfl, fun _ => ⟨h12, by simpa using hall⟩⟩, rfl⟩
  · have hd : decide ((12 : Int) < (ps.length : Int)) = true := by simp; omega
    go_enter Tryd.func12, Tryd.ntmps12
    go_wp2
    go_ret
    exact ⟨⟨false, rfl, fun h => by cases h⟩, rfl⟩
theorem flat_len (ps : List (List UInt8)) (h : ∀ x ∈ ps, x.length ≤ 400) : ps.flatten.length ≤ 400 * ps.length := by
  induction ps with
  | nil => simp
  | cons a t ih =>
    have h1 := h a (by simp)
    have h2 := ih fun x hx => h x (by simp [hx])
    simp only [List.flatten_cons, List.length_append, List.length_cons]
    omega
end Go.Proofs.YtbgieephehfgpabDoor
