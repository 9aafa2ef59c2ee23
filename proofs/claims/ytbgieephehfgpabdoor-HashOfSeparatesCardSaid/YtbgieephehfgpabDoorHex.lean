/-
  What the law's hex and the reference's Bytes32, Text return. Conditions: strings of at most 10^6 bytes.
-/
import Derived.Test.YtbgieephehfgpabDoorWire
namespace Go.Proofs.YtbgieephehfgpabDoor
open Go Go.RowKit Sha
set_option maxRecDepth 100000 in
set_option maxHeartbeats 1000000 in
theorem bytes32_any (l : List UInt8) (w : World) (hl : l.length = 32) :
    Calls Tryd.prog 48 #[bytesV l] w fun e w' => e = .returned (.string ⟨l.toArray⟩) ∧ Below w.heap.size w w' := by
  obtain ⟨C, hC⟩ : ∃ C : Array Value, C = (l.map mkB).toArray := ⟨_, rfl⟩
  have hbv : bytesV l = .agg C := by rw [hC]; rfl
  have hget : ∀ i x, l[i]? = some x → C[i]? = some (mkB x) := fun i x h => by rw [hC, List.getElem?_toArray, List.getElem?_map, h]; rfl
  rw [hbv]
  clear hC hbv
  go_enter Tryd.func48, Tryd.ntmps48
  go_wp2
  go_loopw [3, 4] (fun o i wr => ∃ k : Nat, k ≤ 32 ∧ i = .int .i64 (k : Int) ∧ Own wr (w.heap.size + 1) o (l.take k) ∧ Blk wr w.heap.size C 33 ∧ Below w.heap.size w wr ∧ w.heap.size + 1 ≤ wr.heap.size) (fun _ i _ => 32 - (intOf i).toNat)
  case atStart => exact ⟨0, by omega, rfl, own_nil _ _, blk_new _ _ _, (Below.refl _ _).alloc (Nat.le_refl _) _, by simp⟩
  case round =>
    obtain ⟨k, hk, rfl, hown, hb, hB, hsz⟩ := hrel
    by_cases h : k < 32
    · obtain ⟨x, hx⟩ : ∃ x, l[k]? = some x := ⟨_, List.getElem?_eq_getElem (by omega)⟩
      have hc : wr.cell? ⟨w.heap.size, k, none⟩ = some (.int .u8 (x.toNat : Int)) := (blk_cell hb k).trans (hget k x hx)
      have ht : l.take (k + 1) = l.take k ++ [x] := by rw [List.take_add_one, hx]; rfl
      have hlen : (l.take k).length < 1000000000000 := by simp; omega
      have Ht := Lib.hid ht
      clear ht
      go_wp2_with (with_reducible refine wp_appB1 rfl (.tmp 9) (.tmp 13) rfl (w.heap.size + 1) _ (l.take k) rfl hown x _ rfl rfl hlen hsz ?_; intro v1 w1 hown1 hg1 hv1)
      exact ⟨⟨k + 1, by omega, by go_num, by rw [Ht.out]; exact hown1, hg1.kept _ _ hb (by omega), hg1.below _ _ hB (by omega), by have := hg1.size; omega⟩, by simp [intOf]; omega⟩
    · obtain rfl : k = 32 := by omega
      rw [List.take_of_length_le (by omega)] at hown
      have hcv := RdB.conv (P := Tryd.prog) (own_rd hown) 31 9 5 Tryd.underlying31 Tryd.underlying5 Tryd.underlying9
      go_wp2
      go_ret
      exact ⟨rfl, hB⟩
set_option maxRecDepth 100000 in
set_option maxHeartbeats 1000000 in
theorem text_any (l : List UInt8) (w : World) (hl : l.length = 16) :
    Calls Tryd.prog 49 #[bytesV l] w fun e w' => e = .returned (.string ⟨l.toArray⟩) ∧ Below w.heap.size w w' := by
  obtain ⟨C, hC⟩ : ∃ C : Array Value, C = (l.map mkB).toArray := ⟨_, rfl⟩
  have hbv : bytesV l = .agg C := by rw [hC]; rfl
  have hget : ∀ i x, l[i]? = some x → C[i]? = some (mkB x) := fun i x h => by rw [hC, List.getElem?_toArray, List.getElem?_map, h]; rfl
  rw [hbv]
  clear hC hbv
  go_enter Tryd.func49, Tryd.ntmps49
  go_wp2
  go_loopw [3, 4] (fun o i wr => ∃ k : Nat, k ≤ 16 ∧ i = .int .i64 (k : Int) ∧ Own wr (w.heap.size + 1) o (l.take k) ∧ Blk wr w.heap.size C 26 ∧ Below w.heap.size w wr ∧ w.heap.size + 1 ≤ wr.heap.size) (fun _ i _ => 16 - (intOf i).toNat)
  case atStart => exact ⟨0, by omega, rfl, own_nil _ _, blk_new _ _ _, (Below.refl _ _).alloc (Nat.le_refl _) _, by simp⟩
  case round =>
    obtain ⟨k, hk, rfl, hown, hb, hB, hsz⟩ := hrel
    by_cases h : k < 16
    · obtain ⟨x, hx⟩ : ∃ x, l[k]? = some x := ⟨_, List.getElem?_eq_getElem (by omega)⟩
      have hc : wr.cell? ⟨w.heap.size, k, none⟩ = some (.int .u8 (x.toNat : Int)) := (blk_cell hb k).trans (hget k x hx)
      have ht : l.take (k + 1) = l.take k ++ [x] := by rw [List.take_add_one, hx]; rfl
      have hlen : (l.take k).length < 1000000000000 := by simp; omega
      have Ht := Lib.hid ht
      clear ht
      go_wp2_with (with_reducible refine wp_appB1 rfl (.tmp 9) (.tmp 13) rfl (w.heap.size + 1) _ (l.take k) rfl hown x _ rfl rfl hlen hsz ?_; intro v1 w1 hown1 hg1 hv1)
      exact ⟨⟨k + 1, by omega, by go_num, by rw [Ht.out]; exact hown1, hg1.kept _ _ hb (by omega), hg1.below _ _ hB (by omega), by have := hg1.size; omega⟩, by simp [intOf]; omega⟩
    · obtain rfl : k = 16 := by omega
      rw [List.take_of_length_le (by omega)] at hown
      have hcv := RdB.conv (P := Tryd.prog) (own_rd hown) 31 9 5 Tryd.underlying31 Tryd.underlying5 Tryd.underlying9
      go_wp2
      go_ret
      exact ⟨rfl, hB⟩
end Go.Proofs.YtbgieephehfgpabDoor
