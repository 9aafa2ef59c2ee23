/-
  What the program's (hash.Crc).Add returns: the register after the text's bytes. Conditions: the text takes at most 2^47 - 4096 bytes, the tables are as the program's text lays them.
-/
import Derived.Test.YtbgieephehfgpabDoorCrcWalks
namespace Go.Proofs.YtbgieephehfgpabDoor
open Go Go.RowKit Crc
/-- the register after bytes -/
def Crc.adds (r : R) (l : List UInt8) : R := l.foldl (fun r b => byte8 r b.toNat) r
theorem Crc.adds_take (r : R) (s : ByteArray) (k : Nat) (h : k < s.size) : adds r (s.data.toList.take (k + 1)) = nib (nib (adds r (s.data.toList.take k)) (s[k].toNat / 16)) s[k].toNat := by
  rw [List.take_succ_eq_append_getElem (by simpa using h)]
  unfold adds
  rw [List.foldl_append]
  show byte8 _ s[k].toNat = _
  rw [byte8_nib]
set_option maxHeartbeats 1000000 in
theorem add_any (r : R) (s : ByteArray) (w : World) (hs : s.size ≤ 140737488351232) (hT : Tabs w) :
    Calls Tryd.prog 43 #[.agg #[.int .u64 (toI r)], .string s] w fun e w' => e = .returned (.agg #[.int .u64 (toI (adds r s.data.toList))]) ∧ Below w.heap.size w w' := by
  go_enter Tryd.func43, Tryd.ntmps43
  go_wp2
  go_loopw [8] (fun i wr => ∃ k : Nat, k ≤ s.size ∧ i = .int .i64 k ∧ wr.heap[w.heap.size]? = some (.cells #[.int .u64 (toI (adds r (s.data.toList.take k)))] 76 (0, 0)) ∧ wr.heap[w.heap.size + 1]? = some (.cells #[.int .u64 0] 76 (0, 0)) ∧ Below w.heap.size w wr) (fun i _ => s.size - (intOf i).toNat)
  case atStart => exact ⟨0, Nat.zero_le _, rfl, blk_alloc (blk_new _ _ _) _, (by have h := blk_new (w.alloc (.cells #[.int .u64 (toI r)] 76)) #[.int .u64 0] 76; rw [World.size_alloc] at h; exact h), ((Below.refl _ _).alloc (Nat.le_refl _) _).alloc (by simp) _⟩
  case round =>
    obtain ⟨k, hk, rfl, hb0, hb1, hB⟩ := hrel
    have c0 := blk_cell hb0 0
    have f0 := blk_free hb0 0
    have hx0 := toI_lo (adds r (s.data.toList.take k))
    have hTr : Tabs wr := hT.below hB
    by_cases hlt : k < s.size
    · have hst := adds_take r s k hlt
      generalize adds r (s.data.toList.take k) = x at *
      have Hst := Lib.hid hst
      clear hst
      have hTd := hTr.drew
      go_wp2
      go_region_with (first | (go_at_call 65; ((with_reducible refine (nibble_any x _ _ (byte_div _) (by assumption)).mono ?_); rintro e w1 ⟨rfl, hw1⟩; have hT1 := Tabs.below (by assumption) hw1; have hk1 := blk_kept (b := w.heap.size) (by assumption) hw1)) | (go_at_call 65; ((with_reducible refine (nibble_any (nib x _) _ _ (byte_bd _) (by assumption)).mono ?_); rintro e w2 ⟨rfl, hw2⟩; have hk2 := blk_kept (b := w.heap.size) (by assumption) hw2; have hc2 := blk_cell hk2 0; have hf2 := blk_free hk2 0)))
      all_goals
        have hBw : Below w.heap.size w w2 := hB.drew.trans ((hw1.mono hB.size).trans (hw2.mono (Nat.le_trans hB.size hw1.size)))
        have hb1' := blk_kept (blk_kept (w := wr.drew) hb1 hw1) hw2
        clear hc2 hf2 c0 f0
        go_wp2
        go_roundw
        case rel => exact ⟨k + 1, by omega, by go_num, by rw [Hst.out]; exact blk_set hk2 0 _, blk_far hb1' (by simp) _, hBw.setCell (by simp) _⟩
        case measure => simp [intOf]; omega
    · have hk' : k = s.size := by omega
      subst hk'
      rw [List.take_of_length_le (by simp)] at hb0 hx0 c0
      have c1 := blk_cell hb1 0
      have f1 := blk_free hb1 0
      go_wp2
      exact bodyPost_ret (v := .agg #[.int .u64 (toI (adds r s.data.toList))]) (by simp [results, Tryd.results43, go_sem, c1]) rfl ⟨rfl, hB.setCell (by simp) _⟩
end Go.Proofs.YtbgieephehfgpabDoor
