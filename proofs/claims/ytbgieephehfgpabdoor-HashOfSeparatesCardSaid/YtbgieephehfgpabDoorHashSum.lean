/-
  What the program's hash.Sum returns: the SHA-256 hash of the bytes. Conditions: at most 10^9 bytes, the tables are as the program's text lays them.
-/
import Derived.Test.YtbgieephehfgpabDoorStreamSum
namespace Go.Proofs.YtbgieephehfgpabDoor
open Go Go.RowKit Sha
theorem run_storeCells_whole {P : Program} (W : World) (g : Nat) (t : TypeId) (old C : Array Value) (h : W.heap[g]? = some (.cells old t (0, 0))) (hs : old.size = C.size) (h1 : C.all (·.oneCell') = true) :
    (storeCells ⟨g, 0, none⟩ C.toList).run P W = .ok () (W.setRow g C) := by
  have := run_storeCells_from (P := P) g t C.toList 0 old W h (by simp; omega) (fun v hv => (Array.all_eq_true_iff_forall_mem.1 h1) v (by simpa using hv))
  rw [this]
  simp
set_option maxRecDepth 100000 in
set_option maxHeartbeats 2000000 in
theorem hsum_any (v : Value) (l : List UInt8) (w : World) (hr : RdB w v l) (hs : l.length ≤ 100000000000) (hT : TabC w) :
    Calls Tryd.prog 16 #[v] w fun e w' => e = .returned (bytesV (sha l)) ∧ Below w.heap.size w w' := by
  have hcv : ∀ W, Below w.heap.size w W → (convert 31 9 v).run Tryd.prog W = .ok (.string ⟨l.toArray⟩) W :=
    fun W hW => RdB.conv (Rd.below hr hW) _ _ 5 Tryd.underlying31 Tryd.underlying5 Tryd.underlying9
  obtain ⟨C, hC⟩ : ∃ C : Array Value, C = ((sha l).map mkB).toArray := ⟨_, rfl⟩
  have hCs : C.size = 32 := by rw [hC]; simp [sha_len]
  have hC1 : C.all (·.oneCell') = true := by rw [hC]; exact one_cells _
  have hCi : (Tryd.prog.info? 33).map (·.size) = some C.size := by rw [hCs]; kernel_rfl
  have hC' : bytesV (sha l) = .agg C := by rw [hC]; rfl
  rw [hC']
  have hss : ∀ v W, Rep l v → TabC W → Calls Tryd.prog 40 #[v] W fun e w' => e = .returned (.agg C) ∧ Below W.heap.size W w' := fun v W h1 h2 => by
    have := ssum_any l v W h1 hs h2
    rw [hC'] at this
    exact this
  have hst : ∀ W, W.heap[w.heap.size]? = some (.cells (List.replicate 32 (Value.int .u8 0)).toArray 33 (0, 0)) → (storeCells ⟨w.heap.size, 0, none⟩ C.toList).run Tryd.prog W = .ok () (W.setRow w.heap.size C) := fun W h => run_storeCells_whole W w.heap.size _ _ C h (by rw [hCs]; rfl) hC1
  clear hC hC'
  go_enter Tryd.func16, Tryd.ntmps16
  go_wp2_with fail
  have hz : Blk (w.alloc (.cells (List.replicate 32 (Value.int .u8 0)).toArray 33)).drew w.heap.size (List.replicate 32 (Value.int .u8 0)).toArray 33 := blk_new w _ _
  have hw0 : Below w.heap.size w (w.alloc (.cells (List.replicate 32 (Value.int .u8 0)).toArray 33)).drew := ((Below.refl _ _).alloc (Nat.le_refl _) _).drew
  have hT0 := (hT.alloc (.cells (List.replicate 32 (Value.int .u8 0)).toArray 33)).drew
  change Code.wp _ _ _ _ (w.alloc (.cells (List.replicate 32 (Value.int .u8 0)).toArray 33))
  have hsz : w.heap.size < (w.alloc (.cells (List.replicate 32 (Value.int .u8 0)).toArray 33)).heap.size := by simp
  generalize w.alloc (.cells (List.replicate 32 (Value.int .u8 0)).toArray 33) = wx at *
  go_region_with (first
    | (go_at_call 38; ((with_reducible refine (begin2_any _).mono ?_); rintro e w1 ⟨⟨v1, hv1, rfl⟩, hw1⟩; have hB1 : Below w.heap.size w w1 := hw0.trans (hw1.mono (Nat.le_of_lt hsz)); have hT1 := TabC.below hT0 hw1; have hz1 := blk_kept hz hw1))
    | (go_at_call 39; ((with_reducible refine (sadd_any [] v1 ⟨l.toArray⟩ _ hv1 (by simp [ByteArray.size]; omega) (by assumption)).mono ?_); rintro e w2 ⟨⟨v2, hv2, rfl⟩, hw2⟩; have hB2 : Below w.heap.size w w2 := Below.trans hB1 (hw2.mono hB1.size); have hT2 := TabC.below hT1 hw2; have hz2 := blk_kept hz1 hw2; rw [List.nil_append] at hv2))
    | (go_at_call 40; ((with_reducible refine (hss v2 _ hv2 hT2).mono ?_); rintro e w3 ⟨rfl, hw3⟩; have hB3 := hB2.trans (hw3.mono hB2.size); have hz3 := blk_kept hz2 hw3)))
  all_goals
    go_wp2_with fail
    exact bodyPost_ret (v := .agg C) (results_cell_row Tryd.results16 _ _ w.heap.size 33 _ _ _ rfl (blk_setRow hz3 _) Tryd.underlying33 rfl hCi) rfl ⟨rfl, below_setRow hB3 (Nat.le_refl _) _⟩
end Go.Proofs.YtbgieephehfgpabDoor
