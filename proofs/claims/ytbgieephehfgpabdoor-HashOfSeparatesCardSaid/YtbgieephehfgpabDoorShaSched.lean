/-
  What the program's schedule returns: the message schedule of a block. Conditions: the block has 64 bytes.
-/
import Derived.Test.YtbgieephehfgpabDoorShaArr
import Derived.Test.YtbgieephehfgpabDoorRead
namespace Go.Proofs.YtbgieephehfgpabDoor
open Go Go.RowKit Sha
theorem info64 : (Tryd.prog.info? 107).map (·.size) = some 64 := by kernel_rfl
set_option maxRecDepth 100000 in
set_option maxHeartbeats 1000000 in
theorem sched_any (b off cap : Nat) (l : List UInt8) (w : World) (hc : 64 ≤ cap) (hb : b < w.heap.size) (hcell : ∀ i, i < 64 → w.cell? ⟨b, off + i, none⟩ = some (mkB (l.getD i 0))) :
    Calls Tryd.prog 73 #[.slice (some ⟨b, off, none⟩) 64 cap] w fun e w' => e = .returned (.agg (Arr (sched l 64))) ∧ Below w.heap.size w w' := by
  go_enter Tryd.func73, Tryd.ntmps73
  go_wp2
  go_loopw [11] (fun i wr => ∃ t : Nat, t ≤ 64 ∧ i = .int .i64 (t : Int) ∧ Blk wr (w.heap.size + 1) (Arr (sched l t)) 107 ∧ Blk wr w.heap.size (Arr []) 107 ∧ Below w.heap.size w wr) (fun i _ => 64 - (intOf i).toNat)
  case atStart =>
    refine ⟨0, by omega, rfl, ?_, ?_, ((Below.refl _ _).alloc (Nat.le_refl _) _).alloc (by simp) _⟩
    · have h := blk_new (w.alloc (.cells (Arr []) 107)) (Arr []) 107
      rw [World.size_alloc] at h
      rw [Arr_nil] at h
      rw [show sched l 0 = [] from rfl, Arr_nil]
      exact h
    · have h := blk_alloc (blk_new w (Arr []) 107) (.cells (Arr []) 107)
      rw [Arr_nil] at h ⊢
      exact h
  case round =>
    obtain ⟨t, ht, rfl, hb1, hb0, hB⟩ := hrel
    have hw1 : w.heap.size + 1 < wr.heap.size := blk_lt hb1
    by_cases h64 : t < 64
    · have d64 : decide ((t : Int) < 64) = true := by simp; omega
      by_cases h16 : t < 16
      · have d16 : decide ((t : Int) < 16) = true := by simp; omega
        have e4 : 4 * t + 4 - 4 * t = 4 := by omega
        obtain ⟨wo, rfl⟩ : ∃ wo : World, wo = wr := ⟨_, rfl⟩
        go_wp2
        go_loopw [6, 24] (fun _ i wx => ∃ j : Nat, j ≤ 4 ∧ i = .int .i64 (j : Int) ∧ Blk wx (w.heap.size + 1) (Arr (sched l t ++ [word4 l t j])) 107 ∧ Blk wx w.heap.size (Arr []) 107 ∧ Below w.heap.size w wx) (fun _ i _ => 4 - (intOf i).toNat)
        case atStart => exact ⟨0, by omega, rfl, by rw [show word4 l t 0 = 0#32 from rfl, Arr_snoc0 _ (by rw [sched_len]; omega)]; exact hb1, hb0, hB⟩
        case round =>
          obtain ⟨j, hj, rfl, hx1, hx0, hBx⟩ := hrel
          by_cases hj4 : j < 4
          · have dj4 : decide ((j : Int) < 4) = true := by simp; omega
            have hc0 := (hBx.cell (p := ⟨b, off + (4 * t + j), none⟩) hb).trans (hcell (4 * t + j) (by omega))
            rw [← Nat.add_assoc] at hc0
            have hw4 : word4 l t (j + 1) = push8 (word4 l t j) (l.getD (4 * t + j) 0).toNat := rfl
            generalize l.getD (4 * t + j) 0 = x at *
            have hc0' : wr.cell? ⟨b, off + 4 * t + j, none⟩ = some (.int .u8 (x.toNat : Int)) := hc0
            have hc1 : wr.cell? ⟨w.heap.size + 1, t, none⟩ = some (.int .u32 (tI (word4 l t j))) := by
              rw [blk_cell hx1 t, Arr_get _ _ (by simp [sched_len])]
              simp [List.getD, sched_len, vW]
            have hf1 := blk_free hx1 t
            obtain ⟨hxb0, hxb1⟩ := byte_bd x
            have hp8 := push8_go (word4 l t j) x
            have hset := blk_set hx1 t (vW (push8 (word4 l t j) x.toNat))
            rw [Arr_setAt _ t (sched_len l t)] at hset
            have hfar := blk_far hx0 (p := ⟨w.heap.size + 1, t, none⟩) (by simp) (vW (push8 (word4 l t j) x.toNat))
            rw [← hw4] at hp8 hset hfar
            generalize tI (word4 l t j) = y at *
            have Hset := Lib.hid hset
            have Hfar := Lib.hid hfar
            clear hc0 hset hfar hw4
            go_wp2
            go_roundw
            case rel => exact ⟨j + 1, by omega, by go_num, Hset.out, Hfar.out, hBx.setCell (by simp) _⟩
            case measure => simp [intOf]; omega
          · obtain rfl : j = 4 := by omega
            have hs1 : sched l (t + 1) = sched l t ++ [word4 l t 4] := by rw [sched, if_pos h16]
            rw [← hs1] at hx1
            go_wp2
            go_roundw
            case rel => exact ⟨t + 1, by omega, by go_num, hx1, hx0, hBx⟩
            case measure => simp [intOf]; omega
      · obtain ⟨u, rfl⟩ : ∃ u, t = u + 16 := ⟨t - 16, by omega⟩
        have d64 : decide ((u : Int) + 16 < 64) = true := by simp; omega
        have d16 : decide ((u : Int) + 16 < 16) = false := by simp; omega
        have hget : ∀ i, i < u + 16 → wr.cell? ⟨w.heap.size + 1, i, none⟩ = some (vW ((sched l (u + 16)).getD i 0#32)) := fun i hi => (blk_cell hb1 i).trans (Arr_get _ _ (by rw [sched_len]; exact hi))
        have g1 := hget (u + 1) (by omega)
        have g14 := hget (u + 14) (by omega)
        have g0 := hget u (by omega)
        have g9 := hget (u + 9) (by omega)
        clear hget
        have hcz : wr.cell? ⟨w.heap.size + 1, u + 16, none⟩ = some (.int .u32 (tI 0#32)) := (blk_cell hb1 _).trans (Arr_zero _ _ (by rw [sched_len]; omega) (by omega))
        have hfz := blk_free hb1 (u + 16)
        have hs1 : sched l (u + 16 + 1) = sched l (u + 16) ++ [nextW (sched l (u + 16)) (u + 16)] := by rw [sched, if_neg h16]
        have hnw : nextW (sched l (u + 16)) (u + 16) = wadd (wadd (wadd ((sched l (u + 16)).getD u 0#32) (s0 ((sched l (u + 16)).getD (u + 1) 0#32))) ((sched l (u + 16)).getD (u + 9) 0#32)) (s1 ((sched l (u + 16)).getD (u + 14) 0#32)) := rfl
        have hb1' := hb1
        rw [← Arr_snoc0 _ (by rw [sched_len]; omega)] at hb1'
        have hset := blk_set hb1' (u + 16) (vW (nextW (sched l (u + 16)) (u + 16)))
        rw [Arr_setAt _ _ (sched_len l (u + 16)), ← hs1] at hset
        have hfar := blk_far hb0 (p := ⟨w.heap.size + 1, u + 16, none⟩) (by simp) (vW (nextW (sched l (u + 16)) (u + 16)))
        rw [hnw] at hset hfar
        clear hnw hs1 hb1' hb1 hb0
        generalize (sched l (u + 16)).getD (u + 1) 0#32 = p1 at *
        generalize (sched l (u + 16)).getD (u + 14) 0#32 = p14 at *
        generalize (sched l (u + 16)).getD u 0#32 = p0 at *
        generalize (sched l (u + 16)).getD (u + 9) 0#32 = p9 at *
        have a1 := xor_go (rotr p1 7) (rotr p1 18)
        have a2 := xor_go (wxor (rotr p1 7) (rotr p1 18)) (shr p1 3)
        have a3 := xor_go (rotr p14 17) (rotr p14 19)
        have a4 := xor_go (wxor (rotr p14 17) (rotr p14 19)) (shr p14 10)
        have a5 : tI p1 / 8 = tI (shr p1 3) := shr_go p1 3
        have a6 : tI p14 / 1024 = tI (shr p14 10) := shr_go p14 10
        have a7 := add_go p0 (s0 p1)
        have a8 := add_go (wadd p0 (s0 p1)) p9
        have a9 := add_go (wadd (wadd p0 (s0 p1)) p9) (s1 p14)
        rw [show wxor (wxor (rotr p1 7) (rotr p1 18)) (shr p1 3) = s0 p1 from rfl] at a2
        rw [show wxor (wxor (rotr p14 17) (rotr p14 19)) (shr p14 10) = s1 p14 from rfl] at a4
        have Hset := Lib.hid hset
        have Hfar := Lib.hid hfar
        clear hset hfar
        replace g1 : wr.cell? ⟨w.heap.size + 1, u + 1, none⟩ = some (.int .u32 (tI p1)) := g1
        replace g14 : wr.cell? ⟨w.heap.size + 1, u + 14, none⟩ = some (.int .u32 (tI p14)) := g14
        replace g0 : wr.cell? ⟨w.heap.size + 1, u, none⟩ = some (.int .u32 (tI p0)) := g0
        replace g9 : wr.cell? ⟨w.heap.size + 1, u + 9, none⟩ = some (.int .u32 (tI p9)) := g9
        go_wp2
        go_quiet (fail)
        go_wp2_with (first | (go_at_call 80; ((with_reducible refine (rot_lit p1 7 25 (-7) _ (by omega) (by omega) (by omega) (by omega)).mono ?_); rintro e w' ⟨rfl, rfl⟩)) | (go_at_call 80; ((with_reducible refine (rot_lit p1 18 14 (-18) _ (by omega) (by omega) (by omega) (by omega)).mono ?_); rintro e w' ⟨rfl, rfl⟩)) | (go_at_call 80; ((with_reducible refine (rot_lit p14 17 15 (-17) _ (by omega) (by omega) (by omega) (by omega)).mono ?_); rintro e w' ⟨rfl, rfl⟩)) | (go_at_call 80; ((with_reducible refine (rot_lit p14 19 13 (-19) _ (by omega) (by omega) (by omega) (by omega)).mono ?_); rintro e w' ⟨rfl, rfl⟩)))
        go_region
        go_wp2
        go_roundw
        case rel => exact ⟨u + 16 + 1, by omega, by go_num, Hset.out, Hfar.out, (Below.setCell (w := wr) hB (by simp) _).trans ⟨rfl, rfl, rfl, Nat.le_refl _, fun _ _ => rfl⟩⟩
        case measure => simp [intOf]; omega
    · obtain rfl : t = 64 := by omega
      have hi : (Tryd.prog.info? 107).map (·.size) = some (Arr (sched l 64)).size := by rw [info64, Arr_size _ (by rw [sched_len]; omega)]
      have hsz : (Arr []).size = (Arr (sched l 64)).size := by rw [Arr_size _ (by simp), Arr_size _ (by rw [sched_len]; omega)]
      go_wp2_with (first | (with_reducible refine wpList_load_row rfl 107 (.tmp 3) rfl (w.heap.size + 1) rfl 107 _ _ _ hb1 Tryd.underlying107 rfl hi ?_) | (with_reducible refine wpList_store_row rfl 107 (.tmp 2) (.tmp 78) rfl w.heap.size (Arr (sched l 64)) rfl rfl 107 _ hb0 hi hsz (Arr_one _) ?_))
      exact bodyPost_ret (v := .agg (Arr (sched l 64))) (results_cell_row Tryd.results73 _ _ w.heap.size 107 _ _ _ rfl (blk_setRow hb0 _) Tryd.underlying107 rfl hi) rfl ⟨rfl, below_setRow hB (Nat.le_refl _) _⟩
/-- the same, the schedule under a name of its own -/
theorem sched_as (ws : List W) (b off cap : Nat) (l : List UInt8) (w : World) (hws : Hid (ws = sched l 64)) (hc : 64 ≤ cap) (hb : b < w.heap.size) (hcell : ∀ i, i < 64 → w.cell? ⟨b, off + i, none⟩ = some (mkB (l.getD i 0))) :
    Calls Tryd.prog 73 #[.slice (some ⟨b, off, none⟩) 64 cap] w fun e w' => e = .returned (.agg (Arr ws)) ∧ Below w.heap.size w w' := by
  refine (sched_any b off cap l w hc hb hcell).mono ?_
  rintro e w' ⟨he, hb'⟩
  exact ⟨by rw [he, hws.out], hb'⟩
end Go.Proofs.YtbgieephehfgpabDoor
