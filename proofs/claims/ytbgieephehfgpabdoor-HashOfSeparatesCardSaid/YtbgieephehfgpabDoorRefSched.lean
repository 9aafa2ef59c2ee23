/-
  What the reference's words returns: the message schedule of a block. Condition: the block has 64 bytes.
-/
import Derived.Test.YtbgieephehfgpabDoorRefPad
import Derived.StillTailTactics
namespace Go.Proofs.YtbgieephehfgpabDoor
open Go Go.RowKit Sha
theorem rrotr_q (x : W) (n : Nat) (k : Int) (w : World) (m : Nat) (hk : k = (n : Int)) (hn : 1 ≤ n) (hn' : n ≤ 31) :
    Calls Tryd.prog 77 #[.int .u32 (tI x), .int .i64 k] (w.drewN m) fun e w'' => e = .returned (.int .u32 (tI (rotr x n))) ∧ ∃ j, w'' = w.drewN j := by
  subst hk
  exact Calls.quiet_of (rrotr_any x n _ hn hn')
theorem word4_or (l : List UInt8) (t : Nat) : word4 l t 4 = wor (wor (wor ((BitVec.ofNat 32 (l.getD (4 * t) 0).toNat) <<< 24) ((BitVec.ofNat 32 (l.getD (4 * t + 1) 0).toNat) <<< 16)) ((BitVec.ofNat 32 (l.getD (4 * t + 2) 0).toNat) <<< 8)) (BitVec.ofNat 32 (l.getD (4 * t + 3) 0).toNat) := by
  show push8 (push8 (push8 (push8 0#32 _) _) _) _ = _
  unfold push8 wor
  simp only [BitVec.shiftLeft_or_distrib, ← BitVec.shiftLeft_add, BitVec.zero_shiftLeft, BitVec.zero_or]
  rfl
theorem byte_tI (b : UInt8) : (b.toNat : Int) = tI (BitVec.ofNat 32 b.toNat) := by
  have hb := b.toNat_lt
  unfold tI
  rw [BitVec.toNat_ofNat, Nat.mod_eq_of_lt (by omega)]
theorem byte_shl (b : UInt8) (s : Nat) (hs : s ≤ 24) : (b.toNat : Int) * 2 ^ s = tI ((BitVec.ofNat 32 b.toNat) <<< s) := by
  have hb := b.toNat_lt
  unfold tI
  rw [BitVec.toNat_shiftLeft, BitVec.toNat_ofNat, Nat.mod_eq_of_lt (show b.toNat < 2 ^ 32 by omega), Nat.shiftLeft_eq]
  have hp : (2 : Nat) ^ s ≤ 2 ^ 24 := Nat.pow_le_pow_right (by omega) hs
  have h1 : b.toNat * 2 ^ s < 2 ^ 32 := by
    have := Nat.mul_le_mul (show b.toNat ≤ 255 by omega) hp
    omega
  rw [Nat.mod_eq_of_lt h1]
  simp
set_option maxRecDepth 100000 in
set_option maxHeartbeats 4000000 in
theorem rsched_any (b off cap : Nat) (l : List UInt8) (w : World) (hb : b < w.heap.size) (hcell : ∀ i, i < 64 → w.cell? ⟨b, off + i, none⟩ = some (mkB (l.getD i 0))) :
    Calls Tryd.prog 76 #[.slice (some ⟨b, off, none⟩) 64 cap] w fun e w' => e = .returned (.agg (Arr (sched l 64))) ∧ Below w.heap.size w w' := by
  go_enter Tryd.func76, Tryd.ntmps76
  go_wp2
  go_loopw [4] (fun i wr => ∃ t : Nat, t ≤ 16 ∧ i = .int .i64 (t : Int) ∧ Blk wr (w.heap.size + 1) (Arr (sched l t)) 107 ∧ Blk wr w.heap.size (Arr []) 107 ∧ Below w.heap.size w wr) (fun i _ => 16 - (intOf i).toNat)
  case atStart =>
    refine ⟨0, by omega, rfl, ?_, ?_, ((Below.refl _ _).alloc (Nat.le_refl _) _).alloc (by simp) _⟩
    · have h := blk_new (w.alloc (.cells (Arr []) 107)) (Arr []) 107
      rw [World.size_alloc] at h
      rw [Arr_nil] at h
      rw [show sched l 0 = [] from rfl, Arr_nil]
      exact h
    · have h := blk_alloc (blk_new w (Arr []) 107) (.cells (Arr []) 107)
      rw [Arr_nil] at h ⊢
      exact h
  case round =>
    obtain ⟨t, ht, rfl, hb1, hb0, hB⟩ := hrel
    have hw1 : w.heap.size + 1 < wr.heap.size := blk_lt hb1
    by_cases h16 : t < 16
    · have hcl := fun i (hi : i < 4) => (hB.cell (p := ⟨b, off + (4 * t + i), none⟩) hb).trans (hcell (4 * t + i) (by omega))
      have c0 := hcl 0 (by omega)
      have c1 := hcl 1 (by omega)
      have c2 := hcl 2 (by omega)
      have c3 := hcl 3 (by omega)
      have hsn : sched l (t + 1) = sched l t ++ [word4 l t 4] := by rw [sched, if_pos h16]
      rw [word4_or] at hsn
      simp only [Nat.add_zero] at c0 c1 c2 c3
      generalize l.getD (4 * t) 0 = x0 at *
      generalize l.getD (4 * t + 1) 0 = x1 at *
      generalize l.getD (4 * t + 2) 0 = x2 at *
      generalize l.getD (4 * t + 3) 0 = x3 at *
      have k0 : wr.cell? ⟨b, off + 4 * t, none⟩ = some (.int .u8 (x0.toNat : Int)) := c0
      have k1 : wr.cell? ⟨b, off + (4 * t + 1), none⟩ = some (.int .u8 (x1.toNat : Int)) := c1
      have k2 : wr.cell? ⟨b, off + (4 * t + 2), none⟩ = some (.int .u8 (x2.toNat : Int)) := c2
      have k3 : wr.cell? ⟨b, off + (4 * t + 3), none⟩ = some (.int .u8 (x3.toNat : Int)) := c3
      have hbx0 := byte_bd x0
      have hbx1 := byte_bd x1
      have hbx2 := byte_bd x2
      have hbx3 := byte_bd x3
      have s0 : (x0.toNat : Int) * 16777216 = _ := byte_shl x0 24 (by omega)
      have s1 : (x1.toNat : Int) * 65536 = _ := byte_shl x1 16 (by omega)
      have s2 : (x2.toNat : Int) * 256 = _ := byte_shl x2 8 (by omega)
      have s3 := byte_tI x3
      generalize BitVec.ofNat 32 x0.toNat <<< 24 = A0 at *
      generalize BitVec.ofNat 32 x1.toNat <<< 16 = A1 at *
      generalize BitVec.ofNat 32 x2.toNat <<< 8 = A2 at *
      generalize BitVec.ofNat 32 x3.toNat = A3 at *
      have o1 := or_go A0 A1
      have o2 := or_go (wor A0 A1) A2
      have o3 : bits .or .u32 (tI (wor (wor A0 A1) A2)) (x3.toNat : Int) = tI (wor (wor (wor A0 A1) A2) A3) := by rw [s3]; exact or_go _ _
      have hcz : wr.cell? ⟨w.heap.size + 1, t, none⟩ = some (.int .u32 (tI 0#32)) := (blk_cell hb1 _).trans (Arr_zero _ _ (by rw [sched_len]; omega) (by omega))
      have hfz := blk_free hb1 t
      have hb1' := hb1
      rw [← Arr_snoc0 _ (by rw [sched_len]; omega)] at hb1'
      have hset := blk_set hb1' t (vW (wor (wor (wor A0 A1) A2) A3))
      rw [Arr_setAt _ _ (sched_len l t), ← hsn] at hset
      have hfar := blk_far hb0 (p := ⟨w.heap.size + 1, t, none⟩) (by simp) (vW (wor (wor (wor A0 A1) A2) A3))
      have Hset := Lib.hid hset
      have Hfar := Lib.hid hfar
      clear hsn hset hfar hb1' c0 c1 c2 c3 hcl hb1 hb0 s3
      go_wp2
      have y0 : IntKind.i64.wrap (4 * (t : Int)) = 4 * (t : Int) := IntWalk.i64_in _ (by omega)
      have y1 : IntKind.i64.wrap (4 * (t : Int) + 1) = 4 * (t : Int) + 1 := IntWalk.i64_in _ (by omega)
      have y2 : IntKind.i64.wrap (4 * (t : Int) + 2) = 4 * (t : Int) + 2 := IntWalk.i64_in _ (by omega)
      have y3 : IntKind.i64.wrap (4 * (t : Int) + 3) = 4 * (t : Int) + 3 := IntWalk.i64_in _ (by omega)
      have z0 : (4 * (t : Int)).toNat = 4 * t := by omega
      have z1 : (4 * (t : Int) + 1).toNat = 4 * t + 1 := by omega
      have z2 : (4 * (t : Int) + 2).toNat = 4 * t + 2 := by omega
      have z3 : (4 * (t : Int) + 3).toNat = 4 * t + 3 := by omega
      have n0 : (0 : Int) ≤ 4 * (t : Int) := by omega
      have n1 : (0 : Int) ≤ 4 * (t : Int) + 1 := by omega
      have n2 : (0 : Int) ≤ 4 * (t : Int) + 2 := by omega
      have n3 : (0 : Int) ≤ 4 * (t : Int) + 3 := by omega
      have m0 : 4 * (t : Int) < 64 := by omega
      have m1 : 4 * (t : Int) + 1 < 64 := by omega
      have m2 : 4 * (t : Int) + 2 < 64 := by omega
      have m3 : 4 * (t : Int) + 3 < 64 := by omega
      have mt : (t : Int) < 64 := by omega
      have v0 : IntKind.u32.wrap (tI A0) = tI A0 := IntWalk.u32_in _ (by have := tI_lo A0; have := tI_hi A0; omega)
      have v1 : IntKind.u32.wrap (tI A1) = tI A1 := IntWalk.u32_in _ (by have := tI_lo A1; have := tI_hi A1; omega)
      have v2 : IntKind.u32.wrap (tI A2) = tI A2 := IntWalk.u32_in _ (by have := tI_lo A2; have := tI_hi A2; omega)
      have q0 : IntKind.u32.wrap (x0.toNat : Int) = (x0.toNat : Int) := IntWalk.u32_in _ (by omega)
      have q1 : IntKind.u32.wrap (x1.toNat : Int) = (x1.toNat : Int) := IntWalk.u32_in _ (by omega)
      have q2 : IntKind.u32.wrap (x2.toNat : Int) = (x2.toNat : Int) := IntWalk.u32_in _ (by omega)
      have q3 : IntKind.u32.wrap (x3.toNat : Int) = (x3.toNat : Int) := IntWalk.u32_in _ (by omega)
      go_still_tail 35, (by kernel_rfl)
      clear y0 y1 y2 y3 z0 z1 z2 z3 n0 n1 n2 n3 m0 m1 m2 m3 v0 v1 v2 q0 q1 q2 q3
      change wpList _ _ _ _ _ wr.drew
      have hcz' : wr.drew.cell? ⟨w.heap.size + 1, t, none⟩ = some (.int .u32 (tI 0#32)) := hcz
      have hfz' : wr.drew.frozen? ⟨w.heap.size + 1, t, none⟩ = false := hfz
      clear hcz hfz k0 k1 k2 k3
      go_wp2
      go_roundw
      case rel => exact ⟨t + 1, by omega, by go_num, Hset.out, Hfar.out, (Below.setCell (w := wr) hB (by simp) _).drew⟩
      case measure => simp [intOf]; omega
    · obtain rfl : t = 16 := by omega
      go_wp2
      obtain ⟨wo, rfl⟩ : ∃ wo : World, wo = wr := ⟨_, rfl⟩
      go_loopw [5, 6, 7] (fun i _ _ wr => ∃ u : Nat, u ≤ 48 ∧ i = .int .i64 ((u : Int) + 16) ∧ Blk wr (w.heap.size + 1) (Arr (sched l (u + 16))) 107 ∧ Blk wr w.heap.size (Arr []) 107 ∧ Below w.heap.size w wr) (fun i _ _ _ => 64 - (intOf i).toNat)
      case atStart => exact ⟨0, by omega, rfl, hb1, hb0, hB⟩
      case round =>
        clear hb1 hb0 hB hw1
        obtain ⟨u, hu, rfl, hb1, hb0, hB⟩ := hrel
        have hw1 : w.heap.size + 1 < wr.heap.size := blk_lt hb1
        by_cases h48 : u < 48
        · have d64 : decide ((u : Int) + 16 < 64) = true := by simp; omega
          have hget : ∀ i, i < u + 16 → wr.cell? ⟨w.heap.size + 1, i, none⟩ = some (vW ((sched l (u + 16)).getD i 0#32)) := fun i hi => (blk_cell hb1 i).trans (Arr_get _ _ (by rw [sched_len]; exact hi))
          have g1 := hget (u + 1) (by omega)
          have g14 := hget (u + 14) (by omega)
          have g0 := hget u (by omega)
          have g9 := hget (u + 9) (by omega)
          clear hget
          have hcz : wr.cell? ⟨w.heap.size + 1, u + 16, none⟩ = some (.int .u32 (tI 0#32)) := (blk_cell hb1 _).trans (Arr_zero _ _ (by rw [sched_len]; omega) (by omega))
          have hfz := blk_free hb1 (u + 16)
          have hs1 : sched l (u + 16 + 1) = sched l (u + 16) ++ [nextW (sched l (u + 16)) (u + 16)] := by rw [sched, if_neg (by omega)]
          have hnw : nextW (sched l (u + 16)) (u + 16) = wadd (wadd (wadd ((sched l (u + 16)).getD u 0#32) (s0 ((sched l (u + 16)).getD (u + 1) 0#32))) ((sched l (u + 16)).getD (u + 9) 0#32)) (s1 ((sched l (u + 16)).getD (u + 14) 0#32)) := rfl
          have hb1' := hb1
          rw [← Arr_snoc0 _ (by rw [sched_len]; omega)] at hb1'
          have hset := blk_set hb1' (u + 16) (vW (nextW (sched l (u + 16)) (u + 16)))
          rw [Arr_setAt _ _ (sched_len l (u + 16)), ← hs1] at hset
          have hfar := blk_far hb0 (p := ⟨w.heap.size + 1, u + 16, none⟩) (by simp) (vW (nextW (sched l (u + 16)) (u + 16)))
          rw [hnw] at hset hfar
          clear hnw hs1 hb1' hb1 hb0
          generalize (sched l (u + 16)).getD (u + 1) 0#32 = p1 at *
          generalize (sched l (u + 16)).getD (u + 14) 0#32 = p14 at *
          generalize (sched l (u + 16)).getD u 0#32 = p0 at *
          generalize (sched l (u + 16)).getD (u + 9) 0#32 = p9 at *
          have a1 := xor_go (rotr p1 7) (rotr p1 18)
          have a2 := xor_go (wxor (rotr p1 7) (rotr p1 18)) (shr p1 3)
          have a3 := xor_go (rotr p14 17) (rotr p14 19)
          have a4 := xor_go (wxor (rotr p14 17) (rotr p14 19)) (shr p14 10)
          have a5 : tI p1 / 8 = tI (shr p1 3) := shr_go p1 3
          have a6 : tI p14 / 1024 = tI (shr p14 10) := shr_go p14 10
          have a7 := add_go p0 (s0 p1)
          have a8 := add_go (wadd p0 (s0 p1)) p9
          have a9 := add_go (wadd (wadd p0 (s0 p1)) p9) (s1 p14)
          rw [show wxor (wxor (rotr p1 7) (rotr p1 18)) (shr p1 3) = s0 p1 from rfl] at a2
          rw [show wxor (wxor (rotr p14 17) (rotr p14 19)) (shr p14 10) = s1 p14 from rfl] at a4
          have Hset := Lib.hid hset
          have Hfar := Lib.hid hfar
          clear hset hfar
          replace g1 : wr.cell? ⟨w.heap.size + 1, u + 1, none⟩ = some (.int .u32 (tI p1)) := g1
          replace g14 : wr.cell? ⟨w.heap.size + 1, u + 14, none⟩ = some (.int .u32 (tI p14)) := g14
          replace g0 : wr.cell? ⟨w.heap.size + 1, u, none⟩ = some (.int .u32 (tI p0)) := g0
          replace g9 : wr.cell? ⟨w.heap.size + 1, u + 9, none⟩ = some (.int .u32 (tI p9)) := g9
          go_wp2
          have y1 : IntKind.i64.wrap ((u : Int) + 16 - 15) = (u : Int) + 1 := by rw [IntWalk.i64_in _ (by omega)]; omega
          have y2 : IntKind.i64.wrap ((u : Int) + 16 - 2) = (u : Int) + 14 := by rw [IntWalk.i64_in _ (by omega)]; omega
          have z1 : ((u : Int) + 1).toNat = u + 1 := by omega
          have z2 : ((u : Int) + 14).toNat = u + 14 := by omega
          have n1 : (0 : Int) ≤ (u : Int) + 1 := by omega
          have n2 : (0 : Int) ≤ (u : Int) + 14 := by omega
          have m1 : (u : Int) + 1 < 64 := by omega
          have m2 : (u : Int) + 14 < 64 := by omega
          go_quiet (first | (go_at_call 77; with_reducible exact rrotr_q p1 7 7 _ _ rfl (by omega) (by omega)) | (go_at_call 77; with_reducible exact rrotr_q p1 18 18 _ _ rfl (by omega) (by omega)))
          go_wp2
          generalize hq : wr.drewN nq = wq
          have e14 : wq.cell? ⟨w.heap.size + 1, u + 14, none⟩ = some (.int .u32 (tI p14)) := by rw [← hq]; exact g14
          have e0 : wq.cell? ⟨w.heap.size + 1, u, none⟩ = some (.int .u32 (tI p0)) := by rw [← hq]; exact g0
          have e9 : wq.cell? ⟨w.heap.size + 1, u + 9, none⟩ = some (.int .u32 (tI p9)) := by rw [← hq]; exact g9
          have ez : wq.cell? ⟨w.heap.size + 1, u + 16, none⟩ = some (.int .u32 (tI 0#32)) := by rw [← hq]; exact hcz
          have ef : wq.frozen? ⟨w.heap.size + 1, u + 16, none⟩ = false := by rw [← hq]; exact hfz
          have Hset2 : Hid (Blk (wq.setCell ⟨w.heap.size + 1, u + 16, none⟩ (vW (wadd (wadd (wadd p0 (s0 p1)) p9) (s1 p14)))) (w.heap.size + 1) (Arr (sched l (u + 16 + 1))) 107) := Lib.hid (by rw [← hq]; exact Hset.out)
          have Hfar2 : Hid (Blk (wq.setCell ⟨w.heap.size + 1, u + 16, none⟩ (vW (wadd (wadd (wadd p0 (s0 p1)) p9) (s1 p14)))) w.heap.size (Arr []) 107) := Lib.hid (by rw [← hq]; exact Hfar.out)
          have hBq : Below w.heap.size w wq := by rw [← hq]; exact hB.trans ⟨rfl, rfl, rfl, Nat.le_refl _, fun _ _ => rfl⟩
          have hwq : w.heap.size + 1 < wq.heap.size := by rw [← hq]; exact hw1
          clear hq g1 g14 g0 g9 hcz hfz Hset Hfar hB hw1 y1 z1 n1 m1 a1 a2 a5
          go_quiet (first | (go_at_call 77; with_reducible exact rrotr_q p14 17 17 _ _ rfl (by omega) (by omega)) | (go_at_call 77; with_reducible exact rrotr_q p14 19 19 _ _ rfl (by omega) (by omega)))
          go_wp2
          generalize hq : wq.drewN nq = wp
          have k0 : wp.cell? ⟨w.heap.size + 1, u, none⟩ = some (.int .u32 (tI p0)) := by rw [← hq]; exact e0
          have k9 : wp.cell? ⟨w.heap.size + 1, u + 9, none⟩ = some (.int .u32 (tI p9)) := by rw [← hq]; exact e9
          have kz : wp.cell? ⟨w.heap.size + 1, u + 16, none⟩ = some (.int .u32 (tI 0#32)) := by rw [← hq]; exact ez
          have kf : wp.frozen? ⟨w.heap.size + 1, u + 16, none⟩ = false := by rw [← hq]; exact ef
          have Hset : Hid (Blk (wp.setCell ⟨w.heap.size + 1, u + 16, none⟩ (vW (wadd (wadd (wadd p0 (s0 p1)) p9) (s1 p14)))) (w.heap.size + 1) (Arr (sched l (u + 16 + 1))) 107) := Lib.hid (by rw [← hq]; exact Hset2.out)
          have Hfar : Hid (Blk (wp.setCell ⟨w.heap.size + 1, u + 16, none⟩ (vW (wadd (wadd (wadd p0 (s0 p1)) p9) (s1 p14)))) w.heap.size (Arr []) 107) := Lib.hid (by rw [← hq]; exact Hfar2.out)
          have hBp : Below w.heap.size w wp := by rw [← hq]; exact hBq.trans ⟨rfl, rfl, rfl, Nat.le_refl _, fun _ _ => rfl⟩
          have hwp : w.heap.size + 1 < wp.heap.size := by rw [← hq]; exact hwq
          clear hq e14 e0 e9 ez ef Hset2 Hfar2 hBq hwq y2 z2 n2 m2 a3 a4 a6
          go_region
          go_wp2
          go_roundw
          case rel => exact ⟨u + 1, by omega, by go_num, Hset.out, Hfar.out, (hBp.setCell (by simp) _).drew⟩
          case measure => simp [intOf]; omega
        · obtain rfl : u = 48 := by omega
          have hi : (Tryd.prog.info? 107).map (·.size) = some (Arr (sched l 64)).size := by rw [info64, Arr_size _ (by rw [sched_len]; omega)]
          have hsz : (Arr []).size = (Arr (sched l 64)).size := by rw [Arr_size _ (by simp), Arr_size _ (by rw [sched_len]; omega)]
          go_wp2_with (first | (with_reducible refine wpList_load_row rfl 107 (.tmp 3) rfl (w.heap.size + 1) rfl 107 _ _ _ hb1 Tryd.underlying107 rfl hi ?_) | (with_reducible refine wpList_store_row rfl 107 (.tmp 2) (.tmp 100) rfl w.heap.size (Arr (sched l 64)) rfl rfl 107 _ hb0 hi hsz (Arr_one _) ?_))
          exact bodyPost_ret (v := .agg (Arr (sched l 64))) (results_cell_row Tryd.results76 _ _ w.heap.size 107 _ _ _ rfl (blk_setRow hb0 _) Tryd.underlying107 rfl hi) rfl ⟨rfl, below_setRow hB (Nat.le_refl _) _⟩
end Go.Proofs.YtbgieephehfgpabDoor
