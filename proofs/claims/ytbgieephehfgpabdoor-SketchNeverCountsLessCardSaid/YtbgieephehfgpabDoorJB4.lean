/-
  Several texts of this proof in one: RefSched, RefSum, RefOf, RefShort, Hex, HexStr, CrcTimes, CrcJoin, Sanity. Each states its own conditions.
-/
import Derived.Test.YtbgieephehfgpabDoorJB3
import Derived.StillTailTactics
import Derived.Test.YtbgieephehfgpabDoorJB2
import Derived.Deep.RegionLaw
import Derived.Deep.AppendLies
import Derived.Lib.SlBytesConst
import Derived.DeepKeys
/-
  What the reference's words returns: the message schedule of a block. Condition: the block has 64 bytes.
-/
namespace Go.Proofs.YtbgieephehfgpabDoor
open Go Go.RowKit Sha
theorem rrotr_q (x : W) (n : Nat) (k : Int) (w : World) (m : Nat) (hk : k = (n : Int)) (hn : 1 ≤ n) (hn' : n ≤ 31) :
    Calls Tryd.prog 77 #[.int .u32 (tI x), .int .i64 k] (w.drewN m) fun e w'' => e = .returned (.int .u32 (tI (rotr x n))) ∧ ∃ j, w'' = w.drewN j := by
  subst hk
  exact Calls.quiet_of (rrotr_any x n _ hn hn')
theorem word4_or (l : List UInt8) (t : Nat) : word4 l t 4 = wor (wor (wor ((BitVec.ofNat 32 (l.getD (4 * t) 0).toNat) <<< 24) ((BitVec.ofNat 32 (l.getD (4 * t + 1) 0).toNat) <<< 16)) ((BitVec.ofNat 32 (l.getD (4 * t + 2) 0).toNat) <<< 8)) (BitVec.ofNat 32 (l.getD (4 * t + 3) 0).toNat) := by
  show push8 (push8 (push8 (push8 0#32 _) _) _) _ = _
  unfold push8 wor
  simp only [BitVec.shiftLeft_or_distrib, ← BitVec.shiftLeft_add, BitVec.zero_shiftLeft, BitVec.zero_or]
  rfl
theorem byte_tI (b : UInt8) : (b.toNat : Int) = tI (BitVec.ofNat 32 b.toNat) := by
  have hb := b.toNat_lt
  unfold tI
  rw [BitVec.toNat_ofNat, Nat.mod_eq_of_lt (by omega)]
theorem byte_shl (b : UInt8) (s : Nat) (hs : s ≤ 24) : (b.toNat : Int) * 2 ^ s = tI ((BitVec.ofNat 32 b.toNat) <<< s) := by
  have hb := b.toNat_lt
  unfold tI
  rw [BitVec.toNat_shiftLeft, BitVec.toNat_ofNat, Nat.mod_eq_of_lt (show b.toNat < 2 ^ 32 by omega), Nat.shiftLeft_eq]
  have hp : (2 : Nat) ^ s ≤ 2 ^ 24 := Nat.pow_le_pow_right (by omega) hs
  have h1 : b.toNat * 2 ^ s < 2 ^ 32 := by
    have := Nat.mul_le_mul (show b.toNat ≤ 255 by omega) hp
    omega
  rw [Nat.mod_eq_of_lt h1]
  simp
set_option maxRecDepth 100000 in
set_option maxHeartbeats 4000000 in
theorem rsched_any (b off cap : Nat) (l : List UInt8) (w : World) (hb : b < w.heap.size) (hcell : ∀ i, i < 64 → w.cell? ⟨b, off + i, none⟩ = some (mkB (l.getD i 0))) :
    Calls Tryd.prog 76 #[.slice (some ⟨b, off, none⟩) 64 cap] w fun e w' => e = .returned (.agg (Arr (sched l 64))) ∧ Below w.heap.size w w' := by
  go_enter Tryd.func76, Tryd.ntmps76
  go_wp2
  go_loopw [4] (fun i wr => ∃ t : Nat, t ≤ 16 ∧ i = .int .i64 (t : Int) ∧ Blk wr (w.heap.size + 1) (Arr (sched l t)) 107 ∧ Blk wr w.heap.size (Arr []) 107 ∧ Below w.heap.size w wr) (fun i _ => 16 - (intOf i).toNat)
  case atStart =>
    refine ⟨0, by omega, rfl, ?_, ?_, ((Below.refl _ _).alloc (Nat.le_refl _) _).alloc (by simp) _⟩
    · have h := blk_new (w.alloc (.cells (Arr []) 107)) (Arr []) 107
      rw [World.size_alloc] at h
      rw [Arr_nil] at h
      rw [show sched l 0 = [] from rfl, Arr_nil]
      exact h
    · have h := blk_alloc (blk_new w (Arr []) 107) (.cells (Arr []) 107)
      rw [Arr_nil] at h ⊢
      exact h
  case round =>
    obtain ⟨t, ht, rfl, hb1, hb0, hB⟩ := hrel
    have hw1 : w.heap.size + 1 < wr.heap.size := blk_lt hb1
    by_cases h16 : t < 16
    · have hcl := fun i (hi : i < 4) => (hB.cell (p := ⟨b, off + (4 * t + i), none⟩) hb).trans (hcell (4 * t + i) (by omega))
      have c0 := hcl 0 (by omega)
      have c1 := hcl 1 (by omega)
      have c2 := hcl 2 (by omega)
      have c3 := hcl 3 (by omega)
      have hsn : sched l (t + 1) = sched l t ++ [word4 l t 4] := by rw [sched, if_pos h16]
      rw [word4_or] at hsn
      simp only [Nat.add_zero] at c0 c1 c2 c3
      generalize l.getD (4 * t) 0 = x0 at *
      generalize l.getD (4 * t + 1) 0 = x1 at *
      generalize l.getD (4 * t + 2) 0 = x2 at *
      generalize l.getD (4 * t + 3) 0 = x3 at *
      have k0 : wr.cell? ⟨b, off + 4 * t, none⟩ = some (.int .u8 (x0.toNat : Int)) := c0
      have k1 : wr.cell? ⟨b, off + (4 * t + 1), none⟩ = some (.int .u8 (x1.toNat : Int)) := c1
      have k2 : wr.cell? ⟨b, off + (4 * t + 2), none⟩ = some (.int .u8 (x2.toNat : Int)) := c2
      have k3 : wr.cell? ⟨b, off + (4 * t + 3), none⟩ = some (.int .u8 (x3.toNat : Int)) := c3
      have hbx0 := byte_bd x0
      have hbx1 := byte_bd x1
      have hbx2 := byte_bd x2
      have hbx3 := byte_bd x3
      have s0 : (x0.toNat : Int) * 16777216 = _ := byte_shl x0 24 (by omega)
      have s1 : (x1.toNat : Int) * 65536 = _ := byte_shl x1 16 (by omega)
      have s2 : (x2.toNat : Int) * 256 = _ := byte_shl x2 8 (by omega)
      have s3 := byte_tI x3
      generalize BitVec.ofNat 32 x0.toNat <<< 24 = A0 at *
      generalize BitVec.ofNat 32 x1.toNat <<< 16 = A1 at *
      generalize BitVec.ofNat 32 x2.toNat <<< 8 = A2 at *
      generalize BitVec.ofNat 32 x3.toNat = A3 at *
      have o1 := or_go A0 A1
      have o2 := or_go (wor A0 A1) A2
      have o3 : bits .or .u32 (tI (wor (wor A0 A1) A2)) (x3.toNat : Int) = tI (wor (wor (wor A0 A1) A2) A3) := by rw [s3]; exact or_go _ _
      have hcz : wr.cell? ⟨w.heap.size + 1, t, none⟩ = some (.int .u32 (tI 0#32)) := (blk_cell hb1 _).trans (Arr_zero _ _ (by rw [sched_len]; omega) (by omega))
      have hfz := blk_free hb1 t
      have hb1' := hb1
      rw [← Arr_snoc0 _ (by rw [sched_len]; omega)] at hb1'
      have hset := blk_set hb1' t (vW (wor (wor (wor A0 A1) A2) A3))
      rw [Arr_setAt _ _ (sched_len l t), ← hsn] at hset
      have hfar := blk_far hb0 (p := ⟨w.heap.size + 1, t, none⟩) (by simp) (vW (wor (wor (wor A0 A1) A2) A3))
      have Hset := Lib.hid hset
      have Hfar := Lib.hid hfar
      clear hsn hset hfar hb1' c0 c1 c2 c3 hcl hb1 hb0 s3
      go_wp2
      have y0 : IntKind.i64.wrap (4 * (t : Int)) = 4 * (t : Int) := IntWalk.i64_in _ (by omega)
      have y1 : IntKind.i64.wrap (4 * (t : Int) + 1) = 4 * (t : Int) + 1 := IntWalk.i64_in _ (by omega)
      have y2 : IntKind.i64.wrap (4 * (t : Int) + 2) = 4 * (t : Int) + 2 := IntWalk.i64_in _ (by omega)
      have y3 : IntKind.i64.wrap (4 * (t : Int) + 3) = 4 * (t : Int) + 3 := IntWalk.i64_in _ (by omega)
      have z0 : (4 * (t : Int)).toNat = 4 * t := by omega
      have z1 : (4 * (t : Int) + 1).toNat = 4 * t + 1 := by omega
      have z2 : (4 * (t : Int) + 2).toNat = 4 * t + 2 := by omega
      have z3 : (4 * (t : Int) + 3).toNat = 4 * t + 3 := by omega
      have n0 : (0 : Int) ≤ 4 * (t : Int) := by omega
      have n1 : (0 : Int) ≤ 4 * (t : Int) + 1 := by omega
      have n2 : (0 : Int) ≤ 4 * (t : Int) + 2 := by omega
      have n3 : (0 : Int) ≤ 4 * (t : Int) + 3 := by omega
      have m0 : 4 * (t : Int) < 64 := by omega
      have m1 : 4 * (t : Int) + 1 < 64 := by omega
      have m2 : 4 * (t : Int) + 2 < 64 := by omega
      have m3 : 4 * (t : Int) + 3 < 64 := by omega
      have mt : (t : Int) < 64 := by omega
      have v0 : IntKind.u32.wrap (tI A0) = tI A0 := IntWalk.u32_in _ (by have := tI_lo A0; have := tI_hi A0; omega)
      have v1 : IntKind.u32.wrap (tI A1) = tI A1 := IntWalk.u32_in _ (by have := tI_lo A1; have := tI_hi A1; omega)
      have v2 : IntKind.u32.wrap (tI A2) = tI A2 := IntWalk.u32_in _ (by have := tI_lo A2; have := tI_hi A2; omega)
      have q0 : IntKind.u32.wrap (x0.toNat : Int) = (x0.toNat : Int) := IntWalk.u32_in _ (by omega)
      have q1 : IntKind.u32.wrap (x1.toNat : Int) = (x1.toNat : Int) := IntWalk.u32_in _ (by omega)
      have q2 : IntKind.u32.wrap (x2.toNat : Int) = (x2.toNat : Int) := IntWalk.u32_in _ (by omega)
      have q3 : IntKind.u32.wrap (x3.toNat : Int) = (x3.toNat : Int) := IntWalk.u32_in _ (by omega)
      go_still_tail 35, (by kernel_rfl)
      clear y0 y1 y2 y3 z0 z1 z2 z3 n0 n1 n2 n3 m0 m1 m2 m3 v0 v1 v2 q0 q1 q2 q3
      change wpList _ _ _ _ _ wr.drew
      have hcz' : wr.drew.cell? ⟨w.heap.size + 1, t, none⟩ = some (.int .u32 (tI 0#32)) := hcz
      have hfz' : wr.drew.frozen? ⟨w.heap.size + 1, t, none⟩ = false := hfz
      clear hcz hfz k0 k1 k2 k3
      go_wp2
      go_roundw
      case rel => exact ⟨t + 1, by omega, by go_num, Hset.out, Hfar.out, (Below.setCell (w := wr) hB (by simp) _).drew⟩
      case measure => simp [intOf]; omega
    · obtain rfl : t = 16 := by omega
      go_wp2
      obtain ⟨wo, rfl⟩ : ∃ wo : World, wo = wr := ⟨_, rfl⟩
      go_loopw [5, 6, 7] (fun i _ _ wr => ∃ u : Nat, u ≤ 48 ∧ i = .int .i64 ((u : Int) + 16) ∧ Blk wr (w.heap.size + 1) (Arr (sched l (u + 16))) 107 ∧ Blk wr w.heap.size (Arr []) 107 ∧ Below w.heap.size w wr) (fun i _ _ _ => 64 - (intOf i).toNat)
      case atStart => exact ⟨0, by omega, rfl, hb1, hb0, hB⟩
      case round =>
        clear hb1 hb0 hB hw1
        obtain ⟨u, hu, rfl, hb1, hb0, hB⟩ := hrel
        have hw1 : w.heap.size + 1 < wr.heap.size := blk_lt hb1
        by_cases h48 : u < 48
        · have d64 : decide ((u : Int) + 16 < 64) = true := by simp; omega
          have hget : ∀ i, i < u + 16 → wr.cell? ⟨w.heap.size + 1, i, none⟩ = some (vW ((sched l (u + 16)).getD i 0#32)) := fun i hi => (blk_cell hb1 i).trans (Arr_get _ _ (by rw [sched_len]; exact hi))
          have g1 := hget (u + 1) (by omega)
          have g14 := hget (u + 14) (by omega)
          have g0 := hget u (by omega)
          have g9 := hget (u + 9) (by omega)
          clear hget
          have hcz : wr.cell? ⟨w.heap.size + 1, u + 16, none⟩ = some (.int .u32 (tI 0#32)) := (blk_cell hb1 _).trans (Arr_zero _ _ (by rw [sched_len]; omega) (by omega))
          have hfz := blk_free hb1 (u + 16)
          have hs1 : sched l (u + 16 + 1) = sched l (u + 16) ++ [nextW (sched l (u + 16)) (u + 16)] := by rw [sched, if_neg (by omega)]
          have hnw : nextW (sched l (u + 16)) (u + 16) = wadd (wadd (wadd ((sched l (u + 16)).getD u 0#32) (s0 ((sched l (u + 16)).getD (u + 1) 0#32))) ((sched l (u + 16)).getD (u + 9) 0#32)) (s1 ((sched l (u + 16)).getD (u + 14) 0#32)) := rfl
          have hb1' := hb1
          rw [← Arr_snoc0 _ (by rw [sched_len]; omega)] at hb1'
          have hset := blk_set hb1' (u + 16) (vW (nextW (sched l (u + 16)) (u + 16)))
          rw [Arr_setAt _ _ (sched_len l (u + 16)), ← hs1] at hset
          have hfar := blk_far hb0 (p := ⟨w.heap.size + 1, u + 16, none⟩) (by simp) (vW (nextW (sched l (u + 16)) (u + 16)))
          rw [hnw] at hset hfar
          clear hnw hs1 hb1' hb1 hb0
          generalize (sched l (u + 16)).getD (u + 1) 0#32 = p1 at *
          generalize (sched l (u + 16)).getD (u + 14) 0#32 = p14 at *
          generalize (sched l (u + 16)).getD u 0#32 = p0 at *
          generalize (sched l (u + 16)).getD (u + 9) 0#32 = p9 at *
          have a1 := xor_go (rotr p1 7) (rotr p1 18)
          have a2 := xor_go (wxor (rotr p1 7) (rotr p1 18)) (shr p1 3)
          have a3 := xor_go (rotr p14 17) (rotr p14 19)
          have a4 := xor_go (wxor (rotr p14 17) (rotr p14 19)) (shr p14 10)
          have a5 : tI p1 / 8 = tI (shr p1 3) := shr_go p1 3
          have a6 : tI p14 / 1024 = tI (shr p14 10) := shr_go p14 10
          have a7 := add_go p0 (s0 p1)
          have a8 := add_go (wadd p0 (s0 p1)) p9
          have a9 := add_go (wadd (wadd p0 (s0 p1)) p9) (s1 p14)
          rw [show wxor (wxor (rotr p1 7) (rotr p1 18)) (shr p1 3) = s0 p1 from rfl] at a2
          rw [show wxor (wxor (rotr p14 17) (rotr p14 19)) (shr p14 10) = s1 p14 from rfl] at a4
          have Hset := Lib.hid hset
          have Hfar := Lib.hid hfar
          clear hset hfar
          replace g1 : wr.cell? ⟨w.heap.size + 1, u + 1, none⟩ = some (.int .u32 (tI p1)) := g1
          replace g14 : wr.cell? ⟨w.heap.size + 1, u + 14, none⟩ = some (.int .u32 (tI p14)) := g14
          replace g0 : wr.cell? ⟨w.heap.size + 1, u, none⟩ = some (.int .u32 (tI p0)) := g0
          replace g9 : wr.cell? ⟨w.heap.size + 1, u + 9, none⟩ = some (.int .u32 (tI p9)) := g9
          go_wp2
          have y1 : IntKind.i64.wrap ((u : Int) + 16 - 15) = (u : Int) + 1 := by rw [IntWalk.i64_in _ (by omega)]; omega
          have y2 : IntKind.i64.wrap ((u : Int) + 16 - 2) = (u : Int) + 14 := by rw [IntWalk.i64_in _ (by omega)]; omega
          have z1 : ((u : Int) + 1).toNat = u + 1 := by omega
          have z2 : ((u : Int) + 14).toNat = u + 14 := by omega
          have n1 : (0 : Int) ≤ (u : Int) + 1 := by omega
          have n2 : (0 : Int) ≤ (u : Int) + 14 := by omega
          have m1 : (u : Int) + 1 < 64 := by omega
          have m2 : (u : Int) + 14 < 64 := by omega
          go_quiet (first | (go_at_call 77; with_reducible exact rrotr_q p1 7 7 _ _ rfl (by omega) (by omega)) | (go_at_call 77; with_reducible exact rrotr_q p1 18 18 _ _ rfl (by omega) (by omega)))
          go_wp2
          generalize hq : wr.drewN nq = wq
          have e14 : wq.cell? ⟨w.heap.size + 1, u + 14, none⟩ = some (.int .u32 (tI p14)) := by rw [← hq]; exact g14
          have e0 : wq.cell? ⟨w.heap.size + 1, u, none⟩ = some (.int .u32 (tI p0)) := by rw [← hq]; exact g0
          have e9 : wq.cell? ⟨w.heap.size + 1, u + 9, none⟩ = some (.int .u32 (tI p9)) := by rw [← hq]; exact g9
          have ez : wq.cell? ⟨w.heap.size + 1, u + 16, none⟩ = some (.int .u32 (tI 0#32)) := by rw [← hq]; exact hcz
          have ef : wq.frozen? ⟨w.heap.size + 1, u + 16, none⟩ = false := by rw [← hq]; exact hfz
          have Hset2 : Hid (Blk (wq.setCell ⟨w.heap.size + 1, u + 16, none⟩ (vW (wadd (wadd (wadd p0 (s0 p1)) p9) (s1 p14)))) (w.heap.size + 1) (Arr (sched l (u + 16 + 1))) 107) := Lib.hid (by rw [← hq]; exact Hset.out)
          have Hfar2 : Hid (Blk (wq.setCell ⟨w.heap.size + 1, u + 16, none⟩ (vW (wadd (wadd (wadd p0 (s0 p1)) p9) (s1 p14)))) w.heap.size (Arr []) 107) := Lib.hid (by rw [← hq]; exact Hfar.out)
          have hBq : Below w.heap.size w wq := by rw [← hq]; exact hB.trans ⟨rfl, rfl, rfl, Nat.le_refl _, fun _ _ => rfl⟩
          have hwq : w.heap.size + 1 < wq.heap.size := by rw [← hq]; exact hw1
          clear hq g1 g14 g0 g9 hcz hfz Hset Hfar hB hw1 y1 z1 n1 m1 a1 a2 a5
          go_quiet (first | (go_at_call 77; with_reducible exact rrotr_q p14 17 17 _ _ rfl (by omega) (by omega)) | (go_at_call 77; with_reducible exact rrotr_q p14 19 19 _ _ rfl (by omega) (by omega)))
          go_wp2
          generalize hq : wq.drewN nq = wp
          have k0 : wp.cell? ⟨w.heap.size + 1, u, none⟩ = some (.int .u32 (tI p0)) := by rw [← hq]; exact e0
          have k9 : wp.cell? ⟨w.heap.size + 1, u + 9, none⟩ = some (.int .u32 (tI p9)) := by rw [← hq]; exact e9
          have kz : wp.cell? ⟨w.heap.size + 1, u + 16, none⟩ = some (.int .u32 (tI 0#32)) := by rw [← hq]; exact ez
          have kf : wp.frozen? ⟨w.heap.size + 1, u + 16, none⟩ = false := by rw [← hq]; exact ef
          have Hset : Hid (Blk (wp.setCell ⟨w.heap.size + 1, u + 16, none⟩ (vW (wadd (wadd (wadd p0 (s0 p1)) p9) (s1 p14)))) (w.heap.size + 1) (Arr (sched l (u + 16 + 1))) 107) := Lib.hid (by rw [← hq]; exact Hset2.out)
          have Hfar : Hid (Blk (wp.setCell ⟨w.heap.size + 1, u + 16, none⟩ (vW (wadd (wadd (wadd p0 (s0 p1)) p9) (s1 p14)))) w.heap.size (Arr []) 107) := Lib.hid (by rw [← hq]; exact Hfar2.out)
          have hBp : Below w.heap.size w wp := by rw [← hq]; exact hBq.trans ⟨rfl, rfl, rfl, Nat.le_refl _, fun _ _ => rfl⟩
          have hwp : w.heap.size + 1 < wp.heap.size := by rw [← hq]; exact hwq
          clear hq e14 e0 e9 ez ef Hset2 Hfar2 hBq hwq y2 z2 n2 m2 a3 a4 a6
          go_region
          go_wp2
          go_roundw
          case rel => exact ⟨u + 1, by omega, by go_num, Hset.out, Hfar.out, (hBp.setCell (by simp) _).drew⟩
          case measure => simp [intOf]; omega
        · obtain rfl : u = 48 := by omega
          have hi : (Tryd.prog.info? 107).map (·.size) = some (Arr (sched l 64)).size := by rw [info64, Arr_size _ (by rw [sched_len]; omega)]
          have hsz : (Arr []).size = (Arr (sched l 64)).size := by rw [Arr_size _ (by simp), Arr_size _ (by rw [sched_len]; omega)]
          go_wp2_with (first | (with_reducible refine wpList_load_row rfl 107 (.tmp 3) rfl (w.heap.size + 1) rfl 107 _ _ _ hb1 Tryd.underlying107 rfl hi ?_) | (with_reducible refine wpList_store_row rfl 107 (.tmp 2) (.tmp 100) rfl w.heap.size (Arr (sched l 64)) rfl rfl 107 _ hb0 hi hsz (Arr_one _) ?_))
          exact bodyPost_ret (v := .agg (Arr (sched l 64))) (results_cell_row Tryd.results76 _ _ w.heap.size 107 _ _ _ rfl (blk_setRow hb0 _) Tryd.underlying107 rfl hi) rfl ⟨rfl, below_setRow hB (Nat.le_refl _) _⟩
end Go.Proofs.YtbgieephehfgpabDoor
/-
  What the reference's Sum returns: the SHA-256 hash of the bytes. Conditions: at most 10^9 bytes, the reference's table is as the program's text lays it.
-/
namespace Go.Proofs.YtbgieephehfgpabDoor
open Go Go.RowKit Sha
/-- what the reference's table of round constants holds -/
structure TabR (w : World) : Prop where
  con : ∀ i, i < 64 → w.cell? ⟨2, i, none⟩ = some (.int .u32 (kons.getD i 0))
theorem TabR.below {w w' : World} (h : TabR w) (hb : Below w.heap.size w w') : TabR w' :=
  ⟨fun i hi => (hb.cell (p := ⟨2, i, none⟩) (lt_of_cell (h.con i hi))).trans (h.con i hi)⟩
theorem ownOf_blk {α : Type} {mk : α → Value} {e : TypeId} {w : World} {base : Nat} {v : Value} {l : List α} (h : OwnOf mk e w base v l) (hl : l ≠ []) :
    ∃ g cap cur, v = .slice (some ⟨g, 0, none⟩) l.length cap ∧ base ≤ g ∧ l.length ≤ cap ∧ Blk w g cur e ∧ ∀ (i : Nat) (x : α), l[i]? = some x → cur[i]? = some (mk x) := by
  have hc := fun g => h.cells (g := g)
  rcases h.2 with ⟨_, h0⟩ | ⟨g, cap, cur, rfl, hb, hg, hcap, _⟩
  · exact absurd (List.length_eq_zero_iff.1 h0) hl
  · refine ⟨g, cap, cur, rfl, hb, hcap, hg, fun i x hx => ?_⟩
    have := hc g rfl i (mk x) (by rw [List.getElem?_map, hx]; rfl)
    rw [Addr.add_mid, Nat.zero_add, blk_cell hg] at this
    exact this
theorem xnot_go (x : W) : bits .xor .u32 (tI x) 4294967295 = tI (wnot x) := by
  have h : (4294967295 : Int) = tI (BitVec.allOnes 32) := by decide
  rw [h, xor_go]
  unfold wxor wnot
  rw [BitVec.xor_allOnes]
namespace Sha
/-- the hash value when n words have been added -/
def addQ (n : Nat) (s r : S8) : S8 := ⟨if 0 < n then wadd s.a r.a else s.a, if 1 < n then wadd s.b r.b else s.b, if 2 < n then wadd s.c r.c else s.c, if 3 < n then wadd s.d r.d else s.d, if 4 < n then wadd s.e r.e else s.e, if 5 < n then wadd s.f r.f else s.f, if 6 < n then wadd s.g r.g else s.g, if 7 < n then wadd s.h r.h else s.h⟩
theorem addQ_full (s r : S8) : addQ 8 s r = add8 s r := rfl
theorem addQ_none (s r : S8) : addQ 0 s r = s := rfl
theorem arr8_wd (s : S8) (i : Nat) (hi : i < 8) : (arr8 s)[i]? = some (.int .u32 (tI (wd s i))) := by
  match i, hi with
  | 0, _ | 1, _ | 2, _ | 3, _ | 4, _ | 5, _ | 6, _ | 7, _ => rfl
theorem addQ_wd (s r : S8) (n : Nat) (hn : n < 8) : wd (addQ n s r) n = wd s n := by
  match n, hn with
  | 0, _ | 1, _ | 2, _ | 3, _ | 4, _ | 5, _ | 6, _ | 7, _ => rfl
theorem addQ_set (s r : S8) (n : Nat) (hn : n < 8) : (arr8 (addQ n s r)).setIfInBounds n (vW (wadd (wd s n) (wd r n))) = arr8 (addQ (n + 1) s r) := by
  match n, hn with
  | 0, _ | 1, _ | 2, _ | 3, _ | 4, _ | 5, _ | 6, _ | 7, _ => rfl
end Sha
set_option maxRecDepth 100000 in
set_option maxHeartbeats 8000000 in
theorem refsum_any (v : Value) (l : List UInt8) (w : World) (hr : RdB w v l) (hs : l.length ≤ 1000000000) (hT : TabR w) :
    Calls Tryd.prog 68 #[v] w fun e w' => e = .returned (bytesV (sha l)) ∧ Below w.heap.size w w' := by
  have hpad := fun W (hW : RdB W v l) => rpadded_any v l W hW hs
  have hpl := padded_len l
  have hp2 : (padded l).length ≤ 1000000200 := by
    have := padK_lt l.length
    simp only [padded, padN, List.length_append, padP_len]
    omega
  have hp1 : padded l ≠ [] := by
    intro h
    have h2 := congrArg List.length h
    simp only [padded, padN, List.length_append, padP_len, List.length_nil] at h2
    omega
  have hsha : sha l = outs (hb (padded l) ((padded l).length / 64)) 32 := rfl
  generalize padded l = m at *
  have Hp1 := Lib.hid hp1
  clear hp1
  have Hsha := Lib.hid hsha
  clear hsha
  generalize sha l = shl at *
  have i8 : ∀ s : S8, (Tryd.prog.info? 66).map (·.size) = some (arr8 s).size := fun s => show (Tryd.prog.info? 66).map (·.size) = some 8 by kernel_rfl
  have I8 := Lib.hid i8
  clear i8
  go_enter Tryd.func68, Tryd.ntmps68
  go_wp2_with fail
  with_reducible refine (hpad _ (Rd.below hr ((below_alloc1 _ _).trans ((below_alloc1 _ _).mono (by rw [World.size_alloc]; omega))))).mono ?_
  rintro e w2 ⟨⟨v2, rfl, hown⟩, hw2⟩
  obtain ⟨hB2, hk0, hk1, hz2⟩ := after2 hw2
  rw [World.size_alloc, World.size_alloc] at hown
  obtain ⟨g, cap, cur, rfl, hg, hcap, hgB, hcell⟩ := ownOf_blk hown Hp1.out
  clear hown hw2 hpad
  have hs0 : Blk w2 (w.heap.size + 1) (arr8 (hb m 0)) 66 := hk1
  have ho0 : Blk w2 w.heap.size (List.replicate 32 (Value.int .u8 0)).toArray 33 := hk0
  clear hk0 hk1
  obtain ⟨J, hJ⟩ : ∃ J, m.length = 64 * J := ⟨m.length / 64, by omega⟩
  have HJ := Lib.hid hJ
  have hJ2 : J ≤ 100000000 := by omega
  clear hpl hp2
  go_wp2_with fail
  go_loopw [5, 6, 7, 8, 9, 10, 11] (fun s5 _ _ _ _ _ _ wr => ∃ j : Nat, j ≤ J ∧ s5 = .int .i64 (64 * (j : Int)) ∧ Blk wr (w.heap.size + 1) (arr8 (hb m j)) 66 ∧ Blk wr w.heap.size (List.replicate 32 (Value.int .u8 0)).toArray 33 ∧ Blk wr g cur 5 ∧ Below w.heap.size w wr ∧ w.heap.size + 2 ≤ wr.heap.size) (fun s5 _ _ _ _ _ _ _ => (64 * J - (intOf s5).toNat))
  case atStart => exact ⟨0, by omega, rfl, hs0, ho0, hgB, hB2, by omega⟩
  case round =>
    clear hs0 ho0 hgB hB2
    obtain ⟨j, hj, rfl, hs1, ho1, hgB, hB, hz⟩ := hrel
    have hTr := hT.below hB
    by_cases hlt : j < J
    · obtain ⟨bl, hbl⟩ : ∃ bl, bl = (m.drop (64 * j)).take 64 := ⟨_, rfl⟩
      have hcl : ∀ i, i < 64 → wr.cell? ⟨g, 64 * j + i, none⟩ = some (mkB (bl.getD i 0)) := by
        intro i hi
        have hx : m[64 * j + i]? = some (bl.getD i 0) := by
          rw [hbl, List.getD_eq_getElem?_getD, List.getElem?_take, if_pos hi, List.getElem?_drop]
          have hlt2 : 64 * j + i < m.length := by rw [HJ.out]; omega
          rw [List.getElem?_eq_getElem hlt2]
          rfl
        rw [blk_cell hgB, hcell _ _ hx]
      have hnext : hb m (j + 1) = comp (hb m j) bl := by rw [hb, hbl]
      obtain ⟨ws, hws⟩ : ∃ ws, ws = sched bl 64 := ⟨_, rfl⟩
      have hwl : ws.length = 64 := by rw [hws, sched_len]
      have hsc := rsched_any g (64 * j) (cap - 64 * j) bl wr (blk_lt hgB) hcl
      rw [← hws] at hsc
      have hcomp : comp (hb m j) bl = add8 (hb m j) (rounds ws (hb m j) 64) := by rw [comp, hws]
      rw [hcomp] at hnext
      generalize hb m j = st at *
      have Hnext := Lib.hid hnext
      have Hsc := Lib.hid hsc
      have Hwl := Lib.hid hwl
      clear hcl hbl hws hcomp hnext hsc hwl
      have hi : Hid ((Tryd.prog.info? 107).map (·.size) = some (Arr ws).size) := Lib.hid (by rw [info64, Arr_size _ (by rw [Hwl.out]; omega)])
      have hsz : Hid (64 = (Arr ws).size) := Lib.hid (Arr_size ws (by rw [Hwl.out]; omega)).symm
      go_wp2_with (first
        | (go_at_call 76; (with_reducible refine Hsc.out.mono ?_); rintro e w3 ⟨rfl, hw3⟩; have hs3 := blk_kept hs1 hw3; have ho3 := blk_kept ho1 hw3; have hg3 := blk_kept hgB hw3; have hB3 := hB.trans (hw3.mono hB.size); have hz3 := hw3.size; clear hw3)
        | ((with_reducible refine wpList_store_row rfl 107 (.tmp 6) (.tmp 28) rfl w3.heap.size (Arr ws) rfl rfl 107 _ (heap_alloc_new _ _) hi.out ?_ (Arr_one _) ?_); exact hsz.out; rw [World.setRow_alloc_new]; simp only [Act.put]; have hs4 := blk_alloc hs3 (.cells (Arr ws) 107); have ho4 := blk_alloc ho3 (.cells (Arr ws) 107); have hg4 := blk_alloc hg3 (.cells (Arr ws) 107); have hw4 := blk_new w3 (Arr ws) 107; have hB4 := hB3.alloc (by omega) (.cells (Arr ws) 107); have hgl := blk_lt hg3; generalize w3.alloc (.cells (Arr ws) 107) = w4 at *)
        | (with_reducible refine wpList_load_row rfl 66 (.tmp 3) rfl (w.heap.size + 1) rfl 66 _ _ _ hs4 Tryd.underlying66 rfl (I8.out _) ?_)
        | ((with_reducible refine wpList_store_row rfl 66 (.tmp 7) (.tmp 29) rfl w4.heap.size (arr8 st) rfl rfl 66 _ (heap_alloc_new _ _) (I8.out _) ?_ (arr8_one _) ?_); exact (show 8 = (arr8 st).size from rfl); rw [World.setRow_alloc_new]; simp only [Act.put]))
      have hs5 := blk_alloc hs4 (.cells (arr8 st) 66)
      have ho5 := blk_alloc ho4 (.cells (arr8 st) 66)
      have hg5 := blk_alloc hg4 (.cells (arr8 st) 66)
      have hw5 := blk_alloc hw4 (.cells (arr8 st) 66)
      have hv5 := blk_new w4 (arr8 st) 66
      have h67 := blk_lt hw4
      have hB5 := hB4.alloc (by omega) (.cells (arr8 st) 66)
      have hz5 : w.heap.size + 2 ≤ (w4.alloc (.cells (arr8 st) 66)).heap.size := by rw [World.size_alloc]; omega
      have hz6 : w.heap.size + 2 ≤ w3.heap.size := by omega
      have hz7 : w.heap.size + 2 ≤ w4.heap.size := by omega
      generalize w4.alloc (.cells (arr8 st) 66) = w5 at *
      generalize w4.heap.size = N7 at *
      generalize w3.heap.size = N6 at *
      clear hs4 ho4 hg4 hw4 hB4 hs3 ho3 hg3 hB3 hs1 ho1 hgB hB hTr hz
      go_loopw [8, 9, 10] (fun s8 _ _ wx => ∃ t : Nat, t ≤ 64 ∧ s8 = .int .i64 (t : Int) ∧ Blk wx N7 (arr8 (rounds ws st t)) 66 ∧ Blk wx N6 (Arr ws) 107 ∧ Blk wx (w.heap.size + 1) (arr8 st) 66 ∧ Blk wx w.heap.size (List.replicate 32 (Value.int .u8 0)).toArray 33 ∧ Blk wx g cur 5 ∧ Below w.heap.size w wx ∧ w.heap.size + 2 ≤ wx.heap.size) (fun s8 _ _ _ => 64 - (intOf s8).toNat)
      case atStart => exact ⟨0, by omega, rfl, hv5, hw5, hs5, ho5, hg5, hB5, hz5⟩
      case round =>
        clear hv5 hw5 hs5 ho5 hg5 hB5 hz5
        obtain ⟨t, ht, rfl, hv, hw, hs, ho, hgB, hB, hz⟩ := hrel
        by_cases h64 : t < 64
        · have d64 : decide ((t : Int) < 64) = true := by simp; omega
          have hTr := hT.below hB
          have hk0 := hTr.con t h64
          have hkk := kons_kon ⟨t, h64⟩
          simp only at hkk
          rw [hkk] at hk0
          have hk : wr.cell? ⟨2, t, none⟩ = some (.int .u32 (tI (kon t))) := hk0
          have hrs : rounds ws st (t + 1) = rnd (kon t) (ws.getD t 0#32) (rounds ws st t) := rfl
          have cw : wr.cell? ⟨N6, t, none⟩ = some (.int .u32 (tI (ws.getD t 0#32))) := (blk_cell hw t).trans (Arr_get _ _ (by rw [Hwl.out]; omega))
          clear hk0 hkk hTr
          generalize rounds ws st t = r at *
          obtain ⟨ra, rb, rc, rd, re, rf, rg, rh⟩ := r
          generalize ws.getD t 0#32 = wt at *
          generalize kon t = kt at *
          have ca := blk_cell hv 0
          have cb := blk_cell hv 1
          have cc := blk_cell hv 2
          have cd := blk_cell hv 3
          have ce := blk_cell hv 4
          have cf := blk_cell hv 5
          have cg := blk_cell hv 6
          have cx := blk_cell hv 7
          simp [arr8, vW] at ca cb cc cd ce cf cg cx
          have n0 := xor_go (rotr re 6) (rotr re 11)
          have n00 := xor_go (wxor (rotr re 6) (rotr re 11)) (rotr re 25)
          rw [show wxor (wxor (rotr re 6) (rotr re 11)) (rotr re 25) = mix re 6 11 25 from rfl] at n00
          have n1 := and_go re rf
          have n2 := xnot_go re
          have n3 := and_go (wnot re) rg
          have n4 := ch_go re rf rg
          have n5 : (tI rh + tI (mix re 6 11 25) + tI (ch re rf rg) + tI kt + tI wt) % 4294967296 = tI (xOf kt wt ⟨ra, rb, rc, rd, re, rf, rg, rh⟩) := x_go kt wt ⟨ra, rb, rc, rd, re, rf, rg, rh⟩
          have m0 := xor_go (rotr ra 2) (rotr ra 13)
          have m00 := xor_go (wxor (rotr ra 2) (rotr ra 13)) (rotr ra 22)
          rw [show wxor (wxor (rotr ra 2) (rotr ra 13)) (rotr ra 22) = mix ra 2 13 22 from rfl] at m00
          have m1 := and_go ra rb
          have m2 := and_go ra rc
          have m3 := and_go rb rc
          have m4 := xor_go (wand ra rb) (wand ra rc)
          have m5 := maj_go ra rb rc
          have m6 : (tI (mix ra 2 13 22) + tI (maj ra rb rc)) % 4294967296 = tI (yOf ⟨ra, rb, rc, rd, re, rf, rg, rh⟩) := y_go ⟨ra, rb, rc, rd, re, rf, rg, rh⟩
          rw [rnd] at hrs
          generalize xOf kt wt ⟨ra, rb, rc, rd, re, rf, rg, rh⟩ = X at *
          generalize yOf ⟨ra, rb, rc, rd, re, rf, rg, rh⟩ = Y at *
          have n6 : ((tI rh + tI (mix re 6 11 25) + tI (ch re rf rg) + tI kt) % 4294967296 + tI wt) % 4294967296 = tI X := by rw [← n5]; omega
          have p1 := add_go rd X
          have p2 := add_go X Y
          have Hrs := Lib.hid hrs
          clear hrs
          go_wp2
          go_quiet (first | (go_at_call 77; with_reducible exact rrotr_q re 6 6 _ _ rfl (by omega) (by omega)) | (go_at_call 77; with_reducible exact rrotr_q re 11 11 _ _ rfl (by omega) (by omega)) | (go_at_call 77; with_reducible exact rrotr_q re 25 25 _ _ rfl (by omega) (by omega)))
          go_wp2
          simp only [n6]
          generalize hq : wr.drewN nq = wq
          have hv2 : Blk wq N7 (arr8 ⟨ra, rb, rc, rd, re, rf, rg, rh⟩) 66 := by rw [← hq]; exact hv
          have hw2 : Blk wq N6 (Arr ws) 107 := by rw [← hq]; exact hw
          have hs2 : Blk wq (w.heap.size + 1) (arr8 st) 66 := by rw [← hq]; exact hs
          have ho2 : Blk wq w.heap.size (List.replicate 32 (Value.int .u8 0)).toArray 33 := by rw [← hq]; exact ho
          have hg2 : Blk wq g cur 5 := by rw [← hq]; exact hgB
          have hB2 : Below w.heap.size w wq := by rw [← hq]; exact hB.trans ⟨rfl, rfl, rfl, Nat.le_refl _, fun _ _ => rfl⟩
          have hz2 : w.heap.size + 2 ≤ wq.heap.size := by rw [← hq]; exact hz
          clear hq hv hw hs ho hgB hB hz ca cb cc cd ce cf cg cx cw hk n0 n00 n1 n2 n3 n4 n5 n6
          have ca := blk_cell hv2 0
          have cb := blk_cell hv2 1
          have cc := blk_cell hv2 2
          simp [arr8, vW] at ca cb cc
          go_quiet (first | (go_at_call 77; with_reducible exact rrotr_q ra 2 2 _ _ rfl (by omega) (by omega)) | (go_at_call 77; with_reducible exact rrotr_q ra 13 13 _ _ rfl (by omega) (by omega)) | (go_at_call 77; with_reducible exact rrotr_q ra 22 22 _ _ rfl (by omega) (by omega)))
          simp only [m6]
          generalize hq : wq.drewN nq = wz
          have hv3 : Blk wz N7 (arr8 ⟨ra, rb, rc, rd, re, rf, rg, rh⟩) 66 := by rw [← hq]; exact hv2
          have hw3 : Blk wz N6 (Arr ws) 107 := by rw [← hq]; exact hw2
          have hs3 : Blk wz (w.heap.size + 1) (arr8 st) 66 := by rw [← hq]; exact hs2
          have ho3 : Blk wz w.heap.size (List.replicate 32 (Value.int .u8 0)).toArray 33 := by rw [← hq]; exact ho2
          have hg3 : Blk wz g cur 5 := by rw [← hq]; exact hg2
          have hB3 : Below w.heap.size w wz := by rw [← hq]; exact hB2.trans ⟨rfl, rfl, rfl, Nat.le_refl _, fun _ _ => rfl⟩
          have hz3' : w.heap.size + 2 ≤ wz.heap.size := by rw [← hq]; exact hz2
          clear hq hv2 hw2 hs2 ho2 hg2 hB2 hz2 ca cb cc m0 m00 m1 m2 m3 m4 m5 m6
          have ca := blk_cell hv3 0
          have cb := blk_cell hv3 1
          have cc := blk_cell hv3 2
          have cd := blk_cell hv3 3
          have ce := blk_cell hv3 4
          have cf := blk_cell hv3 5
          have cg := blk_cell hv3 6
          simp [arr8, vW] at ca cb cc cd ce cf cg
          have i8e : Hid ((Tryd.prog.info? 66).map (·.size) = some (#[.int .u32 (tI (wadd X Y)), .int .u32 (tI ra), .int .u32 (tI rb), .int .u32 (tI rc), .int .u32 (tI (wadd rd X)), .int .u32 (tI re), .int .u32 (tI rf), .int .u32 (tI rg)] : Array Value).size) := I8.out st
          have z8 : Hid ((arr8 ⟨ra, rb, rc, rd, re, rf, rg, rh⟩).size = (#[.int .u32 (tI (wadd X Y)), .int .u32 (tI ra), .int .u32 (tI rb), .int .u32 (tI rc), .int .u32 (tI (wadd rd X)), .int .u32 (tI re), .int .u32 (tI rf), .int .u32 (tI rg)] : Array Value).size) := rfl
          have o8 : Hid ((#[.int .u32 (tI (wadd X Y)), .int .u32 (tI ra), .int .u32 (tI rb), .int .u32 (tI rc), .int .u32 (tI (wadd rd X)), .int .u32 (tI re), .int .u32 (tI rf), .int .u32 (tI rg)] : Array Value).all (·.oneCell') = true) := arr8_one ⟨wadd X Y, ra, rb, rc, wadd rd X, re, rf, rg⟩
          go_wp2_with (with_reducible refine wpList_store_row rfl 66 (.tmp 7) (.tmp 117) rfl N7 #[.int .u32 (tI (wadd X Y)), .int .u32 (tI ra), .int .u32 (tI rb), .int .u32 (tI rc), .int .u32 (tI (wadd rd X)), .int .u32 (tI re), .int .u32 (tI rf), .int .u32 (tI rg)] rfl rfl 66 _ hv3 i8e.out z8.out o8.out ?_)
          go_roundw
          case rel => exact ⟨t + 1, by omega, by go_num, by rw [Hrs.out]; exact blk_setRow hv3 _, blk_setRow_far hw3 N7 (by omega) _, blk_setRow_far hs3 N7 (by omega) _, blk_setRow_far ho3 N7 (by omega) _, blk_setRow_far hg3 N7 (by omega) _, below_setRow hB3 (by omega) _, by simp [World.setRow]; exact hz3'⟩
          case measure => simp [intOf]; omega
        · obtain rfl : t = 64 := by omega
          generalize rounds ws st 64 = r at *
          clear hw Hsc Hwl hi hsz h64
          go_wp2
          go_loopw [11] (fun s11 wx => ∃ n : Nat, n ≤ 8 ∧ s11 = .int .i64 (n : Int) ∧ Blk wx N7 (arr8 r) 66 ∧ Blk wx (w.heap.size + 1) (arr8 (addQ n st r)) 66 ∧ Blk wx w.heap.size (List.replicate 32 (Value.int .u8 0)).toArray 33 ∧ Blk wx g cur 5 ∧ Below w.heap.size w wx ∧ w.heap.size + 2 ≤ wx.heap.size) (fun s11 _ => 8 - (intOf s11).toNat)
          case atStart => exact ⟨0, by omega, rfl, hv, hs, ho, hgB, hB, hz⟩
          case round =>
            clear hv hs ho hgB hB hz
            obtain ⟨n, hn, rfl, hv, hs, ho, hgB, hB, hz⟩ := hrel
            by_cases h8 : n < 8
            · have c1 : wr.cell? ⟨w.heap.size + 1, n, none⟩ = some (.int .u32 (tI (wd st n))) := by rw [blk_cell hs, arr8_wd _ _ h8, addQ_wd _ _ _ h8]
              have c2 : wr.cell? ⟨N7, n, none⟩ = some (.int .u32 (tI (wd r n))) := by rw [blk_cell hv, arr8_wd _ _ h8]
              have f1 := blk_free hs n
              have q1 := add_go (wd st n) (wd r n)
              have hset := blk_set hs n (vW (wadd (wd st n) (wd r n)))
              rw [addQ_set st r n h8] at hset
              have Hset := Lib.hid hset
              have Hv := Lib.hid (blk_far hv (p := ⟨w.heap.size + 1, n, none⟩) (show N7 ≠ w.heap.size + 1 by omega) (vW (wadd (wd st n) (wd r n))))
              have Ho := Lib.hid (blk_far ho (p := ⟨w.heap.size + 1, n, none⟩) (by simp) (vW (wadd (wd st n) (wd r n))))
              have Hg := Lib.hid (blk_far hgB (p := ⟨w.heap.size + 1, n, none⟩) (show g ≠ w.heap.size + 1 by omega) (vW (wadd (wd st n) (wd r n))))
              have hBs := hB.setCell (p := ⟨w.heap.size + 1, n, none⟩) (show w.heap.size ≤ w.heap.size + 1 by omega) (vW (wadd (wd st n) (wd r n)))
              clear hset
              go_wp2
              go_region
              go_wp2
              go_roundw
              case rel => exact ⟨n + 1, by omega, by go_num, Hv.out, Hset.out, Ho.out, Hg.out, hBs.drew, by simpa using hz⟩
              case measure => simp [intOf]; omega
            · obtain rfl : n = 8 := by omega
              rw [addQ_full] at hs
              go_wp2
              go_roundw
              case rel => exact ⟨j + 1, by omega, congrArg (Value.int .i64) (by omega), by rw [Hnext.out]; exact hs, ho, hgB, hB, hz⟩
              case measure => simp [intOf]; omega
    · obtain rfl : j = J := by omega
      have hres : shl = outs (hb m j) 32 := by rw [Hsha.out, HJ.out]; congr 2; omega
      generalize hb m j = S at *
      have Hres := Lib.hid hres
      clear hres hgB
      have hs5 := blk_new wr (outA S 0) 33
      have hs3 := blk_alloc hs1 (.cells (outA S 0) 33)
      have hs4 := blk_alloc ho1 (.cells (outA S 0) 33)
      have hB3 := hB.alloc (by omega) (.cells (outA S 0) 33)
      have hne1 : w.heap.size + 1 < wr.heap.size := blk_lt hs1
      clear hs1 ho1 hB hz
      go_wp2
      generalize wr.heap.size = N1 at *
      clear hTr hg hcap hlt hj hJ2
      go_loopw [13] (fun i wr => ∃ k : Nat, k ≤ 32 ∧ i = .int .i64 (k : Int) ∧ Blk wr N1 (outA S k) 33 ∧ Blk wr (w.heap.size + 1) (arr8 S) 66 ∧ Blk wr w.heap.size (List.replicate 32 (Value.int .u8 0)).toArray 33 ∧ Below w.heap.size w wr) (fun i _ => 32 - (intOf i).toNat)
      case atStart => exact ⟨0, by omega, rfl, hs5, hs3, hs4, hB3⟩
      case round =>
        clear hs3 hs4 hs5 hB3
        obtain ⟨k, hk, rfl, hb5, hb3, hb4, hB⟩ := hrel
        by_cases h32 : k < 32
        · obtain ⟨q, hq⟩ : ∃ q, q = k / 4 := ⟨_, rfl⟩
          obtain ⟨r, hr⟩ : ∃ r, r = k % 4 := ⟨_, rfl⟩
          have e1 : (k : Int) / 4 = (q : Int) := by omega
          have e2 : (k : Int) % 4 = (r : Int) := by omega
          have hq8 : q < 8 := by omega
          have hr4 : r < 4 := by omega
          have hob := outB_go S k
          rw [← hq, ← hr] at hob
          have hset := outA_set S k h32
          have hcq : wr.cell? ⟨w.heap.size + 1, q, none⟩ = some (.int .u32 (tI (wd S q))) := (blk_cell hb3 q).trans (arr8_wd S q hq8)
          have hk5 : wr.cell? ⟨N1, k, none⟩ = some (.int .u8 0) := (blk_cell hb5 k).trans (outA_at S k h32)
          have hf5 := blk_free hb5 k
          have hbb := byte_bd (outB S k)
          have hwb := tI_lo (wd S q)
          have hb5' := blk_set hb5 k (mkB (outB S k))
          rw [hset] at hb5'
          have hfb3 := blk_far hb3 (p := ⟨N1, k, none⟩) (by simp; omega) (mkB (outB S k))
          have hfb4 := blk_far hb4 (p := ⟨N1, k, none⟩) (by simp; omega) (mkB (outB S k))
          have hBf := hB.setCell (p := ⟨N1, k, none⟩) (by simp; omega) (mkB (outB S k))
          have H5 := Lib.hid hb5'
          have H3 := Lib.hid hfb3
          have H4 := Lib.hid hfb4
          have Hq := Lib.hid hq
          have Hr := Lib.hid hr
          obtain ⟨z, hz⟩ : ∃ z : Nat, z = 24 - 8 * r := ⟨_, rfl⟩
          have hz1 : (24 : Int) - 8 * (r : Int) = (z : Int) := by omega
          have hz2 : z < 64 := by omega
          rw [← hz] at hob
          clear hset hb5' hfb3 hfb4 hq hr hz
          generalize tI (wd S q) = wv at *
          generalize hbv : outB S k = bv at *
          go_wp2
          go_roundw
          case rel => exact ⟨k + 1, by omega, by go_num, by rw [← hob]; exact H5.out, by rw [← hob]; exact H3.out, by rw [← hob]; exact H4.out, by rw [← hob]; exact hBf⟩
          case measure => simp [intOf]; omega
        · obtain rfl : k = 32 := by omega
          have hi32 : Hid ((Tryd.prog.info? 33).map (·.size) = some (outA S 32).size) := Lib.hid (by rw [show (outA S 32).size = 32 by simp [outA, outs_len]]; kernel_rfl)
          have hz32 : Hid ((List.replicate 32 (Value.int .u8 0)).toArray.size = (outA S 32).size) := Lib.hid (by rw [show (outA S 32).size = 32 by simp [outA, outs_len]]; rfl)
          have ho32 : Hid ((outA S 32).all (·.oneCell') = true) := Lib.hid (by rw [show outA S 32 = ((outs S 32).map mkB).toArray by simp [outA]]; exact one_cells _)
          go_wp2_with (first | (with_reducible refine wpList_load_row rfl 33 (.tmp 12) rfl N1 rfl 33 _ _ _ hb5 Tryd.underlying33 rfl hi32.out ?_) | (with_reducible refine wpList_store_row rfl 33 (.tmp 2) (.tmp 147) rfl w.heap.size (outA S 32) rfl rfl 33 _ hb4 hi32.out hz32.out ho32.out ?_))
          exact bodyPost_ret (v := .agg (outA S 32)) (results_cell_row Tryd.results68 _ _ w.heap.size 33 _ _ _ rfl (blk_setRow hb4 _) Tryd.underlying33 rfl hi32.out) rfl ⟨by rw [outA_full, Hres.out], below_setRow hB (Nat.le_refl _) _⟩
end Go.Proofs.YtbgieephehfgpabDoor
/-
  What the reference's Int, Bytes, Input, Short and Of return: the same lists of bytes as the program's. Conditions: sizes; the reference's table is as its text lays it.
-/
namespace Go.Proofs.YtbgieephehfgpabDoor
open Go Go.RowKit Sha Wire
theorem rbyte (z : Nat) : (z : Int) % 128 + 128 = ((UInt8.ofNat (z % 128 + 128)).toNat : Int) := by
  rw [UInt8.toNat_ofNat']
  omega
set_option maxRecDepth 100000 in
set_option maxHeartbeats 1000000 in
theorem rint_any (n : Nat) (w : World) (hn : n ≤ 1000000000000) :
    Calls Tryd.prog 69 #[.int .i64 (n : Int)] w fun e w' => (∃ v, e = .returned v ∧ Own w' w.heap.size v (intB n)) ∧ Below w.heap.size w w' := by
  have e1 : IntKind.u64.wrap (n : Int) = n := by rw [IntWalk.u64_in _ (by omega)]
  have e3 : IntKind.u64.wrap ((n : Int) * 2) = ((2 * n : Nat) : Int) := by rw [IntWalk.u64_in _ (by omega)]; omega
  have e4 : decide ((n : Int) < 0) = false := by simp
  go_enter Tryd.func69, Tryd.ntmps69
  go_wp2
  go_loopw [3, 4] (fun x o wr => ∃ (z f : Nat) (don : List UInt8), x = .int .u64 (z : Int) ∧ z < 128 ^ (f + 1) ∧ z ≤ 2000000000000 ∧ don.length + f = 9 ∧ intB n = don ++ groups f z ∧ Own wr w.heap.size o don ∧ Below w.heap.size w wr) (fun x _ _ => natOfV x)
  case atStart => exact ⟨2 * n, 9, [], by go_num, by omega, by omega, rfl, rfl, own_nil _ _, Below.refl _ _⟩
  case round =>
    clear e1 e3 e4
    obtain ⟨z, f, don, rfl, hz, hzb, hd, hl, hown, hB⟩ := hrel
    by_cases h : z > 127
    · cases f with
      | zero => omega
      | succ f =>
        have hl2 : intB n = (don ++ [UInt8.ofNat (z % 128 + 128)]) ++ groups f (z / 128) := by rw [hl, groups, if_pos h, List.append_assoc]; rfl
        have hz2 : z / 128 < 128 ^ (f + 1) := Nat.div_lt_of_lt_mul (by rw [Nat.pow_succ] at hz; omega)
        have Hrb := Lib.hid (rbyte z)
        have Hl := Lib.hid hl2
        have Hz := Lib.hid hz2
        clear hl hl2 hz hz2
        go_wp2_with (with_reducible refine wp_appB1 rfl (.tmp 17) (.tmp 22) rfl w.heap.size _ don rfl hown (UInt8.ofNat (z % 128 + 128)) _ Hrb.out rfl (by omega) hB.size ?_; intro v1 w1 hown1 hg1 hv1)
        go_roundw
        case rel => exact ⟨z / 128, f, _, by go_num, Hz.out, by omega, by simp; omega, Hl.out, hown1, hg1.below _ _ hB (Nat.le_refl _)⟩
        case measure => simp [natOfV]; omega
    · have hg : groups f z = [UInt8.ofNat z] := by
        cases f with
        | zero => rfl
        | succ f => rw [groups, if_neg h]
      rw [hg] at hl
      have Hl := Lib.hid hl
      have hgb : ((UInt8.ofNat z).toNat : Int) = (z : Int) := by rw [gbyte]; omega
      clear hl hz hg
      go_wp2_with (with_reducible refine wp_appB1 rfl (.tmp 26) (.tmp 29) rfl w.heap.size _ don rfl hown (UInt8.ofNat z) _ hgb.symm rfl (by omega) hB.size ?_; intro v1 w1 hown1 hg1 hv1)
      go_ret
      exact ⟨⟨_, rfl, by rw [Hl.out]; exact hown1⟩, hg1.below _ _ hB (Nat.le_refl _)⟩
set_option maxRecDepth 100000 in
set_option maxHeartbeats 1000000 in
theorem rbytes_any (l : List UInt8) (w : World) (hn : l.length ≤ 1000000000) :
    Calls Tryd.prog 52 #[.string ⟨l.toArray⟩] w fun e w' => (∃ v, e = .returned v ∧ Own w' w.heap.size v (bytesB l)) ∧ Below w.heap.size w w' := by
  have hsz : (⟨l.toArray⟩ : ByteArray).size = l.length := by simp [ByteArray.size]
  have hb1 : (intB l.length).length + l.length < 1000000000000 := by have := intB_len l.length; omega
  go_enter Tryd.func52, Tryd.ntmps52
  go_wp2_with (first | (go_at_call 69; (with_reducible refine (rint_any l.length _ (by omega)).mono ?_); rintro e w1 ⟨⟨v1, rfl, hown⟩, hw1⟩) | (with_reducible refine wp_appS rfl (.tmp 5) (.tmp 6) rfl w.heap.size v1 (intB l.length) rfl hown l rfl hb1 hw1.size ?_; intro v2 w2 hown2 hg2))
  go_ret
  exact ⟨⟨_, rfl, hown2⟩, hg2.below _ _ hw1 (Nat.le_refl _)⟩
set_option maxRecDepth 100000 in
set_option maxHeartbeats 1000000 in
theorem rinput_any (tag : Int) (v : Value) (ps : List (List UInt8)) (w : World) (hr : Rd mkS w v ps) (hn : ps.length ≤ 1000) (hs : ∀ l ∈ ps, l.length ≤ 10000) :
    Calls Tryd.prog 15 #[.int .i64 tag, v] w fun e w' => (∃ v', e = .returned v' ∧ Own w' w.heap.size v' (ofIn tag ps)) ∧ Below w.heap.size w w' := by
  have Hr := Lib.hid hr
  obtain ⟨va, vcap, rfl, hvc, hvcell⟩ := hr
  have htag := tagB_go tag
  go_enter Tryd.func15, Tryd.ntmps15
  go_wp2
  go_loopw [5, 6] (fun x i wr => ∃ k : Nat, k ≤ ps.length ∧ i = .int .i64 (k : Int) ∧ Own wr w.heap.size x (ofIn tag (ps.take k)) ∧ Below w.heap.size w wr) (fun _ i _ => ps.length - (intOf i).toNat)
  case atStart => exact ⟨0, by omega, rfl, own_lit w w.heap.size [tagB tag] _ 1 (by simp [mkB, htag]) rfl (Nat.le_refl _) (by decide), below_alloc1 _ _⟩
  case round =>
    obtain ⟨k, hk, rfl, hown, hB⟩ := hrel
    by_cases h : k < ps.length
    · rcases hvcell with hnil | ⟨b, off, rfl, hbl, hcell⟩
      · subst hnil; simp at h
      · obtain ⟨x, hx⟩ : ∃ x, ps[k]? = some x := ⟨_, List.getElem?_eq_getElem h⟩
        have hxs := hs x (List.mem_of_getElem? hx)
        have hcx : wr.cell? ⟨b, off + k, none⟩ = some (.string ⟨x.toArray⟩) := (hB.cell (p := ⟨b, off + k, none⟩) hbl).trans (hcell k x hx)
        have hnext : ofIn tag (ps.take (k + 1)) = ofIn tag (ps.take k) ++ bytesB x := by
          rw [List.take_succ_eq_append_getElem h]; rw [List.getElem?_eq_getElem h] at hx; cases hx; exact ofIn_step _ _ _
        have hlen := ofIn_len tag ps hs k hk
        have hlen2 : (ofIn tag (ps.take k)).length + (bytesB x).length < 1000000000000 := by
          have := intB_len x.length
          simp [bytesB]; omega
        have hwb := rbytes_any x wr (by omega)
        have Hnext := Lib.hid hnext
        have Hlen := Lib.hid hlen2
        have Hwb := Lib.hid hwb
        clear hnext hx hlen hlen2 hwb hcell hxs
        generalize bytesB x = bx at *
        generalize ofIn tag (ps.take k) = d at *
        go_wp2_with (first
          | (go_at_call 52; (with_reducible refine Hwb.out.mono ?_); rintro e w1 ⟨⟨v1, rfl, hown1⟩, hw1⟩)
          | (with_reducible refine wp_appR mkB_one Tryd.underlying31 info_u8 rfl (by decide) rfl (.tmp 16) (.tmp 21) rfl w.heap.size _ d rfl (ownOf_kept hown hw1) v1 bx rfl (own_rd hown1) Hlen.out (Nat.le_trans hB.size hw1.size) ?_; intro v2 w2 hown2 hg2))
        go_roundw
        case rel => exact ⟨k + 1, by omega, by go_num, by rw [Hnext.out]; exact hown2, hg2.below _ _ (hB.trans (hw1.mono hB.size)) (Nat.le_refl _)⟩
        case measure => simp [intOf]; omega
    · obtain rfl : k = ps.length := by omega
      rw [List.take_length] at hown
      go_wp2
      go_ret
      exact ⟨⟨_, rfl, hown⟩, hB⟩
end Go.Proofs.YtbgieephehfgpabDoor
/-
  What the reference's Short and Of return: the first 16 bytes of the hash. Conditions: sizes; the reference's table is as its text lays it.
-/
namespace Go.Proofs.YtbgieephehfgpabDoor
open Go Go.RowKit Sha Wire
/-- the first k of 16 bytes, the rest still zero -/
def digA (l : List UInt8) (k : Nat) : Array Value := ((l.take k).map mkB ++ List.replicate (16 - k) (Value.int .u8 0)).toArray
theorem digA_zero (l : List UInt8) : digA l 0 = (List.replicate 16 (Value.int .u8 0)).toArray := rfl
theorem digA_set (l : List UInt8) (k : Nat) (x : UInt8) (hx : l[k]? = some x) (hk : k < 16) : (digA l k).setIfInBounds k (mkB x) = digA l (k + 1) := by
  have hl : k < l.length := (List.getElem?_eq_some_iff.1 hx).1
  unfold digA
  rw [List.setIfInBounds_toArray, List.set_append_right _ _ (by simp; omega), List.take_add_one, hx]
  have h0 : k - ((l.take k).map mkB).length = 0 := by simp; omega
  rw [h0]
  obtain ⟨m, hm⟩ : ∃ m, 16 - k = m + 1 := ⟨15 - k, by omega⟩
  have hm2 : 16 - (k + 1) = m := by omega
  rw [hm, hm2, List.replicate_succ, List.set_cons_zero]
  simp
theorem digA_size (l : List UInt8) (k : Nat) (hl : 16 ≤ l.length) (hk : k ≤ 16) : (digA l k).size = 16 := by
  simp [digA]; omega
theorem digA_full (l : List UInt8) : digA l 16 = ((l.take 16).map mkB).toArray := by
  simp [digA]
set_option maxRecDepth 100000 in
set_option maxHeartbeats 2000000 in
theorem rshort_any (v : Value) (l : List UInt8) (w : World) (hr : RdB w v l) (hs : l.length ≤ 1000000000) (hT : TabR w) :
    Calls Tryd.prog 51 #[v] w fun e w' => e = .returned (bytesV ((sha l).take 16)) ∧ Below w.heap.size w w' := by
  have hrs := fun W (hW : RdB W v l) (h : TabR W) => refsum_any v l W hW hs h
  have hsl := sha_len l
  generalize sha l = h at *
  have hfull : bytesV (h.take 16) = .agg (digA h 16) := by rw [digA_full]; rfl
  rw [hfull]
  obtain ⟨D, hD⟩ : ∃ D : Array Value, D = (h.map mkB).toArray := ⟨_, rfl⟩
  have hDs : D.size = 32 := by rw [hD]; simp [hsl]
  have hD1 : D.all (·.oneCell') = true := by rw [hD]; exact one_cells _
  have hDi : Hid ((Tryd.prog.info? 33).map (·.size) = some D.size) := Lib.hid (by rw [hDs]; kernel_rfl)
  have hD' : bytesV h = .agg D := by rw [hD]; rfl
  rw [hD'] at hrs
  have hDc : ∀ (k : Nat) (x : UInt8), h[k]? = some x → D[k]? = some (mkB x) := by intro k x hx; rw [hD, List.getElem?_toArray, List.getElem?_map, hx]; rfl
  have Hrs := Lib.hid hrs
  have HDc := Lib.hid hDc
  clear hrs hD hD' hDc hfull
  go_enter Tryd.func51, Tryd.ntmps51
  go_wp2_with fail
  have hz0 : Blk (w.alloc (.cells (List.replicate 16 (Value.int .u8 0)).toArray 26)) w.heap.size (List.replicate 16 (Value.int .u8 0)).toArray 26 := blk_new w _ _
  have hB0 : Below w.heap.size w (w.alloc (.cells (List.replicate 16 (Value.int .u8 0)).toArray 26)) := (Below.refl _ _).alloc (Nat.le_refl _) _
  have hz00 : w.heap.size + 1 ≤ (w.alloc (.cells (List.replicate 16 (Value.int .u8 0)).toArray 26)).heap.size := by rw [World.size_alloc]; omega
  change Calls _ _ _ (w.alloc (.cells (List.replicate 16 (Value.int .u8 0)).toArray 26)) _
  generalize w.alloc (.cells (List.replicate 16 (Value.int .u8 0)).toArray 26) = w0 at *
  with_reducible refine (Hrs.out w0 (Rd.below hr hB0) (hT.below hB0)).mono ?_
  rintro e w1 ⟨rfl, hw1⟩
  have hk1 := blk_kept hz0 hw1
  have hB1 := hB0.trans (hw1.mono hB0.size)
  have hs1 : w.heap.size + 1 ≤ w1.heap.size := Nat.le_trans hz00 hw1.size
  clear hz0 hz00 hw1 hB0
  go_wp2_with (first
    | (with_reducible refine wpList_store_row rfl 33 (.tmp 3) (.tmp 7) rfl w1.heap.size D rfl rfl 33 _ (blk_new w1 _ _) hDi.out (Eq.trans (by kernel_rfl : _ = 32) hDs.symm) hD1 ?_; rw [World.setRow_alloc_new]; simp only [Act.put]; have hk2 := blk_alloc hk1 (.cells D 33); have hd2 := blk_new w1 D 33; have hB2 := hB1.alloc (by omega) (.cells D 33); have hs2 : w.heap.size + 1 ≤ (w1.alloc (.cells D 33)).heap.size := by { rw [World.size_alloc]; omega }; generalize w1.alloc (.cells D 33) = w2 at *))
  have hk3 := blk_alloc hk2 (.cells (List.replicate 16 (Value.int .u8 0)).toArray 26)
  have hd3 := blk_alloc hd2 (.cells (List.replicate 16 (Value.int .u8 0)).toArray 26)
  have ho3 : Blk (w2.alloc (.cells (List.replicate 16 (Value.int .u8 0)).toArray 26)) w2.heap.size (digA h 0) 26 := blk_new w2 _ _
  have hB3 := hB2.alloc (by omega) (.cells (List.replicate 16 (Value.int .u8 0)).toArray 26)
  have h34 : w1.heap.size < w2.heap.size := blk_lt hd2
  change Code.wp _ _ _ _ (w2.alloc (.cells (List.replicate 16 (Value.int .u8 0)).toArray 26))
  generalize w2.alloc (.cells (List.replicate 16 (Value.int .u8 0)).toArray 26) = w3 at *
  clear hk2 hd2 hB2 hk1 hB1
  generalize w2.heap.size = N4 at *
  generalize w1.heap.size = N3 at *
  go_loopw [5] (fun i wr => ∃ k : Nat, k ≤ 16 ∧ i = .int .i64 (k : Int) ∧ Blk wr N4 (digA h k) 26 ∧ Blk wr N3 D 33 ∧ Blk wr w.heap.size (List.replicate 16 (Value.int .u8 0)).toArray 26 ∧ Below w.heap.size w wr) (fun i _ => 16 - (intOf i).toNat)
  case atStart => exact ⟨0, by omega, rfl, ho3, hd3, hk3, hB3⟩
  case round =>
    clear ho3 hd3 hk3 hB3
    obtain ⟨k, hk, rfl, ho, hd, hz, hB⟩ := hrel
    by_cases h16 : k < 16
    · obtain ⟨x, hx⟩ : ∃ x, h[k]? = some x := ⟨_, List.getElem?_eq_getElem (by omega)⟩
      have hcx : wr.cell? ⟨N3, k, none⟩ = some (.int .u8 (x.toNat : Int)) := (blk_cell hd k).trans (HDc.out k x hx)
      have hso : (digA h k).size = 16 := digA_size h k (by omega) hk
      have hlt : k < (digA h k).size := by omega
      have hco : wr.cell? ⟨N4, k, none⟩ = some ((digA h k)[k]'hlt) := (blk_cell ho k).trans (Array.getElem?_eq_getElem hlt)
      have hfo : wr.frozen? ⟨N4, k, none⟩ = false := blk_free ho k
      have ho' := blk_set ho k (mkB x)
      rw [digA_set h k x hx h16] at ho'
      have hd' := blk_far hd (p := ⟨N4, k, none⟩) (by show N3 ≠ N4; omega) (mkB x)
      have hz' := blk_far hz (p := ⟨N4, k, none⟩) (by show w.heap.size ≠ N4; omega) (mkB x)
      have hB' := Below.setCell hB (p := ⟨N4, k, none⟩) (by show w.heap.size ≤ N4; omega) (mkB x)
      have Ho := Lib.hid ho'
      have Hd := Lib.hid hd'
      have Hz := Lib.hid hz'
      have HB := Lib.hid hB'
      clear ho' hd' hz' hB' hso ho hd hz hx
      go_wp2
      go_roundw
      case rel => exact ⟨k + 1, by omega, by go_num, Ho.out, Hd.out, Hz.out, HB.out⟩
      case measure => simp [intOf]; omega
    · obtain rfl : k = 16 := by omega
      obtain ⟨E, hE⟩ : ∃ E, E = digA h 16 := ⟨_, rfl⟩
      have hEs : E.size = 16 := by rw [hE]; exact digA_size h 16 (by omega) (Nat.le_refl _)
      have hE1 : E.all (·.oneCell') = true := by rw [hE, digA_full]; exact one_cells _
      have hEi : Hid ((Tryd.prog.info? 26).map (·.size) = some E.size) := Lib.hid (by rw [hEs]; kernel_rfl)
      have hEz : Hid ((List.replicate 16 (Value.int .u8 0)).toArray.size = E.size) := Lib.hid (by rw [hEs]; rfl)
      rw [← hE] at ho
      have HE := Lib.hid hE
      clear hE hd
      go_wp2_with (first
        | (with_reducible refine wpList_load_row rfl 26 (.tmp 4) rfl N4 rfl 26 _ _ _ ho Tryd.underlying26 rfl hEi.out ?_)
        | (with_reducible refine wpList_store_row rfl 26 (.tmp 2) (.tmp 18) rfl w.heap.size E rfl rfl 26 _ hz hEi.out hEz.out hE1 ?_))
      exact bodyPost_ret (v := .agg E) (results_cell_row Tryd.results51 _ _ w.heap.size 26 _ _ _ rfl (blk_setRow hz _) Tryd.underlying26 rfl hEi.out) rfl ⟨by rw [HE.out], below_setRow hB (Nat.le_refl _) _⟩
set_option maxRecDepth 100000 in
set_option maxHeartbeats 2000000 in
theorem rof_any (tag : Int) (v : Value) (ps : List (List UInt8)) (w : World) (hr : Rd mkS w v ps) (hn : ps.length ≤ 1000) (hs : ∀ l ∈ ps, l.length ≤ 10000) (hT : TabR w) :
    Calls Tryd.prog 14 #[.int .i64 tag, v] w fun e w' => e = .returned (bytesV ((sha (ofIn tag ps)).take 16)) ∧ Below w.heap.size w w' := by
  have hlen := ofIn_len tag ps hs ps.length (Nat.le_refl _)
  rw [List.take_length] at hlen
  have hsh := fun v W (hW : RdB W v (ofIn tag ps)) (h : TabR W) => rshort_any v (ofIn tag ps) W hW (by omega) h
  have hin := fun W (hW : Rd mkS W v ps) => rinput_any tag v ps W hW hn hs
  have hsl := sha_len (ofIn tag ps)
  generalize sha (ofIn tag ps) = h at *
  generalize ofIn tag ps = x at *
  obtain ⟨E, hE⟩ : ∃ E : Array Value, E = ((h.take 16).map mkB).toArray := ⟨_, rfl⟩
  have hEs : E.size = 16 := by rw [hE]; simp [hsl]
  have hE1 : E.all (·.oneCell') = true := by rw [hE]; exact one_cells _
  have hEi : Hid ((Tryd.prog.info? 26).map (·.size) = some E.size) := Lib.hid (by rw [hEs]; kernel_rfl)
  have hEz : Hid ((List.replicate 16 (Value.int .u8 0)).toArray.size = E.size) := Lib.hid (by rw [hEs]; rfl)
  have hE' : bytesV (h.take 16) = .agg E := by rw [hE]; rfl
  rw [hE'] at hsh ⊢
  have Hsh := Lib.hid hsh
  have Hin := Lib.hid hin
  clear hE hE' hsh hin hsl hlen
  go_enter Tryd.func14, Tryd.ntmps14
  go_wp2_with fail
  have hz0 : Blk (w.alloc (.cells (List.replicate 16 (Value.int .u8 0)).toArray 26)) w.heap.size (List.replicate 16 (Value.int .u8 0)).toArray 26 := blk_new w _ _
  have hB0 : Below w.heap.size w (w.alloc (.cells (List.replicate 16 (Value.int .u8 0)).toArray 26)) := (Below.refl _ _).alloc (Nat.le_refl _) _
  change Calls _ _ _ (w.alloc (.cells (List.replicate 16 (Value.int .u8 0)).toArray 26)) _
  generalize w.alloc (.cells (List.replicate 16 (Value.int .u8 0)).toArray 26) = w0 at *
  with_reducible refine (Hin.out w0 (Rd.below hr hB0)).mono ?_
  rintro e w1 ⟨⟨v1, rfl, hown⟩, hw1⟩
  have hk1 := blk_kept hz0 hw1
  have hB1 := hB0.trans (hw1.mono hB0.size)
  go_wp2_with (first
    | (go_at_call 51; (with_reducible refine (Hsh.out v1 w1 (own_rd hown) (hT.below hB1)).mono ?_); rintro e w2 ⟨rfl, hw2⟩; have hk2 := blk_kept hk1 hw2; have hB2 := hB1.trans (hw2.mono hB1.size))
    | (with_reducible refine wpList_store_row rfl 26 (.tmp 4) (.tmp 8) rfl w.heap.size E rfl rfl 26 _ hk2 hEi.out hEz.out hE1 ?_))
  exact bodyPost_ret (v := .agg E) (results_cell_row Tryd.results14 _ _ w.heap.size 26 _ _ _ rfl (blk_setRow hk2 _) Tryd.underlying26 rfl hEi.out) rfl ⟨rfl, below_setRow hB2 (Nat.le_refl _) _⟩
end Go.Proofs.YtbgieephehfgpabDoor
/-
  What the law's hex and the reference's Bytes32, Text return. Conditions: strings of at most 10^6 bytes.
-/
namespace Go.Proofs.YtbgieephehfgpabDoor
open Go Go.RowKit Sha
set_option maxRecDepth 100000 in
set_option maxHeartbeats 1000000 in
theorem bytes32_any (l : List UInt8) (w : World) (hl : l.length = 32) :
    Calls Tryd.prog 48 #[bytesV l] w fun e w' => e = .returned (.string ⟨l.toArray⟩) ∧ Below w.heap.size w w' := by
  obtain ⟨C, hC⟩ : ∃ C : Array Value, C = (l.map mkB).toArray := ⟨_, rfl⟩
  have hbv : bytesV l = .agg C := by rw [hC]; rfl
  have hget : ∀ i x, l[i]? = some x → C[i]? = some (mkB x) := fun i x h => by rw [hC, List.getElem?_toArray, List.getElem?_map, h]; rfl
  rw [hbv]
  clear hC hbv
  go_enter Tryd.func48, Tryd.ntmps48
  go_wp2
  go_loopw [3, 4] (fun o i wr => ∃ k : Nat, k ≤ 32 ∧ i = .int .i64 (k : Int) ∧ Own wr (w.heap.size + 1) o (l.take k) ∧ Blk wr w.heap.size C 33 ∧ Below w.heap.size w wr ∧ w.heap.size + 1 ≤ wr.heap.size) (fun _ i _ => 32 - (intOf i).toNat)
  case atStart => exact ⟨0, by omega, rfl, own_nil _ _, blk_new _ _ _, (Below.refl _ _).alloc (Nat.le_refl _) _, by simp⟩
  case round =>
    obtain ⟨k, hk, rfl, hown, hb, hB, hsz⟩ := hrel
    by_cases h : k < 32
    · obtain ⟨x, hx⟩ : ∃ x, l[k]? = some x := ⟨_, List.getElem?_eq_getElem (by omega)⟩
      have hc : wr.cell? ⟨w.heap.size, k, none⟩ = some (.int .u8 (x.toNat : Int)) := (blk_cell hb k).trans (hget k x hx)
      have ht : l.take (k + 1) = l.take k ++ [x] := by rw [List.take_add_one, hx]; rfl
      have hlen : (l.take k).length < 1000000000000 := by simp; omega
      have Ht := Lib.hid ht
      clear ht
      go_wp2_with (with_reducible refine wp_appB1 rfl (.tmp 9) (.tmp 13) rfl (w.heap.size + 1) _ (l.take k) rfl hown x _ rfl rfl hlen hsz ?_; intro v1 w1 hown1 hg1 hv1)
      exact ⟨⟨k + 1, by omega, by go_num, by rw [Ht.out]; exact hown1, hg1.kept _ _ hb (by omega), hg1.below _ _ hB (by omega), by have := hg1.size; omega⟩, by simp [intOf]; omega⟩
    · obtain rfl : k = 32 := by omega
      rw [List.take_of_length_le (by omega)] at hown
      have hcv := RdB.conv (P := Tryd.prog) (own_rd hown) 31 9 5 Tryd.underlying31 Tryd.underlying5 Tryd.underlying9
      go_wp2
      go_ret
      exact ⟨rfl, hB⟩
set_option maxRecDepth 100000 in
set_option maxHeartbeats 1000000 in
theorem text_any (l : List UInt8) (w : World) (hl : l.length = 16) :
    Calls Tryd.prog 49 #[bytesV l] w fun e w' => e = .returned (.string ⟨l.toArray⟩) ∧ Below w.heap.size w w' := by
  obtain ⟨C, hC⟩ : ∃ C : Array Value, C = (l.map mkB).toArray := ⟨_, rfl⟩
  have hbv : bytesV l = .agg C := by rw [hC]; rfl
  have hget : ∀ i x, l[i]? = some x → C[i]? = some (mkB x) := fun i x h => by rw [hC, List.getElem?_toArray, List.getElem?_map, h]; rfl
  rw [hbv]
  clear hC hbv
  go_enter Tryd.func49, Tryd.ntmps49
  go_wp2
  go_loopw [3, 4] (fun o i wr => ∃ k : Nat, k ≤ 16 ∧ i = .int .i64 (k : Int) ∧ Own wr (w.heap.size + 1) o (l.take k) ∧ Blk wr w.heap.size C 26 ∧ Below w.heap.size w wr ∧ w.heap.size + 1 ≤ wr.heap.size) (fun _ i _ => 16 - (intOf i).toNat)
  case atStart => exact ⟨0, by omega, rfl, own_nil _ _, blk_new _ _ _, (Below.refl _ _).alloc (Nat.le_refl _) _, by simp⟩
  case round =>
    obtain ⟨k, hk, rfl, hown, hb, hB, hsz⟩ := hrel
    by_cases h : k < 16
    · obtain ⟨x, hx⟩ : ∃ x, l[k]? = some x := ⟨_, List.getElem?_eq_getElem (by omega)⟩
      have hc : wr.cell? ⟨w.heap.size, k, none⟩ = some (.int .u8 (x.toNat : Int)) := (blk_cell hb k).trans (hget k x hx)
      have ht : l.take (k + 1) = l.take k ++ [x] := by rw [List.take_add_one, hx]; rfl
      have hlen : (l.take k).length < 1000000000000 := by simp; omega
      have Ht := Lib.hid ht
      clear ht
      go_wp2_with (with_reducible refine wp_appB1 rfl (.tmp 9) (.tmp 13) rfl (w.heap.size + 1) _ (l.take k) rfl hown x _ rfl rfl hlen hsz ?_; intro v1 w1 hown1 hg1 hv1)
      exact ⟨⟨k + 1, by omega, by go_num, by rw [Ht.out]; exact hown1, hg1.kept _ _ hb (by omega), hg1.below _ _ hB (by omega), by have := hg1.size; omega⟩, by simp [intOf]; omega⟩
    · obtain rfl : k = 16 := by omega
      rw [List.take_of_length_le (by omega)] at hown
      have hcv := RdB.conv (P := Tryd.prog) (own_rd hown) 31 9 5 Tryd.underlying31 Tryd.underlying5 Tryd.underlying9
      go_wp2
      go_ret
      exact ⟨rfl, hB⟩
end Go.Proofs.YtbgieephehfgpabDoor
/-
  What the law's hex returns. Conditions: strings of at most 10^6 bytes.
-/
namespace Go.Proofs.YtbgieephehfgpabDoor
open Go Go.RowKit Sha
def digits : List UInt8 := [48, 49, 50, 51, 52, 53, 54, 55, 56, 57, 97, 98, 99, 100, 101, 102]
def hexB (b : UInt8) : List UInt8 := [digits.getD (b.toNat / 16) 0, digits.getD (b.toNat % 16) 0]
def hexL (l : List UInt8) : List UInt8 := l.flatMap hexB
theorem hexL_len (l : List UInt8) : (hexL l).length = 2 * l.length := by
  induction l with
  | nil => rfl
  | cons x l ih => simp [hexL, hexB] at ih ⊢; omega
theorem digits_at (i : Nat) (h : i < 16) : digits[i]? = some (digits.getD i 0) := by
  have hl : digits.length = 16 := rfl
  rw [List.getElem?_eq_getElem (by omega)]
  simp [List.getD, hl, h]
theorem run_index_str {P : Program} (W : World) (t : TypeId) (l : List UInt8) (k : IntKind) (i : Nat) (x : UInt8) (hu : P.underlying t = some .string) (hx : l[i]? = some x) :
    (Instr.index t (.string ⟨l.toArray⟩) (.int k (i : Int))).run P W = .ok (.int .u8 (x.toNat : Int)) W := by
  have hi : i < l.length := (List.getElem?_eq_some_iff.1 hx).1
  have hg : l[i] = x := (List.getElem?_eq_some_iff.1 hx).2
  have hb : (⟨l.toArray⟩ : ByteArray)[i]? = some x := by
    rw [getElem?_pos (⟨l.toArray⟩ : ByteArray) i (by simp [ByteArray.size]; omega)]
    exact congrArg some hg
  simp [Instr.index, run_underlying hu, asIntOf, go_sem, hb]
/-- append(s, bytes...), the bytes lying in a block of their own, in a region that draws its order -/
theorem step_appBs {ops : Array Oper} {o : Oper} {a : Act} {w : World} {K : Act → World → Prop} {Q : Exit → Act → World → Prop} {E : Prop} (hgd : o.guard = none) (s x : Operand)
    (ho : o.op = .call { callee := .builtin .append, args := #[s, x], argTypes := #[31, 31] }) (base : Nat) (v : Value) (l : List UInt8) (hs : a.eval s = v) (hown : Own w base v l)
    (bs : List UInt8) (cs : Array Value) (hcs : cs.toList = bs.map mkB) (n : Nat) (hn : bs.length = n) (hx : a.eval x = .slice (some ⟨w.heap.size, 0, none⟩) n n) (hpos : 0 < n) (hlen : l.length + n < 1000000000000) (hbase : base ≤ w.heap.size)
    (h : ∀ v' w', Own w' base v' (l ++ bs) → Grew base w w' v.ownBlock → K (a.put o.dst v') w') :
    if Region.wanted o (yielded ops a.tmps) = true then Oper.wp Tryd.prog o a (w.alloc (.cells cs 5)) K Q else E := by
  obtain ⟨i0, hi, hz0, hz1, hz2⟩ := info_parts info_u8
  have hcl : ∀ j u, (bs.map mkB)[j]? = some u → (w.alloc (.cells cs 5)).cell? ((⟨w.heap.size, 0, none⟩ : Addr).add j) = some u := by
    intro j u hj
    rw [Addr.add_mid, Nat.zero_add, blk_cell (blk_new w cs 5), ← Array.getElem?_toList, hcs]
    exact hj
  refine step_append_lies (w.alloc (.cells cs 5)) hgd s x 31 ho base 5 i0 (.int .u8 0) 1 1 Tryd.underlying31 hi hz0 hz1 hz2 rfl (by decide) v l.length (l.map mkB) hs (hown.alloc _) ⟨w.heap.size, 0, none⟩ n n (bs.map mkB) hx (by rw [List.length_map, hn]; omega) hcl (by intro u hu; obtain ⟨b, _, rfl⟩ := List.mem_map.1 hu; rfl) hpos (by unfold maxLen; omega) (by omega) (by simp; omega) _ rfl ?_
  intro g cap w' hown' hg _ _
  have hO : Own w' base (.slice (some ⟨g, 0, none⟩) (l.length + n) cap) (l ++ bs) := by
    have e : (l ++ bs).map mkB = l.map mkB ++ bs.map mkB := by simp
    have e2 : (l ++ bs).length = l.length + n := by rw [List.length_append, hn]
    show w'.ownsRow _ _ _ _ _ _
    rw [e, e2]
    exact hown'
  have hrow : ∀ j, v.ownBlock = some j → base ≤ j := fun j hj => (hown.lt j hj).1
  refine h _ w' hO ⟨?_, ?_, ?_⟩
  · intro B a0 hB hBb
    exact (hB.alloc (by omega) _).grown hg (by simp; omega) (fun j hj => Nat.le_trans hBb (hrow j hj))
  · have := hg.size
    rw [World.size_alloc] at this
    omega
  · intro k z hk hkb
    exact blk_grown (blk_alloc hk _) hg (fun e => by have := hrow k e.symm; omega)
set_option maxRecDepth 100000 in
set_option maxHeartbeats 1000000 in
theorem hex_any (l : List UInt8) (w : World) (hl : l.length ≤ 1000000) :
    Calls Tryd.prog 47 #[.string ⟨l.toArray⟩] w fun e w' => e = .returned (.string ⟨(hexL l).toArray⟩) ∧ Below w.heap.size w w' := by
  have hsz : (⟨l.toArray⟩ : ByteArray).size = l.length := by simp [ByteArray.size]
  go_enter Tryd.func47, Tryd.ntmps47
  go_wp2
  go_loopw [4, 5] (fun o i wr => ∃ k : Nat, k ≤ l.length ∧ i = .int .i64 (k : Int) ∧ Own wr w.heap.size o (hexL (l.take k)) ∧ Below w.heap.size w wr) (fun _ i _ => l.length - (intOf i).toNat)
  case atStart => exact ⟨0, by omega, rfl, own_nil _ _, Below.refl _ _⟩
  case round =>
    obtain ⟨k, hk, rfl, hown, hB⟩ := hrel
    by_cases h : k < l.length
    · obtain ⟨x, hx⟩ : ∃ x, l[k]? = some x := ⟨_, List.getElem?_eq_getElem h⟩
      obtain ⟨q, hq⟩ : ∃ q, q = x.toNat / 16 := ⟨_, rfl⟩
      obtain ⟨r, hr⟩ : ∃ r, r = x.toNat % 16 := ⟨_, rfl⟩
      have hx1 := fun W => run_index_str (P := Tryd.prog) W 9 l .i64 k x Tryd.underlying9 hx
      have hx2 : ∀ W, (Instr.index 9 (.string ⟨#[48, 49, 50, 51, 52, 53, 54, 55, 56, 57, 97, 98, 99, 100, 101, 102]⟩) (.int .u8 (q : Int))).run Tryd.prog W = .ok (.int .u8 ((digits.getD q 0).toNat : Int)) W := fun W => run_index_str (P := Tryd.prog) W 9 digits .u8 q (digits.getD q 0) Tryd.underlying9 (digits_at _ (by have := x.toNat_lt; omega))
      have hx3 : ∀ W, (Instr.index 9 (.string ⟨#[48, 49, 50, 51, 52, 53, 54, 55, 56, 57, 97, 98, 99, 100, 101, 102]⟩) (.int .u8 (r : Int))).run Tryd.prog W = .ok (.int .u8 ((digits.getD r 0).toNat : Int)) W := fun W => run_index_str (P := Tryd.prog) W 9 digits .u8 r (digits.getD r 0) Tryd.underlying9 (digits_at _ (by omega))
      have e2 : (x.toNat : Int) / 16 = (q : Int) := by omega
      have e3 : (x.toNat : Int) % 16 = (r : Int) := by omega
      have e4 : (x.toNat : Int).tmod 16 = (r : Int) := by rw [Int.tmod_eq_emod_of_nonneg (by omega)]; omega
      have ew2 : IntKind.u8.wrap (q : Int) = q := IntWalk.u8_in _ (by have := x.toNat_lt; omega)
      have ew3 : IntKind.u8.wrap (r : Int) = r := IntWalk.u8_in _ (by omega)
      have hhx : hexB x = [digits.getD q 0, digits.getD r 0] := by rw [hq, hr]; rfl
      have ht : hexL (l.take (k + 1)) = hexL (l.take k) ++ hexB x := by rw [List.take_add_one, hx]; simp [hexL]
      have hbd := byte_bd x
      go_wp2
      have hlen : (hexL (l.take k)).length + 2 < 1000000000000 := by have := hexL_len (l.take k); simp at this; omega
      have hcs : (#[.int .u8 ((digits.getD q 0).toNat : Int), .int .u8 ((digits.getD r 0).toNat : Int)] : Array Value).toList = (hexB x).map mkB := by rw [hhx]; rfl
      have Hcs := Lib.hid hcs
      have Ht := Lib.hid ht
      generalize digits.getD q 0 = y1 at *
      generalize digits.getD r 0 = y2 at *
      clear hcs ht hhx hq hr
      go_region_law (refine step_appBs (w := wr.drew) rfl (.tmp 12) (.tmp 25) rfl w.heap.size _ (hexL (l.take k)) (by simp [Act.eval]) hown (hexB x) _ Hcs.out 2 rfl (by simp [Act.eval]) (by decide) hlen hB.size ?_; intro v1 w1 hown1 hg1)
      all_goals
        go_wp2_with fail
        exact ⟨⟨k + 1, by omega, by go_num, by rw [Ht.out]; exact hown1, hg1.below _ _ hB.drew (Nat.le_refl _)⟩, by simp [intOf]; omega⟩
    · obtain rfl : k = l.length := by omega
      rw [List.take_length] at hown
      have hcv := RdB.conv (P := Tryd.prog) (own_rd hown) 31 9 5 Tryd.underlying31 Tryd.underlying5 Tryd.underlying9
      go_wp2
      go_ret
      exact ⟨rfl, hB⟩
end Go.Proofs.YtbgieephehfgpabDoor
/-
  What the program's times returns: the product of two polynomials modulo the polynomial. Conditions: both are below 2^40, the tables are as the program's text lays them.
-/
namespace Go.Proofs.YtbgieephehfgpabDoor
open Go Go.RowKit Crc
set_option maxRecDepth 10000 in
set_option maxHeartbeats 1000000 in
theorem times_any (a b : R) (w : World) (hT : Tabs w) :
    Calls Tryd.prog 66 #[.int .u64 (toI a), .int .u64 (toI b)] w fun e w' => e = .returned (.int .u64 (toI (times a b))) ∧ w = w' := by
  have hc := hT.nib 1 (by omega)
  have ha0 := toI_lo a
  have ha1 := toI_hi a
  have hb0 := toI_lo b
  have hb1 := toI_hi b
  clear hT
  go_enter Tryd.func66, Tryd.ntmps66
  go_wp2
  go_loop [5, 6] (fun o i => ∃ n : Nat, n ≤ 40 ∧ i = .int .i64 ((n : Int) - 1) ∧ ∃ out : R, o = .int .u64 (toI out) ∧ horner b a n out = times a b) (fun _ i => (intOf i + 1).toNat)
  case atStart => exact ⟨40, by omega, rfl, 0#40, rfl, rfl⟩
  case round =>
    obtain ⟨n, hn, rfl, out, rfl, ho⟩ := hrel
    have ho0 := toI_lo out
    have ho1 := toI_hi out
    have Ho := Lib.hid ho
    clear ho
    cases n with
    | zero =>
      go_wp2
      go_ret
      exact ⟨ret_int (by rw [← Ho.out]; rfl), rfl⟩
    | succ n =>
      have en : ((n + 1 : Nat) : Int) - 1 = (n : Int) := by omega
      rw [en]
      clear en
      have hstep : horner b a n (X out ^^^ (if b.getLsbD n then a else 0#40)) = times a b := Ho.out
      have hxa := xor_toI (X out) a
      have tb := bit_go b n
      have t1 := msb_go out
      have t2 := sh1_go out
      have t3 := X_go1 out
      have t0 := X_go0 out
      have hXa := toI_lo (X out)
      have hXb := toI_hi (X out)
      generalize nibs.getD 1 0 = t at *
      cases hb : b.getLsbD n <;> cases h39 : out.getLsbD 39
      all_goals
        simp only [hb, if_true, Bool.false_eq_true, if_false, BitVec.xor_zero] at hstep
        rw [hb] at tb
        rw [h39] at t1
      · have t0 := t0 h39
        rw [t0] at t1
        have Hs := Lib.hid hstep
        clear t3 t2 hstep hb h39 Ho hxa
        go_wp2
        go_round
        case rel => exact ⟨n, by omega, rfl, X out, rfl, Hs.out⟩
        case measure => simp [intOf]
      · have t3 := t3 h39
        have Hs := Lib.hid hstep
        clear t0 hstep hb h39 Ho hxa
        go_wp2
        go_round
        case rel => exact ⟨n, by omega, rfl, X out, rfl, Hs.out⟩
        case measure => simp [intOf]
      · have t0 := t0 h39
        rw [t0] at t1
        have Hs := Lib.hid hstep
        clear t3 t2 hstep hb h39 Ho
        go_wp2
        go_round
        case rel => exact ⟨n, by omega, rfl, X out ^^^ a, rfl, Hs.out⟩
        case measure => simp [intOf]
      · have t3 := t3 h39
        have Hs := Lib.hid hstep
        clear t0 hstep hb h39 Ho
        go_wp2
        go_round
        case rel => exact ⟨n, by omega, rfl, X out ^^^ a, rfl, Hs.out⟩
        case measure => simp [intOf]
end Go.Proofs.YtbgieephehfgpabDoor
/-
  What the program's hash.Join returns. Conditions: the tables are as the program's text lays them.
-/
namespace Go.Proofs.YtbgieephehfgpabDoor
open Go Go.RowKit Crc
/-- the lowest 40 bits of an int -/
def Crc.low (a : Int) : R := BitVec.ofInt 40 a
theorem Crc.toI_low (a : Int) : toI (low a) = a % 1099511627776 := by
  unfold toI low
  rw [BitVec.toNat_ofInt]
  omega
theorem Crc.mask_low (a : Int) : bits .and .u64 (IntKind.u64.wrap a) 1099511627775 = toI (low a) := by
  rw [IntKind.wrap_u64, and_mask _ (by omega) (by omega), toI_low]; omega
theorem Crc.odd_go (k : Nat) : (bits .and .i64 (k : Int) 1 == 1) = decide (k % 2 = 1) := by
  rw [i64_and1, Bool.eq_iff_iff, beq_iff_eq, decide_eq_true_eq]
  omega
/-- what Join returns -/
def Crc.joinI (a b n : Int) : Int := if n < 0 then 0 else toI (joinLoop n.toNat (low a) 256#40 ^^^ low b)

set_option maxHeartbeats 1000000 in
theorem join_neg (a b n : Int) (w : World) (hn : n < 0) :
    Calls Tryd.prog 46 #[.int .i64 a, .int .i64 b, .int .i64 n] w fun e w' => e = .returned (.int .i64 0) ∧ w = w' := by
  go_enter Tryd.func46, Tryd.ntmps46
  go_wp2
  go_ret
  exact ⟨rfl, rfl⟩

set_option maxHeartbeats 1000000 in
theorem join_nat (a b : Int) (n : Nat) (w : World) (hn : n ≤ 9223372036854775807) (hT : Tabs w) :
    Calls Tryd.prog 46 #[.int .i64 a, .int .i64 b, .int .i64 (n : Int)] w fun e w' => e = .returned (.int .i64 (toI (joinLoop n (low a) 256#40 ^^^ low b))) ∧ w = w' := by
  have ma := mask_low a
  have mb := mask_low b
  have hn0 : decide ((n : Int) < 0) = false := by simp
  go_enter Tryd.func46, Tryd.ntmps46
  go_wp2
  go_loop [2, 7, 8] (fun m o p => ∃ k : Nat, k ≤ n ∧ m = .int .i64 (k : Int) ∧ ∃ out pw : R, o = .int .u64 (toI out) ∧ p = .int .u64 (toI pw) ∧ joinLoop k out pw = joinLoop n (low a) 256#40) (fun m _ _ => (intOf m).toNat)
  case atStart => exact ⟨n, Nat.le_refl _, rfl, low a, 256#40, rfl, rfl, rfl⟩
  case round =>
    obtain ⟨k, hk, rfl, out, pw, rfl, rfl, hj⟩ := hrel
    by_cases hk0 : k = 0
    · subst hk0
      rw [joinLoop, dif_pos rfl] at hj
      have hx := xor_toI out (low b)
      have hx0 := toI_lo (out ^^^ low b)
      have hx1 := toI_hi (out ^^^ low b)
      have Hj := Lib.hid hj
      clear hj
      go_wp2
      go_ret
      exact ⟨ret_int (by rw [Hj.out]), rfl⟩
    · have hk1 : 0 < k := by omega
      have hodd := odd_go k
      rw [joinLoop, dif_neg hk0] at hj
      cases ho : decide (k % 2 = 1)
      all_goals
        rw [ho] at hodd
      · have hj' : joinLoop (k / 2) out (times pw pw) = joinLoop n (low a) 256#40 := by simpa [of_decide_eq_false ho] using hj
        have Hj := Lib.hid hj'
        clear hj hj' ho hk0
        go_wp2_with (go_at_call 66; ((with_reducible refine (times_any _ _ _ hT).mono ?_); rintro e w' ⟨rfl, rfl⟩))
        go_round
        case rel => exact ⟨k / 2, by omega, by go_num, out, _, rfl, rfl, Hj.out⟩
        case measure => simp [intOf]; omega
      · have hj' : joinLoop (k / 2) (times out pw) (times pw pw) = joinLoop n (low a) 256#40 := by simpa [of_decide_eq_true ho] using hj
        have Hj := Lib.hid hj'
        clear hj hj' ho hk0
        go_wp2_with (go_at_call 66; ((with_reducible refine (times_any _ _ _ hT).mono ?_); rintro e w' ⟨rfl, rfl⟩))
        go_round
        case rel => exact ⟨k / 2, by omega, by go_num, _, _, rfl, rfl, Hj.out⟩
        case measure => simp [intOf]; omega
end Go.Proofs.YtbgieephehfgpabDoor
/-
  The law's sanity returns true. Condition: the tables are as the program's text lays them.
-/
namespace Go.Proofs.YtbgieephehfgpabDoor
open Go Go.RowKit Sha Crc
theorem rd_lit {α : Type} (mk : α → Value) (w : World) (cs : Array Value) (t : TypeId) (fr : Nat × Nat) (l : List α) (n : Nat) (hn : l.length = n) (hcs : cs.toList = l.map mk) : Rd mk (w.alloc (.cells cs t fr)) (.slice (some ⟨w.heap.size, 0, none⟩) n n) l := by
  refine ⟨_, n, by rw [hn], by omega, .inr ⟨w.heap.size, 0, rfl, by simp, fun i x hx => ?_⟩⟩
  rw [Nat.zero_add, blk_cell (heap_alloc_new w (.cells cs t fr)), ← Array.getElem?_toList, hcs, List.getElem?_map, hx]
  rfl
/-- the load of a whole array, in an operation whose guard holds -/
theorem wpList_load_row_g {P : Program} {ops : Array Oper} {rest : List Oper} {o : Oper} {a : Act} {w : World} {Q : Exit → Act → World → Prop} (hw : Region.wanted o (yielded ops a.tmps) = true) (ty : TypeId) (x : Operand) (ho : o.op = .load ty x)
    (g : Nat) (hx : a.eval x = .pointer (some ⟨g, 0, none⟩)) (t : TypeId) (cs : Array Value) (fr : Nat × Nat) (d : TypeDesc) (hg : w.heap[g]? = some (.cells cs t fr))
    (hu : P.underlying ty = some d) (hd : (match d with | .struct _ | .array _ _ => true | _ => false) = true) (hi : (P.info? ty).map (·.size) = some cs.size)
    (h : wpList P ops Q rest (a.put o.dst (.agg cs)) w) : wpList P ops Q (o :: rest) a w :=
  wpList_step fun K hK => by rw [if_pos hw]; exact wp_load_row ty x ho g hx t cs fr d hg hu hd hi (hK _ _ h)
theorem val_abc : hexL (sha [97, 98, 99]) = [98, 97, 55, 56, 49, 54, 98, 102, 56, 102, 48, 49, 99, 102, 101, 97, 52, 49, 52, 49, 52, 48, 100, 101, 53, 100, 97, 101, 50, 50, 50, 51, 98, 48, 48, 51, 54, 49, 97, 51, 57, 54, 49, 55, 55, 97, 57, 99, 98, 52, 49, 48, 102, 102, 54, 49, 102, 50, 48, 48, 49, 53, 97, 100] := by decide +kernel
theorem val_of : hexL ((sha (ofIn 1 [])).take 16) = [52, 98, 102, 53, 49, 50, 50, 102, 51, 52, 52, 53, 53, 52, 99, 53, 51, 98, 100, 101, 50, 101, 98, 98, 56, 99, 100, 50, 98, 55, 101, 51] := by decide +kernel
theorem val_254 : toI (crc [254]) = 75628790 := by decide +kernel
theorem val_ff : toI (adds (adds ones [255]) [255] ^^^ ones) = 65535 := by decide +kernel
theorem val_words : toI (crc (wordsB [1099511627774])) = 1099435999222 := by decide +kernel
theorem val_j1 : toI (joinLoop 1 (low 255) 256#40 ^^^ low 255) = 65535 := by decide +kernel
theorem val_j2 : toI (joinLoop 1 (low 255) 256#40 ^^^ low 0) = 65280 := by decide +kernel
theorem val_j3 : toI (joinLoop 0 (low 7) 256#40 ^^^ low 9) = 14 := by decide +kernel
set_option maxRecDepth 100000 in
set_option maxHeartbeats 4000000 in
theorem sanity_any (w : World) (hT : Tabs w) :
    Calls Tryd.prog 11 #[] w fun e w' => e = .returned (.bool true) ∧ Below w.heap.size w w' := by
  obtain ⟨D, hD⟩ : ∃ D : Array Value, D = ((sha [97, 98, 99]).map mkB).toArray := ⟨_, rfl⟩
  have hDs : D.size = 32 := by rw [hD]; simp [sha_len]
  have hD1 : D.all (·.oneCell') = true := by rw [hD]; exact one_cells _
  have hDi : Hid ((Tryd.prog.info? 33).map (·.size) = some D.size) := Lib.hid (by rw [hDs]; kernel_rfl)
  have hD' : Hid (bytesV (sha [97, 98, 99]) = .agg D) := Lib.hid (by rw [hD]; rfl)
  obtain ⟨E, hE⟩ : ∃ E : Array Value, E = (((sha (ofIn 1 [])).take 16).map mkB).toArray := ⟨_, rfl⟩
  have hEs : E.size = 16 := by rw [hE]; simp [sha_len]
  have hE1 : E.all (·.oneCell') = true := by rw [hE]; exact one_cells _
  have hEi : Hid ((Tryd.prog.info? 26).map (·.size) = some E.size) := Lib.hid (by rw [hEs]; kernel_rfl)
  have hE' : Hid (bytesV ((sha (ofIn 1 [])).take 16) = .agg E) := Lib.hid (by rw [hE]; rfl)
  have hcc : ∀ W : World, (convert 31 31 (.slice (some ⟨W.heap.size, 0, none⟩) 3 3)).run Tryd.prog (W.alloc (.cells #[.int .u8 97, .int .u8 98, .int .u8 99] 5)) = .ok (.slice (some ⟨W.heap.size, 0, none⟩) 3 3) (W.alloc (.cells #[.int .u8 97, .int .u8 98, .int .u8 99] 5 (3, 4))) := fun W => Lib.run_convert_bytes_const W 31 5 _ 3 3 Tryd.underlying31 Tryd.underlying5
  have hS1 : ∀ W : World, Tabs (W.alloc (.cells #[.int .u8 97, .int .u8 98, .int .u8 99] 5 (3, 4))) → Calls Tryd.prog 16 #[.slice (some ⟨W.heap.size, 0, none⟩) 3 3] (W.alloc (.cells #[.int .u8 97, .int .u8 98, .int .u8 99] 5 (3, 4))) fun e w' => e = .returned (.agg D) ∧ Below (W.heap.size + 1) (W.alloc (.cells #[.int .u8 97, .int .u8 98, .int .u8 99] 5 (3, 4))) w' := fun W h => by
    have := hsum_any _ [97, 98, 99] _ (rd_lit mkB W #[.int .u8 97, .int .u8 98, .int .u8 99] 5 (3, 4) [97, 98, 99] 3 rfl rfl) (by decide) h.c
    rw [hD'.out, World.size_alloc] at this
    exact this
  have hS2 : ∀ v W, Rep [97, 98, 99] v → Tabs W → Calls Tryd.prog 40 #[v] W fun e w' => e = .returned (.agg D) ∧ Below W.heap.size W w' := fun v W h1 h2 => by
    have := ssum_any _ v W h1 (by decide) h2.c
    rw [hD'.out] at this
    exact this
  have hOf : ∀ W, Tabs W → Calls Tryd.prog 13 #[.int .i64 1, .slice none 0 0] W fun e w' => e = .returned (.agg E) ∧ Below W.heap.size W w' := fun W h => by
    have := of_any 1 (.slice none 0 0) [] W ⟨none, 0, rfl, by decide, .inl rfl⟩ (by decide) (by intro l hl; cases hl) h.c
    rw [hE'.out] at this
    exact this
  have hCr : ∀ W : World, Tabs (W.alloc (.cells #[.int .u8 254] 5)) → Calls Tryd.prog 41 #[.slice (some ⟨W.heap.size, 0, none⟩) 1 1] (W.alloc (.cells #[.int .u8 254] 5)) fun e w' => e = .returned (.int .i64 75628790) ∧ Below (W.heap.size + 1) (W.alloc (.cells #[.int .u8 254] 5)) w' := fun W h => by
    have := crc40_any _ [254] _ (rd_lit mkB W #[.int .u8 254] 5 (0, 0) [254] 1 rfl rfl) (by decide) h
    rw [val_254, World.size_alloc] at this
    exact this
  have hWo : ∀ W : World, Tabs (W.alloc (.cells #[.int .i64 1099511627774] 3)) → Calls Tryd.prog 45 #[.slice (some ⟨W.heap.size, 0, none⟩) 1 1] (W.alloc (.cells #[.int .i64 1099511627774] 3)) fun e w' => e = .returned (.int .i64 1099435999222) ∧ Below (W.heap.size + 1) (W.alloc (.cells #[.int .i64 1099511627774] 3)) w' := fun W h => by
    have := words_any _ [1099511627774] _ (rd_lit mkI W #[.int .i64 1099511627774] 3 (0, 0) [1099511627774] 1 rfl rfl) (by decide) (by intro n hn; simp at hn; subst hn; decide) h
    rw [val_words, World.size_alloc] at this
    exact this
  have hA1 : ∀ (r : R) (b : UInt8) (W : World), Tabs W → Calls Tryd.prog 43 #[.agg #[.int .u64 (toI r)], .string ⟨#[b]⟩] W fun e w' => e = .returned (.agg #[.int .u64 (toI (adds r [b]))]) ∧ Below W.heap.size W w' := fun r b W h => add_any r ⟨#[b]⟩ W (by simp [ByteArray.size]) h
  have hJ1 : ∀ W, Tabs W → Calls Tryd.prog 46 #[.int .i64 255, .int .i64 255, .int .i64 1] W fun e w' => e = .returned (.int .i64 65535) ∧ W = w' := fun W h => by
    have := join_nat 255 255 1 W (by decide) h
    rw [val_j1] at this
    exact this
  have hJ2 : ∀ W, Tabs W → Calls Tryd.prog 46 #[.int .i64 255, .int .i64 0, .int .i64 1] W fun e w' => e = .returned (.int .i64 65280) ∧ W = w' := fun W h => by
    have := join_nat 255 0 1 W (by decide) h
    rw [val_j2] at this
    exact this
  have hJ3 : ∀ W, Tabs W → Calls Tryd.prog 46 #[.int .i64 7, .int .i64 9, .int .i64 0] W fun e w' => e = .returned (.int .i64 14) ∧ W = w' := fun W h => by
    have := join_nat 7 9 0 W (by decide) h
    rw [val_j3] at this
    exact this
  have hkey : (keyOf Tryd.prog 33 (.agg D)).isSome = true := by rw [hD]; kernel_rfl
  obtain ⟨lx, hlx⟩ := Option.isSome_iff_exists.1 hkey
  have heq : ∀ W, (Op.equalIn 10000 33 (.agg D) (.agg D)).run Tryd.prog W = .ok true W := fun W => by
    obtain ⟨r, hr, hiff⟩ := run_equal_deep (P := Tryd.prog) W (m := 3) (by decide) (k := 33) (by kernel_rfl) (by rw [Tryd.underlying33]) hlx hlx
    have hr1 : r = true := hiff.2 rfl
    rw [hr1] at hr
    exact hr
  clear hkey hlx
  have hB32 : ∀ W, Calls Tryd.prog 48 #[.agg D] W fun e w' => e = .returned (.string ⟨(sha [97, 98, 99]).toArray⟩) ∧ Below W.heap.size W w' := fun W => by
    have := bytes32_any (sha [97, 98, 99]) W (sha_len _)
    rw [hD'.out] at this
    exact this
  have hT16 : ∀ W, Calls Tryd.prog 49 #[.agg E] W fun e w' => e = .returned (.string ⟨((sha (ofIn 1 [])).take 16).toArray⟩) ∧ Below W.heap.size W w' := fun W => by
    have := text_any ((sha (ofIn 1 [])).take 16) W (by simp [sha_len])
    rw [hE'.out] at this
    exact this
  have hx1 := fun W => hex_any (sha [97, 98, 99]) W (by rw [sha_len]; decide)
  have hx2 := fun W => hex_any ((sha (ofIn 1 [])).take 16) W (by simp [sha_len])
  rw [val_abc] at hx1
  rw [val_of] at hx2
  generalize sha [97, 98, 99] = sa at *
  generalize (sha (ofIn 1 [])).take 16 = sb at *
  clear hD hE
  go_enter Tryd.func11, Tryd.ntmps11
  go_wp2_with (first
    | (go_at_call 16; ((with_reducible refine (hS1 w (hT.alloc _)).mono ?_); rintro e w1 ⟨rfl, hw1⟩; have hB1 : Below w.heap.size w w1 := (below_alloc1 w _).trans (hw1.mono (by omega)); clear hw1))
    | (with_reducible refine wpList_store_row rfl 33 (.tmp 1) (.tmp 10) rfl w1.heap.size D rfl rfl 33 _ (blk_new w1 _ _) hDi.out (Eq.trans (by kernel_rfl : _ = 32) hDs.symm) hD1 ?_; rw [World.setRow_alloc_new]; simp only [Act.put]; have hk1 := blk_new w1 D 33; have hB2 := hB1.alloc hB1.size (.cells D 33); generalize w1.alloc (.cells D 33) = w2 at *)
    | (go_at_call 38; ((with_reducible refine (begin2_any _).mono ?_); rintro e w3 ⟨⟨v3, hv3, rfl⟩, hw3⟩; have hB3 := hB2.trans (hw3.mono hB2.size); have hk3 := blk_kept hk1 hw3; clear hw3))
    | (go_at_call 39; ((with_reducible refine (sadd_any [] v3 ⟨#[97]⟩ w3 hv3 (by decide) (hT.below hB3).c).mono ?_); rintro e w4 ⟨⟨v4, hv4, rfl⟩, hw4⟩; have hB4 := hB3.trans (hw4.mono hB3.size); have hk4 := blk_kept hk3 hw4; have hv4' : Rep [97] v4 := hv4; clear hw4 hv4))
    | (go_at_call 39; ((with_reducible refine (sadd_any [97] v4 ⟨#[98, 99]⟩ w4 hv4' (by decide) (hT.below hB4).c).mono ?_); rintro e w5 ⟨⟨v5, hv5, rfl⟩, hw5⟩; have hB5 := hB4.trans (hw5.mono hB4.size); have hk5 := blk_kept hk4 hw5; have hv5' : Rep [97, 98, 99] v5 := hv5; clear hw5 hv5))
    | (go_at_call 40; ((with_reducible refine (hS2 v5 w5 hv5' (hT.below hB5)).mono ?_); rintro e w6 ⟨rfl, hw6⟩; have hB6 := hB5.trans (hw6.mono hB5.size); have hk6 := blk_kept hk5 hw6; clear hw6))
    | (with_reducible refine wpList_store_row rfl 33 (.tmp 2) (.tmp 14) rfl w6.heap.size D rfl rfl 33 _ (blk_new w6 _ _) hDi.out (Eq.trans (by kernel_rfl : _ = 32) hDs.symm) hD1 ?_; rw [World.setRow_alloc_new]; simp only [Act.put]; have hl7 := blk_new w6 D 33; have hk7 := blk_alloc hk6 (.cells D 33); have hB7 := hB6.alloc hB6.size (.cells D 33); generalize w6.alloc (.cells D 33) = w7 at *)
    | (go_at_call 13; ((with_reducible refine (hOf w7 (hT.below hB7)).mono ?_); rintro e w8 ⟨rfl, hw8⟩; have hB8 := hB7.trans (hw8.mono hB7.size); have hk8 := blk_kept hk7 hw8; have hl8 := blk_kept hl7 hw8; clear hw8))
    | (with_reducible refine wpList_store_row rfl 26 (.tmp 3) (.tmp 15) rfl w8.heap.size E rfl rfl 26 _ (blk_new w8 _ _) hEi.out (Eq.trans (by kernel_rfl : _ = 16) hEs.symm) hE1 ?_; rw [World.setRow_alloc_new]; simp only [Act.put]; have hm9 := blk_new w8 E 26; have hk9 := blk_alloc hk8 (.cells E 26); have hl9 := blk_alloc hl8 (.cells E 26); have hB9 := hB8.alloc hB8.size (.cells E 26); generalize w8.alloc (.cells E 26) = w9 at *)
    | (go_at_call 41; ((with_reducible refine (hCr w9 (hT.below (hB9.alloc hB9.size _))).mono ?_); rintro e w10 ⟨rfl, hw10⟩; have hB10 := (hB9.alloc hB9.size (.cells #[.int .u8 254] 5)).trans (hw10.mono (Nat.le_succ_of_le hB9.size)); have hk10 := blk_below (blk_alloc hk9 (.cells #[.int .u8 254] 5)) hw10 (Nat.lt_succ_of_lt (blk_lt hk9)); have hl10 := blk_below (blk_alloc hl9 (.cells #[.int .u8 254] 5)) hw10 (Nat.lt_succ_of_lt (blk_lt hl9)); have hm10 := blk_below (blk_alloc hm9 (.cells #[.int .u8 254] 5)) hw10 (Nat.lt_succ_of_lt (blk_lt hm9)); clear hw10))
    | (go_at_call 42; ((with_reducible refine (begin_any w10).mono ?_); rintro e w11 ⟨rfl, hw11⟩; have hB11 := hB10.trans (hw11.mono hB10.size); have hk11 := blk_kept hk10 hw11; have hl11 := blk_kept hl10 hw11; have hm11 := blk_kept hm10 hw11; clear hw11))
    | (go_at_call 43; ((with_reducible refine (hA1 ones 255 w11 (hT.below hB11)).mono ?_); rintro e w12 ⟨rfl, hw12⟩; have hB12 := hB11.trans (hw12.mono hB11.size); have hk12 := blk_kept hk11 hw12; have hl12 := blk_kept hl11 hw12; have hm12 := blk_kept hm11 hw12; clear hw12))
    | (go_at_call 43; ((with_reducible refine (hA1 (adds ones [255]) 255 w12 (hT.below hB12)).mono ?_); rintro e w13 ⟨rfl, hw13⟩; have hB13 := hB12.trans (hw13.mono hB12.size); have hk13 := blk_kept hk12 hw13; have hl13 := blk_kept hl12 hw13; have hm13 := blk_kept hm12 hw13; clear hw13))
    | (go_at_call 44; ((with_reducible refine (value_any (adds (adds ones [255]) [255]) w13).mono ?_); rintro e w14 ⟨rfl, hw14⟩; rw [val_ff]; have hB14 := hB13.trans (hw14.mono hB13.size); have hk14 := blk_kept hk13 hw14; have hl14 := blk_kept hl13 hw14; have hm14 := blk_kept hm13 hw14; clear hw14))
    | (go_at_call 45; ((with_reducible refine (hWo w14 (hT.below (hB14.alloc hB14.size _))).mono ?_); rintro e w15 ⟨rfl, hw15⟩; have hB15 := (hB14.alloc hB14.size (.cells #[.int .i64 1099511627774] 3)).trans (hw15.mono (Nat.le_succ_of_le hB14.size)); have hk15 := blk_below (blk_alloc hk14 (.cells #[.int .i64 1099511627774] 3)) hw15 (Nat.lt_succ_of_lt (blk_lt hk14)); have hl15 := blk_below (blk_alloc hl14 (.cells #[.int .i64 1099511627774] 3)) hw15 (Nat.lt_succ_of_lt (blk_lt hl14)); have hm15 := blk_below (blk_alloc hm14 (.cells #[.int .i64 1099511627774] 3)) hw15 (Nat.lt_succ_of_lt (blk_lt hm14)); clear hw15))
    | (go_at_call 46; ((with_reducible refine (hJ1 w15 (hT.below hB15)).mono ?_); rintro e w16 ⟨rfl, rfl⟩))
    | (go_at_call 46; ((with_reducible refine (hJ2 w15 (hT.below hB15)).mono ?_); rintro e w16 ⟨rfl, rfl⟩))
    | (go_at_call 46; ((with_reducible refine (hJ3 w15 (hT.below hB15)).mono ?_); rintro e w16 ⟨rfl, rfl⟩))
    | (go_at_call 46; ((with_reducible refine (join_neg 1 1 (-1) w15 (by decide)).mono ?_); rintro e w16 ⟨rfl, rfl⟩))
    | (with_reducible refine wpList_load_row rfl 33 (.tmp 1) rfl w1.heap.size rfl 33 _ _ _ hk15 Tryd.underlying33 rfl hDi.out ?_)
    | (go_at_call 48; ((with_reducible refine (hB32 w15).mono ?_); rintro e w16 ⟨rfl, hw16⟩; have hB16 := hB15.trans (hw16.mono hB15.size); have hk16 := blk_kept hk15 hw16; have hl16 := blk_kept hl15 hw16; have hm16 := blk_kept hm15 hw16; clear hw16))
    | (go_at_call 47; ((with_reducible refine (hx1 w16).mono ?_); rintro e w17 ⟨rfl, hw17⟩; have hB17 := hB16.trans (hw17.mono hB16.size); have hk17 := blk_kept hk16 hw17; have hl17 := blk_kept hl16 hw17; have hm17 := blk_kept hm16 hw17; clear hw17))
    | (with_reducible refine wpList_load_row_g ?_ 33 (.tmp 1) rfl w1.heap.size rfl 33 _ _ _ hk17 Tryd.underlying33 rfl hDi.out ?_; focus (first | rfl | (simp [Region.wanted, yielded]; done)))
    | (with_reducible refine wpList_load_row_g ?_ 33 (.tmp 2) rfl w6.heap.size (by simp [Act.eval, Act.put]) 33 _ _ _ hl17 Tryd.underlying33 rfl hDi.out ?_; focus (first | rfl | (simp [Region.wanted, yielded, Act.put]; done)))
    | (with_reducible refine wpList_load_row_g ?_ 26 (.tmp 3) rfl w8.heap.size (by simp [Act.eval, Act.put]) 26 _ _ _ hm17 Tryd.underlying26 rfl hEi.out ?_; focus (first | rfl | (simp [Region.wanted, yielded]; done)))
    | (go_at_call 49; ((with_reducible refine (hT16 w17).mono ?_); rintro e w18 ⟨rfl, hw18⟩; have hB18 := hB17.trans (hw18.mono hB17.size); clear hw18))
    | (go_at_call 47; ((with_reducible refine (hx2 w18).mono ?_); rintro e w19 ⟨rfl, hw19⟩; have hB19 := hB18.trans (hw19.mono hB18.size); clear hw19)))
  go_ret
  exact ⟨rfl, hB19⟩
end Go.Proofs.YtbgieephehfgpabDoor
