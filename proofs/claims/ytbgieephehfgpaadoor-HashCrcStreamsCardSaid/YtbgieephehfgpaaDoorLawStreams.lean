/-
  The function of the law HashCrcStreams returns true. Condition: the tables are as the program's text lays them.
-/
import Derived.Test.YtbgieephehfgpaaDoorSanity
import Derived.Test.YtbgieephehfgpaaDoorRefJoined
import Derived.Test.YtbgieephehfgpaaDoorConvStr
import Derived.Test.YtbgieephehfgpaaDoorRest
import Derived.Test.YtbgieephehfgpaaDoorPlainLaws
import Derived.StillTailTactics
namespace Go.Proofs.YtbgieephehfgpaaDoor
open Go Go.RowKit Crc
/-- the register after some pieces -/
def sReg (ps : List (List UInt8)) : R := adds ones ps.flatten
theorem sReg_step (ps : List (List UInt8)) (k : Nat) (x : List UInt8) (hx : ps[k]? = some x) : sReg (ps.take (k + 1)) = adds (sReg (ps.take k)) x := by
  unfold sReg
  rw [List.take_add_one, hx]
  simp [adds_append]
set_option maxRecDepth 100000 in
set_option maxHeartbeats 4000000 in
theorem lawstreams_any (v : Value) (ps : List (List UInt8)) (o : List UInt8) (n : Nat) (w : World) (hn : n < 256) (hr : Rd mkS w v ps) (hT : Tabs w) :
    Calls Tryd.prog 4 #[v, .string ⟨o.toArray⟩, .int .u8 (n : Int)] w fun e w' => e = .returned (.bool true) ∧ Below w.heap.size w w' := by
  have Hr := Lib.hid hr
  obtain ⟨va, vcap, rfl, hvc, hvcell⟩ := hr
  have hosz : (⟨o.toArray⟩ : ByteArray).size = o.length := by simp [ByteArray.size]
  go_enter Tryd.func4, Tryd.ntmps4
  go_wp2_with fail
  with_reducible refine (sanity_any w hT).mono ?_
  rintro e w1 ⟨rfl, hw1⟩
  go_wp2_with fail
  with_reducible refine (few_any _ ps w1 (Rd.below Hr.out hw1)).mono ?_
  rintro e w2 ⟨⟨b, rfl, hb⟩, rfl⟩
  cases b with
  | false =>
    go_wp2_with fail
    go_ret
    exact ⟨rfl, hw1⟩
  | true =>
    obtain ⟨hn12, hs⟩ := hb rfl
    clear hb
    by_cases ho4 : o.length ≤ 400
    · have hd4 : decide ((400 : Int) < (o.length : Int)) = false := by simp; omega
      obtain ⟨K, hK, hKn⟩ : ∃ K : Nat, (n : Int) % ((ps.length : Int) + 1) = (K : Int) ∧ K ≤ ps.length := by
        have h1 := Nat.mod_lt n (show 0 < ps.length + 1 by omega)
        exact ⟨n % (ps.length + 1), by simp, by omega⟩
      go_wp2_with fail
      with_reducible refine (begin_any w1).mono ?_
      rintro e w2 ⟨rfl, hw2⟩
      have hB2 := hw1.trans (hw2.mono hw1.size)
      clear hw2
      go_wp2_with fail
      have hk3 : Blk (w2.alloc (.cells #[.int .u64 (toI ones)] 30)) w2.heap.size #[.int .u64 (toI ones)] 30 := blk_new w2 _ _
      have hB3 := hB2.alloc hB2.size (.cells #[.int .u64 (toI ones)] 30)
      have hN9 := hB2.size
      generalize w2.alloc (.cells #[.int .u64 (toI ones)] 30) = w3 at *
      clear hB2
      generalize w2.heap.size = N9 at *
      have hflat : ∀ x ∈ ps, x.length ≤ 400 := hs
      have HFL := Lib.hid hflat
      clear hs hflat
      go_loopw [10] (fun i wr => ∃ k : Nat, 0 ≤ k ∧ k ≤ K ∧ i = .int .i64 (k : Int) ∧ Blk wr N9 #[.int .u64 (toI (sReg (ps.take k)))] 30 ∧ Below w.heap.size w wr) (fun i _ => K - (intOf i).toNat)
      case atStart => exact ⟨0, by omega, by omega, rfl, hk3, hB3⟩
      case round =>
        clear hk3 hB3
        obtain ⟨k, hk0, hk, rfl, hk9, hB⟩ := hrel
        by_cases h : k < K
        · rcases hvcell with hnil | ⟨b, off, rfl, hbl, hcell⟩
          · subst hnil; exfalso; simp only [List.length_nil] at hKn h; omega
          · obtain ⟨x, hx⟩ : ∃ x, ps[k]? = some x := ⟨_, List.getElem?_eq_getElem (by omega)⟩
            have hxs := HFL.out x (List.mem_of_getElem? hx)
            have hcx : wr.drew.cell? ⟨b, off + k, none⟩ = some (.string ⟨x.toArray⟩) := (hB.cell (p := ⟨b, off + k, none⟩) hbl).trans (hcell k x hx)
            have hstep := sReg_step ps k x hx
            have hkd : Blk wr.drew N9 #[.int .u64 (toI (sReg (ps.take k)))] 30 := hk9
            have hBd := hB.drew
            have hadd := add_any (sReg (ps.take k)) ⟨x.toArray⟩ wr.drew (by simp [ByteArray.size]; omega) (hT.below hBd)
            rw [show (⟨x.toArray⟩ : ByteArray).data.toList = x from rfl, ← hstep] at hadd
            have hc9 : wr.drew.cell? ⟨N9, 0, none⟩ = some (.int .u64 (toI (sReg (ps.take k)))) := blk_cell hkd 0
            obtain ⟨r', hr'⟩ : ∃ r', r' = sReg (ps.take (k + 1)) := ⟨_, rfl⟩
            rw [← hr'] at hadd
            generalize sReg (ps.take k) = r at *
            have Hadd := Lib.hid hadd
            have Hr' := Lib.hid hr'
            clear hadd hstep hcell hk9 hB hr'
            have hkl : k < ps.length := by omega
            have hi0 : (0 : Int) ≤ (k : Int) := by omega
            have hi1 : (k : Int) < (ps.length : Int) := by omega
            go_wp2_with fail
            refine wp_region_still_tail 5 (by kernel_rfl) (by kernel_rfl) ?_
            change wpStill _ _ wr.drew (fun a' => wpList _ _ _ _ a' wr.drew) _ _
            generalize wr.drew = wd at *
            simp only [List.take_succ_cons, List.take_zero, List.drop_succ_cons, List.drop_zero]
            repeat still_step
            refine wpStill_nil ?_
            go_wp2_with (go_at_call 18; (with_reducible refine Hadd.out.mono ?_); rintro e wx ⟨rfl, hwx⟩; have hkx := blk_kept hkd hwx; have hBx := hBd.trans (hwx.mono hBd.size); have hcx9 := blk_cell hkx 0; have hfx9 := blk_free hkx 0; have hkx' : Blk (wx.setCell ⟨N9, 0, none⟩ (.int .u64 (toI r'))) N9 #[.int .u64 (toI r')] 30 := blk_set hkx 0 (.int .u64 (toI r')); have hBx' := Below.setCell hBx (p := ⟨N9, 0, none⟩) hN9 (.int .u64 (toI r')))
            go_roundw
            case rel => exact ⟨k + 1, by omega, by omega, by go_num, by rw [← Hr'.out]; exact hkx', hBx'⟩
            case measure => simp [intOf]; omega
        · obtain rfl : K = k := by omega
          have hc9 := blk_cell hk9 0
          go_wp2_with fail
          have hk39 := blk_alloc hk9 (.cells #[.int .u64 (toI (sReg (ps.take K)))] 30)
          have hk311 := blk_new wr #[.int .u64 (toI (sReg (ps.take K)))] 30
          have hB33 := hB.alloc hB.size (.cells #[.int .u64 (toI (sReg (ps.take K)))] 30)
          have hN11 := hB.size
          have hN911 := blk_lt hk9
          clear hc9 hk9 hB h hk0
          generalize wr.alloc (.cells #[.int .u64 (toI (sReg (ps.take K)))] 30) = wq at *
          generalize wr.heap.size = N11 at *
          clear wr
          go_loopw [12] (fun i wr => ∃ k : Nat, K ≤ k ∧ k ≤ ps.length ∧ i = .int .i64 (k : Int) ∧ Blk wr N9 #[.int .u64 (toI (sReg (ps.take k)))] 30 ∧ Blk wr N11 #[.int .u64 (toI (sReg (ps.take K)))] 30 ∧ Below w.heap.size w wr) (fun i _ => ps.length - (intOf i).toNat)
          case atStart => exact ⟨K, by omega, by omega, rfl, hk39, hk311, hB33⟩
          case round =>
            clear hk39 hk311 hB33
            obtain ⟨k, hk0, hk, rfl, hk9, h11, hB⟩ := hrel
            by_cases h : k < ps.length
            · rcases hvcell with hnil | ⟨b, off, rfl, hbl, hcell⟩
              · subst hnil; exfalso; simp only [List.length_nil] at hKn h; omega
              · obtain ⟨x, hx⟩ : ∃ x, ps[k]? = some x := ⟨_, List.getElem?_eq_getElem (by omega)⟩
                have hxs := HFL.out x (List.mem_of_getElem? hx)
                have hcx : wr.drew.cell? ⟨b, off + k, none⟩ = some (.string ⟨x.toArray⟩) := (hB.cell (p := ⟨b, off + k, none⟩) hbl).trans (hcell k x hx)
                have hstep := sReg_step ps k x hx
                have hkd : Blk wr.drew N9 #[.int .u64 (toI (sReg (ps.take k)))] 30 := hk9
                have h11d : Blk wr.drew N11 #[.int .u64 (toI (sReg (ps.take K)))] 30 := h11
                clear h11
                have hBd := hB.drew
                have hadd := add_any (sReg (ps.take k)) ⟨x.toArray⟩ wr.drew (by simp [ByteArray.size]; omega) (hT.below hBd)
                rw [show (⟨x.toArray⟩ : ByteArray).data.toList = x from rfl, ← hstep] at hadd
                have hc9 : wr.drew.cell? ⟨N9, 0, none⟩ = some (.int .u64 (toI (sReg (ps.take k)))) := blk_cell hkd 0
                obtain ⟨r', hr'⟩ : ∃ r', r' = sReg (ps.take (k + 1)) := ⟨_, rfl⟩
                rw [← hr'] at hadd
                generalize sReg (ps.take k) = r at *
                have Hadd := Lib.hid hadd
                have Hr' := Lib.hid hr'
                clear hadd hstep hcell hk9 hB hr'
                have hkl : k < ps.length := by omega
                have hi0 : (0 : Int) ≤ (k : Int) := by omega
                have hi1 : (k : Int) < (ps.length : Int) := by omega
                go_wp2_with fail
                refine wp_region_still_tail 5 (by kernel_rfl) (by kernel_rfl) ?_
                change wpStill _ _ wr.drew (fun a' => wpList _ _ _ _ a' wr.drew) _ _
                generalize wr.drew = wd at *
                simp only [List.take_succ_cons, List.take_zero, List.drop_succ_cons, List.drop_zero]
                repeat still_step
                refine wpStill_nil ?_
                go_wp2_with (go_at_call 18; (with_reducible refine Hadd.out.mono ?_); rintro e wx ⟨rfl, hwx⟩; have hkx := blk_kept hkd hwx; have hBx := hBd.trans (hwx.mono hBd.size); have hcx9 := blk_cell hkx 0; have hfx9 := blk_free hkx 0; have hkx' : Blk (wx.setCell ⟨N9, 0, none⟩ (.int .u64 (toI r'))) N9 #[.int .u64 (toI r')] 30 := blk_set hkx 0 (.int .u64 (toI r')); have hBx' := Below.setCell hBx (p := ⟨N9, 0, none⟩) hN9 (.int .u64 (toI r')); have h11x := blk_far (blk_kept h11d hwx) (p := ⟨N9, 0, none⟩) (by show N11 ≠ N9; omega) (.int .u64 (toI r')))
                go_roundw
                case rel => exact ⟨k + 1, by omega, by omega, by go_num, by rw [← Hr'.out]; exact hkx', h11x, hBx'⟩
                case measure => simp [intOf]; omega
            · obtain rfl : k = ps.length := by omega
              have hl1 := flat_len ps HFL.out
              have hl2 := flat_len (ps.take K) fun y hy => HFL.out y (List.mem_of_mem_take hy)
              rw [List.length_take] at hl2
              have hj1 := fun W (hW : Rd mkS W (.slice va ps.length vcap) ps) => joined_any _ ps W hW hn12 HFL.out
              have hj2 := fun v W (hW : Rd mkS W v (ps.take K)) => joined_any v (ps.take K) W hW (by rw [List.length_take]; omega) (fun y hy => HFL.out y (List.mem_of_mem_take hy))
              have e1 : sReg (ps.take ps.length) = adds ones ps.flatten := by rw [List.take_length]; rfl
              have e2 : sReg (ps.take K) = adds ones (ps.take K).flatten := rfl
              have hR2 : ∀ W, Below w.heap.size w W → ∃ v', v' = Value.slice va K vcap ∧ Rd mkS W v' (ps.take K) := fun W hW => ⟨_, rfl, by
                obtain ⟨a', c', he, hc', hcell'⟩ := Rd.below Hr.out hW
                cases he
                refine ⟨va, vcap, by rw [List.length_take, Nat.min_eq_left hKn], by rw [List.length_take]; omega, ?_⟩
                rcases hcell' with h0 | ⟨b, off, rfl, hb, hc⟩
                · exact .inl (by rw [h0]; simp)
                · exact .inr ⟨b, off, rfl, hb, fun i x hx => hc i x (by rw [List.getElem?_take] at hx; split at hx; exact hx; cases hx)⟩⟩
              rw [e1] at hk9
              rw [e2] at h11
              have happ := app_str (ps.take K).flatten o
              have hadd := add_any (adds ones (ps.take K).flatten) ⟨o.toArray⟩ wr (by rw [hosz]; omega) (hT.below hB)
              rw [show (⟨o.toArray⟩ : ByteArray).data.toList = o from rfl, ← adds_append] at hadd
              generalize (ps.take K).flatten = x2 at *
              generalize ps.flatten = x1 at *
              have hc11 := blk_cell h11 0
              have Hadd := Lib.hid hadd
              have Hj1 := Lib.hid hj1
              have Hj2 := Lib.hid hj2
              have HR2 := Lib.hid hR2
              clear hadd hj1 hj2 hR2 e1 e2 hvcell
              have hi0 : (0 : Int) ≤ (K : Int) := by omega
              have hi1 : (K : Int) ≤ (ps.length : Int) := by omega
              have hi2 : (K : Int) ≤ (vcap : Int) := by omega
              have hi3 : (ps.length : Int) ≤ (vcap : Int) := by omega
              go_wp2_with (first
                | (go_at_call 18; (with_reducible refine Hadd.out.mono ?_); rintro e w4 ⟨rfl, hw4⟩; have hB4 := hB.trans (hw4.mono hB.size)))
              have hk49 := blk_alloc (blk_kept hk9 hw4) (.cells #[.int .u64 (toI (adds ones (x2 ++ o)))] 30)
              have hk411 := blk_alloc (blk_kept h11 hw4) (.cells #[.int .u64 (toI (adds ones (x2 ++ o)))] 30)
              have hk413 := blk_new w4 #[.int .u64 (toI (adds ones (x2 ++ o)))] 30
              have hB5 := hB4.alloc hB4.size (.cells #[.int .u64 (toI (adds ones (x2 ++ o)))] 30)
              clear hk9 h11 hB hc11 hw4 hB4
              generalize w4.alloc (.cells #[.int .u64 (toI (adds ones (x2 ++ o)))] 30) = w5 at *
              generalize w4.heap.size = N13 at *
              with_reducible refine (Hj1.out w5 (Rd.below Hr.out hB5)).mono ?_
              rintro e w6 ⟨rfl, rfl⟩
              obtain ⟨vh, hvh, hrh⟩ := HR2.out w5 hB5
              have Hrh := Lib.hid hrh
              clear hrh
              have hva : va = none → ps.length = 0 := fun h => by
                obtain ⟨a', c', he, hc', hcell'⟩ := Hr.out
                cases he
                rcases hcell' with h0 | ⟨b, off, h1, _⟩
                · rw [h0]; rfl
                · rw [h] at h1; cases h1
              rcases va with _ | pa
              · have hp0 := hva rfl
                have hK0 : K = 0 := by omega
                clear hva
                subst hK0
                subst hvh
                have hE1 : toI (crc x1) = toI (adds ones x1 ^^^ ones) := rfl
                have hE2 : toI (crc x2) = toI (adds ones x2 ^^^ ones) := rfl
                have hE3 : toI (crc (x2 ++ o)) = toI (adds ones (x2 ++ o) ^^^ ones) := rfl
                have hcr1 := fun v W (hW : RdB W v x1) (h : Tabs W) => crc40_any v x1 W hW (by omega) h
                have hcr2 := fun v W (hW : RdB W v x2) (h : Tabs W) => crc40_any v x2 W hW (by omega) h
                have hcr3 := fun v W (hW : RdB W v (x2 ++ o)) (h : Tabs W) => crc40_any v (x2 ++ o) W hW (by rw [List.length_append]; omega) h
                rw [hE1] at hcr1
                rw [hE2] at hcr2
                rw [hE3] at hcr3
                clear hE1 hE2 hE3
                generalize x2 ++ o = x3 at *
                have hva1 := value_any (adds ones x1)
                have hva2 := value_any (adds ones x2)
                have hva3 := value_any (adds ones x3)
                generalize adds ones x1 = r1 at *
                generalize adds ones x2 = r2 at *
                generalize adds ones x3 = r3 at *
                generalize toI (r1 ^^^ ones) = z1 at *
                generalize toI (r2 ^^^ ones) = z2 at *
                generalize toI (r3 ^^^ ones) = z3 at *
                have Hcr1 := Lib.hid hcr1
                have Hcr2 := Lib.hid hcr2
                have Hcr3 := Lib.hid hcr3
                have Hva1 := Lib.hid hva1
                have Hva2 := Lib.hid hva2
                have Hva3 := Lib.hid hva3
                clear hcr1 hcr2 hcr3 hva1 hva2 hva3
                have hc59 := blk_cell hk49 0
                go_wp2_with (first
                  | (go_at_call 19; (with_reducible refine (Hj2.out _ w5 Hrh.out).mono ?_); rintro e w6 ⟨rfl, rfl⟩)
                  | (go_at_call 20; (with_reducible refine (Hva1.out w5).mono ?_); rintro e w6 ⟨rfl, hw6⟩; have hB6 := hB5.trans (hw6.mono hB5.size); obtain ⟨v7, w7, hc7, hr7, hw7⟩ := conv_str w6 x1; have hB7 := hB6.trans (hw7.mono hB6.size))
                  | (go_at_call 14; (with_reducible refine (Hcr1.out v7 w7 hr7 (hT.below hB7)).mono ?_); rintro e w8 ⟨rfl, hw8⟩; have hB8 := hB7.trans (hw8.mono hB7.size); have hk811 := blk_kept (blk_kept (blk_kept hk411 hw6) hw7) hw8; have hk813 := blk_kept (blk_kept (blk_kept hk413 hw6) hw7) hw8; have hc8 := blk_cell hk811 0; clear hc7 hc59)
                  | (go_at_call 20; (with_reducible refine (Hva2.out w8).mono ?_); rintro e w9 ⟨rfl, hw9⟩; have hB9 := hB8.trans (hw9.mono hB8.size); obtain ⟨v10, w10, hc10, hr10, hw10⟩ := conv_str w9 x2; have hB10 := hB9.trans (hw10.mono hB9.size))
                  | (go_at_call 14; (with_reducible refine (Hcr2.out v10 w10 hr10 (hT.below hB10)).mono ?_); rintro e w11 ⟨rfl, hw11⟩; have hB11 := hB10.trans (hw11.mono hB10.size); have hk1113 := blk_kept (blk_kept (blk_kept hk813 hw9) hw10) hw11; have hc11 := blk_cell hk1113 0; clear hc10 hc8)
                  | (go_at_call 20; (with_reducible refine (Hva3.out w11).mono ?_); rintro e w12 ⟨rfl, hw12⟩; have hB12 := hB11.trans (hw12.mono hB11.size); obtain ⟨v13, w13, hc13, hr13, hw13⟩ := conv_str w12 x3; have hB13 := hB12.trans (hw13.mono hB12.size))
                  | (go_at_call 14; (with_reducible refine (Hcr3.out v13 w13 hr13 (hT.below hB13)).mono ?_); rintro e w14 ⟨rfl, hw14⟩; have hB14 := hB13.trans (hw14.mono hB13.size)))
                go_ret
                exact ⟨rfl, hB14⟩
              · subst hvh
                clear hva
                have hE1 : toI (crc x1) = toI (adds ones x1 ^^^ ones) := rfl
                have hE2 : toI (crc x2) = toI (adds ones x2 ^^^ ones) := rfl
                have hE3 : toI (crc (x2 ++ o)) = toI (adds ones (x2 ++ o) ^^^ ones) := rfl
                have hcr1 := fun v W (hW : RdB W v x1) (h : Tabs W) => crc40_any v x1 W hW (by omega) h
                have hcr2 := fun v W (hW : RdB W v x2) (h : Tabs W) => crc40_any v x2 W hW (by omega) h
                have hcr3 := fun v W (hW : RdB W v (x2 ++ o)) (h : Tabs W) => crc40_any v (x2 ++ o) W hW (by rw [List.length_append]; omega) h
                rw [hE1] at hcr1
                rw [hE2] at hcr2
                rw [hE3] at hcr3
                clear hE1 hE2 hE3
                generalize x2 ++ o = x3 at *
                have hva1 := value_any (adds ones x1)
                have hva2 := value_any (adds ones x2)
                have hva3 := value_any (adds ones x3)
                generalize adds ones x1 = r1 at *
                generalize adds ones x2 = r2 at *
                generalize adds ones x3 = r3 at *
                generalize toI (r1 ^^^ ones) = z1 at *
                generalize toI (r2 ^^^ ones) = z2 at *
                generalize toI (r3 ^^^ ones) = z3 at *
                have Hcr1 := Lib.hid hcr1
                have Hcr2 := Lib.hid hcr2
                have Hcr3 := Lib.hid hcr3
                have Hva1 := Lib.hid hva1
                have Hva2 := Lib.hid hva2
                have Hva3 := Lib.hid hva3
                clear hcr1 hcr2 hcr3 hva1 hva2 hva3
                have hc59 := blk_cell hk49 0
                go_wp2_with (first
                  | (go_at_call 19; (with_reducible refine (Hj2.out _ w5 Hrh.out).mono ?_); rintro e w6 ⟨rfl, rfl⟩)
                  | (go_at_call 20; (with_reducible refine (Hva1.out w5).mono ?_); rintro e w6 ⟨rfl, hw6⟩; have hB6 := hB5.trans (hw6.mono hB5.size); obtain ⟨v7, w7, hc7, hr7, hw7⟩ := conv_str w6 x1; have hB7 := hB6.trans (hw7.mono hB6.size))
                  | (go_at_call 14; (with_reducible refine (Hcr1.out v7 w7 hr7 (hT.below hB7)).mono ?_); rintro e w8 ⟨rfl, hw8⟩; have hB8 := hB7.trans (hw8.mono hB7.size); have hk811 := blk_kept (blk_kept (blk_kept hk411 hw6) hw7) hw8; have hk813 := blk_kept (blk_kept (blk_kept hk413 hw6) hw7) hw8; have hc8 := blk_cell hk811 0; clear hc7 hc59)
                  | (go_at_call 20; (with_reducible refine (Hva2.out w8).mono ?_); rintro e w9 ⟨rfl, hw9⟩; have hB9 := hB8.trans (hw9.mono hB8.size); obtain ⟨v10, w10, hc10, hr10, hw10⟩ := conv_str w9 x2; have hB10 := hB9.trans (hw10.mono hB9.size))
                  | (go_at_call 14; (with_reducible refine (Hcr2.out v10 w10 hr10 (hT.below hB10)).mono ?_); rintro e w11 ⟨rfl, hw11⟩; have hB11 := hB10.trans (hw11.mono hB10.size); have hk1113 := blk_kept (blk_kept (blk_kept hk813 hw9) hw10) hw11; have hc11 := blk_cell hk1113 0; clear hc10 hc8)
                  | (go_at_call 20; (with_reducible refine (Hva3.out w11).mono ?_); rintro e w12 ⟨rfl, hw12⟩; have hB12 := hB11.trans (hw12.mono hB11.size); obtain ⟨v13, w13, hc13, hr13, hw13⟩ := conv_str w12 x3; have hB13 := hB12.trans (hw13.mono hB12.size))
                  | (go_at_call 14; (with_reducible refine (Hcr3.out v13 w13 hr13 (hT.below hB13)).mono ?_); rintro e w14 ⟨rfl, hw14⟩; have hB14 := hB13.trans (hw14.mono hB13.size)))
                go_ret
                exact ⟨rfl, hB14⟩
    · have hd4 : decide ((400 : Int) < (o.length : Int)) = true := by simp; omega
      go_wp2_with fail
      go_ret
      exact ⟨rfl, hw1⟩
end Go.Proofs.YtbgieephehfgpaaDoor
