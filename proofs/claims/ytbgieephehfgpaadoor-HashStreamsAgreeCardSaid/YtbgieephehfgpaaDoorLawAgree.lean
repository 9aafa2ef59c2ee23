/-
  The function of the law HashStreamsAgree returns true. Condition: the tables are as the program's text lays them.
-/
import Derived.Test.YtbgieephehfgpaaDoorSanity
import Derived.Test.YtbgieephehfgpaaDoorRefJoined
import Derived.Test.YtbgieephehfgpaaDoorConvStr
import Derived.Test.YtbgieephehfgpaaDoorRest
import Derived.StillTailTactics
import Derived.Stop.BytesEq
namespace Go.Proofs.YtbgieephehfgpaaDoor
open Go Go.RowKit Sha
/-- Go's == on a hash and itself -/
theorem eq_sha (l : List UInt8) (W : World) :
    (Op.equalIn 10000 47 (.agg ((sha l).map mkB).toArray) (.agg ((sha l).map mkB).toArray)).run Tryd.prog W = .ok true W := by
  have := run_equalIn_bytes (P := Tryd.prog) W 9998 47 5 32 Tryd.underlying47 Tryd.underlying5 (fun w => Tryd.sizeOf5 w) (sha l) (sha l) (sha_len l) (sha_len l)
  rwa [show (sha l == sha l) = true by simp] at this
set_option maxRecDepth 100000 in
set_option maxHeartbeats 4000000 in
theorem lawagree_any (v : Value) (ps : List (List UInt8)) (o : List UInt8) (n : Nat) (w : World) (hn : n < 256) (hr : Rd mkS w v ps) (hT : Tabs w) :
    Calls Tryd.prog 12 #[v, .string ⟨o.toArray⟩, .int .u8 (n : Int)] w fun e w' => e = .returned (.bool true) ∧ Below w.heap.size w w' := by
  have Hr := Lib.hid hr
  obtain ⟨va, vcap, rfl, hvc, hvcell⟩ := hr
  have hosz : (⟨o.toArray⟩ : ByteArray).size = o.length := by simp [ByteArray.size]
  go_enter Tryd.func12, Tryd.ntmps12
  go_wp2_with fail
  with_reducible refine (sanity_any w hT).mono ?_
  rintro e w1 ⟨rfl, hw1⟩
  go_wp2_with fail
  with_reducible refine (few_any _ ps w1 (Rd.below Hr.out hw1)).mono ?_
  rintro e w2 ⟨⟨b, rfl, hb⟩, rfl⟩
  cases b with
  | false =>
    go_wp2_with fail
    go_ret
    exact ⟨rfl, hw1⟩
  | true =>
    obtain ⟨hn12, hs⟩ := hb rfl
    clear hb
    by_cases ho4 : o.length ≤ 400
    · have hd4 : decide ((400 : Int) < (o.length : Int)) = false := by simp; omega
      obtain ⟨K, hK, hKn⟩ : ∃ K : Nat, (n : Int) % ((ps.length : Int) + 1) = (K : Int) ∧ K ≤ ps.length := by
        have h1 := Nat.mod_lt n (show 0 < ps.length + 1 by omega)
        exact ⟨n % (ps.length + 1), by simp, by omega⟩
      go_wp2_with fail
      with_reducible refine (begin2_any w1).mono ?_
      rintro e w2 ⟨⟨v0, hv0, rfl⟩, hw2⟩
      obtain ⟨L0, rfl, hl0, ho0⟩ := rep_list hv0
      have hB2 := hw1.trans (hw2.mono hw1.size)
      clear hw2
      have hiB0 : Hid ((Tryd.prog.info? 53).map (·.size) = some L0.toArray.size) := Lib.hid (by rw [List.size_toArray, hl0]; kernel_rfl)
      have hzB0 : Hid (zcStream.size = L0.toArray.size) := Lib.hid (Eq.trans (by kernel_rfl : zcStream.size = 73) (by rw [List.size_toArray, hl0]))
      have hoB0 : Hid (L0.toArray.all (·.oneCell') = true) := Lib.hid (all_oneCell_toArray ho0)
      go_wp2_with (first
        | ((with_reducible refine wpList_store_row rfl 53 (.tmp 9) (.tmp 32) rfl w2.heap.size L0.toArray rfl rfl 53 _ (heap_alloc_new _ _) hiB0.out ?_ hoB0.out ?_); exact hzB0.out; rw [World.setRow_alloc_new]; simp only [Act.put]))
      have hk3 := blk_new w2 L0.toArray 53
      have hB3 := hB2.alloc hB2.size (.cells L0.toArray 53)
      have hN9 := hB2.size
      generalize w2.alloc (.cells L0.toArray 53) = w3 at *
      clear hB2 hiB0 hzB0 hoB0
      generalize w2.heap.size = N9 at *
      have HFL := Lib.hid hs
      clear hs
      go_loopw [10] (fun i wr => ∃ (k : Nat) (L : List Value), 0 ≤ k ∧ k ≤ K ∧ i = .int .i64 (k : Int) ∧ Rep (ps.take k).flatten (.agg L.toArray) ∧ Blk wr N9 L.toArray 53 ∧ Below w.heap.size w wr) (fun i _ => K - (intOf i).toNat)
      case atStart => exact ⟨0, L0, by omega, by omega, rfl, hv0, hk3, hB3⟩
      case round =>
        clear hk3 hB3 hv0 hl0 ho0
        obtain ⟨k, L, hk0, hk, rfl, hvE, hk9, hB⟩ := hrel
        obtain ⟨LE, hLE, hlE, hoE⟩ := rep_list hvE
        obtain rfl : LE = L := by
          have := Value.agg.inj hLE
          simpa using this.symm
        have hiE : Hid ((Tryd.prog.info? 53).map (·.size) = some LE.toArray.size) := Lib.hid (by rw [List.size_toArray, hlE]; kernel_rfl)
        clear hLE
        by_cases h : k < K
        · rcases hvcell with hnil | ⟨b, off, rfl, hbl, hcell⟩
          · subst hnil; exfalso; simp only [List.length_nil] at hKn h; omega
          · obtain ⟨x, hx⟩ : ∃ x, ps[k]? = some x := ⟨_, List.getElem?_eq_getElem (by omega)⟩
            have hxs := HFL.out x (List.mem_of_getElem? hx)
            have hcx : wr.drew.cell? ⟨b, off + k, none⟩ = some (.string ⟨x.toArray⟩) := (hB.cell (p := ⟨b, off + k, none⟩) hbl).trans (hcell k x hx)
            have hstep : (ps.take (k + 1)).flatten = (ps.take k).flatten ++ x := by rw [List.take_add_one, hx]; simp
            have hfl := flat_len (ps.take k) fun y hy => HFL.out y (List.mem_of_mem_take hy)
            rw [List.length_take] at hfl
            have hkd : Blk wr.drew N9 LE.toArray 53 := hk9
            have hBd := hB.drew
            have hadd := sadd_any (ps.take k).flatten (.agg LE.toArray) ⟨x.toArray⟩ wr.drew hvE (by show (ps.take k).flatten.length + x.length ≤ _; omega) (hT.below hBd).c
            rw [show (⟨x.toArray⟩ : ByteArray).data.toList = x from rfl, ← hstep] at hadd
            have Hadd := Lib.hid hadd
            clear hadd hstep hcell hk9 hB hvE hfl
            have hkl : k < ps.length := by omega
            have hi0 : (0 : Int) ≤ (k : Int) := by omega
            have hi1 : (k : Int) < (ps.length : Int) := by omega
            go_wp2_with fail
            refine wp_region_still_tail 5 (by kernel_rfl) (by kernel_rfl) ?_
            change wpStill _ _ wr.drew (fun a' => wpList _ _ _ _ a' wr.drew) _ _
            generalize wr.drew = wd at *
            simp only [List.take_succ_cons, List.take_zero, List.drop_succ_cons, List.drop_zero]
            with_reducible refine wpStill_load_row rfl 53 (.tmp 9) rfl N9 rfl 53 LE.toArray _ _ hkd Tryd.underlying53 rfl hiE.out ?_
            simp only [Act.put, List.setIfInBounds_toArray, List.set_cons_zero, List.set_cons_succ]
            repeat still_step
            refine wpStill_nil ?_
            go_wp2_with (first
              | (go_at_call 30; (with_reducible refine Hadd.out.mono ?_); rintro e wx ⟨⟨v2, hv2, rfl⟩, hwx⟩; obtain ⟨L2, rfl, hl2, ho2⟩ := rep_list hv2; have hkx := blk_kept hkd hwx; have hBx := hBd.trans (hwx.mono hBd.size); have hiB : Hid ((Tryd.prog.info? 53).map (·.size) = some L2.toArray.size) := Lib.hid (by rw [List.size_toArray, hl2]; kernel_rfl); have hzB : Hid (LE.toArray.size = L2.toArray.size) := Lib.hid (by rw [List.size_toArray, List.size_toArray, hlE, hl2]); have hoB : Hid (L2.toArray.all (·.oneCell') = true) := Lib.hid (all_oneCell_toArray ho2); have hkx' := blk_setRow hkx L2.toArray; have hBx' := below_setRow hBx hN9 L2.toArray; clear hl2 ho2)
              | (with_reducible refine wpList_store_row rfl 53 (.tmp 9) (.tmp 43) rfl N9 L2.toArray rfl rfl 53 _ hkx hiB.out hzB.out hoB.out ?_))
            go_roundw
            case rel => exact ⟨k + 1, L2, by omega, by omega, by go_num, hv2, hkx', hBx'⟩
            case measure => simp [intOf]; omega
        · obtain rfl : K = k := by omega
          have hiC := hiE
          have hzC : Hid (zcStream.size = LE.toArray.size) := Lib.hid (Eq.trans (by kernel_rfl : zcStream.size = 73) (by rw [List.size_toArray, hlE]))
          have hoC : Hid (LE.toArray.all (·.oneCell') = true) := Lib.hid (all_oneCell_toArray hoE)
          have hN11 := hB.size
          have hN911 := blk_lt hk9
          go_wp2_with (first
            | (with_reducible refine wpList_load_row rfl 53 (.tmp 9) rfl N9 rfl 53 _ _ _ hk9 Tryd.underlying53 rfl hiC.out ?_)
            | ((with_reducible refine wpList_store_row rfl 53 (.tmp 11) (.tmp 44) rfl wr.heap.size LE.toArray rfl rfl 53 _ (heap_alloc_new _ _) hiC.out ?_ hoC.out ?_); exact hzC.out; rw [World.setRow_alloc_new]; simp only [Act.put]))
          have hk39 := blk_alloc hk9 (.cells LE.toArray 53)
          have hk311 := blk_new wr LE.toArray 53
          have hB33 := hB.alloc hB.size (.cells LE.toArray 53)
          clear hk9 hB h hk0
          generalize wr.alloc (.cells LE.toArray 53) = wq at *
          generalize wr.heap.size = N11 at *
          clear wr
          go_loopw [12] (fun i wr => ∃ (k : Nat) (L : List Value), K ≤ k ∧ k ≤ ps.length ∧ i = .int .i64 (k : Int) ∧ Rep (ps.take k).flatten (.agg L.toArray) ∧ Blk wr N9 L.toArray 53 ∧ Blk wr N11 LE.toArray 53 ∧ Below w.heap.size w wr) (fun i _ => ps.length - (intOf i).toNat)
          case atStart => exact ⟨K, LE, by omega, by omega, rfl, hvE, hk39, hk311, hB33⟩
          case round =>
            clear hk39 hk311 hB33
            obtain ⟨k, L, hk0, hk, rfl, hv, hk9, h11, hB⟩ := hrel
            obtain ⟨L', hL', hl73, hone⟩ := rep_list hv
            obtain rfl : L' = L := by
              have := Value.agg.inj hL'
              simpa using this.symm
            have hiA : Hid ((Tryd.prog.info? 53).map (·.size) = some L'.toArray.size) := Lib.hid (by rw [List.size_toArray, hl73]; kernel_rfl)
            clear hL'
            by_cases h : k < ps.length
            · rcases hvcell with hnil | ⟨b, off, rfl, hbl, hcell⟩
              · subst hnil; exfalso; simp only [List.length_nil] at hKn h; omega
              · obtain ⟨x, hx⟩ : ∃ x, ps[k]? = some x := ⟨_, List.getElem?_eq_getElem (by omega)⟩
                have hxs := HFL.out x (List.mem_of_getElem? hx)
                have hcx : wr.drew.cell? ⟨b, off + k, none⟩ = some (.string ⟨x.toArray⟩) := (hB.cell (p := ⟨b, off + k, none⟩) hbl).trans (hcell k x hx)
                have hstep : (ps.take (k + 1)).flatten = (ps.take k).flatten ++ x := by rw [List.take_add_one, hx]; simp
                have hfl := flat_len (ps.take k) fun y hy => HFL.out y (List.mem_of_mem_take hy)
                rw [List.length_take] at hfl
                have hkd : Blk wr.drew N9 L'.toArray 53 := hk9
                have h11d : Blk wr.drew N11 LE.toArray 53 := h11
                clear h11
                have hBd := hB.drew
                have hadd := sadd_any (ps.take k).flatten (.agg L'.toArray) ⟨x.toArray⟩ wr.drew hv (by show (ps.take k).flatten.length + x.length ≤ _; omega) (hT.below hBd).c
                rw [show (⟨x.toArray⟩ : ByteArray).data.toList = x from rfl, ← hstep] at hadd
                have Hadd := Lib.hid hadd
                clear hadd hstep hcell hk9 hB hv hfl
                have hkl : k < ps.length := by omega
                have hi0 : (0 : Int) ≤ (k : Int) := by omega
                have hi1 : (k : Int) < (ps.length : Int) := by omega
                go_wp2_with fail
                refine wp_region_still_tail 5 (by kernel_rfl) (by kernel_rfl) ?_
                change wpStill _ _ wr.drew (fun a' => wpList _ _ _ _ a' wr.drew) _ _
                generalize wr.drew = wd at *
                simp only [List.take_succ_cons, List.take_zero, List.drop_succ_cons, List.drop_zero]
                with_reducible refine wpStill_load_row rfl 53 (.tmp 9) rfl N9 rfl 53 L'.toArray _ _ hkd Tryd.underlying53 rfl hiA.out ?_
                simp only [Act.put, List.setIfInBounds_toArray, List.set_cons_zero, List.set_cons_succ]
                repeat still_step
                refine wpStill_nil ?_
                go_wp2_with (first
                  | (go_at_call 30; (with_reducible refine Hadd.out.mono ?_); rintro e wx ⟨⟨v2, hv2, rfl⟩, hwx⟩; obtain ⟨L2, rfl, hl2, ho2⟩ := rep_list hv2; have hkx := blk_kept hkd hwx; have hBx := hBd.trans (hwx.mono hBd.size); have hiB : Hid ((Tryd.prog.info? 53).map (·.size) = some L2.toArray.size) := Lib.hid (by rw [List.size_toArray, hl2]; kernel_rfl); have hzB : Hid (L'.toArray.size = L2.toArray.size) := Lib.hid (by rw [List.size_toArray, List.size_toArray, hl73, hl2]); have hoB : Hid (L2.toArray.all (·.oneCell') = true) := Lib.hid (all_oneCell_toArray ho2); have hkx' := blk_setRow hkx L2.toArray; have hBx' := below_setRow hBx hN9 L2.toArray; have h11x := blk_setRow_far (blk_kept h11d hwx) N9 (by omega) L2.toArray; clear hl2 ho2)
                  | (with_reducible refine wpList_store_row rfl 53 (.tmp 9) (.tmp 57) rfl N9 L2.toArray rfl rfl 53 _ hkx hiB.out hzB.out hoB.out ?_))
                go_roundw
                case rel => exact ⟨k + 1, L2, by omega, by omega, by go_num, hv2, hkx', h11x, hBx'⟩
                case measure => simp [intOf]; omega
            · obtain rfl : k = ps.length := by omega
              have hl1 := flat_len ps HFL.out
              have hl2 := flat_len (ps.take K) fun y hy => HFL.out y (List.mem_of_mem_take hy)
              rw [List.length_take] at hl2
              have hj1 := fun W (hW : Rd mkS W (.slice va ps.length vcap) ps) => joined_any _ ps W hW hn12 HFL.out
              have hj2 := fun v W (hW : Rd mkS W v (ps.take K)) => joined_any v (ps.take K) W hW (by rw [List.length_take]; omega) (fun y hy => HFL.out y (List.mem_of_mem_take hy))
              have hR2 : ∀ W, Below w.heap.size w W → ∃ v', v' = Value.slice va K vcap ∧ Rd mkS W v' (ps.take K) := fun W hW => ⟨_, rfl, by
                obtain ⟨a', c', he, hc', hcell'⟩ := Rd.below Hr.out hW
                cases he
                refine ⟨va, vcap, by rw [List.length_take, Nat.min_eq_left hKn], by rw [List.length_take]; omega, ?_⟩
                rcases hcell' with h0 | ⟨b, off, rfl, hb, hc⟩
                · exact .inl (by rw [h0]; simp)
                · exact .inr ⟨b, off, rfl, hb, fun i x hx => hc i x (by rw [List.getElem?_take] at hx; split at hx; exact hx; cases hx)⟩⟩
              rw [List.take_length] at hv
              have happ := app_str (ps.take K).flatten o
              have hadd := sadd_any (ps.take K).flatten (.agg LE.toArray) ⟨o.toArray⟩ wr hvE (by rw [hosz]; omega) (hT.below hB).c
              rw [show (⟨o.toArray⟩ : ByteArray).data.toList = o from rfl] at hadd
              generalize (ps.take K).flatten = x2 at *
              generalize ps.flatten = x1 at *
              have hlx3 : (x2 ++ o).length ≤ 100000000 := by rw [List.length_append]; omega
              generalize x2 ++ o = x3 at *
              have Hadd := Lib.hid hadd
              have Hj1 := Lib.hid hj1
              have Hj2 := Lib.hid hj2
              have HR2 := Lib.hid hR2
              clear hadd hj1 hj2 hR2 hvcell
              have hi0 : (0 : Int) ≤ (K : Int) := by omega
              have hi1 : (K : Int) ≤ (ps.length : Int) := by omega
              have hi2 : (K : Int) ≤ (vcap : Int) := by omega
              have hi3 : (ps.length : Int) ≤ (vcap : Int) := by omega
              go_wp2_with (first
                | (with_reducible refine wpList_load_row rfl 53 (.tmp 11) rfl N11 rfl 53 _ _ _ h11 Tryd.underlying53 rfl hiE.out ?_)
                | (go_at_call 30; (with_reducible refine Hadd.out.mono ?_); rintro e w4 ⟨⟨v3, hv3, rfl⟩, hw4⟩; obtain ⟨LF, rfl, hlF, hoF⟩ := rep_list hv3; have hB4 := hB.trans (hw4.mono hB.size); have hiF : Hid ((Tryd.prog.info? 53).map (·.size) = some LF.toArray.size) := Lib.hid (by rw [List.size_toArray, hlF]; kernel_rfl); have hzF : Hid (zcStream.size = LF.toArray.size) := Lib.hid (Eq.trans (by kernel_rfl : zcStream.size = 73) (by rw [List.size_toArray, hlF])); have hoF' : Hid (LF.toArray.all (·.oneCell') = true) := Lib.hid (all_oneCell_toArray hoF))
                | ((with_reducible refine wpList_store_row rfl 53 (.tmp 13) (.tmp 60) rfl w4.heap.size LF.toArray rfl rfl 53 _ (heap_alloc_new _ _) hiF.out ?_ hoF'.out ?_); exact hzF.out; rw [World.setRow_alloc_new]; simp only [Act.put]))
              have hk49 := blk_alloc (blk_kept hk9 hw4) (.cells LF.toArray 53)
              have hk411 := blk_alloc (blk_kept h11 hw4) (.cells LF.toArray 53)
              have hk413 := blk_new w4 LF.toArray 53
              have hB5 := hB4.alloc hB4.size (.cells LF.toArray 53)
              clear hk9 h11 hB hw4 hB4
              generalize w4.alloc (.cells LF.toArray 53) = w5 at *
              generalize w4.heap.size = N13 at *
              with_reducible refine (Hj1.out w5 (Rd.below Hr.out hB5)).mono ?_
              rintro e w6 ⟨rfl, rfl⟩
              obtain ⟨vh, hvh, hrh⟩ := HR2.out w5 hB5
              have Hrh := Lib.hid hrh
              clear hrh
              have hva : va = none → ps.length = 0 := fun h => by
                obtain ⟨a', c', he, hc', hcell'⟩ := Hr.out
                cases he
                rcases hcell' with h0 | ⟨b, off, h1, _⟩
                · rw [h0]; rfl
                · rw [h] at h1; cases h1
              have hss1 := fun W (h : TabC W) => ssum_any x1 (.agg L'.toArray) W hv (by omega) h
              have hss2 := fun W (h : TabC W) => ssum_any x2 (.agg LE.toArray) W hvE (by omega) h
              have hss3 := fun W (h : TabC W) => ssum_any x3 (.agg LF.toArray) W hv3 (by omega) h
              have hhs1 := fun v W (hW : RdB W v x1) (h : TabC W) => hsum_any v x1 W hW (by omega) h
              have hhs2 := fun v W (hW : RdB W v x2) (h : TabC W) => hsum_any v x2 W hW (by omega) h
              have hhs3 := fun v W (hW : RdB W v x3) (h : TabC W) => hsum_any v x3 W hW (by omega) h
              have hq1 := eq_sha x1
              have hq2 := eq_sha x2
              have hq3 := eq_sha x3
              unfold bytesV at hss1 hss2 hss3 hhs1 hhs2 hhs3
              generalize ((sha x1).map mkB).toArray = D1 at *
              generalize ((sha x2).map mkB).toArray = D2 at *
              generalize ((sha x3).map mkB).toArray = D3 at *
              have Hss1 := Lib.hid hss1
              have Hss2 := Lib.hid hss2
              have Hss3 := Lib.hid hss3
              have Hhs1 := Lib.hid hhs1
              have Hhs2 := Lib.hid hhs2
              have Hhs3 := Lib.hid hhs3
              clear hss1 hss2 hss3 hhs1 hhs2 hhs3
              rcases va with _ | pa
              · have hp0 := hva rfl
                have hK0 : K = 0 := by omega
                clear hva
                subst hK0
                subst hvh
                go_wp2_with (first
                  | (go_at_call 19; (with_reducible refine (Hj2.out _ w5 Hrh.out).mono ?_); rintro e w6 ⟨rfl, rfl⟩)
                  | (with_reducible refine wpList_load_row_g ?_ 53 (.tmp 9) rfl N9 rfl 53 _ _ _ hk49 Tryd.underlying53 rfl hiA.out ?_; focus (first | rfl | (simp [Region.wanted, yielded]; done)))
                  | (go_at_call 31; (with_reducible refine (Hss1.out w5 (hT.below hB5).c).mono ?_); rintro e w6 ⟨rfl, hw6⟩; have hB6 := hB5.trans (hw6.mono hB5.size); obtain ⟨v7, w7, hc7, hr7, hw7⟩ := conv_str w6 x1; have hB7 := hB6.trans (hw7.mono hB6.size))
                  | (go_at_call 27; (with_reducible refine (Hhs1.out v7 w7 hr7 (hT.below hB7).c).mono ?_); rintro e w8 ⟨rfl, hw8⟩; have hB8 := hB7.trans (hw8.mono hB7.size); have hk811 := blk_kept (blk_kept (blk_kept hk411 hw6) hw7) hw8; have hk813 := blk_kept (blk_kept (blk_kept hk413 hw6) hw7) hw8; clear hc7)
                  | (with_reducible refine wpList_load_row_g ?_ 53 (.tmp 11) rfl N11 rfl 53 _ _ _ hk811 Tryd.underlying53 rfl hiE.out ?_; focus (first | rfl | (simp [Region.wanted, yielded]; done)))
                  | (go_at_call 31; (with_reducible refine (Hss2.out w8 (hT.below hB8).c).mono ?_); rintro e w9 ⟨rfl, hw9⟩; have hB9 := hB8.trans (hw9.mono hB8.size); obtain ⟨v10, w10, hc10, hr10, hw10⟩ := conv_str w9 x2; have hB10 := hB9.trans (hw10.mono hB9.size))
                  | (go_at_call 27; (with_reducible refine (Hhs2.out v10 w10 hr10 (hT.below hB10).c).mono ?_); rintro e w11 ⟨rfl, hw11⟩; have hB11 := hB10.trans (hw11.mono hB10.size); have hk1113 := blk_kept (blk_kept (blk_kept hk813 hw9) hw10) hw11; clear hc10)
                  | (with_reducible refine wpList_load_row_g ?_ 53 (.tmp 13) rfl N13 rfl 53 _ _ _ hk1113 Tryd.underlying53 rfl hiF.out ?_; focus (first | rfl | (simp [Region.wanted, yielded]; done)))
                  | (go_at_call 31; (with_reducible refine (Hss3.out w11 (hT.below hB11).c).mono ?_); rintro e w12 ⟨rfl, hw12⟩; have hB12 := hB11.trans (hw12.mono hB11.size); obtain ⟨v13, w13, hc13, hr13, hw13⟩ := conv_str w12 x3; have hB13 := hB12.trans (hw13.mono hB12.size))
                  | (go_at_call 27; (with_reducible refine (Hhs3.out v13 w13 hr13 (hT.below hB13).c).mono ?_); rintro e w14 ⟨rfl, hw14⟩; have hB14 := hB13.trans (hw14.mono hB13.size)))
                go_ret
                exact ⟨rfl, hB14⟩
              · subst hvh
                clear hva
                go_wp2_with (first
                  | (go_at_call 19; (with_reducible refine (Hj2.out _ w5 Hrh.out).mono ?_); rintro e w6 ⟨rfl, rfl⟩)
                  | (with_reducible refine wpList_load_row_g ?_ 53 (.tmp 9) rfl N9 rfl 53 _ _ _ hk49 Tryd.underlying53 rfl hiA.out ?_; focus (first | rfl | (simp [Region.wanted, yielded]; done)))
                  | (go_at_call 31; (with_reducible refine (Hss1.out w5 (hT.below hB5).c).mono ?_); rintro e w6 ⟨rfl, hw6⟩; have hB6 := hB5.trans (hw6.mono hB5.size); obtain ⟨v7, w7, hc7, hr7, hw7⟩ := conv_str w6 x1; have hB7 := hB6.trans (hw7.mono hB6.size))
                  | (go_at_call 27; (with_reducible refine (Hhs1.out v7 w7 hr7 (hT.below hB7).c).mono ?_); rintro e w8 ⟨rfl, hw8⟩; have hB8 := hB7.trans (hw8.mono hB7.size); have hk811 := blk_kept (blk_kept (blk_kept hk411 hw6) hw7) hw8; have hk813 := blk_kept (blk_kept (blk_kept hk413 hw6) hw7) hw8; clear hc7)
                  | (with_reducible refine wpList_load_row_g ?_ 53 (.tmp 11) rfl N11 rfl 53 _ _ _ hk811 Tryd.underlying53 rfl hiE.out ?_; focus (first | rfl | (simp [Region.wanted, yielded]; done)))
                  | (go_at_call 31; (with_reducible refine (Hss2.out w8 (hT.below hB8).c).mono ?_); rintro e w9 ⟨rfl, hw9⟩; have hB9 := hB8.trans (hw9.mono hB8.size); obtain ⟨v10, w10, hc10, hr10, hw10⟩ := conv_str w9 x2; have hB10 := hB9.trans (hw10.mono hB9.size))
                  | (go_at_call 27; (with_reducible refine (Hhs2.out v10 w10 hr10 (hT.below hB10).c).mono ?_); rintro e w11 ⟨rfl, hw11⟩; have hB11 := hB10.trans (hw11.mono hB10.size); have hk1113 := blk_kept (blk_kept (blk_kept hk813 hw9) hw10) hw11; clear hc10)
                  | (with_reducible refine wpList_load_row_g ?_ 53 (.tmp 13) rfl N13 rfl 53 _ _ _ hk1113 Tryd.underlying53 rfl hiF.out ?_; focus (first | rfl | (simp [Region.wanted, yielded]; done)))
                  | (go_at_call 31; (with_reducible refine (Hss3.out w11 (hT.below hB11).c).mono ?_); rintro e w12 ⟨rfl, hw12⟩; have hB12 := hB11.trans (hw12.mono hB11.size); obtain ⟨v13, w13, hc13, hr13, hw13⟩ := conv_str w12 x3; have hB13 := hB12.trans (hw13.mono hB12.size))
                  | (go_at_call 27; (with_reducible refine (Hhs3.out v13 w13 hr13 (hT.below hB13).c).mono ?_); rintro e w14 ⟨rfl, hw14⟩; have hB14 := hB13.trans (hw14.mono hB13.size)))
                go_ret
                exact ⟨rfl, hB14⟩
    · have hd4 : decide ((400 : Int) < (o.length : Int)) = true := by simp; omega
      go_wp2_with fail
      go_ret
      exact ⟨rfl, hw1⟩
end Go.Proofs.YtbgieephehfgpaaDoor
