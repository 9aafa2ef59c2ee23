/-
  The function of the law HashOfMatchesSpec returns true. Condition: the tables are as the program's text lays them.
-/
import Derived.Test.YtbgieephehfgpabDoorSanity
import Derived.Test.YtbgieephehfgpabDoorRefShort
import Derived.Test.YtbgieephehfgpabDoorRefStr
import Derived.Test.YtbgieephehfgpabDoorRest
import Derived.Stop.BytesEq
namespace Go.Proofs.YtbgieephehfgpabDoor
open Go Go.RowKit Sha
/-- Go's == on arrays of bytes -/
theorem eq_bytes (t : TypeId) (n : Nat) (ht : Tryd.prog.underlying t = some (.array n 5)) (xs ys : List UInt8) (hx : xs.length = n) (hy : ys.length = n) (W : World) :
    (Op.equalIn 10000 t (.agg (xs.map mkB).toArray) (.agg (ys.map mkB).toArray)).run Tryd.prog W = .ok (xs == ys) W :=
  run_equalIn_bytes W 9998 t 5 n ht Tryd.underlying5 (fun w => Tryd.sizeOf5 w) xs ys hx hy
theorem ofIn_mod (tag : Int) (ps : List (List UInt8)) : ofIn (tag % 256) ps = ofIn tag ps := by
  unfold ofIn tagB
  rw [Int.emod_emod_of_dvd _ (by decide)]
set_option maxRecDepth 100000 in
set_option maxHeartbeats 4000000 in
theorem lawof_any (tag : Int) (v : Value) (ps : List (List UInt8)) (w : World) (hr : Rd mkS w v ps) (hT : Tabs w) (hR : TabR w) :
    Calls Tryd.prog 3 #[.int .i64 tag, v] w fun e w' => e = .returned (.bool true) ∧ Below w.heap.size w w' := by
  have hmask : bits .and .i64 tag 255 = tag % 256 := i64_mask tag 8 (by omega)
  have hof := fun W (hW : Rd mkS W v ps) (hn : ps.length ≤ 1000) (hs : ∀ l ∈ ps, l.length ≤ 10000) (h : TabC W) => of_any tag v ps W hW hn hs h
  have hof2 := fun W (hW : Rd mkS W v ps) (hn : ps.length ≤ 1000) (hs : ∀ l ∈ ps, l.length ≤ 10000) (h : TabC W) => of_any (tag % 256) v ps W hW hn hs h
  have hrof := fun W (hW : Rd mkS W v ps) (hn : ps.length ≤ 1000) (hs : ∀ l ∈ ps, l.length ≤ 10000) (h : TabR W) => rof_any tag v ps W hW hn hs h
  have hlen : ((sha (ofIn tag ps)).take 16).length = 16 := by simp [sha_len]
  rw [ofIn_mod] at hof2
  generalize (sha (ofIn tag ps)).take 16 = dd at *
  have heq := eq_bytes 26 16 Tryd.underlying26 dd dd hlen hlen
  rw [show (dd == dd) = true by simp] at heq
  have hDl : (dd.map mkB).length = 16 := by rw [List.length_map, hlen]
  have hD1 : ∀ u ∈ dd.map mkB, u.oneCell' = true := by
    intro u hu
    obtain ⟨b, _, rfl⟩ := List.mem_map.1 hu
    rfl
  have hb' : bytesV dd = .agg (dd.map mkB).toArray := rfl
  rw [hb'] at hof hof2 hrof
  clear hb' hlen
  generalize dd.map mkB = D at *
  have hi : (Tryd.prog.info? 26).map (·.size) = some D.length := by rw [hDl]; kernel_rfl
  have hu := Tryd.underlying26
  have hiB : Hid ((Tryd.prog.info? 26).map (·.size) = some D.toArray.size) := Lib.hid (by rw [List.size_toArray]; exact hi)
  have hzB : Hid (16 = D.toArray.size) := Lib.hid (by rw [List.size_toArray, hDl])
  have hoB : Hid (D.toArray.all (·.oneCell') = true) := Lib.hid (all_oneCell_toArray hD1)
  have Hof := Lib.hid hof
  have Hof2 := Lib.hid hof2
  have Hrof := Lib.hid hrof
  clear hof hof2 hrof hDl
  have Hr := Lib.hid hr
  clear hr
  go_enter Tryd.func3, Tryd.ntmps3
  go_wp2_with fail
  with_reducible refine (sanity_any w hT).mono ?_
  rintro e w1 ⟨rfl, hw1⟩
  go_wp2_with fail
  with_reducible refine (few_any v ps w1 (Rd.below Hr.out hw1)).mono ?_
  rintro e w2 ⟨⟨b, rfl, hb⟩, rfl⟩
  cases b with
  | false =>
    go_wp2_with fail
    go_ret
    exact ⟨rfl, hw1⟩
  | true =>
    obtain ⟨hn, hs⟩ := hb rfl
    have hn' : ps.length ≤ 1000 := by omega
    have hs' : ∀ l ∈ ps, l.length ≤ 10000 := fun l hl => Nat.le_trans (hs l hl) (by omega)
    have Hn := Lib.hid hn'
    have Hs := Lib.hid hs'
    clear hb hn hs hn' hs'
    go_wp2_with (first
      | (go_at_call 13; (with_reducible refine (Hof.out w1 (Rd.below Hr.out hw1) Hn.out Hs.out (hT.below hw1).c).mono ?_); rintro e w2 ⟨rfl, hw2⟩; have hB2 := hw1.trans (hw2.mono hw1.size))
      | ((with_reducible refine wpList_store_row rfl 26 (.tmp 6) (.tmp 14) rfl w2.heap.size D.toArray rfl rfl 26 _ (heap_alloc_new _ _) hiB.out ?_ hoB.out ?_); exact hzB.out; rw [World.setRow_alloc_new]; simp only [Act.put]))
    have hk3 := blk_new w2 D.toArray 26
    have hB3 := hB2.alloc hB2.size (.cells D.toArray 26)
    generalize w2.alloc (.cells D.toArray 26) = w3 at *
    generalize w2.heap.size = N at *
    have hk3d : Blk w3.drew N D.toArray 26 := hk3
    have hB3d := hB3.drew
    refine wp_region_any (by kernel_rfl) ?_
    change wpAny _ _ _ _ _ _ _ w3.drew
    have hkd := hk3d
    have hBd := hB3d
    clear hk3 hk3d hB3 hB3d
    generalize w3.drew = wd at *
    refine wpAny_take (i := 0) (v := .bool true) rfl (by kernel_rfl) (by kernel_rfl) (by kernel_rfl) (fun _ _ _ h => h) (Or.inl ⟨by rfl, fun w => by rfl⟩) ?_
    simp only [Act.put]
    refine wpAny_take (i := 1) (v := .bool true) rfl (by kernel_rfl) (by kernel_rfl) (by kernel_rfl) (fun _ _ _ h => h) (Or.inl ⟨by rfl, fun w => by rfl⟩) ?_
    simp only [Act.put]
    refine wpAny_take (i := 3) (v := .int .i64 tag) rfl (by kernel_rfl) (by kernel_rfl) (by kernel_rfl) (fun _ _ _ h => h) (Or.inl ⟨by rfl, fun w => by rfl⟩) ?_
    simp only [Act.put]
    refine wpAny_take (i := 4) (v := v) rfl (by kernel_rfl) (by kernel_rfl) (by kernel_rfl) (fun _ _ _ h => h) (Or.inl ⟨by rfl, fun w => by rfl⟩) ?_
    simp only [Act.put]
    refine wpAny_ready (rs := [2, 5]) (by kernel_rfl) (by simp) (AllReady.cons rfl (fun K hK => ?_) (AllReady.cons rfl (fun K hK => ?_) AllReady.nil))
    · rw [if_pos (by rfl)]
      with_reducible refine wp_load_row 26 (.tmp 6) rfl N rfl 26 _ _ _ hkd hu rfl hiB.out ?_
      refine hK _ _ ?_
      clear hK K
      simp only [Act.put]
      refine wpAny_ready (rs := [5]) (by kernel_rfl) (by simp) (AllReady.cons rfl (fun K hK => ?_) AllReady.nil)
      rw [if_pos (by rfl)]
      go_simp
      go_at_call 14
      with_reducible refine (Hrof.out wd (Rd.below Hr.out hBd) Hn.out Hs.out (hR.below hBd)).mono ?_
      rintro e w4 ⟨rfl, hw4⟩
      have hk4 := blk_kept hkd hw4
      have hB4 := hBd.trans (hw4.mono hBd.size)
      dsimp only
      refine hK _ _ ?_
      clear hK K
      refine wpAny_ready (rs := [6]) (by kernel_rfl) (by simp) (AllReady.cons rfl (fun K hK => ?_) AllReady.nil)
      rw [if_pos (by rfl)]
      go_simp
      refine hK _ _ ?_
      clear hK K
      refine wpAny_ready (rs := [7]) (by kernel_rfl) (by simp) (AllReady.cons rfl (fun K hK => ?_) AllReady.nil)
      rw [if_pos (by rfl)]
      go_simp
      refine hK _ _ ?_
      clear hK K
      refine wpAny_ready (rs := [8]) (by kernel_rfl) (by simp) (AllReady.cons rfl (fun K hK => ?_) AllReady.nil)
      rw [if_pos (by rfl)]
      go_simp
      refine hK _ _ ?_
      clear hK K
      refine wpAny_take (i := 10) (v := .int .i64 tag) rfl (by kernel_rfl) (by kernel_rfl) (by kernel_rfl) (fun _ _ _ h => h) (Or.inl ⟨by rfl, fun w => by rfl⟩) ?_
      simp only [Act.put]
      refine wpAny_take (i := 12) (v := v) rfl (by kernel_rfl) (by kernel_rfl) (by kernel_rfl) (fun _ _ _ h => h) (Or.inl ⟨by rfl, fun w => by rfl⟩) ?_
      simp only [Act.put]
      refine wpAny_take (i := 11) (v := .int .i64 (tag % 256)) rfl (by kernel_rfl) (by kernel_rfl) (by kernel_rfl) (fun _ _ _ h => h) (Or.inl ⟨by rfl, fun w => by go_simp⟩) ?_
      simp only [Act.put]
      refine wpAny_ready (rs := [9, 13]) (by kernel_rfl) (by simp) (AllReady.cons rfl (fun K hK => ?_) (AllReady.cons rfl (fun K hK => ?_) AllReady.nil))
      · rw [if_pos (by rfl)]
        with_reducible refine wp_load_row 26 (.tmp 6) rfl N rfl 26 _ _ _ hk4 hu rfl hiB.out ?_
        refine hK _ _ ?_
        clear hK K
        simp only [Act.put]
        refine wpAny_ready (rs := [13]) (by kernel_rfl) (by simp) (AllReady.cons rfl (fun K hK => ?_) AllReady.nil)
        rw [if_pos (by rfl)]
        go_simp
        go_at_call 13
        with_reducible refine (Hof2.out w4 (Rd.below Hr.out hB4) Hn.out Hs.out (hT.below hB4).c).mono ?_
        rintro e w5 ⟨rfl, hw5⟩
        have hk5 := blk_kept hk4 hw5
        have hB5 := hB4.trans (hw5.mono hB4.size)
        dsimp only
        refine hK _ _ ?_
        clear hK K
        refine wpAny_ready (rs := [14]) (by kernel_rfl) (by simp) (AllReady.cons rfl (fun K hK => ?_) AllReady.nil)
        rw [if_pos (by rfl)]
        go_simp
        refine hK _ _ ?_
        clear hK K
        refine rest_from 15 rfl (by kernel_rfl) ?_
        simp only [List.drop]
        go_wp2
        go_ret
        exact ⟨rfl, hB5⟩
      · rw [if_pos (by rfl)]
        go_simp
        go_at_call 13
        with_reducible refine (Hof2.out w4 (Rd.below Hr.out hB4) Hn.out Hs.out (hT.below hB4).c).mono ?_
        rintro e w5 ⟨rfl, hw5⟩
        have hk5 := blk_kept hk4 hw5
        have hB5 := hB4.trans (hw5.mono hB4.size)
        dsimp only
        refine hK _ _ ?_
        clear hK K
        refine wpAny_ready (rs := [9]) (by kernel_rfl) (by simp) (AllReady.cons rfl (fun K hK => ?_) AllReady.nil)
        rw [if_pos (by rfl)]
        with_reducible refine wp_load_row 26 (.tmp 6) rfl N rfl 26 _ _ _ hk5 hu rfl hiB.out ?_
        refine hK _ _ ?_
        clear hK K
        simp only [Act.put]
        refine wpAny_ready (rs := [14]) (by kernel_rfl) (by simp) (AllReady.cons rfl (fun K hK => ?_) AllReady.nil)
        rw [if_pos (by rfl)]
        go_simp
        refine hK _ _ ?_
        clear hK K
        refine rest_from 15 rfl (by kernel_rfl) ?_
        simp only [List.drop]
        go_wp2
        go_ret
        exact ⟨rfl, hB5⟩
    · rw [if_pos (by rfl)]
      go_simp
      go_at_call 14
      with_reducible refine (Hrof.out wd (Rd.below Hr.out hBd) Hn.out Hs.out (hR.below hBd)).mono ?_
      rintro e w4 ⟨rfl, hw4⟩
      have hk4 := blk_kept hkd hw4
      have hB4 := hBd.trans (hw4.mono hBd.size)
      dsimp only
      refine hK _ _ ?_
      clear hK K
      refine wpAny_ready (rs := [2]) (by kernel_rfl) (by simp) (AllReady.cons rfl (fun K hK => ?_) AllReady.nil)
      rw [if_pos (by rfl)]
      with_reducible refine wp_load_row 26 (.tmp 6) rfl N rfl 26 _ _ _ hk4 hu rfl hiB.out ?_
      refine hK _ _ ?_
      clear hK K
      simp only [Act.put]
      refine wpAny_ready (rs := [6]) (by kernel_rfl) (by simp) (AllReady.cons rfl (fun K hK => ?_) AllReady.nil)
      rw [if_pos (by rfl)]
      go_simp
      refine hK _ _ ?_
      clear hK K
      refine wpAny_ready (rs := [7]) (by kernel_rfl) (by simp) (AllReady.cons rfl (fun K hK => ?_) AllReady.nil)
      rw [if_pos (by rfl)]
      go_simp
      refine hK _ _ ?_
      clear hK K
      refine wpAny_ready (rs := [8]) (by kernel_rfl) (by simp) (AllReady.cons rfl (fun K hK => ?_) AllReady.nil)
      rw [if_pos (by rfl)]
      go_simp
      refine hK _ _ ?_
      clear hK K
      refine wpAny_take (i := 10) (v := .int .i64 tag) rfl (by kernel_rfl) (by kernel_rfl) (by kernel_rfl) (fun _ _ _ h => h) (Or.inl ⟨by rfl, fun w => by rfl⟩) ?_
      simp only [Act.put]
      refine wpAny_take (i := 12) (v := v) rfl (by kernel_rfl) (by kernel_rfl) (by kernel_rfl) (fun _ _ _ h => h) (Or.inl ⟨by rfl, fun w => by rfl⟩) ?_
      simp only [Act.put]
      refine wpAny_take (i := 11) (v := .int .i64 (tag % 256)) rfl (by kernel_rfl) (by kernel_rfl) (by kernel_rfl) (fun _ _ _ h => h) (Or.inl ⟨by rfl, fun w => by go_simp⟩) ?_
      simp only [Act.put]
      refine wpAny_ready (rs := [9, 13]) (by kernel_rfl) (by simp) (AllReady.cons rfl (fun K hK => ?_) (AllReady.cons rfl (fun K hK => ?_) AllReady.nil))
      · rw [if_pos (by rfl)]
        with_reducible refine wp_load_row 26 (.tmp 6) rfl N rfl 26 _ _ _ hk4 hu rfl hiB.out ?_
        refine hK _ _ ?_
        clear hK K
        simp only [Act.put]
        refine wpAny_ready (rs := [13]) (by kernel_rfl) (by simp) (AllReady.cons rfl (fun K hK => ?_) AllReady.nil)
        rw [if_pos (by rfl)]
        go_simp
        go_at_call 13
        with_reducible refine (Hof2.out w4 (Rd.below Hr.out hB4) Hn.out Hs.out (hT.below hB4).c).mono ?_
        rintro e w5 ⟨rfl, hw5⟩
        have hk5 := blk_kept hk4 hw5
        have hB5 := hB4.trans (hw5.mono hB4.size)
        dsimp only
        refine hK _ _ ?_
        clear hK K
        refine wpAny_ready (rs := [14]) (by kernel_rfl) (by simp) (AllReady.cons rfl (fun K hK => ?_) AllReady.nil)
        rw [if_pos (by rfl)]
        go_simp
        refine hK _ _ ?_
        clear hK K
        refine rest_from 15 rfl (by kernel_rfl) ?_
        simp only [List.drop]
        go_wp2
        go_ret
        exact ⟨rfl, hB5⟩
      · rw [if_pos (by rfl)]
        go_simp
        go_at_call 13
        with_reducible refine (Hof2.out w4 (Rd.below Hr.out hB4) Hn.out Hs.out (hT.below hB4).c).mono ?_
        rintro e w5 ⟨rfl, hw5⟩
        have hk5 := blk_kept hk4 hw5
        have hB5 := hB4.trans (hw5.mono hB4.size)
        dsimp only
        refine hK _ _ ?_
        clear hK K
        refine wpAny_ready (rs := [9]) (by kernel_rfl) (by simp) (AllReady.cons rfl (fun K hK => ?_) AllReady.nil)
        rw [if_pos (by rfl)]
        with_reducible refine wp_load_row 26 (.tmp 6) rfl N rfl 26 _ _ _ hk5 hu rfl hiB.out ?_
        refine hK _ _ ?_
        clear hK K
        simp only [Act.put]
        refine wpAny_ready (rs := [14]) (by kernel_rfl) (by simp) (AllReady.cons rfl (fun K hK => ?_) AllReady.nil)
        rw [if_pos (by rfl)]
        go_simp
        refine hK _ _ ?_
        clear hK K
        refine rest_from 15 rfl (by kernel_rfl) ?_
        simp only [List.drop]
        go_wp2
        go_ret
        exact ⟨rfl, hB5⟩
end Go.Proofs.YtbgieephehfgpabDoor
