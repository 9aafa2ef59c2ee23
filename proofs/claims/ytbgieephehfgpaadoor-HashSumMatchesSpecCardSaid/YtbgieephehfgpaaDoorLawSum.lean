/-
  The function of the law HashSumMatchesSpec returns true. Condition: the tables are as the program's text lays them.
-/
import Derived.Test.YtbgieephehfgpaaDoorSanity
import Derived.Test.YtbgieephehfgpaaDoorRefSum
import Derived.Test.YtbgieephehfgpaaDoorConvStr
import Derived.Stop.BytesEq
import Derived.StillTail
namespace Go.Proofs.YtbgieephehfgpaaDoor
open Go Go.RowKit Sha
/-- Go's == on arrays of bytes -/
theorem eq_bytes (t : TypeId) (n : Nat) (ht : Tryd.prog.underlying t = some (.array n 5)) (xs ys : List UInt8) (hx : xs.length = n) (hy : ys.length = n) (W : World) :
    (Op.equalIn 10000 t (.agg (xs.map mkB).toArray) (.agg (ys.map mkB).toArray)).run Tryd.prog W = .ok (xs == ys) W :=
  run_equalIn_bytes W 9998 t 5 n ht Tryd.underlying5 (fun w => Tryd.sizeOf5 w) xs ys hx hy
/-- The rest of a region that is one forced sequence, walked as a list. -/
theorem rest_from {P : Program} {Q : Exit → Act → World → Prop} {l : List Oper} {listed : Array Bool} {a : Act} {w : World} {g : Nat} (n : Nat) (hg : g = (l.drop n).length)
    (hs : Region.seqB .any l.toArray g n listed = true) (h : wpList P l.toArray Q (l.drop n) a w) : wpAny P .any l.toArray Q g listed a w := by
  subst hg
  exact wpAny_of_seq (l.drop n) n listed a w (fun j => by simp [List.getElem?_drop]) hs h
set_option maxRecDepth 100000 in
set_option maxHeartbeats 4000000 in
theorem lawsum_any (v : Value) (l : List UInt8) (w : World) (hr : RdB w v l) (hlm : l.length ≤ maxLen) (hT : Tabs w) (hR : TabR w) :
    Calls Tryd.prog 11 #[v] w fun e w' => e = .returned (.bool true) ∧ Below w.heap.size w w' := by
  unfold maxLen at hlm
  have hcv : ∀ W, Below w.heap.size w W → (convert 22 9 v).run Tryd.prog W = .ok (.string ⟨l.toArray⟩) W :=
    fun W hW => RdB.conv (Rd.below hr hW) _ _ 5 Tryd.underlying22 Tryd.underlying5 Tryd.underlying9
  have Hr := Lib.hid hr
  obtain ⟨va, vcap, rfl, hvc, hvcell⟩ := hr
  clear hvcell
  by_cases hle : l.length ≤ 600
  · have hd : decide ((600 : Int) < (l.length : Int)) = false := by simp; omega
    have hsum := fun v W (hW : RdB W v l) (h : TabC W) => hsum_any v l W hW (by omega) h
    have hrsum := fun v W (hW : RdB W v l) (h : TabR W) => refsum_any v l W hW (by omega) h
    have heq := eq_bytes 47 32 Tryd.underlying47 (sha l) (sha l) (sha_len l) (sha_len l)
    rw [show (sha l == sha l) = true by simp] at heq
    have hDl : ((sha l).map mkB).length = 32 := by rw [List.length_map, sha_len]
    have hD1 : ∀ u ∈ (sha l).map mkB, u.oneCell' = true := by
      intro u hu
      obtain ⟨b, _, rfl⟩ := List.mem_map.1 hu
      rfl
    have hsum' : ∀ v W, RdB W v l → TabC W → Calls Tryd.prog 27 #[v] W fun e w' => e = .returned (.agg ((sha l).map mkB).toArray) ∧ Below W.heap.size W w' := hsum
    have hrsum' : ∀ v W, RdB W v l → TabR W → Calls Tryd.prog 28 #[v] W fun e w' => e = .returned (.agg ((sha l).map mkB).toArray) ∧ Below W.heap.size W w' := hrsum
    clear hsum hrsum
    generalize (sha l).map mkB = D at *
    have hi : (Tryd.prog.info? 47).map (·.size) = some D.length := by rw [hDl]; kernel_rfl
    have hu := Tryd.underlying47
    have Hsum := Lib.hid hsum'
    have Hrsum := Lib.hid hrsum'
    have Hcv := Lib.hid hcv
    have hiB : Hid ((Tryd.prog.info? 47).map (·.size) = some D.toArray.size) := Lib.hid (by rw [List.size_toArray]; exact hi)
    have hzB : Hid (32 = D.toArray.size) := Lib.hid (by rw [List.size_toArray, hDl])
    have hoB : Hid (D.toArray.all (·.oneCell') = true) := Lib.hid (all_oneCell_toArray hD1)
    clear hsum' hrsum'
    go_enter Tryd.func11, Tryd.ntmps11
    go_wp2_with (first
      | (go_at_call 13; ((with_reducible refine (sanity_any w hT).mono ?_); rintro e w1 ⟨rfl, hw1⟩; have hc1 := hcv w1 hw1))
      | (go_at_call 27; ((with_reducible refine (Hsum.out _ w1 (Rd.below Hr.out hw1) (hT.below hw1).c).mono ?_); rintro e w2 ⟨rfl, hw2⟩; have hB2 := hw1.trans (hw2.mono hw1.size); clear hc1))
      | ((with_reducible refine wpList_store_row rfl 47 (.tmp 5) (.tmp 14) rfl w2.heap.size D.toArray rfl rfl 47 _ (heap_alloc_new _ _) hiB.out ?_ hoB.out ?_); exact hzB.out; rw [World.setRow_alloc_new]; simp only [Act.put]))
    have hk3 := blk_new w2 D.toArray 47
    have hB3 := hB2.alloc hB2.size (.cells D.toArray 47)
    generalize w2.alloc (.cells D.toArray 47) = w3 at *
    generalize w2.heap.size = N at *
    have hBd := hB3.drew
    have hk3d : Blk w3.drew N D.toArray 47 := hk3
    refine wp_region_any (by kernel_rfl) ?_
    change wpAny _ _ _ _ _ _ _ w3.drew
    clear hk3 hB3
    have hk3 := hk3d
    clear hk3d
    generalize w3.drew = wd at *
    refine wpAny_take (i := 0) (v := .bool true) rfl (by kernel_rfl) (by kernel_rfl) (by kernel_rfl) (fun _ _ _ h => h) (Or.inl ⟨by rfl, fun w => by rfl⟩) ?_
    simp only [Act.put]
    refine wpAny_take (i := 1) (v := .bool true) rfl (by kernel_rfl) (by kernel_rfl) (by kernel_rfl) (fun _ _ _ h => h) (Or.inl ⟨by rfl, fun w => by rfl⟩) ?_
    simp only [Act.put]
    refine wpAny_take (i := 3) (v := .string ⟨l.toArray⟩) rfl (by kernel_rfl) (by kernel_rfl) (by kernel_rfl) (fun _ _ _ h => h) (Or.inl ⟨by rfl, fun w => by rfl⟩) ?_
    simp only [Act.put]
    refine wpAny_ready (rs := [2, 4]) (by kernel_rfl) (by simp) (AllReady.cons rfl (fun K hK => ?_) (AllReady.cons rfl (fun K hK => ?_) AllReady.nil))
    · rw [if_pos (by rfl)]
      with_reducible refine wp_load_row 47 (.tmp 5) rfl N rfl 47 _ _ _ hk3 hu rfl hiB.out ?_
      refine hK _ _ ?_
      clear hK K
      simp only [Act.put]
      refine wpAny_ready (rs := [4]) (by kernel_rfl) (by simp) (AllReady.cons rfl (fun K hK => ?_) AllReady.nil)
      rw [if_pos (by rfl)]
      obtain ⟨v4, w4, hc4, hr4, hw4⟩ := conv_str wd l
      have hB4 := hBd.trans (hw4.mono hBd.size)
      have hk4 := blk_kept hk3 hw4
      go_simp
      refine hK _ _ ?_
      clear hK K
      refine wpAny_ready (rs := [5]) (by kernel_rfl) (by simp) (AllReady.cons rfl (fun K hK => ?_) AllReady.nil)
      rw [if_pos (by rfl)]
      go_simp
      go_at_call 28
      with_reducible refine (Hrsum.out _ w4 hr4 (hR.below hB4)).mono ?_
      rintro e w5 ⟨rfl, hw5⟩
      have hB5 := hB4.trans (hw5.mono hB4.size)
      have hk5 := blk_kept hk4 hw5
      have hc5 := Hcv.out w5 hB5
      dsimp only
      refine hK _ _ ?_
      clear hK K
      refine wpAny_ready (rs := [6]) (by kernel_rfl) (by simp) (AllReady.cons rfl (fun K hK => ?_) AllReady.nil)
      rw [if_pos (by rfl)]
      go_simp
      refine hK _ _ ?_
      clear hK K
      refine wpAny_ready (rs := [7]) (by kernel_rfl) (by simp) (AllReady.cons rfl (fun K hK => ?_) AllReady.nil)
      rw [if_pos (by rfl)]
      go_simp
      refine hK _ _ ?_
      clear hK K
      refine wpAny_ready (rs := [8]) (by kernel_rfl) (by simp) (AllReady.cons rfl (fun K hK => ?_) AllReady.nil)
      rw [if_pos (by rfl)]
      go_simp
      refine hK _ _ ?_
      clear hK K
      refine wpAny_take (i := 11) (v := .string ⟨l.toArray⟩) rfl (by kernel_rfl) (by kernel_rfl) (by kernel_rfl) (fun _ _ _ h => h) (Or.inl ⟨by rfl, fun w => by rfl⟩) ?_
      simp only [Act.put]
      refine wpAny_ready (rs := [9]) (by kernel_rfl) (by simp) (AllReady.cons rfl (fun K hK => ?_) AllReady.nil)
      rw [if_pos (by rfl)]
      go_simp
      refine hK _ _ ?_
      clear hK K
      refine wpAny_ready (rs := [10]) (by kernel_rfl) (by simp) (AllReady.cons rfl (fun K hK => ?_) AllReady.nil)
      rw [if_pos (by rfl)]
      go_simp
      refine hK _ _ ?_
      clear hK K
      refine rest_from 12 rfl (by kernel_rfl) ?_
      simp only [List.drop]
      go_wp2
      go_ret
      exact ⟨rfl, hB5⟩
    · rw [if_pos (by rfl)]
      obtain ⟨v4, w4, hc4, hr4, hw4⟩ := conv_str wd l
      have hB4 := hBd.trans (hw4.mono hBd.size)
      have hk4 := blk_kept hk3 hw4
      go_simp
      refine hK _ _ ?_
      clear hK K
      refine wpAny_ready (rs := [2, 5]) (by kernel_rfl) (by simp) (AllReady.cons rfl (fun K hK => ?_) (AllReady.cons rfl (fun K hK => ?_) AllReady.nil))
      · rw [if_pos (by rfl)]
        with_reducible refine wp_load_row 47 (.tmp 5) rfl N rfl 47 _ _ _ hk4 hu rfl hiB.out ?_
        refine hK _ _ ?_
        clear hK K
        simp only [Act.put]
        refine wpAny_ready (rs := [5]) (by kernel_rfl) (by simp) (AllReady.cons rfl (fun K hK => ?_) AllReady.nil)
        rw [if_pos (by rfl)]
        go_simp
        go_at_call 28
        with_reducible refine (Hrsum.out _ w4 hr4 (hR.below hB4)).mono ?_
        rintro e w5 ⟨rfl, hw5⟩
        have hB5 := hB4.trans (hw5.mono hB4.size)
        have hk5 := blk_kept hk4 hw5
        have hc5 := Hcv.out w5 hB5
        dsimp only
        refine hK _ _ ?_
        clear hK K
        refine wpAny_ready (rs := [6]) (by kernel_rfl) (by simp) (AllReady.cons rfl (fun K hK => ?_) AllReady.nil)
        rw [if_pos (by rfl)]
        go_simp
        refine hK _ _ ?_
        clear hK K
        refine wpAny_ready (rs := [7]) (by kernel_rfl) (by simp) (AllReady.cons rfl (fun K hK => ?_) AllReady.nil)
        rw [if_pos (by rfl)]
        go_simp
        refine hK _ _ ?_
        clear hK K
        refine wpAny_ready (rs := [8]) (by kernel_rfl) (by simp) (AllReady.cons rfl (fun K hK => ?_) AllReady.nil)
        rw [if_pos (by rfl)]
        go_simp
        refine hK _ _ ?_
        clear hK K
        refine wpAny_take (i := 11) (v := .string ⟨l.toArray⟩) rfl (by kernel_rfl) (by kernel_rfl) (by kernel_rfl) (fun _ _ _ h => h) (Or.inl ⟨by rfl, fun w => by rfl⟩) ?_
        simp only [Act.put]
        refine wpAny_ready (rs := [9]) (by kernel_rfl) (by simp) (AllReady.cons rfl (fun K hK => ?_) AllReady.nil)
        rw [if_pos (by rfl)]
        go_simp
        refine hK _ _ ?_
        clear hK K
        refine wpAny_ready (rs := [10]) (by kernel_rfl) (by simp) (AllReady.cons rfl (fun K hK => ?_) AllReady.nil)
        rw [if_pos (by rfl)]
        go_simp
        refine hK _ _ ?_
        clear hK K
        refine rest_from 12 rfl (by kernel_rfl) ?_
        simp only [List.drop]
        go_wp2
        go_ret
        exact ⟨rfl, hB5⟩
      · rw [if_pos (by rfl)]
        go_simp
        go_at_call 28
        with_reducible refine (Hrsum.out _ w4 hr4 (hR.below hB4)).mono ?_
        rintro e w5 ⟨rfl, hw5⟩
        have hB5 := hB4.trans (hw5.mono hB4.size)
        have hk5 := blk_kept hk4 hw5
        have hc5 := Hcv.out w5 hB5
        dsimp only
        refine hK _ _ ?_
        clear hK K
        refine wpAny_ready (rs := [2]) (by kernel_rfl) (by simp) (AllReady.cons rfl (fun K hK => ?_) AllReady.nil)
        rw [if_pos (by rfl)]
        with_reducible refine wp_load_row 47 (.tmp 5) rfl N rfl 47 _ _ _ hk5 hu rfl hiB.out ?_
        refine hK _ _ ?_
        clear hK K
        simp only [Act.put]
        refine wpAny_ready (rs := [6]) (by kernel_rfl) (by simp) (AllReady.cons rfl (fun K hK => ?_) AllReady.nil)
        rw [if_pos (by rfl)]
        go_simp
        refine hK _ _ ?_
        clear hK K
        refine wpAny_ready (rs := [7]) (by kernel_rfl) (by simp) (AllReady.cons rfl (fun K hK => ?_) AllReady.nil)
        rw [if_pos (by rfl)]
        go_simp
        refine hK _ _ ?_
        clear hK K
        refine wpAny_ready (rs := [8]) (by kernel_rfl) (by simp) (AllReady.cons rfl (fun K hK => ?_) AllReady.nil)
        rw [if_pos (by rfl)]
        go_simp
        refine hK _ _ ?_
        clear hK K
        refine wpAny_take (i := 11) (v := .string ⟨l.toArray⟩) rfl (by kernel_rfl) (by kernel_rfl) (by kernel_rfl) (fun _ _ _ h => h) (Or.inl ⟨by rfl, fun w => by rfl⟩) ?_
        simp only [Act.put]
        refine wpAny_ready (rs := [9]) (by kernel_rfl) (by simp) (AllReady.cons rfl (fun K hK => ?_) AllReady.nil)
        rw [if_pos (by rfl)]
        go_simp
        refine hK _ _ ?_
        clear hK K
        refine wpAny_ready (rs := [10]) (by kernel_rfl) (by simp) (AllReady.cons rfl (fun K hK => ?_) AllReady.nil)
        rw [if_pos (by rfl)]
        go_simp
        refine hK _ _ ?_
        clear hK K
        refine rest_from 12 rfl (by kernel_rfl) ?_
        simp only [List.drop]
        go_wp2
        go_ret
        exact ⟨rfl, hB5⟩
  · have hd : decide ((600 : Int) < (l.length : Int)) = true := by simp; omega
    go_enter Tryd.func11, Tryd.ntmps11
    go_wp2_with (go_at_call 13; ((with_reducible refine (sanity_any w hT).mono ?_); rintro e w1 ⟨rfl, hw1⟩))
    go_ret
    exact ⟨rfl, hw1⟩
end Go.Proofs.YtbgieephehfgpaaDoor
