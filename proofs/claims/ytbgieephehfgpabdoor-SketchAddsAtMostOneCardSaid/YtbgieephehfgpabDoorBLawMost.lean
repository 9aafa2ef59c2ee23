/-
  The function of the law SketchAddsAtMostOne returns true. Condition: the tables are as the program's text lays them.
-/
import Derived.Test.YtbgieephehfgpabDoorJB8
namespace Go.Proofs.YtbgieephehfgpabDoor
open Go Go.RowKit
set_option maxRecDepth 100000 in
set_option maxHeartbeats 4000000 in
theorem most_big (k : Sk.K) (v : Value) (one two : List UInt8) (w : World) (hr : Rd mkI w v k.c) (hlen : k.c.length ≤ maxLen) (hT : TabC w) (h : 300 < k.c.length) :
    Calls Tryd.prog 7 #[skV k v, .string ⟨one.toArray⟩, .string ⟨two.toArray⟩] w fun e w' => e = .returned (.bool true) ∧ Below w.heap.size w w' := by
  unfold maxLen at hlen
  have hs1 : (⟨one.toArray⟩ : ByteArray).size = one.length := by simp [ByteArray.size]
  have hs2 : (⟨two.toArray⟩ : ByteArray).size = two.length := by simp [ByteArray.size]
  have hval := fun W (h : Rd mkI W v k.c) => rvalid_any k v W h (by unfold maxLen; exact hlen)
  have Hval := Lib.hid hval
  have Hr := Lib.hid hr
  obtain ⟨x, cap, rfl, hcap, hcase⟩ := hr
  clear hcase hval
  obtain ⟨kw, ks, ka, kc⟩ := k
  dsimp only at *
  have d0 : decide ((300 : Int) < (kc.length : Int)) = true := by simp; omega
  have hB0 := below_alloc1 w (.cells #[.int .i64 kw, .int .i64 ks, .int .i64 ka, .slice x kc.length cap] 38)
  have Hrd := Lib.hid (Rd.below Hr.out hB0)
  generalize hL : kc.length = len at *
  have HL := Lib.hid hL
  clear hL
  go_enter Tryd.func7, Tryd.ntmps7
  go_wp2_with (go_at_call 19; (with_reducible refine (ssane_any (w.alloc (.cells #[.int .i64 kw, .int .i64 ks, .int .i64 ka, .slice x len cap] 38)) (hT.below hB0)).mono ?_); rintro e w1 ⟨rfl, hw1⟩; have hB1 := hB0.trans (hw1.mono hB0.size))
  go_ret
  exact ⟨rfl, hB1⟩
set_option maxRecDepth 100000 in
set_option maxHeartbeats 4000000 in
theorem most_one (k : Sk.K) (v : Value) (one two : List UInt8) (w : World) (hr : Rd mkI w v k.c) (hlen : k.c.length ≤ maxLen) (hT : TabC w) (h0 : ¬ 300 < k.c.length) (h : 100 < one.length) :
    Calls Tryd.prog 7 #[skV k v, .string ⟨one.toArray⟩, .string ⟨two.toArray⟩] w fun e w' => e = .returned (.bool true) ∧ Below w.heap.size w w' := by
  unfold maxLen at hlen
  have hs1 : (⟨one.toArray⟩ : ByteArray).size = one.length := by simp [ByteArray.size]
  have hs2 : (⟨two.toArray⟩ : ByteArray).size = two.length := by simp [ByteArray.size]
  have hval := fun W (h : Rd mkI W v k.c) => rvalid_any k v W h (by unfold maxLen; exact hlen)
  have Hval := Lib.hid hval
  have Hr := Lib.hid hr
  obtain ⟨x, cap, rfl, hcap, hcase⟩ := hr
  clear hcase hval
  obtain ⟨kw, ks, ka, kc⟩ := k
  dsimp only at *
  have d0 : decide ((300 : Int) < (kc.length : Int)) = false := by simp; omega
  have d1 : decide ((100 : Int) < (one.length : Int)) = true := by simp; omega
  have hB0 := below_alloc1 w (.cells #[.int .i64 kw, .int .i64 ks, .int .i64 ka, .slice x kc.length cap] 38)
  have Hrd := Lib.hid (Rd.below Hr.out hB0)
  generalize hL : kc.length = len at *
  have HL := Lib.hid hL
  clear hL
  go_enter Tryd.func7, Tryd.ntmps7
  go_wp2_with (go_at_call 19; (with_reducible refine (ssane_any (w.alloc (.cells #[.int .i64 kw, .int .i64 ks, .int .i64 ka, .slice x len cap] 38)) (hT.below hB0)).mono ?_); rintro e w1 ⟨rfl, hw1⟩; have hB1 := hB0.trans (hw1.mono hB0.size))
  go_ret
  exact ⟨rfl, hB1⟩
set_option maxRecDepth 100000 in
set_option maxHeartbeats 4000000 in
theorem most_two (k : Sk.K) (v : Value) (one two : List UInt8) (w : World) (hr : Rd mkI w v k.c) (hlen : k.c.length ≤ maxLen) (hT : TabC w) (h0 : ¬ 300 < k.c.length) (h1 : ¬ 100 < one.length) (h : 100 < two.length) :
    Calls Tryd.prog 7 #[skV k v, .string ⟨one.toArray⟩, .string ⟨two.toArray⟩] w fun e w' => e = .returned (.bool true) ∧ Below w.heap.size w w' := by
  unfold maxLen at hlen
  have hs1 : (⟨one.toArray⟩ : ByteArray).size = one.length := by simp [ByteArray.size]
  have hs2 : (⟨two.toArray⟩ : ByteArray).size = two.length := by simp [ByteArray.size]
  have hval := fun W (h : Rd mkI W v k.c) => rvalid_any k v W h (by unfold maxLen; exact hlen)
  have Hval := Lib.hid hval
  have Hr := Lib.hid hr
  obtain ⟨x, cap, rfl, hcap, hcase⟩ := hr
  clear hcase hval
  obtain ⟨kw, ks, ka, kc⟩ := k
  dsimp only at *
  have d0 : decide ((300 : Int) < (kc.length : Int)) = false := by simp; omega
  have d1 : decide ((100 : Int) < (one.length : Int)) = false := by simp; omega
  have d2 : decide ((100 : Int) < (two.length : Int)) = true := by simp; omega
  have hB0 := below_alloc1 w (.cells #[.int .i64 kw, .int .i64 ks, .int .i64 ka, .slice x kc.length cap] 38)
  have Hrd := Lib.hid (Rd.below Hr.out hB0)
  generalize hL : kc.length = len at *
  have HL := Lib.hid hL
  clear hL
  go_enter Tryd.func7, Tryd.ntmps7
  go_wp2_with (go_at_call 19; (with_reducible refine (ssane_any (w.alloc (.cells #[.int .i64 kw, .int .i64 ks, .int .i64 ka, .slice x len cap] 38)) (hT.below hB0)).mono ?_); rintro e w1 ⟨rfl, hw1⟩; have hB1 := hB0.trans (hw1.mono hB0.size))
  go_ret
  exact ⟨rfl, hB1⟩
set_option maxRecDepth 100000 in
set_option maxHeartbeats 4000000 in
theorem most_bad (k : Sk.K) (v : Value) (one two : List UInt8) (w : World) (hr : Rd mkI w v k.c) (hlen : k.c.length ≤ maxLen) (hT : TabC w) (h0 : ¬ 300 < k.c.length) (h1 : ¬ 100 < one.length) (h2 : ¬ 100 < two.length) (h : Sk.okB k = false) :
    Calls Tryd.prog 7 #[skV k v, .string ⟨one.toArray⟩, .string ⟨two.toArray⟩] w fun e w' => e = .returned (.bool true) ∧ Below w.heap.size w w' := by
  unfold maxLen at hlen
  have hs1 : (⟨one.toArray⟩ : ByteArray).size = one.length := by simp [ByteArray.size]
  have hs2 : (⟨two.toArray⟩ : ByteArray).size = two.length := by simp [ByteArray.size]
  have hval := fun W (h : Rd mkI W v k.c) => rvalid_any k v W h (by unfold maxLen; exact hlen)
  rw [h] at hval
  clear h
  have Hval := Lib.hid hval
  have Hr := Lib.hid hr
  obtain ⟨x, cap, rfl, hcap, hcase⟩ := hr
  clear hcase hval
  obtain ⟨kw, ks, ka, kc⟩ := k
  dsimp only at *
  have d0 : decide ((300 : Int) < (kc.length : Int)) = false := by simp; omega
  have d1 : decide ((100 : Int) < (one.length : Int)) = false := by simp; omega
  have d2 : decide ((100 : Int) < (two.length : Int)) = false := by simp; omega
  have hB0 := below_alloc1 w (.cells #[.int .i64 kw, .int .i64 ks, .int .i64 ka, .slice x kc.length cap] 38)
  have Hrd := Lib.hid (Rd.below Hr.out hB0)
  generalize hL : kc.length = len at *
  have HL := Lib.hid hL
  clear hL
  go_enter Tryd.func7, Tryd.ntmps7
  go_wp2_with (first
    | (go_at_call 18; (with_reducible refine (Hval.out (w.alloc (.cells #[.int .i64 kw, .int .i64 ks, .int .i64 ka, .slice x len cap] 38)) Hrd.out).mono ?_); rintro e w1 ⟨rfl, hw1⟩; have hB1 := hB0.trans (hw1.mono hB0.size))
    | (go_at_call 19; (with_reducible refine (ssane_any w1 (hT.below hB1)).mono ?_); rintro e w2 ⟨rfl, hw2⟩; have hB2 := hB1.trans (hw2.mono hB1.size)))
  go_ret
  exact ⟨rfl, hB2⟩
set_option maxRecDepth 100000 in
set_option maxHeartbeats 4000000 in
theorem most_ok_plain (k : Sk.K) (v : Value) (one two : List UInt8) (w : World) (hr : Rd mkI w v k.c) (hlen : k.c.length ≤ maxLen) (hT : TabC w) (h0 : ¬ 300 < k.c.length) (h1 : ¬ 100 < one.length) (h2 : ¬ 100 < two.length) (hk : Sk.Ok k) (hh : ¬ (k.a + 1 = k.s)) (ht : k.count one < 15) :
    Calls Tryd.prog 7 #[skV k v, .string ⟨one.toArray⟩, .string ⟨two.toArray⟩] w fun e w' => e = .returned (.bool true) ∧ Below w.heap.size w w' := by
  unfold maxLen at hlen
  have hs1 : (⟨one.toArray⟩ : ByteArray).size = one.length := by simp [ByteArray.size]
  have hs2 : (⟨two.toArray⟩ : ByteArray).size = two.length := by simp [ByteArray.size]
  have hval := fun W (h : Rd mkI W v k.c) => rvalid_any k v W h (by unfold maxLen; exact hlen)
  rw [(Sk.okB_iff k).2 hk] at hval
  have hadd := fun W (h : Rd mkI W v k.c) (hT : TabC W) => sadd_lit k hk one v W h (by omega) hT
  have hok := hk.add one
  have hc1 := fun W (h : Rd mkI W v k.c) (hT : TabC W) => count_any k hk one v W h (by omega) hT
  have hc2 := fun W (h : Rd mkI W v k.c) (hT : TabC W) => count_any k hk two v W h (by omega) hT
  have ht1 := fun v W (h : Rd mkI W v (k.add one).c) (hT : TabC W) => count_any (k.add one) hok one v W h (by omega) hT
  have ht2 := fun v W (h : Rd mkI W v (k.add one).c) (hT : TabC W) => count_any (k.add one) hok two v W h (by omega) hT
  have hcc := hk.count_add one
  have hca := hk.add_a one
  have hkw : (k.add one).w = k.w := Sk.K.add_w k one
  have hks : (k.add one).s = k.s := Sk.K.add_s k one
  have hb0 := hk.count0 one
  have ha1 := hk.a1
  have ha2 := hk.a2
  have hs2' := hk.s2
  have hb15 := hk.count15 two
  have hb00 := hk.count0 two
  rw [if_neg hh] at hcc hca
  rw [show min (k.count one + 1) 15 = k.count one + 1 by omega] at hcc
  rw [hcc] at ht1
  obtain ⟨hd1, hd2⟩ := hk.count_other one two hh
  generalize k.count one = a at *
  generalize k.count two = b at *
  generalize (k.add one).count two = c2 at *
  generalize (k.add one).count one = c1 at *
  clear hcc hk hok
  generalize k.add one = k2 at *
  obtain ⟨k2w, k2s, k2a, k2c⟩ := k2
  obtain ⟨kw, ks, ka, kc⟩ := k
  dsimp only at *
  subst hkw hks hca
  have Hval := Lib.hid hval
  have Hadd := Lib.hid hadd
  have Hc1 := Lib.hid hc1
  have Hc2 := Lib.hid hc2
  have Ht1 := Lib.hid ht1
  have Ht2 := Lib.hid ht2
  have Hr := Lib.hid hr
  have HT := Lib.hid (fun W (h : Below w.heap.size w W) => hT.below h)
  obtain ⟨x, cap, rfl, hcap, hcase⟩ := hr
  have Hrd := Lib.hid (fun W (h : Below w.heap.size w W) => Rd.below Hr.out h)
  clear hcase hval hadd hc1 hc2 ht1 ht2
  have d0 : decide ((300 : Int) < (kc.length : Int)) = false := by simp; omega
  have d1 : decide ((100 : Int) < (one.length : Int)) = false := by simp; omega
  have d2 : decide ((100 : Int) < (two.length : Int)) = false := by simp; omega
  have n4 : decide (0 ≤ c2 - b) = true := by simp; omega
  have n5 : decide (c2 - b ≤ 1) = true := by simp; omega
  have hB0 := below_alloc1 w (.cells #[.int .i64 k2w, .int .i64 k2s, .int .i64 ka, .slice x kc.length cap] 38)
  have hb0' := blk_new w #[.int .i64 k2w, .int .i64 k2s, .int .i64 ka, .slice x kc.length cap] 38
  generalize hL : kc.length = len at *
  have HL := Lib.hid hL
  clear hL hh
  go_enter Tryd.func7, Tryd.ntmps7
  go_wp2_with (first
    | (go_at_call 18; (with_reducible refine (Hval.out (w.alloc (.cells #[.int .i64 k2w, .int .i64 k2s, .int .i64 ka, .slice x len cap] 38)) (Hrd.out _ hB0)).mono ?_); rintro e w1 ⟨rfl, hw1⟩; have hb1 := blk_kept hb0' hw1; have hB1 := hB0.trans (hw1.mono hB0.size); have p0 := blk_cell hb1 0; have p1 := blk_cell hb1 1; have p2 := blk_cell hb1 2; have p3 := blk_cell hb1 3; simp only [List.getElem?_toArray, List.getElem?_cons_zero, List.getElem?_cons_succ] at p0 p1 p2 p3)
    | (go_at_call 20; (with_reducible refine (Hadd.out w1 (Hrd.out _ hB1) (HT.out _ hB1)).mono ?_); rintro e w2 ⟨g2, cap2, rfl, hown2, hw2⟩; have hb2 := blk_kept hb1 hw2; have hB2 := hB1.trans (hw2.mono hB1.size); have hl2 := blk_lt hb2; have hT2 := blk_new w2 #[.int .i64 k2w, .int .i64 k2s, .int .i64 (ka + 1), .slice (some ⟨g2, 0, none⟩) k2c.length cap2] 38; have q0 := blk_cell hb2 0; have q1 := blk_cell hb2 1; have q2 := blk_cell hb2 2; have q3 := blk_cell hb2 3; simp only [List.getElem?_toArray, List.getElem?_cons_zero, List.getElem?_cons_succ] at q0 q1 q2 q3)
    | (go_at_call 25; (with_reducible refine (Hc1.out (w2.alloc (.cells #[.int .i64 k2w, .int .i64 k2s, .int .i64 (ka + 1), .slice (some ⟨g2, 0, none⟩) k2c.length cap2] 38)) (Hrd.out _ (below_al hB2 _)) (HT.out _ (below_al hB2 _))).mono ?_); rintro e w3 ⟨rfl, hw3⟩; have ha3 := after1 hw3; have hb3 := blk_kept hb2 ha3.1; have hT3 := ha3.2.1; have hown3 := ownOf_kept hown2 ha3.1; have hB3 := hB2.trans (ha3.1.mono hB2.size); have r0 := blk_cell hb3 0; have r1 := blk_cell hb3 1; have r2 := blk_cell hb3 2; have r3 := blk_cell hb3 3; simp only [List.getElem?_toArray, List.getElem?_cons_zero, List.getElem?_cons_succ] at r0 r1 r2 r3)
    | (go_at_call 25; (with_reducible refine (Hc2.out w3 (Hrd.out _ hB3) (HT.out _ hB3)).mono ?_); rintro e w4 ⟨rfl, hw4⟩; have hb4 := blk_kept hb3 hw4; have hT4 := blk_kept hT3 hw4; have hown4 := ownOf_kept hown3 hw4; have hB4 := hB3.trans (hw4.mono hB3.size); have s0 := blk_cell hb4 0; have s1 := blk_cell hb4 1; have s2 := blk_cell hb4 2; have s3 := blk_cell hb4 3; simp only [List.getElem?_toArray, List.getElem?_cons_zero, List.getElem?_cons_succ] at s0 s1 s2 s3; have t0 := blk_cell hT4 0; have t1 := blk_cell hT4 1; have t2 := blk_cell hT4 2; have t3 := blk_cell hT4 3; simp only [List.getElem?_toArray, List.getElem?_cons_zero, List.getElem?_cons_succ] at t0 t1 t2 t3)
    | (go_at_call 25; (with_reducible refine (Ht2.out _ w4 (ownOf_rd hown4) (HT.out _ hB4)).mono ?_); rintro e w5 ⟨rfl, hw5⟩; have hb5 := blk_kept hb4 hw5; have hT5 := blk_kept hT4 hw5; have hown5 := ownOf_kept hown4 hw5; have hB5 := hB4.trans (hw5.mono hB4.size))
    | (go_at_call 19; (with_reducible refine (ssane_any w5 (HT.out _ hB5)).mono ?_); rintro e w6 ⟨rfl, hw6⟩; have hT6 := blk_kept hT5 hw6; have hown6 := ownOf_kept hown5 hw6; have hB6 := hB5.trans (hw6.mono hB5.size); have v0 := blk_cell hT6 0; have v1 := blk_cell hT6 1; have v2 := blk_cell hT6 2; have v3 := blk_cell hT6 3; simp only [List.getElem?_toArray, List.getElem?_cons_zero, List.getElem?_cons_succ] at v0 v1 v2 v3)
    | (go_at_call 25; (with_reducible refine (Ht1.out _ w6 (ownOf_rd hown6) (HT.out _ hB6)).mono ?_); rintro e w7 ⟨rfl, hw7⟩; have hB7 := hB6.trans (hw7.mono hB6.size)))
  all_goals
    go_ret
    exact ⟨rfl, hB7⟩
set_option maxRecDepth 100000 in
set_option maxHeartbeats 4000000 in
theorem most_ok_plain_top (k : Sk.K) (v : Value) (one two : List UInt8) (w : World) (hr : Rd mkI w v k.c) (hlen : k.c.length ≤ maxLen) (hT : TabC w) (h0 : ¬ 300 < k.c.length) (h1 : ¬ 100 < one.length) (h2 : ¬ 100 < two.length) (hk : Sk.Ok k) (hh : ¬ (k.a + 1 = k.s)) (ht : k.count one = 15) :
    Calls Tryd.prog 7 #[skV k v, .string ⟨one.toArray⟩, .string ⟨two.toArray⟩] w fun e w' => e = .returned (.bool true) ∧ Below w.heap.size w w' := by
  unfold maxLen at hlen
  have hs1 : (⟨one.toArray⟩ : ByteArray).size = one.length := by simp [ByteArray.size]
  have hs2 : (⟨two.toArray⟩ : ByteArray).size = two.length := by simp [ByteArray.size]
  have hval := fun W (h : Rd mkI W v k.c) => rvalid_any k v W h (by unfold maxLen; exact hlen)
  rw [(Sk.okB_iff k).2 hk] at hval
  have hadd := fun W (h : Rd mkI W v k.c) (hT : TabC W) => sadd_lit k hk one v W h (by omega) hT
  have hok := hk.add one
  have hc1 := fun W (h : Rd mkI W v k.c) (hT : TabC W) => count_any k hk one v W h (by omega) hT
  have hc2 := fun W (h : Rd mkI W v k.c) (hT : TabC W) => count_any k hk two v W h (by omega) hT
  have ht1 := fun v W (h : Rd mkI W v (k.add one).c) (hT : TabC W) => count_any (k.add one) hok one v W h (by omega) hT
  have ht2 := fun v W (h : Rd mkI W v (k.add one).c) (hT : TabC W) => count_any (k.add one) hok two v W h (by omega) hT
  have hcc := hk.count_add one
  have hca := hk.add_a one
  have hkw : (k.add one).w = k.w := Sk.K.add_w k one
  have hks : (k.add one).s = k.s := Sk.K.add_s k one
  have hb0 := hk.count0 one
  have ha1 := hk.a1
  have ha2 := hk.a2
  have hs2' := hk.s2
  have hb15 := hk.count15 two
  have hb00 := hk.count0 two
  rw [if_neg hh] at hcc hca
  rw [show min (k.count one + 1) 15 = 15 by omega] at hcc
  rw [hcc] at ht1
  obtain ⟨hd1, hd2⟩ := hk.count_other one two hh
  rw [ht] at hc1
  generalize k.count one = a at *
  generalize k.count two = b at *
  generalize (k.add one).count two = c2 at *
  generalize (k.add one).count one = c1 at *
  clear hcc hk hok ht
  generalize k.add one = k2 at *
  obtain ⟨k2w, k2s, k2a, k2c⟩ := k2
  obtain ⟨kw, ks, ka, kc⟩ := k
  dsimp only at *
  subst hkw hks hca
  have Hval := Lib.hid hval
  have Hadd := Lib.hid hadd
  have Hc1 := Lib.hid hc1
  have Hc2 := Lib.hid hc2
  have Ht1 := Lib.hid ht1
  have Ht2 := Lib.hid ht2
  have Hr := Lib.hid hr
  have HT := Lib.hid (fun W (h : Below w.heap.size w W) => hT.below h)
  obtain ⟨x, cap, rfl, hcap, hcase⟩ := hr
  have Hrd := Lib.hid (fun W (h : Below w.heap.size w W) => Rd.below Hr.out h)
  clear hcase hval hadd hc1 hc2 ht1 ht2
  have d0 : decide ((300 : Int) < (kc.length : Int)) = false := by simp; omega
  have d1 : decide ((100 : Int) < (one.length : Int)) = false := by simp; omega
  have d2 : decide ((100 : Int) < (two.length : Int)) = false := by simp; omega
  have n4 : decide (0 ≤ c2 - b) = true := by simp; omega
  have n5 : decide (c2 - b ≤ 1) = true := by simp; omega
  have hB0 := below_alloc1 w (.cells #[.int .i64 k2w, .int .i64 k2s, .int .i64 ka, .slice x kc.length cap] 38)
  have hb0' := blk_new w #[.int .i64 k2w, .int .i64 k2s, .int .i64 ka, .slice x kc.length cap] 38
  generalize hL : kc.length = len at *
  have HL := Lib.hid hL
  clear hL hh
  go_enter Tryd.func7, Tryd.ntmps7
  go_wp2_with (first
    | (go_at_call 18; (with_reducible refine (Hval.out (w.alloc (.cells #[.int .i64 k2w, .int .i64 k2s, .int .i64 ka, .slice x len cap] 38)) (Hrd.out _ hB0)).mono ?_); rintro e w1 ⟨rfl, hw1⟩; have hb1 := blk_kept hb0' hw1; have hB1 := hB0.trans (hw1.mono hB0.size); have p0 := blk_cell hb1 0; have p1 := blk_cell hb1 1; have p2 := blk_cell hb1 2; have p3 := blk_cell hb1 3; simp only [List.getElem?_toArray, List.getElem?_cons_zero, List.getElem?_cons_succ] at p0 p1 p2 p3)
    | (go_at_call 20; (with_reducible refine (Hadd.out w1 (Hrd.out _ hB1) (HT.out _ hB1)).mono ?_); rintro e w2 ⟨g2, cap2, rfl, hown2, hw2⟩; have hb2 := blk_kept hb1 hw2; have hB2 := hB1.trans (hw2.mono hB1.size); have hl2 := blk_lt hb2; have hT2 := blk_new w2 #[.int .i64 k2w, .int .i64 k2s, .int .i64 (ka + 1), .slice (some ⟨g2, 0, none⟩) k2c.length cap2] 38; have q0 := blk_cell hb2 0; have q1 := blk_cell hb2 1; have q2 := blk_cell hb2 2; have q3 := blk_cell hb2 3; simp only [List.getElem?_toArray, List.getElem?_cons_zero, List.getElem?_cons_succ] at q0 q1 q2 q3)
    | (go_at_call 25; (with_reducible refine (Hc1.out (w2.alloc (.cells #[.int .i64 k2w, .int .i64 k2s, .int .i64 (ka + 1), .slice (some ⟨g2, 0, none⟩) k2c.length cap2] 38)) (Hrd.out _ (below_al hB2 _)) (HT.out _ (below_al hB2 _))).mono ?_); rintro e w3 ⟨rfl, hw3⟩; have ha3 := after1 hw3; have hb3 := blk_kept hb2 ha3.1; have hT3 := ha3.2.1; have hown3 := ownOf_kept hown2 ha3.1; have hB3 := hB2.trans (ha3.1.mono hB2.size); have r0 := blk_cell hb3 0; have r1 := blk_cell hb3 1; have r2 := blk_cell hb3 2; have r3 := blk_cell hb3 3; simp only [List.getElem?_toArray, List.getElem?_cons_zero, List.getElem?_cons_succ] at r0 r1 r2 r3)
    | (go_at_call 25; (with_reducible refine (Hc2.out w3 (Hrd.out _ hB3) (HT.out _ hB3)).mono ?_); rintro e w4 ⟨rfl, hw4⟩; have hb4 := blk_kept hb3 hw4; have hT4 := blk_kept hT3 hw4; have hown4 := ownOf_kept hown3 hw4; have hB4 := hB3.trans (hw4.mono hB3.size); have s0 := blk_cell hb4 0; have s1 := blk_cell hb4 1; have s2 := blk_cell hb4 2; have s3 := blk_cell hb4 3; simp only [List.getElem?_toArray, List.getElem?_cons_zero, List.getElem?_cons_succ] at s0 s1 s2 s3; have t0 := blk_cell hT4 0; have t1 := blk_cell hT4 1; have t2 := blk_cell hT4 2; have t3 := blk_cell hT4 3; simp only [List.getElem?_toArray, List.getElem?_cons_zero, List.getElem?_cons_succ] at t0 t1 t2 t3)
    | (go_at_call 25; (with_reducible refine (Ht2.out _ w4 (ownOf_rd hown4) (HT.out _ hB4)).mono ?_); rintro e w5 ⟨rfl, hw5⟩; have hb5 := blk_kept hb4 hw5; have hT5 := blk_kept hT4 hw5; have hown5 := ownOf_kept hown4 hw5; have hB5 := hB4.trans (hw5.mono hB4.size))
    | (go_at_call 19; (with_reducible refine (ssane_any w5 (HT.out _ hB5)).mono ?_); rintro e w6 ⟨rfl, hw6⟩; have hT6 := blk_kept hT5 hw6; have hown6 := ownOf_kept hown5 hw6; have hB6 := hB5.trans (hw6.mono hB5.size); have v0 := blk_cell hT6 0; have v1 := blk_cell hT6 1; have v2 := blk_cell hT6 2; have v3 := blk_cell hT6 3; simp only [List.getElem?_toArray, List.getElem?_cons_zero, List.getElem?_cons_succ] at v0 v1 v2 v3)
    | (go_at_call 25; (with_reducible refine (Ht1.out _ w6 (ownOf_rd hown6) (HT.out _ hB6)).mono ?_); rintro e w7 ⟨rfl, hw7⟩; have hB7 := hB6.trans (hw7.mono hB6.size)))
  all_goals
    go_ret
    exact ⟨rfl, hB7⟩
set_option maxRecDepth 100000 in
set_option maxHeartbeats 4000000 in
theorem most_ok_half (k : Sk.K) (v : Value) (one two : List UInt8) (w : World) (hr : Rd mkI w v k.c) (hlen : k.c.length ≤ maxLen) (hT : TabC w) (h0 : ¬ 300 < k.c.length) (h1 : ¬ 100 < one.length) (h2 : ¬ 100 < two.length) (hk : Sk.Ok k) (hh : k.a + 1 = k.s) (ht : k.count one < 15) :
    Calls Tryd.prog 7 #[skV k v, .string ⟨one.toArray⟩, .string ⟨two.toArray⟩] w fun e w' => e = .returned (.bool true) ∧ Below w.heap.size w w' := by
  unfold maxLen at hlen
  have hs1 : (⟨one.toArray⟩ : ByteArray).size = one.length := by simp [ByteArray.size]
  have hs2 : (⟨two.toArray⟩ : ByteArray).size = two.length := by simp [ByteArray.size]
  have hval := fun W (h : Rd mkI W v k.c) => rvalid_any k v W h (by unfold maxLen; exact hlen)
  rw [(Sk.okB_iff k).2 hk] at hval
  have hadd := fun W (h : Rd mkI W v k.c) (hT : TabC W) => sadd_lit k hk one v W h (by omega) hT
  have hok := hk.add one
  have hc1 := fun W (h : Rd mkI W v k.c) (hT : TabC W) => count_any k hk one v W h (by omega) hT
  have hc2 := fun W (h : Rd mkI W v k.c) (hT : TabC W) => count_any k hk two v W h (by omega) hT
  have ht1 := fun v W (h : Rd mkI W v (k.add one).c) (hT : TabC W) => count_any (k.add one) hok one v W h (by omega) hT
  have ht2 := fun v W (h : Rd mkI W v (k.add one).c) (hT : TabC W) => count_any (k.add one) hok two v W h (by omega) hT
  have hcc := hk.count_add one
  have hca := hk.add_a one
  have hkw : (k.add one).w = k.w := Sk.K.add_w k one
  have hks : (k.add one).s = k.s := Sk.K.add_s k one
  have hb0 := hk.count0 one
  have ha1 := hk.a1
  have ha2 := hk.a2
  have hs2' := hk.s2
  have hb15 := hk.count15 two
  have hb00 := hk.count0 two
  rw [if_pos hh] at hcc hca
  rw [show min (k.count one + 1) 15 / 2 = (k.count one + 1) / 2 by omega] at hcc
  rw [hcc] at ht1
  generalize k.count one = a at *
  generalize k.count two = b at *
  generalize (k.add one).count two = c2 at *
  generalize (k.add one).count one = c1 at *
  clear hcc hk hok
  generalize k.add one = k2 at *
  obtain ⟨k2w, k2s, k2a, k2c⟩ := k2
  obtain ⟨kw, ks, ka, kc⟩ := k
  dsimp only at *
  subst hkw hks hca
  have Hval := Lib.hid hval
  have Hadd := Lib.hid hadd
  have Hc1 := Lib.hid hc1
  have Hc2 := Lib.hid hc2
  have Ht1 := Lib.hid ht1
  have Ht2 := Lib.hid ht2
  have Hr := Lib.hid hr
  have HT := Lib.hid (fun W (h : Below w.heap.size w W) => hT.below h)
  obtain ⟨x, cap, rfl, hcap, hcase⟩ := hr
  have Hrd := Lib.hid (fun W (h : Below w.heap.size w W) => Rd.below Hr.out h)
  clear hcase hval hadd hc1 hc2 ht1 ht2
  have d0 : decide ((300 : Int) < (kc.length : Int)) = false := by simp; omega
  have d1 : decide ((100 : Int) < (one.length : Int)) = false := by simp; omega
  have d2 : decide ((100 : Int) < (two.length : Int)) = false := by simp; omega
  have n1 : ((ka + 1) / 2 != ka + 1) = true := by simp; omega
  have n2 : ((ka + 1) / 2 == ka + 1) = false := by simp; omega
  have n3 : (ka + 1) / 2 ≠ ka + 1 := by omega
  have hB0 := below_alloc1 w (.cells #[.int .i64 k2w, .int .i64 k2s, .int .i64 ka, .slice x kc.length cap] 38)
  have hb0' := blk_new w #[.int .i64 k2w, .int .i64 k2s, .int .i64 ka, .slice x kc.length cap] 38
  generalize hL : kc.length = len at *
  have HL := Lib.hid hL
  clear hL hh
  go_enter Tryd.func7, Tryd.ntmps7
  go_wp2_with (first
    | (go_at_call 18; (with_reducible refine (Hval.out (w.alloc (.cells #[.int .i64 k2w, .int .i64 k2s, .int .i64 ka, .slice x len cap] 38)) (Hrd.out _ hB0)).mono ?_); rintro e w1 ⟨rfl, hw1⟩; have hb1 := blk_kept hb0' hw1; have hB1 := hB0.trans (hw1.mono hB0.size); have p0 := blk_cell hb1 0; have p1 := blk_cell hb1 1; have p2 := blk_cell hb1 2; have p3 := blk_cell hb1 3; simp only [List.getElem?_toArray, List.getElem?_cons_zero, List.getElem?_cons_succ] at p0 p1 p2 p3)
    | (go_at_call 20; (with_reducible refine (Hadd.out w1 (Hrd.out _ hB1) (HT.out _ hB1)).mono ?_); rintro e w2 ⟨g2, cap2, rfl, hown2, hw2⟩; have hb2 := blk_kept hb1 hw2; have hB2 := hB1.trans (hw2.mono hB1.size); have hl2 := blk_lt hb2; have hT2 := blk_new w2 #[.int .i64 k2w, .int .i64 k2s, .int .i64 ((ka + 1) / 2), .slice (some ⟨g2, 0, none⟩) k2c.length cap2] 38; have q0 := blk_cell hb2 0; have q1 := blk_cell hb2 1; have q2 := blk_cell hb2 2; have q3 := blk_cell hb2 3; simp only [List.getElem?_toArray, List.getElem?_cons_zero, List.getElem?_cons_succ] at q0 q1 q2 q3)
    | (go_at_call 25; (with_reducible refine (Hc1.out (w2.alloc (.cells #[.int .i64 k2w, .int .i64 k2s, .int .i64 ((ka + 1) / 2), .slice (some ⟨g2, 0, none⟩) k2c.length cap2] 38)) (Hrd.out _ (below_al hB2 _)) (HT.out _ (below_al hB2 _))).mono ?_); rintro e w3 ⟨rfl, hw3⟩; have ha3 := after1 hw3; have hb3 := blk_kept hb2 ha3.1; have hT3 := ha3.2.1; have hown3 := ownOf_kept hown2 ha3.1; have hB3 := hB2.trans (ha3.1.mono hB2.size); have r0 := blk_cell hb3 0; have r1 := blk_cell hb3 1; have r2 := blk_cell hb3 2; have r3 := blk_cell hb3 3; simp only [List.getElem?_toArray, List.getElem?_cons_zero, List.getElem?_cons_succ] at r0 r1 r2 r3)
    | (go_at_call 25; (with_reducible refine (Hc2.out w3 (Hrd.out _ hB3) (HT.out _ hB3)).mono ?_); rintro e w4 ⟨rfl, hw4⟩; have hb4 := blk_kept hb3 hw4; have hT4 := blk_kept hT3 hw4; have hown4 := ownOf_kept hown3 hw4; have hB4 := hB3.trans (hw4.mono hB3.size); have s0 := blk_cell hb4 0; have s1 := blk_cell hb4 1; have s2 := blk_cell hb4 2; have s3 := blk_cell hb4 3; simp only [List.getElem?_toArray, List.getElem?_cons_zero, List.getElem?_cons_succ] at s0 s1 s2 s3; have t0 := blk_cell hT4 0; have t1 := blk_cell hT4 1; have t2 := blk_cell hT4 2; have t3 := blk_cell hT4 3; simp only [List.getElem?_toArray, List.getElem?_cons_zero, List.getElem?_cons_succ] at t0 t1 t2 t3)
    | (go_at_call 19; (with_reducible refine (ssane_any w4 (HT.out _ hB4)).mono ?_); rintro e w5 ⟨rfl, hw5⟩; have hb5 := blk_kept hb4 hw5; have hT5 := blk_kept hT4 hw5; have hown5 := ownOf_kept hown4 hw5; have hB5 := hB4.trans (hw5.mono hB4.size); have u0 := blk_cell hb5 0; have u1 := blk_cell hb5 1; have u2 := blk_cell hb5 2; have u3 := blk_cell hb5 3; simp only [List.getElem?_toArray, List.getElem?_cons_zero, List.getElem?_cons_succ] at u0 u1 u2 u3; have v0 := blk_cell hT5 0; have v1 := blk_cell hT5 1; have v2 := blk_cell hT5 2; have v3 := blk_cell hT5 3; simp only [List.getElem?_toArray, List.getElem?_cons_zero, List.getElem?_cons_succ] at v0 v1 v2 v3)
    | (go_at_call 25; (with_reducible refine (Ht1.out _ w5 (ownOf_rd hown5) (HT.out _ hB5)).mono ?_); rintro e w6 ⟨rfl, hw6⟩; have hB6 := hB5.trans (hw6.mono hB5.size)))
  all_goals
    go_ret
    exact ⟨rfl, hB6⟩
set_option maxRecDepth 100000 in
set_option maxHeartbeats 4000000 in
theorem most_ok_half_top (k : Sk.K) (v : Value) (one two : List UInt8) (w : World) (hr : Rd mkI w v k.c) (hlen : k.c.length ≤ maxLen) (hT : TabC w) (h0 : ¬ 300 < k.c.length) (h1 : ¬ 100 < one.length) (h2 : ¬ 100 < two.length) (hk : Sk.Ok k) (hh : k.a + 1 = k.s) (ht : k.count one = 15) :
    Calls Tryd.prog 7 #[skV k v, .string ⟨one.toArray⟩, .string ⟨two.toArray⟩] w fun e w' => e = .returned (.bool true) ∧ Below w.heap.size w w' := by
  unfold maxLen at hlen
  have hs1 : (⟨one.toArray⟩ : ByteArray).size = one.length := by simp [ByteArray.size]
  have hs2 : (⟨two.toArray⟩ : ByteArray).size = two.length := by simp [ByteArray.size]
  have hval := fun W (h : Rd mkI W v k.c) => rvalid_any k v W h (by unfold maxLen; exact hlen)
  rw [(Sk.okB_iff k).2 hk] at hval
  have hadd := fun W (h : Rd mkI W v k.c) (hT : TabC W) => sadd_lit k hk one v W h (by omega) hT
  have hok := hk.add one
  have hc1 := fun W (h : Rd mkI W v k.c) (hT : TabC W) => count_any k hk one v W h (by omega) hT
  have hc2 := fun W (h : Rd mkI W v k.c) (hT : TabC W) => count_any k hk two v W h (by omega) hT
  have ht1 := fun v W (h : Rd mkI W v (k.add one).c) (hT : TabC W) => count_any (k.add one) hok one v W h (by omega) hT
  have ht2 := fun v W (h : Rd mkI W v (k.add one).c) (hT : TabC W) => count_any (k.add one) hok two v W h (by omega) hT
  have hcc := hk.count_add one
  have hca := hk.add_a one
  have hkw : (k.add one).w = k.w := Sk.K.add_w k one
  have hks : (k.add one).s = k.s := Sk.K.add_s k one
  have hb0 := hk.count0 one
  have ha1 := hk.a1
  have ha2 := hk.a2
  have hs2' := hk.s2
  have hb15 := hk.count15 two
  have hb00 := hk.count0 two
  rw [if_pos hh] at hcc hca
  rw [show min (k.count one + 1) 15 / 2 = 7 by omega] at hcc
  rw [hcc] at ht1
  rw [ht] at hc1
  generalize k.count one = a at *
  generalize k.count two = b at *
  generalize (k.add one).count two = c2 at *
  generalize (k.add one).count one = c1 at *
  clear hcc hk hok ht
  generalize k.add one = k2 at *
  obtain ⟨k2w, k2s, k2a, k2c⟩ := k2
  obtain ⟨kw, ks, ka, kc⟩ := k
  dsimp only at *
  subst hkw hks hca
  have Hval := Lib.hid hval
  have Hadd := Lib.hid hadd
  have Hc1 := Lib.hid hc1
  have Hc2 := Lib.hid hc2
  have Ht1 := Lib.hid ht1
  have Ht2 := Lib.hid ht2
  have Hr := Lib.hid hr
  have HT := Lib.hid (fun W (h : Below w.heap.size w W) => hT.below h)
  obtain ⟨x, cap, rfl, hcap, hcase⟩ := hr
  have Hrd := Lib.hid (fun W (h : Below w.heap.size w W) => Rd.below Hr.out h)
  clear hcase hval hadd hc1 hc2 ht1 ht2
  have d0 : decide ((300 : Int) < (kc.length : Int)) = false := by simp; omega
  have d1 : decide ((100 : Int) < (one.length : Int)) = false := by simp; omega
  have d2 : decide ((100 : Int) < (two.length : Int)) = false := by simp; omega
  have n1 : ((ka + 1) / 2 != ka + 1) = true := by simp; omega
  have n2 : ((ka + 1) / 2 == ka + 1) = false := by simp; omega
  have n3 : (ka + 1) / 2 ≠ ka + 1 := by omega
  have hB0 := below_alloc1 w (.cells #[.int .i64 k2w, .int .i64 k2s, .int .i64 ka, .slice x kc.length cap] 38)
  have hb0' := blk_new w #[.int .i64 k2w, .int .i64 k2s, .int .i64 ka, .slice x kc.length cap] 38
  generalize hL : kc.length = len at *
  have HL := Lib.hid hL
  clear hL hh
  go_enter Tryd.func7, Tryd.ntmps7
  go_wp2_with (first
    | (go_at_call 18; (with_reducible refine (Hval.out (w.alloc (.cells #[.int .i64 k2w, .int .i64 k2s, .int .i64 ka, .slice x len cap] 38)) (Hrd.out _ hB0)).mono ?_); rintro e w1 ⟨rfl, hw1⟩; have hb1 := blk_kept hb0' hw1; have hB1 := hB0.trans (hw1.mono hB0.size); have p0 := blk_cell hb1 0; have p1 := blk_cell hb1 1; have p2 := blk_cell hb1 2; have p3 := blk_cell hb1 3; simp only [List.getElem?_toArray, List.getElem?_cons_zero, List.getElem?_cons_succ] at p0 p1 p2 p3)
    | (go_at_call 20; (with_reducible refine (Hadd.out w1 (Hrd.out _ hB1) (HT.out _ hB1)).mono ?_); rintro e w2 ⟨g2, cap2, rfl, hown2, hw2⟩; have hb2 := blk_kept hb1 hw2; have hB2 := hB1.trans (hw2.mono hB1.size); have hl2 := blk_lt hb2; have hT2 := blk_new w2 #[.int .i64 k2w, .int .i64 k2s, .int .i64 ((ka + 1) / 2), .slice (some ⟨g2, 0, none⟩) k2c.length cap2] 38; have q0 := blk_cell hb2 0; have q1 := blk_cell hb2 1; have q2 := blk_cell hb2 2; have q3 := blk_cell hb2 3; simp only [List.getElem?_toArray, List.getElem?_cons_zero, List.getElem?_cons_succ] at q0 q1 q2 q3)
    | (go_at_call 25; (with_reducible refine (Hc1.out (w2.alloc (.cells #[.int .i64 k2w, .int .i64 k2s, .int .i64 ((ka + 1) / 2), .slice (some ⟨g2, 0, none⟩) k2c.length cap2] 38)) (Hrd.out _ (below_al hB2 _)) (HT.out _ (below_al hB2 _))).mono ?_); rintro e w3 ⟨rfl, hw3⟩; have ha3 := after1 hw3; have hb3 := blk_kept hb2 ha3.1; have hT3 := ha3.2.1; have hown3 := ownOf_kept hown2 ha3.1; have hB3 := hB2.trans (ha3.1.mono hB2.size); have r0 := blk_cell hb3 0; have r1 := blk_cell hb3 1; have r2 := blk_cell hb3 2; have r3 := blk_cell hb3 3; simp only [List.getElem?_toArray, List.getElem?_cons_zero, List.getElem?_cons_succ] at r0 r1 r2 r3)
    | (go_at_call 25; (with_reducible refine (Hc2.out w3 (Hrd.out _ hB3) (HT.out _ hB3)).mono ?_); rintro e w4 ⟨rfl, hw4⟩; have hb4 := blk_kept hb3 hw4; have hT4 := blk_kept hT3 hw4; have hown4 := ownOf_kept hown3 hw4; have hB4 := hB3.trans (hw4.mono hB3.size); have s0 := blk_cell hb4 0; have s1 := blk_cell hb4 1; have s2 := blk_cell hb4 2; have s3 := blk_cell hb4 3; simp only [List.getElem?_toArray, List.getElem?_cons_zero, List.getElem?_cons_succ] at s0 s1 s2 s3; have t0 := blk_cell hT4 0; have t1 := blk_cell hT4 1; have t2 := blk_cell hT4 2; have t3 := blk_cell hT4 3; simp only [List.getElem?_toArray, List.getElem?_cons_zero, List.getElem?_cons_succ] at t0 t1 t2 t3)
    | (go_at_call 19; (with_reducible refine (ssane_any w4 (HT.out _ hB4)).mono ?_); rintro e w5 ⟨rfl, hw5⟩; have hb5 := blk_kept hb4 hw5; have hT5 := blk_kept hT4 hw5; have hown5 := ownOf_kept hown4 hw5; have hB5 := hB4.trans (hw5.mono hB4.size); have u0 := blk_cell hb5 0; have u1 := blk_cell hb5 1; have u2 := blk_cell hb5 2; have u3 := blk_cell hb5 3; simp only [List.getElem?_toArray, List.getElem?_cons_zero, List.getElem?_cons_succ] at u0 u1 u2 u3; have v0 := blk_cell hT5 0; have v1 := blk_cell hT5 1; have v2 := blk_cell hT5 2; have v3 := blk_cell hT5 3; simp only [List.getElem?_toArray, List.getElem?_cons_zero, List.getElem?_cons_succ] at v0 v1 v2 v3)
    | (go_at_call 25; (with_reducible refine (Ht1.out _ w5 (ownOf_rd hown5) (HT.out _ hB5)).mono ?_); rintro e w6 ⟨rfl, hw6⟩; have hB6 := hB5.trans (hw6.mono hB5.size)))
  all_goals
    go_ret
    exact ⟨rfl, hB6⟩
theorem lawmost_any (k : Sk.K) (v : Value) (one two : List UInt8) (w : World) (hr : Rd mkI w v k.c) (hlen : k.c.length ≤ maxLen) (hT : TabC w) :
    Calls Tryd.prog 7 #[skV k v, .string ⟨one.toArray⟩, .string ⟨two.toArray⟩] w fun e w' => e = .returned (.bool true) ∧ Below w.heap.size w w' := by
  by_cases h0 : 300 < k.c.length
  · exact most_big k v one two w hr hlen hT h0
  by_cases h1 : 100 < one.length
  · exact most_one k v one two w hr hlen hT h0 h1
  by_cases h2 : 100 < two.length
  · exact most_two k v one two w hr hlen hT h0 h1 h2
  cases hk : Sk.okB k with
  | false => exact most_bad k v one two w hr hlen hT h0 h1 h2 hk
  | true =>
    have hok := (Sk.okB_iff k).1 hk
    have h15 := hok.count15 one
    by_cases hh : k.a + 1 = k.s <;> by_cases ht : k.count one = 15
    · exact most_ok_half_top k v one two w hr hlen hT h0 h1 h2 hok hh ht
    · exact most_ok_half k v one two w hr hlen hT h0 h1 h2 hok hh (by omega)
    · exact most_ok_plain_top k v one two w hr hlen hT h0 h1 h2 hok hh ht
    · exact most_ok_plain k v one two w hr hlen hT h0 h1 h2 hok hh (by omega)
end Go.Proofs.YtbgieephehfgpabDoor
