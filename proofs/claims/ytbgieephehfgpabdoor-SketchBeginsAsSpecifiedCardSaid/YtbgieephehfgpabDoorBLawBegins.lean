/-
  The function of the law SketchBeginsAsSpecified returns true. Condition: the tables are as the program's and the reference's texts lay them.
-/
import Derived.Test.YtbgieephehfgpabDoorJB8
namespace Go.Proofs.YtbgieephehfgpabDoor
open Go Go.RowKit
theorem rd_none (w : World) : Rd mkI w (.slice none 0 0) [] := ⟨none, 0, rfl, by simp, .inl rfl⟩
/-- the program's New and the reference's make the same, and the same error -/
theorem new_both (n s : Int) (hn : n ≤ 9223372036854775807) : ∃ (m : Sk.K) (er : Int), m.c.length ≤ 1000000000 ∧
    (∀ W : World, Calls Tryd.prog 23 #[.int .i64 n, .int .i64 s] W fun e w' => (∃ x cap, e = .returned (.tuple #[.agg #[.int .i64 m.w, .int .i64 m.s, .int .i64 m.a, .slice x m.c.length cap], .int .i64 er]) ∧ Rd mkI w' (.slice x m.c.length cap) m.c) ∧ Below W.heap.size W w') ∧
    (∀ W : World, Calls Tryd.prog 32 #[.int .i64 n, .int .i64 s] W fun e w' => (∃ x cap, e = .returned (.agg #[.int .i64 m.w, .int .i64 m.s, .int .i64 m.a, .slice x m.c.length cap, .int .i64 er]) ∧ Rd mkI w' (.slice x m.c.length cap) m.c) ∧ Below W.heap.size W w') := by
  by_cases hp : isPow n = true
  case neg =>
    have hp0 : isPow n = false := by simpa using hp
    exact ⟨⟨0, 0, 0, []⟩, 1, by simp, fun W => (new_arg n s W hn (.inl hp0)).mono fun e w' ⟨he, hB⟩ => ⟨⟨none, 0, he, rd_none _⟩, hB⟩, fun W => (rnew_arg n s W (.inl hp0)).mono fun e w' ⟨he, hB⟩ => ⟨⟨none, 0, he, rd_none _⟩, hB⟩⟩
  by_cases hs : 1 ≤ s
  case neg => exact ⟨⟨0, 0, 0, []⟩, 1, by simp, fun W => (new_arg n s W hn (.inr ⟨hp, by omega⟩)).mono fun e w' ⟨he, hB⟩ => ⟨⟨none, 0, he, rd_none _⟩, hB⟩, fun W => (rnew_arg n s W (.inr ⟨hp, by omega⟩)).mono fun e w' ⟨he, hB⟩ => ⟨⟨none, 0, he, rd_none _⟩, hB⟩⟩
  by_cases h2 : n ≤ 4096 ∧ s ≤ 1048576
  case neg =>
    have h3 : 4096 < n ∨ (n ≤ 4096 ∧ 1048576 < s) := by omega
    exact ⟨⟨0, 0, 0, []⟩, 2, by simp, fun W => (new_limit n s W hn hp hs h3).mono fun e w' ⟨he, hB⟩ => ⟨⟨none, 0, he, rd_none _⟩, hB⟩, fun W => (rnew_limit n s W hp hs h3).mono fun e w' ⟨he, hB⟩ => ⟨⟨none, 0, he, rd_none _⟩, hB⟩⟩
  obtain ⟨h4, h5⟩ := h2
  have h6 := Sk.pow_pos hp
  obtain ⟨z, rfl⟩ : ∃ z : Nat, n = (z : Int) := ⟨n.toNat, by omega⟩
  have ok := Sk.new_ok z s hp (by omega) hs h5
  refine ⟨Sk.new z s, 0, ok.len9, fun W => (new_ok z s W hp hs (by omega) h5).mono fun e w' ⟨⟨v', he, ho⟩, hB⟩ => ?_, fun W => (rnew_ok z s W hp hs (by omega) h5).mono fun e w' ⟨⟨v', he, ho⟩, hB⟩ => ?_⟩
  · obtain ⟨x, cap, rfl, hrd⟩ := ownOf_rd ho
    exact ⟨⟨x, cap, he, ownOf_rd ho⟩, hB⟩
  · obtain ⟨x, cap, rfl, hrd⟩ := ownOf_rd ho
    exact ⟨⟨x, cap, he, ownOf_rd ho⟩, hB⟩
set_option maxRecDepth 100000 in
set_option maxHeartbeats 8000000 in
theorem begins_big (wi sa : Int) (k : Sk.K) (v : Value) (key : List UInt8) (row : Nat) (w : World) (hr : Rd mkI w v k.c) (hlen : k.c.length ≤ maxLen) (hwi : wi ≤ 9223372036854775807) (hkw : k.w ≤ 9223372036854775807) (hrow : row < 256) (hT : TabC w) (hR : TabR w) (h : 300 < k.c.length) :
    Calls Tryd.prog 10 #[.int .i64 wi, .int .i64 sa, skV k v, .string ⟨key.toArray⟩, .int .u8 (row : Int)] w fun e w' => e = .returned (.bool true) ∧ Below w.heap.size w w' := by
  unfold maxLen at hlen
  have hs1 : (⟨key.toArray⟩ : ByteArray).size = key.length := by simp [ByteArray.size]
  obtain ⟨x, cap, rfl, hcap, hcase⟩ := hr
  clear hcase
  obtain ⟨kw, ks, ka, kc⟩ := k
  dsimp only at *
  have d0 : decide ((300 : Int) < (kc.length : Int)) = true := by simp; omega
  have hB0 := below_alloc1 w (.cells #[.int .i64 kw, .int .i64 ks, .int .i64 ka, .slice x kc.length cap] 38)
  generalize hL : kc.length = len at *
  clear hL
  go_enter Tryd.func10, Tryd.ntmps10
  go_wp2_with (go_at_call 19; (with_reducible refine (ssane_any (w.alloc (.cells #[.int .i64 kw, .int .i64 ks, .int .i64 ka, .slice x len cap] 38)) (hT.below hB0)).mono ?_); rintro e w1 ⟨rfl, hw1⟩; have hB1 := hB0.trans (hw1.mono hB0.size))
  go_ret
  exact ⟨rfl, hB1⟩
set_option maxRecDepth 100000 in
set_option maxHeartbeats 8000000 in
theorem begins_key (wi sa : Int) (k : Sk.K) (v : Value) (key : List UInt8) (row : Nat) (w : World) (hr : Rd mkI w v k.c) (hlen : k.c.length ≤ maxLen) (hwi : wi ≤ 9223372036854775807) (hkw : k.w ≤ 9223372036854775807) (hrow : row < 256) (hT : TabC w) (hR : TabR w) (h0 : ¬ 300 < k.c.length) (h : 100 < key.length) :
    Calls Tryd.prog 10 #[.int .i64 wi, .int .i64 sa, skV k v, .string ⟨key.toArray⟩, .int .u8 (row : Int)] w fun e w' => e = .returned (.bool true) ∧ Below w.heap.size w w' := by
  unfold maxLen at hlen
  have hs1 : (⟨key.toArray⟩ : ByteArray).size = key.length := by simp [ByteArray.size]
  obtain ⟨x, cap, rfl, hcap, hcase⟩ := hr
  clear hcase
  obtain ⟨kw, ks, ka, kc⟩ := k
  dsimp only at *
  have d0 : decide ((300 : Int) < (kc.length : Int)) = false := by simp; omega
  have d1 : decide ((100 : Int) < (key.length : Int)) = true := by simp; omega
  have hB0 := below_alloc1 w (.cells #[.int .i64 kw, .int .i64 ks, .int .i64 ka, .slice x kc.length cap] 38)
  generalize hL : kc.length = len at *
  clear hL
  go_enter Tryd.func10, Tryd.ntmps10
  go_wp2_with (go_at_call 19; (with_reducible refine (ssane_any (w.alloc (.cells #[.int .i64 kw, .int .i64 ks, .int .i64 ka, .slice x len cap] 38)) (hT.below hB0)).mono ?_); rintro e w1 ⟨rfl, hw1⟩; have hB1 := hB0.trans (hw1.mono hB0.size))
  go_ret
  exact ⟨rfl, hB1⟩
set_option maxRecDepth 100000 in
set_option maxHeartbeats 8000000 in
theorem begins_bad (wi sa : Int) (k : Sk.K) (v : Value) (key : List UInt8) (row : Nat) (w : World) (hr : Rd mkI w v k.c) (hlen : k.c.length ≤ maxLen) (hwi : wi ≤ 9223372036854775807) (hkw : k.w ≤ 9223372036854775807) (hrow : row < 256) (hT : TabC w) (hR : TabR w) (h0 : ¬ 300 < k.c.length) (h1 : ¬ 100 < key.length) (hk : Sk.okB k = false) :
    Calls Tryd.prog 10 #[.int .i64 wi, .int .i64 sa, skV k v, .string ⟨key.toArray⟩, .int .u8 (row : Int)] w fun e w' => e = .returned (.bool true) ∧ Below w.heap.size w w' := by
  unfold maxLen at hlen
  have hs1 : (⟨key.toArray⟩ : ByteArray).size = key.length := by simp [ByteArray.size]
  obtain ⟨m, er, hml, hnew, hrnew⟩ := new_both wi sa hwi
  have hval := fun W (h : Rd mkI W v k.c) => rvalid_any k v W h (by unfold maxLen; exact hlen)
  have hpval := fun W (h : Rd mkI W v k.c) => valid_any k v W h (by unfold maxLen; exact hlen) hkw
  have hsame := fun va vb W (h1 : Rd mkI W va m.c) (h2 : Rd mkI W vb m.c) => same_true m va vb W h1 h2 hml
  rw [hk] at hval hpval
  clear hk
  obtain ⟨mw, ms, ma, mc⟩ := m
  obtain ⟨kw, ks, ka, kc⟩ := k
  dsimp only at *
  have Hval := Lib.hid hval
  have Hpval := Lib.hid hpval
  have Hsame := Lib.hid hsame
  have Hnew := Lib.hid hnew
  have Hrnew := Lib.hid hrnew
  have Hr := Lib.hid hr
  have HT := Lib.hid (fun W (h : Below w.heap.size w W) => hT.below h)
  have HR := Lib.hid (fun W (h : Below w.heap.size w W) => hR.below h)
  obtain ⟨x, cap, rfl, hcap, hcase⟩ := hr
  have Hrd := Lib.hid (fun W (h : Below w.heap.size w W) => Rd.below Hr.out h)
  clear hcase hval hpval hsame hnew hrnew
  have d0 : decide ((300 : Int) < (kc.length : Int)) = false := by simp; omega
  have d1 : decide ((100 : Int) < (key.length : Int)) = false := by simp; omega
  have hB0 := below_alloc1 w (.cells #[.int .i64 kw, .int .i64 ks, .int .i64 ka, .slice x kc.length cap] 38)
  have hb0 := blk_new w #[.int .i64 kw, .int .i64 ks, .int .i64 ka, .slice x kc.length cap] 38
  generalize hL : kc.length = len at *
  generalize hM : mc.length = ml at *
  have HL := Lib.hid hL
  clear hL hM
  go_enter Tryd.func10, Tryd.ntmps10
  go_wp2_with (first
    | (go_at_call 23; (with_reducible refine (Hnew.out (w.alloc (.cells #[.int .i64 kw, .int .i64 ks, .int .i64 ka, .slice x len cap] 38))).mono ?_); rintro e w1 ⟨⟨x1, cap1, rfl, hx1⟩, hw1⟩; have hb1 := blk_kept hb0 hw1; have hB1 := hB0.trans (hw1.mono hB0.size); have hS1 := blk_new w1 #[.int .i64 mw, .int .i64 ms, .int .i64 ma, .slice x1 ml cap1] 38)
    | (go_at_call 32; (with_reducible refine (Hrnew.out (w1.alloc (.cells #[.int .i64 mw, .int .i64 ms, .int .i64 ma, .slice x1 ml cap1] 38))).mono ?_); rintro e w2 ⟨⟨x2, cap2, rfl, hx2⟩, hw2⟩; have ha2 := after1 hw2; have hb2 := blk_kept hb1 ha2.1; have hx1 := Rd.below hx1 ha2.1; have hS2 := ha2.2.1; have hB2 := hB1.trans (ha2.1.mono hB1.size); have hU2 := blk_new w2 #[.int .i64 mw, .int .i64 ms, .int .i64 ma, .slice x2 ml cap2, .int .i64 er] 57; have hb2' := blk_alloc hb2 (.cells #[.int .i64 mw, .int .i64 ms, .int .i64 ma, .slice x2 ml cap2, .int .i64 er] 57); have p0 := blk_cell hb2' 0; have p1 := blk_cell hb2' 1; have p2 := blk_cell hb2' 2; have p3 := blk_cell hb2' 3; simp only [List.getElem?_toArray, List.getElem?_cons_zero, List.getElem?_cons_succ] at p0 p1 p2 p3)
    | (go_at_call 18; (with_reducible refine (Hval.out (w2.alloc (.cells #[.int .i64 mw, .int .i64 ms, .int .i64 ma, .slice x2 ml cap2, .int .i64 er] 57)) (Hrd.out _ (below_al hB2 _))).mono ?_); rintro e w3 ⟨rfl, hw3⟩; have ha3 := after1 hw3; have hb3 := blk_kept hb2 ha3.1; have hx1 := Rd.below hx1 ha3.1; have hx2 := Rd.below hx2 ha3.1; have hS3 := blk_kept hS2 ha3.1; have hU3 := ha3.2.1; have hB3 := hB2.trans (ha3.1.mono hB2.size); have s0 := blk_cell hS3 0; have s1 := blk_cell hS3 1; have s2 := blk_cell hS3 2; have s3 := blk_cell hS3 3; simp only [List.getElem?_toArray, List.getElem?_cons_zero, List.getElem?_cons_succ] at s0 s1 s2 s3; have u0 := blk_cell hU3 0; have u1 := blk_cell hU3 1; have u2 := blk_cell hU3 2; have u3 := blk_cell hU3 3; have u4 := blk_cell hU3 4; simp only [List.getElem?_toArray, List.getElem?_cons_zero, List.getElem?_cons_succ] at u0 u1 u2 u3 u4)
    | (go_at_call 21; (with_reducible refine (Hsame.out _ _ w3 hx1 hx2).mono ?_); rintro e w4 ⟨rfl, hw4⟩; have hb4 := blk_kept hb3 hw4; have hB4 := hB3.trans (hw4.mono hB3.size); have r0 := blk_cell hb4 0; have r1 := blk_cell hb4 1; have r2 := blk_cell hb4 2; have r3 := blk_cell hb4 3; simp only [List.getElem?_toArray, List.getElem?_cons_zero, List.getElem?_cons_succ] at r0 r1 r2 r3)
    | (go_at_call 33; (with_reducible refine (Hpval.out w4 (Hrd.out _ hB4)).mono ?_); rintro e w5 ⟨rfl, hw5⟩; have hb5 := blk_kept hb4 hw5; have hB5 := hB4.trans (hw5.mono hB4.size))
    | (go_at_call 19; (with_reducible refine (ssane_any w5 (HT.out _ hB5)).mono ?_); rintro e w6 ⟨rfl, hw6⟩; have hB6 := hB5.trans (hw6.mono hB5.size)))
  go_ret
  exact ⟨rfl, hB6⟩
set_option maxRecDepth 100000 in
set_option maxHeartbeats 8000000 in
theorem begins_good (wi sa : Int) (k : Sk.K) (v : Value) (key : List UInt8) (row : Nat) (w : World) (hr : Rd mkI w v k.c) (hlen : k.c.length ≤ maxLen) (hwi : wi ≤ 9223372036854775807) (hkw : k.w ≤ 9223372036854775807) (hrow : row < 256) (hT : TabC w) (hR : TabR w) (h0 : ¬ 300 < k.c.length) (h1 : ¬ 100 < key.length) (hk : Sk.Ok k) :
    Calls Tryd.prog 10 #[.int .i64 wi, .int .i64 sa, skV k v, .string ⟨key.toArray⟩, .int .u8 (row : Int)] w fun e w' => e = .returned (.bool true) ∧ Below w.heap.size w w' := by
  unfold maxLen at hlen
  have hs1 : (⟨key.toArray⟩ : ByteArray).size = key.length := by simp [ByteArray.size]
  obtain ⟨m, er, hml, hnew, hrnew⟩ := new_both wi sa hwi
  have hval := fun W (h : Rd mkI W v k.c) => rvalid_any k v W h (by unfold maxLen; exact hlen)
  have hpval := fun W (h : Rd mkI W v k.c) => valid_any k v W h (by unfold maxLen; exact hlen) hkw
  have hsame := fun va vb W (h1 : Rd mkI W va m.c) (h2 : Rd mkI W vb m.c) => same_true m va vb W h1 h2 hml
  rw [(Sk.okB_iff k).2 hk] at hval hpval
  have hco := fun W (h : Rd mkI W v k.c) (hT : TabC W) => count_any k hk key v W h (by omega) hT
  have hrco := fun W (h : Rd mkI W v k.c) (hT : TabR W) => rcount_any k hk key v W h (by omega) hT
  have hfi := fun W (h : Rd mkI W v k.c) => fill_any k.w k.s k.a k.c v W h hk.len9 hk.ne
  have hrfi := fun W (h : Rd mkI W v k.c) => rfill_any k.w k.s k.a k.c v W h hk.len9 hk.ne (fun x hx => (hk.cells x hx).1)
  have hwide := hk.wide
  have hwn := hk.wn
  have hpl := fun W (h : TabC W) => place_any key (row % 4) k.n W (by omega) (by omega) hk.n1 (by omega) h
  have hrpl := fun W (h : TabR W) => rplace_any key (row % 4) k.n W (by omega) (by omega) hk.n1 (by omega) h
  rw [hwn] at hpl hrpl
  generalize k.count key = cnt at *
  generalize Sk.fill k.c = fi at *
  generalize Sk.plN key (row % 4) k.n = pl at *
  have hm1 : (row : Int).tmod 4 = ((row % 4 : Nat) : Int) := by rw [Int.tmod_eq_emod_of_nonneg (by omega)]; omega
  have hm2 : IntKind.i64.wrap (((row % 4 : Nat) : Int)) = ((row % 4 : Nat) : Int) := by rw [IntWalk.i64_in _ (by omega)]
  have hm3 : IntKind.i64.wrap (row : Int) = (row : Int) := by rw [IntWalk.i64_in _ (by omega)]
  generalize hrr : row % 4 = r at *
  have Hco := Lib.hid hco
  have Hrco := Lib.hid hrco
  have Hfi := Lib.hid hfi
  have Hrfi := Lib.hid hrfi
  have Hpl := Lib.hid hpl
  have Hrpl := Lib.hid hrpl
  clear hco hrco hfi hrfi hpl hrpl hwn hwide
  clear hk
  obtain ⟨mw, ms, ma, mc⟩ := m
  obtain ⟨kw, ks, ka, kc⟩ := k
  dsimp only at *
  have Hval := Lib.hid hval
  have Hpval := Lib.hid hpval
  have Hsame := Lib.hid hsame
  have Hnew := Lib.hid hnew
  have Hrnew := Lib.hid hrnew
  have Hr := Lib.hid hr
  have HT := Lib.hid (fun W (h : Below w.heap.size w W) => hT.below h)
  have HR := Lib.hid (fun W (h : Below w.heap.size w W) => hR.below h)
  obtain ⟨x, cap, rfl, hcap, hcase⟩ := hr
  have Hrd := Lib.hid (fun W (h : Below w.heap.size w W) => Rd.below Hr.out h)
  clear hcase hval hpval hsame hnew hrnew
  have d0 : decide ((300 : Int) < (kc.length : Int)) = false := by simp; omega
  have d1 : decide ((100 : Int) < (key.length : Int)) = false := by simp; omega
  have hB0 := below_alloc1 w (.cells #[.int .i64 kw, .int .i64 ks, .int .i64 ka, .slice x kc.length cap] 38)
  have hb0 := blk_new w #[.int .i64 kw, .int .i64 ks, .int .i64 ka, .slice x kc.length cap] 38
  generalize hL : kc.length = len at *
  generalize hM : mc.length = ml at *
  have HL := Lib.hid hL
  clear hL hM
  go_enter Tryd.func10, Tryd.ntmps10
  go_wp2_with (first
    | (go_at_call 23; (with_reducible refine (Hnew.out (w.alloc (.cells #[.int .i64 kw, .int .i64 ks, .int .i64 ka, .slice x len cap] 38))).mono ?_); rintro e w1 ⟨⟨x1, cap1, rfl, hx1⟩, hw1⟩; have hb1 := blk_kept hb0 hw1; have hB1 := hB0.trans (hw1.mono hB0.size); have hS1 := blk_new w1 #[.int .i64 mw, .int .i64 ms, .int .i64 ma, .slice x1 ml cap1] 38)
    | (go_at_call 32; (with_reducible refine (Hrnew.out (w1.alloc (.cells #[.int .i64 mw, .int .i64 ms, .int .i64 ma, .slice x1 ml cap1] 38))).mono ?_); rintro e w2 ⟨⟨x2, cap2, rfl, hx2⟩, hw2⟩; have ha2 := after1 hw2; have hb2 := blk_kept hb1 ha2.1; have hx1 := Rd.below hx1 ha2.1; have hS2 := ha2.2.1; have hB2 := hB1.trans (ha2.1.mono hB1.size); have hU2 := blk_new w2 #[.int .i64 mw, .int .i64 ms, .int .i64 ma, .slice x2 ml cap2, .int .i64 er] 57; have hb2' := blk_alloc hb2 (.cells #[.int .i64 mw, .int .i64 ms, .int .i64 ma, .slice x2 ml cap2, .int .i64 er] 57); have p0 := blk_cell hb2' 0; have p1 := blk_cell hb2' 1; have p2 := blk_cell hb2' 2; have p3 := blk_cell hb2' 3; simp only [List.getElem?_toArray, List.getElem?_cons_zero, List.getElem?_cons_succ] at p0 p1 p2 p3)
    | (go_at_call 18; (with_reducible refine (Hval.out (w2.alloc (.cells #[.int .i64 mw, .int .i64 ms, .int .i64 ma, .slice x2 ml cap2, .int .i64 er] 57)) (Hrd.out _ (below_al hB2 _))).mono ?_); rintro e w3 ⟨rfl, hw3⟩; have ha3 := after1 hw3; have hb3 := blk_kept hb2 ha3.1; have hx1 := Rd.below hx1 ha3.1; have hx2 := Rd.below hx2 ha3.1; have hS3 := blk_kept hS2 ha3.1; have hU3 := ha3.2.1; have hB3 := hB2.trans (ha3.1.mono hB2.size); have s0 := blk_cell hS3 0; have s1 := blk_cell hS3 1; have s2 := blk_cell hS3 2; have s3 := blk_cell hS3 3; simp only [List.getElem?_toArray, List.getElem?_cons_zero, List.getElem?_cons_succ] at s0 s1 s2 s3; have u0 := blk_cell hU3 0; have u1 := blk_cell hU3 1; have u2 := blk_cell hU3 2; have u3 := blk_cell hU3 3; have u4 := blk_cell hU3 4; simp only [List.getElem?_toArray, List.getElem?_cons_zero, List.getElem?_cons_succ] at u0 u1 u2 u3 u4)
    | (go_at_call 21; (with_reducible refine (Hsame.out _ _ w3 hx1 hx2).mono ?_); rintro e w4 ⟨rfl, hw4⟩; have hb4 := blk_kept hb3 hw4; have hB4 := hB3.trans (hw4.mono hB3.size); have r0 := blk_cell hb4 0; have r1 := blk_cell hb4 1; have r2 := blk_cell hb4 2; have r3 := blk_cell hb4 3; simp only [List.getElem?_toArray, List.getElem?_cons_zero, List.getElem?_cons_succ] at r0 r1 r2 r3)
    | (go_at_call 33; (with_reducible refine (Hpval.out w4 (Hrd.out _ hB4)).mono ?_); rintro e w5 ⟨rfl, hw5⟩; have hb5 := blk_kept hb4 hw5; have hB5 := hB4.trans (hw5.mono hB4.size)))
  have hb : Blk w5.drew w.heap.size #[.int .i64 kw, .int .i64 ks, .int .i64 ka, .slice x len cap] 38 := hb5
  have hB : Below w.heap.size w w5.drew := hB5.drew
  go_region_held3 (fun W => W.cell? ⟨w.heap.size, 0, none⟩ = some (.int .i64 kw) ∧ W.cell? ⟨w.heap.size, 1, none⟩ = some (.int .i64 ks) ∧ W.cell? ⟨w.heap.size, 2, none⟩ = some (.int .i64 ka) ∧ W.cell? ⟨w.heap.size, 3, none⟩ = some (.slice x len cap)) (exact ⟨blk_cell hb 0, blk_cell hb 1, blk_cell hb 2, blk_cell hb 3⟩) (first
    | (go_at_call 19; (with_reducible refine (ssane_any _ (HT.out _ hB)).mono ?_); rintro e wq ⟨rfl, hwq⟩; have hb := blk_kept hb hwq; have hB := hB.trans (hwq.mono hB.size))
    | (go_at_call 25; (with_reducible refine (Hco.out _ (Hrd.out _ hB) (HT.out _ hB)).mono ?_); rintro e wq ⟨rfl, hwq⟩; have hb := blk_kept hb hwq; have hB := hB.trans (hwq.mono hB.size))
    | (go_at_call 34; (with_reducible refine (Hrco.out _ (Hrd.out _ hB) (HR.out _ hB)).mono ?_); rintro e wq ⟨rfl, hwq⟩; have hb := blk_kept hb hwq; have hB := hB.trans (hwq.mono hB.size))
    | (go_at_call 31; (with_reducible refine (Hfi.out _ (Hrd.out _ hB)).mono ?_); rintro e wq ⟨rfl, hwq⟩; have hb := blk_kept hb hwq; have hB := hB.trans (hwq.mono hB.size))
    | (go_at_call 35; (with_reducible refine (Hrfi.out _ (Hrd.out _ hB)).mono ?_); rintro e wq ⟨rfl, hwq⟩; have hb := blk_kept hb hwq; have hB := hB.trans (hwq.mono hB.size))
    | (go_at_call 36; (with_reducible refine (Hpl.out _ (HT.out _ hB)).mono ?_); rintro e wq ⟨rfl, hwq⟩; have hb := blk_kept hb hwq; have hB := hB.trans (hwq.mono hB.size))
    | (go_at_call 37; (with_reducible refine (Hrpl.out _ (HR.out _ hB)).mono ?_); rintro e wq ⟨rfl, hwq⟩; have hb := blk_kept hb hwq; have hB := hB.trans (hwq.mono hB.size)))
  all_goals
    go_wp2
    go_ret
    exact ⟨rfl, hB⟩
theorem lawbegins_any (wi sa : Int) (k : Sk.K) (v : Value) (key : List UInt8) (row : Nat) (w : World) (hr : Rd mkI w v k.c) (hlen : k.c.length ≤ maxLen) (hwi : wi ≤ 9223372036854775807) (hkw : k.w ≤ 9223372036854775807) (hrow : row < 256) (hT : TabC w) (hR : TabR w) :
    Calls Tryd.prog 10 #[.int .i64 wi, .int .i64 sa, skV k v, .string ⟨key.toArray⟩, .int .u8 (row : Int)] w fun e w' => e = .returned (.bool true) ∧ Below w.heap.size w w' := by
  by_cases h0 : 300 < k.c.length
  · exact begins_big wi sa k v key row w hr hlen hwi hkw hrow hT hR h0
  by_cases h1 : 100 < key.length
  · exact begins_key wi sa k v key row w hr hlen hwi hkw hrow hT hR h0 h1
  cases hk : Sk.okB k with
  | false => exact begins_bad wi sa k v key row w hr hlen hwi hkw hrow hT hR h0 h1 hk
  | true => exact begins_good wi sa k v key row w hr hlen hwi hkw hrow hT hR h0 h1 ((Sk.okB_iff k).1 hk)
end Go.Proofs.YtbgieephehfgpabDoor
