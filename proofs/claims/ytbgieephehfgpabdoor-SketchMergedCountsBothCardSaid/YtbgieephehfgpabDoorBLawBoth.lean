/-
  The function of the law SketchMergedCountsBoth returns true. Condition: the table is as the program's text lays it.
-/
import Derived.Test.YtbgieephehfgpabDoorJB8
namespace Go.Proofs.YtbgieephehfgpabDoor
open Go Go.RowKit
theorem mrg_ok (a b : Sk.K) (ha : Sk.Ok a) (hb : Sk.Ok b) (hw : a.w = b.w) (hs : a.s = b.s) : Sk.Ok (Sk.K.mrg a b) := by
  have hml := Sk.mrg_len a.c b.c (by have h1 := ha.clen; have h2 := hb.clen; have : b.n = a.n := by { unfold Sk.K.n; rw [hw] }; omega)
  have hcell : ∀ x ∈ Sk.mrg a.c b.c, 0 ≤ x ∧ x ≤ 15 ∧ x ≤ a.a + b.a := by
    intro x hx
    obtain ⟨i, hi, rfl⟩ := List.mem_iff_getElem.1 hx
    simp only [Sk.mrg, List.getElem_zipWith]
    have hi2 : i < (List.zipWith (fun x y => min (x + y) 15) a.c b.c).length := hi
    rw [List.length_zipWith] at hi2
    have h1 := ha.cells (a.c[i]'(by omega)) (List.getElem_mem _)
    have h2 := hb.cells (b.c[i]'(by omega)) (List.getElem_mem _)
    omega
  have h1 := ha.a1
  have h2 := ha.a2
  have h3 := hb.a1
  have h4 := hb.a2
  have h5 := ha.s1
  unfold Sk.K.mrg
  split
  case isTrue h =>
    refine ⟨ha.pow, ha.wide, ha.s1, ha.s2, ?_, ?_, ?_, ?_⟩
    · show 0 ≤ (a.a + b.a) / 2; omega
    · show (a.a + b.a) / 2 < a.s; omega
    · show ((Sk.half (Sk.mrg a.c b.c)).length : Int) = 4 * a.w
      rw [Sk.half_len, hml]; exact ha.len
    · intro x hx
      have hx' : x ∈ Sk.half (Sk.mrg a.c b.c) := hx
      obtain ⟨y, hy, rfl⟩ := List.mem_map.1 hx'
      have h6 := hcell y hy
      show 0 ≤ y / 2 ∧ y / 2 ≤ 15 ∧ y / 2 ≤ (a.a + b.a) / 2
      omega
  case isFalse h =>
    refine ⟨ha.pow, ha.wide, ha.s1, ha.s2, ?_, ?_, ?_, hcell⟩
    · show 0 ≤ a.a + b.a; omega
    · show a.a + b.a < a.s; omega
    · show ((Sk.mrg a.c b.c).length : Int) = 4 * a.w
      rw [hml]; exact ha.len
set_option maxRecDepth 100000 in
set_option maxHeartbeats 8000000 in
theorem both_bigA (a b : Sk.K) (va vb : Value) (key : List UInt8) (w : World) (hra : Rd mkI w va a.c) (hrb : Rd mkI w vb b.c) (hla : a.c.length ≤ maxLen) (hlb : b.c.length ≤ maxLen) (hT : TabC w) (h : 300 < a.c.length) :
    Calls Tryd.prog 9 #[skV a va, skV b vb, .string ⟨key.toArray⟩] w fun e w' => e = .returned (.bool true) ∧ Below w.heap.size w w' := by
  unfold maxLen at hla hlb
  have hs1 : (⟨key.toArray⟩ : ByteArray).size = key.length := by simp [ByteArray.size]
  obtain ⟨x, capa, rfl, hcapa, hcasea⟩ := hra
  obtain ⟨y, capb, rfl, hcapb, hcaseb⟩ := hrb
  clear hcasea hcaseb
  obtain ⟨aw, ar, ad, ac⟩ := a
  obtain ⟨bw, br, bd, bc⟩ := b
  dsimp only at *
  have d0 : decide ((300 : Int) < (ac.length : Int)) = true := by simp; omega
  have hB0 : Below w.heap.size w ((w.alloc (.cells #[.int .i64 aw, .int .i64 ar, .int .i64 ad, .slice x ac.length capa] 38)).alloc (.cells #[.int .i64 bw, .int .i64 br, .int .i64 bd, .slice y bc.length capb] 38)) := below_al (below_alloc1 w _) _
  have ha0 := blk_alloc (blk_new w #[.int .i64 aw, .int .i64 ar, .int .i64 ad, .slice x ac.length capa] 38) (.cells #[.int .i64 bw, .int .i64 br, .int .i64 bd, .slice y bc.length capb] 38)
  have hb0 := blk_new2 w (.cells #[.int .i64 aw, .int .i64 ar, .int .i64 ad, .slice x ac.length capa] 38) #[.int .i64 bw, .int .i64 br, .int .i64 bd, .slice y bc.length capb] 38
  generalize hL : ac.length = la at *
  generalize hM : bc.length = lb at *
  clear hL hM
  go_enter Tryd.func9, Tryd.ntmps9
  go_wp2_with (go_at_call 19; (with_reducible refine (ssane_any ((w.alloc (.cells #[.int .i64 aw, .int .i64 ar, .int .i64 ad, .slice x la capa] 38)).alloc (.cells #[.int .i64 bw, .int .i64 br, .int .i64 bd, .slice y lb capb] 38)) (hT.below hB0)).mono ?_); rintro e w1 ⟨rfl, hw1⟩; have hB1 := hB0.trans (hw1.mono hB0.size))
  go_ret
  exact ⟨rfl, hB1⟩
set_option maxRecDepth 100000 in
set_option maxHeartbeats 8000000 in
theorem both_bigB (a b : Sk.K) (va vb : Value) (key : List UInt8) (w : World) (hra : Rd mkI w va a.c) (hrb : Rd mkI w vb b.c) (hla : a.c.length ≤ maxLen) (hlb : b.c.length ≤ maxLen) (hT : TabC w) (h0 : ¬ 300 < a.c.length) (h : 300 < b.c.length) :
    Calls Tryd.prog 9 #[skV a va, skV b vb, .string ⟨key.toArray⟩] w fun e w' => e = .returned (.bool true) ∧ Below w.heap.size w w' := by
  unfold maxLen at hla hlb
  have hs1 : (⟨key.toArray⟩ : ByteArray).size = key.length := by simp [ByteArray.size]
  obtain ⟨x, capa, rfl, hcapa, hcasea⟩ := hra
  obtain ⟨y, capb, rfl, hcapb, hcaseb⟩ := hrb
  clear hcasea hcaseb
  obtain ⟨aw, ar, ad, ac⟩ := a
  obtain ⟨bw, br, bd, bc⟩ := b
  dsimp only at *
  have d0 : decide ((300 : Int) < (ac.length : Int)) = false := by simp; omega
  have d1 : decide ((300 : Int) < (bc.length : Int)) = true := by simp; omega
  have hB0 : Below w.heap.size w ((w.alloc (.cells #[.int .i64 aw, .int .i64 ar, .int .i64 ad, .slice x ac.length capa] 38)).alloc (.cells #[.int .i64 bw, .int .i64 br, .int .i64 bd, .slice y bc.length capb] 38)) := below_al (below_alloc1 w _) _
  have ha0 := blk_alloc (blk_new w #[.int .i64 aw, .int .i64 ar, .int .i64 ad, .slice x ac.length capa] 38) (.cells #[.int .i64 bw, .int .i64 br, .int .i64 bd, .slice y bc.length capb] 38)
  have hb0 := blk_new2 w (.cells #[.int .i64 aw, .int .i64 ar, .int .i64 ad, .slice x ac.length capa] 38) #[.int .i64 bw, .int .i64 br, .int .i64 bd, .slice y bc.length capb] 38
  generalize hL : ac.length = la at *
  generalize hM : bc.length = lb at *
  clear hL hM
  go_enter Tryd.func9, Tryd.ntmps9
  go_wp2_with (go_at_call 19; (with_reducible refine (ssane_any ((w.alloc (.cells #[.int .i64 aw, .int .i64 ar, .int .i64 ad, .slice x la capa] 38)).alloc (.cells #[.int .i64 bw, .int .i64 br, .int .i64 bd, .slice y lb capb] 38)) (hT.below hB0)).mono ?_); rintro e w1 ⟨rfl, hw1⟩; have hB1 := hB0.trans (hw1.mono hB0.size))
  go_ret
  exact ⟨rfl, hB1⟩
set_option maxRecDepth 100000 in
set_option maxHeartbeats 8000000 in
theorem both_key (a b : Sk.K) (va vb : Value) (key : List UInt8) (w : World) (hra : Rd mkI w va a.c) (hrb : Rd mkI w vb b.c) (hla : a.c.length ≤ maxLen) (hlb : b.c.length ≤ maxLen) (hT : TabC w) (h0 : ¬ 300 < a.c.length) (h1 : ¬ 300 < b.c.length) (h : 100 < key.length) :
    Calls Tryd.prog 9 #[skV a va, skV b vb, .string ⟨key.toArray⟩] w fun e w' => e = .returned (.bool true) ∧ Below w.heap.size w w' := by
  unfold maxLen at hla hlb
  have hs1 : (⟨key.toArray⟩ : ByteArray).size = key.length := by simp [ByteArray.size]
  obtain ⟨x, capa, rfl, hcapa, hcasea⟩ := hra
  obtain ⟨y, capb, rfl, hcapb, hcaseb⟩ := hrb
  clear hcasea hcaseb
  obtain ⟨aw, ar, ad, ac⟩ := a
  obtain ⟨bw, br, bd, bc⟩ := b
  dsimp only at *
  have d0 : decide ((300 : Int) < (ac.length : Int)) = false := by simp; omega
  have d1 : decide ((300 : Int) < (bc.length : Int)) = false := by simp; omega
  have d2 : decide ((100 : Int) < (key.length : Int)) = true := by simp; omega
  have hB0 : Below w.heap.size w ((w.alloc (.cells #[.int .i64 aw, .int .i64 ar, .int .i64 ad, .slice x ac.length capa] 38)).alloc (.cells #[.int .i64 bw, .int .i64 br, .int .i64 bd, .slice y bc.length capb] 38)) := below_al (below_alloc1 w _) _
  have ha0 := blk_alloc (blk_new w #[.int .i64 aw, .int .i64 ar, .int .i64 ad, .slice x ac.length capa] 38) (.cells #[.int .i64 bw, .int .i64 br, .int .i64 bd, .slice y bc.length capb] 38)
  have hb0 := blk_new2 w (.cells #[.int .i64 aw, .int .i64 ar, .int .i64 ad, .slice x ac.length capa] 38) #[.int .i64 bw, .int .i64 br, .int .i64 bd, .slice y bc.length capb] 38
  generalize hL : ac.length = la at *
  generalize hM : bc.length = lb at *
  clear hL hM
  go_enter Tryd.func9, Tryd.ntmps9
  go_wp2_with (go_at_call 19; (with_reducible refine (ssane_any ((w.alloc (.cells #[.int .i64 aw, .int .i64 ar, .int .i64 ad, .slice x la capa] 38)).alloc (.cells #[.int .i64 bw, .int .i64 br, .int .i64 bd, .slice y lb capb] 38)) (hT.below hB0)).mono ?_); rintro e w1 ⟨rfl, hw1⟩; have hB1 := hB0.trans (hw1.mono hB0.size))
  go_ret
  exact ⟨rfl, hB1⟩
set_option maxRecDepth 100000 in
set_option maxHeartbeats 8000000 in
theorem both_badA (a b : Sk.K) (va vb : Value) (key : List UInt8) (w : World) (hra : Rd mkI w va a.c) (hrb : Rd mkI w vb b.c) (hla : a.c.length ≤ maxLen) (hlb : b.c.length ≤ maxLen) (hT : TabC w) (h0 : ¬ 300 < a.c.length) (h1 : ¬ 300 < b.c.length) (h2 : ¬ 100 < key.length) (h : Sk.okB a = false) :
    Calls Tryd.prog 9 #[skV a va, skV b vb, .string ⟨key.toArray⟩] w fun e w' => e = .returned (.bool true) ∧ Below w.heap.size w w' := by
  unfold maxLen at hla hlb
  have hs1 : (⟨key.toArray⟩ : ByteArray).size = key.length := by simp [ByteArray.size]
  have hva := fun W (h : Rd mkI W va a.c) => rvalid_any a va W h (by unfold maxLen; exact hla)
  have hvb := fun W (h : Rd mkI W vb b.c) => rvalid_any b vb W h (by unfold maxLen; exact hlb)
  rw [h] at hva
  clear h hvb
  have Hva := Lib.hid hva
  clear hva
  have Hra := Lib.hid hra
  have Hrb := Lib.hid hrb
  have HT := Lib.hid (fun W (h : Below w.heap.size w W) => hT.below h)
  obtain ⟨x, capa, rfl, hcapa, hcasea⟩ := hra
  obtain ⟨y, capb, rfl, hcapb, hcaseb⟩ := hrb
  clear hcasea hcaseb
  have Hrda := Lib.hid (fun W (h : Below w.heap.size w W) => Rd.below Hra.out h)
  have Hrdb := Lib.hid (fun W (h : Below w.heap.size w W) => Rd.below Hrb.out h)
  obtain ⟨aw, ar, ad, ac⟩ := a
  obtain ⟨bw, br, bd, bc⟩ := b
  dsimp only at *
  have d0 : decide ((300 : Int) < (ac.length : Int)) = false := by simp; omega
  have d1 : decide ((300 : Int) < (bc.length : Int)) = false := by simp; omega
  have d2 : decide ((100 : Int) < (key.length : Int)) = false := by simp; omega
  have hB0 : Below w.heap.size w ((w.alloc (.cells #[.int .i64 aw, .int .i64 ar, .int .i64 ad, .slice x ac.length capa] 38)).alloc (.cells #[.int .i64 bw, .int .i64 br, .int .i64 bd, .slice y bc.length capb] 38)) := below_al (below_alloc1 w _) _
  have ha0 := blk_alloc (blk_new w #[.int .i64 aw, .int .i64 ar, .int .i64 ad, .slice x ac.length capa] 38) (.cells #[.int .i64 bw, .int .i64 br, .int .i64 bd, .slice y bc.length capb] 38)
  have hb0 := blk_new2 w (.cells #[.int .i64 aw, .int .i64 ar, .int .i64 ad, .slice x ac.length capa] 38) #[.int .i64 bw, .int .i64 br, .int .i64 bd, .slice y bc.length capb] 38
  generalize hL : ac.length = la at *
  generalize hM : bc.length = lb at *
  clear hL hM
  go_enter Tryd.func9, Tryd.ntmps9
  go_wp2_with (first
    | (go_at_call 18; (with_reducible refine (Hva.out ((w.alloc (.cells #[.int .i64 aw, .int .i64 ar, .int .i64 ad, .slice x la capa] 38)).alloc (.cells #[.int .i64 bw, .int .i64 br, .int .i64 bd, .slice y lb capb] 38)) (Hrda.out _ hB0)).mono ?_); rintro e w1 ⟨rfl, hw1⟩; have hB1 := hB0.trans (hw1.mono hB0.size); have ha1 := blk_kept ha0 hw1; have hb1 := blk_kept hb0 hw1; have p0 := blk_cell ha1 0; have p1 := blk_cell ha1 1; have p2 := blk_cell ha1 2; have p3 := blk_cell ha1 3; simp only [List.getElem?_toArray, List.getElem?_cons_zero, List.getElem?_cons_succ] at p0 p1 p2 p3; have s0 := blk_cell hb1 0; have s1 := blk_cell hb1 1; have s2 := blk_cell hb1 2; have s3 := blk_cell hb1 3; simp only [List.getElem?_toArray, List.getElem?_cons_zero, List.getElem?_cons_succ] at s0 s1 s2 s3)
    | (go_at_call 19; (with_reducible refine (ssane_any w1 (HT.out _ hB1)).mono ?_); rintro e w5 ⟨rfl, hw5⟩; have hB5 := hB1.trans (hw5.mono hB1.size)))
  go_ret
  exact ⟨rfl, hB5⟩
set_option maxRecDepth 100000 in
set_option maxHeartbeats 8000000 in
theorem both_badB (a b : Sk.K) (va vb : Value) (key : List UInt8) (w : World) (hra : Rd mkI w va a.c) (hrb : Rd mkI w vb b.c) (hla : a.c.length ≤ maxLen) (hlb : b.c.length ≤ maxLen) (hT : TabC w) (h0 : ¬ 300 < a.c.length) (h1 : ¬ 300 < b.c.length) (h2 : ¬ 100 < key.length) (h3 : Sk.okB a = true) (h : Sk.okB b = false) :
    Calls Tryd.prog 9 #[skV a va, skV b vb, .string ⟨key.toArray⟩] w fun e w' => e = .returned (.bool true) ∧ Below w.heap.size w w' := by
  unfold maxLen at hla hlb
  have hs1 : (⟨key.toArray⟩ : ByteArray).size = key.length := by simp [ByteArray.size]
  have hva := fun W (h : Rd mkI W va a.c) => rvalid_any a va W h (by unfold maxLen; exact hla)
  have hvb := fun W (h : Rd mkI W vb b.c) => rvalid_any b vb W h (by unfold maxLen; exact hlb)
  rw [h3] at hva
  rw [h] at hvb
  clear h h3
  have Hva := Lib.hid hva
  clear hva
  have Hvb := Lib.hid hvb
  clear hvb
  have Hra := Lib.hid hra
  have Hrb := Lib.hid hrb
  have HT := Lib.hid (fun W (h : Below w.heap.size w W) => hT.below h)
  obtain ⟨x, capa, rfl, hcapa, hcasea⟩ := hra
  obtain ⟨y, capb, rfl, hcapb, hcaseb⟩ := hrb
  clear hcasea hcaseb
  have Hrda := Lib.hid (fun W (h : Below w.heap.size w W) => Rd.below Hra.out h)
  have Hrdb := Lib.hid (fun W (h : Below w.heap.size w W) => Rd.below Hrb.out h)
  obtain ⟨aw, ar, ad, ac⟩ := a
  obtain ⟨bw, br, bd, bc⟩ := b
  dsimp only at *
  have d0 : decide ((300 : Int) < (ac.length : Int)) = false := by simp; omega
  have d1 : decide ((300 : Int) < (bc.length : Int)) = false := by simp; omega
  have d2 : decide ((100 : Int) < (key.length : Int)) = false := by simp; omega
  have hB0 : Below w.heap.size w ((w.alloc (.cells #[.int .i64 aw, .int .i64 ar, .int .i64 ad, .slice x ac.length capa] 38)).alloc (.cells #[.int .i64 bw, .int .i64 br, .int .i64 bd, .slice y bc.length capb] 38)) := below_al (below_alloc1 w _) _
  have ha0 := blk_alloc (blk_new w #[.int .i64 aw, .int .i64 ar, .int .i64 ad, .slice x ac.length capa] 38) (.cells #[.int .i64 bw, .int .i64 br, .int .i64 bd, .slice y bc.length capb] 38)
  have hb0 := blk_new2 w (.cells #[.int .i64 aw, .int .i64 ar, .int .i64 ad, .slice x ac.length capa] 38) #[.int .i64 bw, .int .i64 br, .int .i64 bd, .slice y bc.length capb] 38
  generalize hL : ac.length = la at *
  generalize hM : bc.length = lb at *
  clear hL hM
  go_enter Tryd.func9, Tryd.ntmps9
  go_wp2_with (first
    | (go_at_call 18; (with_reducible refine (Hva.out ((w.alloc (.cells #[.int .i64 aw, .int .i64 ar, .int .i64 ad, .slice x la capa] 38)).alloc (.cells #[.int .i64 bw, .int .i64 br, .int .i64 bd, .slice y lb capb] 38)) (Hrda.out _ hB0)).mono ?_); rintro e w1 ⟨rfl, hw1⟩; have hB1 := hB0.trans (hw1.mono hB0.size); have ha1 := blk_kept ha0 hw1; have hb1 := blk_kept hb0 hw1; have p0 := blk_cell ha1 0; have p1 := blk_cell ha1 1; have p2 := blk_cell ha1 2; have p3 := blk_cell ha1 3; simp only [List.getElem?_toArray, List.getElem?_cons_zero, List.getElem?_cons_succ] at p0 p1 p2 p3; have s0 := blk_cell hb1 0; have s1 := blk_cell hb1 1; have s2 := blk_cell hb1 2; have s3 := blk_cell hb1 3; simp only [List.getElem?_toArray, List.getElem?_cons_zero, List.getElem?_cons_succ] at s0 s1 s2 s3)
    | (go_at_call 18; (with_reducible refine (Hvb.out w1 (Hrdb.out _ hB1)).mono ?_); rintro e w2 ⟨rfl, hw2⟩; have hB2 := hB1.trans (hw2.mono hB1.size); have ha2 := blk_kept ha1 hw2; have hb2 := blk_kept hb1 hw2; have u0 := blk_cell ha2 0; have u1 := blk_cell ha2 1; have u2 := blk_cell ha2 2; have u3 := blk_cell ha2 3; simp only [List.getElem?_toArray, List.getElem?_cons_zero, List.getElem?_cons_succ] at u0 u1 u2 u3; have v0 := blk_cell hb2 0; have v1 := blk_cell hb2 1; have v2 := blk_cell hb2 2; have v3 := blk_cell hb2 3; simp only [List.getElem?_toArray, List.getElem?_cons_zero, List.getElem?_cons_succ] at v0 v1 v2 v3)
    | (go_at_call 19; (with_reducible refine (ssane_any w2 (HT.out _ hB2)).mono ?_); rintro e w5 ⟨rfl, hw5⟩; have hB5 := hB2.trans (hw5.mono hB2.size)))
  go_ret
  exact ⟨rfl, hB5⟩
set_option maxRecDepth 100000 in
set_option maxHeartbeats 8000000 in
theorem both_errW (a b : Sk.K) (va vb : Value) (key : List UInt8) (w : World) (hra : Rd mkI w va a.c) (hrb : Rd mkI w vb b.c) (hla : a.c.length ≤ maxLen) (hlb : b.c.length ≤ maxLen) (hT : TabC w) (h0 : ¬ 300 < a.c.length) (h1 : ¬ 300 < b.c.length) (h2 : ¬ 100 < key.length) (ha : Sk.Ok a) (hb : Sk.Ok b) (hd : a.w ≠ b.w) :
    Calls Tryd.prog 9 #[skV a va, skV b vb, .string ⟨key.toArray⟩] w fun e w' => e = .returned (.bool true) ∧ Below w.heap.size w w' := by
  unfold maxLen at hla hlb
  have hs1 : (⟨key.toArray⟩ : ByteArray).size = key.length := by simp [ByteArray.size]
  have hva := fun W (h : Rd mkI W va a.c) => rvalid_any a va W h (by unfold maxLen; exact hla)
  have hvb := fun W (h : Rd mkI W vb b.c) => rvalid_any b vb W h (by unfold maxLen; exact hlb)
  rw [(Sk.okB_iff a).2 ha] at hva
  rw [(Sk.okB_iff b).2 hb] at hvb
  have hm := fun x y n1 n2 cx cy (h1 : va = .slice x n1 cx) (h2 : vb = .slice y n2 cy) W => merge_err a b (.inl hd) va vb x y n1 n2 cx cy h1 h2 W
  clear ha hb
  have Hm := Lib.hid hm
  clear hm
  have Hva := Lib.hid hva
  clear hva
  have Hvb := Lib.hid hvb
  clear hvb
  have Hra := Lib.hid hra
  have Hrb := Lib.hid hrb
  have HT := Lib.hid (fun W (h : Below w.heap.size w W) => hT.below h)
  obtain ⟨x, capa, rfl, hcapa, hcasea⟩ := hra
  obtain ⟨y, capb, rfl, hcapb, hcaseb⟩ := hrb
  clear hcasea hcaseb
  have Hrda := Lib.hid (fun W (h : Below w.heap.size w W) => Rd.below Hra.out h)
  have Hrdb := Lib.hid (fun W (h : Below w.heap.size w W) => Rd.below Hrb.out h)
  obtain ⟨aw, ar, ad, ac⟩ := a
  obtain ⟨bw, br, bd, bc⟩ := b
  dsimp only at *
  have d0 : decide ((300 : Int) < (ac.length : Int)) = false := by simp; omega
  have d1 : decide ((300 : Int) < (bc.length : Int)) = false := by simp; omega
  have d2 : decide ((100 : Int) < (key.length : Int)) = false := by simp; omega
  have n1 : (aw != bw) = true := by simpa using hd
  have hB0 : Below w.heap.size w ((w.alloc (.cells #[.int .i64 aw, .int .i64 ar, .int .i64 ad, .slice x ac.length capa] 38)).alloc (.cells #[.int .i64 bw, .int .i64 br, .int .i64 bd, .slice y bc.length capb] 38)) := below_al (below_alloc1 w _) _
  have ha0 := blk_alloc (blk_new w #[.int .i64 aw, .int .i64 ar, .int .i64 ad, .slice x ac.length capa] 38) (.cells #[.int .i64 bw, .int .i64 br, .int .i64 bd, .slice y bc.length capb] 38)
  have hb0 := blk_new2 w (.cells #[.int .i64 aw, .int .i64 ar, .int .i64 ad, .slice x ac.length capa] 38) #[.int .i64 bw, .int .i64 br, .int .i64 bd, .slice y bc.length capb] 38
  generalize hL : ac.length = la at *
  generalize hM : bc.length = lb at *
  clear hL hM
  go_enter Tryd.func9, Tryd.ntmps9
  go_wp2_with (first
    | (go_at_call 18; (with_reducible refine (Hva.out ((w.alloc (.cells #[.int .i64 aw, .int .i64 ar, .int .i64 ad, .slice x la capa] 38)).alloc (.cells #[.int .i64 bw, .int .i64 br, .int .i64 bd, .slice y lb capb] 38)) (Hrda.out _ hB0)).mono ?_); rintro e w1 ⟨rfl, hw1⟩; have hB1 := hB0.trans (hw1.mono hB0.size); have ha1 := blk_kept ha0 hw1; have hb1 := blk_kept hb0 hw1; have p0 := blk_cell ha1 0; have p1 := blk_cell ha1 1; have p2 := blk_cell ha1 2; have p3 := blk_cell ha1 3; simp only [List.getElem?_toArray, List.getElem?_cons_zero, List.getElem?_cons_succ] at p0 p1 p2 p3; have s0 := blk_cell hb1 0; have s1 := blk_cell hb1 1; have s2 := blk_cell hb1 2; have s3 := blk_cell hb1 3; simp only [List.getElem?_toArray, List.getElem?_cons_zero, List.getElem?_cons_succ] at s0 s1 s2 s3)
    | (go_at_call 18; (with_reducible refine (Hvb.out w1 (Hrdb.out _ hB1)).mono ?_); rintro e w2 ⟨rfl, hw2⟩; have hB2 := hB1.trans (hw2.mono hB1.size); have ha2 := blk_kept ha1 hw2; have hb2 := blk_kept hb1 hw2; have u0 := blk_cell ha2 0; have u1 := blk_cell ha2 1; have u2 := blk_cell ha2 2; have u3 := blk_cell ha2 3; simp only [List.getElem?_toArray, List.getElem?_cons_zero, List.getElem?_cons_succ] at u0 u1 u2 u3; have v0 := blk_cell hb2 0; have v1 := blk_cell hb2 1; have v2 := blk_cell hb2 2; have v3 := blk_cell hb2 3; simp only [List.getElem?_toArray, List.getElem?_cons_zero, List.getElem?_cons_succ] at v0 v1 v2 v3)
    | (go_at_call 27; (with_reducible refine (Hm.out _ _ _ _ _ _ rfl rfl w2).mono ?_); rintro e w3 ⟨rfl, hw3⟩; have hB3 := hB2.trans (hw3.mono hB2.size); have ha3 := blk_kept ha2 hw3; have hb3 := blk_kept hb2 hw3)
    | (go_at_call 19; (with_reducible refine (ssane_any (w3.alloc (.cells #[.int .i64 0, .int .i64 0, .int .i64 0, .slice none 0 0] 38)) (HT.out _ (below_al hB3 _))).mono ?_); rintro e w4 ⟨rfl, hw4⟩; have hc4 := after1 hw4; have hB4 := hB3.trans (hc4.1.mono hB3.size); have ha4 := blk_kept ha3 hc4.1; have hb4 := blk_kept hb3 hc4.1; have i0 := blk_cell ha4 0; have i1 := blk_cell ha4 1; have i2 := blk_cell ha4 2; have i3 := blk_cell ha4 3; simp only [List.getElem?_toArray, List.getElem?_cons_zero, List.getElem?_cons_succ] at i0 i1 i2 i3; have j0 := blk_cell hb4 0; have j1 := blk_cell hb4 1; have j2 := blk_cell hb4 2; have j3 := blk_cell hb4 3; simp only [List.getElem?_toArray, List.getElem?_cons_zero, List.getElem?_cons_succ] at j0 j1 j2 j3))
  all_goals
    go_ret
    exact ⟨rfl, hB4⟩
set_option maxRecDepth 100000 in
set_option maxHeartbeats 8000000 in
theorem both_errS (a b : Sk.K) (va vb : Value) (key : List UInt8) (w : World) (hra : Rd mkI w va a.c) (hrb : Rd mkI w vb b.c) (hla : a.c.length ≤ maxLen) (hlb : b.c.length ≤ maxLen) (hT : TabC w) (h0 : ¬ 300 < a.c.length) (h1 : ¬ 300 < b.c.length) (h2 : ¬ 100 < key.length) (ha : Sk.Ok a) (hb : Sk.Ok b) (he : a.w = b.w) (hd : a.s ≠ b.s) :
    Calls Tryd.prog 9 #[skV a va, skV b vb, .string ⟨key.toArray⟩] w fun e w' => e = .returned (.bool true) ∧ Below w.heap.size w w' := by
  unfold maxLen at hla hlb
  have hs1 : (⟨key.toArray⟩ : ByteArray).size = key.length := by simp [ByteArray.size]
  have hva := fun W (h : Rd mkI W va a.c) => rvalid_any a va W h (by unfold maxLen; exact hla)
  have hvb := fun W (h : Rd mkI W vb b.c) => rvalid_any b vb W h (by unfold maxLen; exact hlb)
  rw [(Sk.okB_iff a).2 ha] at hva
  rw [(Sk.okB_iff b).2 hb] at hvb
  have hm := fun x y n1 n2 cx cy (h1 : va = .slice x n1 cx) (h2 : vb = .slice y n2 cy) W => merge_err a b (.inr ⟨he, hd⟩) va vb x y n1 n2 cx cy h1 h2 W
  clear ha hb
  have Hm := Lib.hid hm
  clear hm
  have Hva := Lib.hid hva
  clear hva
  have Hvb := Lib.hid hvb
  clear hvb
  have Hra := Lib.hid hra
  have Hrb := Lib.hid hrb
  have HT := Lib.hid (fun W (h : Below w.heap.size w W) => hT.below h)
  obtain ⟨x, capa, rfl, hcapa, hcasea⟩ := hra
  obtain ⟨y, capb, rfl, hcapb, hcaseb⟩ := hrb
  clear hcasea hcaseb
  have Hrda := Lib.hid (fun W (h : Below w.heap.size w W) => Rd.below Hra.out h)
  have Hrdb := Lib.hid (fun W (h : Below w.heap.size w W) => Rd.below Hrb.out h)
  obtain ⟨aw, ar, ad, ac⟩ := a
  obtain ⟨bw, br, bd, bc⟩ := b
  dsimp only at *
  subst he
  have d0 : decide ((300 : Int) < (ac.length : Int)) = false := by simp; omega
  have d1 : decide ((300 : Int) < (bc.length : Int)) = false := by simp; omega
  have d2 : decide ((100 : Int) < (key.length : Int)) = false := by simp; omega
  have n1 : (ar != br) = true := by simpa using hd
  have hB0 : Below w.heap.size w ((w.alloc (.cells #[.int .i64 aw, .int .i64 ar, .int .i64 ad, .slice x ac.length capa] 38)).alloc (.cells #[.int .i64 aw, .int .i64 br, .int .i64 bd, .slice y bc.length capb] 38)) := below_al (below_alloc1 w _) _
  have ha0 := blk_alloc (blk_new w #[.int .i64 aw, .int .i64 ar, .int .i64 ad, .slice x ac.length capa] 38) (.cells #[.int .i64 aw, .int .i64 br, .int .i64 bd, .slice y bc.length capb] 38)
  have hb0 := blk_new2 w (.cells #[.int .i64 aw, .int .i64 ar, .int .i64 ad, .slice x ac.length capa] 38) #[.int .i64 aw, .int .i64 br, .int .i64 bd, .slice y bc.length capb] 38
  generalize hL : ac.length = la at *
  generalize hM : bc.length = lb at *
  clear hL hM
  go_enter Tryd.func9, Tryd.ntmps9
  go_wp2_with (first
    | (go_at_call 18; (with_reducible refine (Hva.out ((w.alloc (.cells #[.int .i64 aw, .int .i64 ar, .int .i64 ad, .slice x la capa] 38)).alloc (.cells #[.int .i64 aw, .int .i64 br, .int .i64 bd, .slice y lb capb] 38)) (Hrda.out _ hB0)).mono ?_); rintro e w1 ⟨rfl, hw1⟩; have hB1 := hB0.trans (hw1.mono hB0.size); have ha1 := blk_kept ha0 hw1; have hb1 := blk_kept hb0 hw1; have p0 := blk_cell ha1 0; have p1 := blk_cell ha1 1; have p2 := blk_cell ha1 2; have p3 := blk_cell ha1 3; simp only [List.getElem?_toArray, List.getElem?_cons_zero, List.getElem?_cons_succ] at p0 p1 p2 p3; have s0 := blk_cell hb1 0; have s1 := blk_cell hb1 1; have s2 := blk_cell hb1 2; have s3 := blk_cell hb1 3; simp only [List.getElem?_toArray, List.getElem?_cons_zero, List.getElem?_cons_succ] at s0 s1 s2 s3)
    | (go_at_call 18; (with_reducible refine (Hvb.out w1 (Hrdb.out _ hB1)).mono ?_); rintro e w2 ⟨rfl, hw2⟩; have hB2 := hB1.trans (hw2.mono hB1.size); have ha2 := blk_kept ha1 hw2; have hb2 := blk_kept hb1 hw2; have u0 := blk_cell ha2 0; have u1 := blk_cell ha2 1; have u2 := blk_cell ha2 2; have u3 := blk_cell ha2 3; simp only [List.getElem?_toArray, List.getElem?_cons_zero, List.getElem?_cons_succ] at u0 u1 u2 u3; have v0 := blk_cell hb2 0; have v1 := blk_cell hb2 1; have v2 := blk_cell hb2 2; have v3 := blk_cell hb2 3; simp only [List.getElem?_toArray, List.getElem?_cons_zero, List.getElem?_cons_succ] at v0 v1 v2 v3)
    | (go_at_call 27; (with_reducible refine (Hm.out _ _ _ _ _ _ rfl rfl w2).mono ?_); rintro e w3 ⟨rfl, hw3⟩; have hB3 := hB2.trans (hw3.mono hB2.size); have ha3 := blk_kept ha2 hw3; have hb3 := blk_kept hb2 hw3)
    | (go_at_call 19; (with_reducible refine (ssane_any (w3.alloc (.cells #[.int .i64 0, .int .i64 0, .int .i64 0, .slice none 0 0] 38)) (HT.out _ (below_al hB3 _))).mono ?_); rintro e w4 ⟨rfl, hw4⟩; have hc4 := after1 hw4; have hB4 := hB3.trans (hc4.1.mono hB3.size); have ha4 := blk_kept ha3 hc4.1; have hb4 := blk_kept hb3 hc4.1; have i0 := blk_cell ha4 0; have i1 := blk_cell ha4 1; have i2 := blk_cell ha4 2; have i3 := blk_cell ha4 3; simp only [List.getElem?_toArray, List.getElem?_cons_zero, List.getElem?_cons_succ] at i0 i1 i2 i3; have j0 := blk_cell hb4 0; have j1 := blk_cell hb4 1; have j2 := blk_cell hb4 2; have j3 := blk_cell hb4 3; simp only [List.getElem?_toArray, List.getElem?_cons_zero, List.getElem?_cons_succ] at j0 j1 j2 j3))
  all_goals
    go_ret
    exact ⟨rfl, hB4⟩
set_option maxRecDepth 100000 in
set_option maxHeartbeats 8000000 in
theorem both_half (a b : Sk.K) (va vb : Value) (key : List UInt8) (w : World) (hra : Rd mkI w va a.c) (hrb : Rd mkI w vb b.c) (hla : a.c.length ≤ maxLen) (hlb : b.c.length ≤ maxLen) (hT : TabC w) (h0 : ¬ 300 < a.c.length) (h1 : ¬ 300 < b.c.length) (h2 : ¬ 100 < key.length) (ha : Sk.Ok a) (hb : Sk.Ok b) (hw : a.w = b.w) (hs : a.s = b.s) (hh : a.s ≤ a.a + b.a) :
    Calls Tryd.prog 9 #[skV a va, skV b vb, .string ⟨key.toArray⟩] w fun e w' => e = .returned (.bool true) ∧ Below w.heap.size w w' := by
  unfold maxLen at hla hlb
  have hs1 : (⟨key.toArray⟩ : ByteArray).size = key.length := by simp [ByteArray.size]
  have hva := fun W (h : Rd mkI W va a.c) => rvalid_any a va W h (by unfold maxLen; exact hla)
  have hvb := fun W (h : Rd mkI W vb b.c) => rvalid_any b vb W h (by unfold maxLen; exact hlb)
  rw [(Sk.okB_iff a).2 ha] at hva
  rw [(Sk.okB_iff b).2 hb] at hvb
  have hok := mrg_ok a b ha hb hw hs
  have hcm := Sk.count_mrg ha hb hw key
  have hfm := Sk.fill_mrgK a b
  have hma : (Sk.K.mrg a b).a = (a.a + b.a) / 2 := by unfold Sk.K.mrg; rw [if_pos hh]; rfl
  rw [if_pos hh] at hcm
  have hm := fun W (h1 : Rd mkI W va a.c) (h2 : Rd mkI W vb b.c) => merge_lit a b ha hb hw hs va vb W h1 h2
  have hca := fun W (h : Rd mkI W va a.c) (hT : TabC W) => count_any a ha key va W h (by omega) hT
  have hcb := fun W (h : Rd mkI W vb b.c) (hT : TabC W) => count_any b hb key vb W h (by omega) hT
  have hcc := fun v W (h : Rd mkI W v (Sk.K.mrg a b).c) (hT : TabC W) => count_any (Sk.K.mrg a b) hok key v W h (by omega) hT
  have hfa := fun W (h : Rd mkI W va a.c) => fill_any a.w a.s a.a a.c va W h ha.len9 ha.ne
  have hfb := fun W (h : Rd mkI W vb b.c) => fill_any b.w b.s b.a b.c vb W h hb.len9 hb.ne
  have hfc := fun v W (h : Rd mkI W v (Sk.K.mrg a b).c) => fill_any (Sk.K.mrg a b).w (Sk.K.mrg a b).s (Sk.K.mrg a b).a (Sk.K.mrg a b).c v W h hok.len9 hok.ne
  have hfl1 := Nat.le_trans (Sk.fill_le a.c) ha.len9
  have hfl2 := Nat.le_trans (Sk.fill_le b.c) hb.len9
  have hp1 := ha.count0 key
  have hp2 := ha.count15 key
  have hp3 := hb.count0 key
  have hp4 := hb.count15 key
  have hp5 := ha.a1
  have hp6 := ha.a2
  have hp7 := hb.a1
  have hp8 := hb.a2
  have hp9 := ha.s1
  have hp10 := ha.s2
  generalize a.count key = ca at *
  generalize b.count key = cb at *
  generalize (Sk.K.mrg a b).count key = cm at *
  generalize Sk.fill (Sk.K.mrg a b).c = fm at *
  generalize Sk.fill a.c = fa at *
  generalize Sk.fill b.c = fb at *
  clear ha hb hok
  generalize Sk.K.mrg a b = m at *
  obtain ⟨sm, hsm⟩ : ∃ s, s = min (ca + cb) 15 := ⟨_, rfl⟩
  rw [← hsm] at hcm
  have n7 : sm.tdiv 2 = sm / 2 := by rw [Int.tdiv_eq_ediv_of_nonneg (by omega)]
  have n8 : IntKind.i64.wrap (sm / 2) = sm / 2 := by rw [IntWalk.i64_in _ (by omega)]
  have n9 : decide (sm / 2 ≤ cm) = true := by simpa using hcm
  have Hm := Lib.hid hm
  clear hm
  have Hca := Lib.hid hca
  clear hca
  have Hcb := Lib.hid hcb
  clear hcb
  have Hcc := Lib.hid hcc
  clear hcc
  have Hfa := Lib.hid hfa
  clear hfa
  have Hfb := Lib.hid hfb
  clear hfb
  have Hfc := Lib.hid hfc
  clear hfc
  have Hva := Lib.hid hva
  clear hva
  have Hvb := Lib.hid hvb
  clear hvb
  have Hra := Lib.hid hra
  have Hrb := Lib.hid hrb
  have HT := Lib.hid (fun W (h : Below w.heap.size w W) => hT.below h)
  obtain ⟨x, capa, rfl, hcapa, hcasea⟩ := hra
  obtain ⟨y, capb, rfl, hcapb, hcaseb⟩ := hrb
  clear hcasea hcaseb
  have Hrda := Lib.hid (fun W (h : Below w.heap.size w W) => Rd.below Hra.out h)
  have Hrdb := Lib.hid (fun W (h : Below w.heap.size w W) => Rd.below Hrb.out h)
  obtain ⟨aw, ar, ad, ac⟩ := a
  obtain ⟨bw, br, bd, bc⟩ := b
  obtain ⟨mw, mr, md, mc⟩ := m
  dsimp only at *
  subst hw hs hma
  have d0 : decide ((300 : Int) < (ac.length : Int)) = false := by simp; omega
  have d1 : decide ((300 : Int) < (bc.length : Int)) = false := by simp; omega
  have d2 : decide ((100 : Int) < (key.length : Int)) = false := by simp; omega
  have hB0 : Below w.heap.size w ((w.alloc (.cells #[.int .i64 aw, .int .i64 ar, .int .i64 ad, .slice x ac.length capa] 38)).alloc (.cells #[.int .i64 aw, .int .i64 ar, .int .i64 bd, .slice y bc.length capb] 38)) := below_al (below_alloc1 w _) _
  have ha0 := blk_alloc (blk_new w #[.int .i64 aw, .int .i64 ar, .int .i64 ad, .slice x ac.length capa] 38) (.cells #[.int .i64 aw, .int .i64 ar, .int .i64 bd, .slice y bc.length capb] 38)
  have hb0 := blk_new2 w (.cells #[.int .i64 aw, .int .i64 ar, .int .i64 ad, .slice x ac.length capa] 38) #[.int .i64 aw, .int .i64 ar, .int .i64 bd, .slice y bc.length capb] 38
  generalize hL : ac.length = la at *
  generalize hM : bc.length = lb at *
  skip
  have n1 : ((ad + bd) / 2 != ad + bd) = true := by simp; omega
  have n2 : ((ad + bd) / 2 == ad + bd) = false := by simp; omega
  have n3 : IntKind.i64.wrap (ad + bd) = ad + bd := by rw [IntWalk.i64_in _ (by omega)]
  have n4 : IntKind.i64.wrap (ca + cb) = ca + cb := by rw [IntWalk.i64_in _ (by omega)]
  have n5 : IntKind.i64.wrap ((fa : Int) + (fb : Int)) = (fa : Int) + (fb : Int) := by rw [IntWalk.i64_in _ (by omega)]
  have n6 : decide ((fm : Int) ≤ (fa : Int) + (fb : Int)) = true := by simp; omega
  clear hL hM
  go_enter Tryd.func9, Tryd.ntmps9
  go_wp2_with (first
    | (go_at_call 18; (with_reducible refine (Hva.out ((w.alloc (.cells #[.int .i64 aw, .int .i64 ar, .int .i64 ad, .slice x la capa] 38)).alloc (.cells #[.int .i64 aw, .int .i64 ar, .int .i64 bd, .slice y lb capb] 38)) (Hrda.out _ hB0)).mono ?_); rintro e w1 ⟨rfl, hw1⟩; have hB1 := hB0.trans (hw1.mono hB0.size); have ha1 := blk_kept ha0 hw1; have hb1 := blk_kept hb0 hw1; have p0 := blk_cell ha1 0; have p1 := blk_cell ha1 1; have p2 := blk_cell ha1 2; have p3 := blk_cell ha1 3; simp only [List.getElem?_toArray, List.getElem?_cons_zero, List.getElem?_cons_succ] at p0 p1 p2 p3; have s0 := blk_cell hb1 0; have s1 := blk_cell hb1 1; have s2 := blk_cell hb1 2; have s3 := blk_cell hb1 3; simp only [List.getElem?_toArray, List.getElem?_cons_zero, List.getElem?_cons_succ] at s0 s1 s2 s3)
    | (go_at_call 18; (with_reducible refine (Hvb.out w1 (Hrdb.out _ hB1)).mono ?_); rintro e w2 ⟨rfl, hw2⟩; have hB2 := hB1.trans (hw2.mono hB1.size); have ha2 := blk_kept ha1 hw2; have hb2 := blk_kept hb1 hw2; have u0 := blk_cell ha2 0; have u1 := blk_cell ha2 1; have u2 := blk_cell ha2 2; have u3 := blk_cell ha2 3; simp only [List.getElem?_toArray, List.getElem?_cons_zero, List.getElem?_cons_succ] at u0 u1 u2 u3; have v0 := blk_cell hb2 0; have v1 := blk_cell hb2 1; have v2 := blk_cell hb2 2; have v3 := blk_cell hb2 3; simp only [List.getElem?_toArray, List.getElem?_cons_zero, List.getElem?_cons_succ] at v0 v1 v2 v3)
    | (go_at_call 27; (with_reducible refine (Hm.out w2 (Hrda.out _ hB2) (Hrdb.out _ hB2)).mono ?_); rintro e w3 ⟨g1, cap1, rfl, hown3, hw3⟩; have hx3 := ownOf_rd hown3; have hB3 := hB2.trans (hw3.mono hB2.size); have ha3 := blk_kept ha2 hw3; have hb3 := blk_kept hb2 hw3; have hS3 := blk_new w3 #[.int .i64 mw, .int .i64 mr, .int .i64 ((ad + bd) / 2), .slice (some ⟨g1, 0, none⟩) mc.length cap1] 38))
  have hB : Below w.heap.size w (w3.alloc (.cells #[.int .i64 mw, .int .i64 mr, .int .i64 ((ad + bd) / 2), .slice (some ⟨g1, 0, none⟩) mc.length cap1] 38)).drew := (below_al hB3 _).drew
  have hA : Blk (w3.alloc (.cells #[.int .i64 mw, .int .i64 mr, .int .i64 ((ad + bd) / 2), .slice (some ⟨g1, 0, none⟩) mc.length cap1] 38)).drew w.heap.size #[.int .i64 aw, .int .i64 ar, .int .i64 ad, .slice x la capa] 38 := blk_alloc ha3 _
  have hC : Blk (w3.alloc (.cells #[.int .i64 mw, .int .i64 mr, .int .i64 ((ad + bd) / 2), .slice (some ⟨g1, 0, none⟩) mc.length cap1] 38)).drew (w.heap.size + 1) #[.int .i64 aw, .int .i64 ar, .int .i64 bd, .slice y lb capb] 38 := blk_alloc hb3 _
  have hS : Blk (w3.alloc (.cells #[.int .i64 mw, .int .i64 mr, .int .i64 ((ad + bd) / 2), .slice (some ⟨g1, 0, none⟩) mc.length cap1] 38)).drew w3.heap.size #[.int .i64 mw, .int .i64 mr, .int .i64 ((ad + bd) / 2), .slice (some ⟨g1, 0, none⟩) mc.length cap1] 38 := hS3
  have hx : Rd mkI (w3.alloc (.cells #[.int .i64 mw, .int .i64 mr, .int .i64 ((ad + bd) / 2), .slice (some ⟨g1, 0, none⟩) mc.length cap1] 38)).drew (.slice (some ⟨g1, 0, none⟩) mc.length cap1) mc := Rd.below hx3 (below_alloc1 w3 _).drew
  clear hB3 ha3 hb3 hS3 hx3 hown3
  go_cut [9] (fun s9 wx => s9 = .int .i64 sm ∧ Below w.heap.size w wx ∧ Blk wx w.heap.size #[.int .i64 aw, .int .i64 ar, .int .i64 ad, .slice x la capa] 38 ∧ Blk wx (w.heap.size + 1) #[.int .i64 aw, .int .i64 ar, .int .i64 bd, .slice y lb capb] 38 ∧ Blk wx w3.heap.size #[.int .i64 mw, .int .i64 mr, .int .i64 ((ad + bd) / 2), .slice (some ⟨g1, 0, none⟩) mc.length cap1] 38 ∧ Rd mkI wx (.slice (some ⟨g1, 0, none⟩) mc.length cap1) mc)
  case first =>
    go_region_held3 (fun W => W.cell? ⟨w.heap.size, 0, none⟩ = some (.int .i64 aw) ∧ W.cell? ⟨w.heap.size, 1, none⟩ = some (.int .i64 ar) ∧ W.cell? ⟨w.heap.size, 2, none⟩ = some (.int .i64 ad) ∧ W.cell? ⟨w.heap.size, 3, none⟩ = some (.slice x la capa) ∧ W.cell? ⟨(w.heap.size + 1), 0, none⟩ = some (.int .i64 aw) ∧ W.cell? ⟨(w.heap.size + 1), 1, none⟩ = some (.int .i64 ar) ∧ W.cell? ⟨(w.heap.size + 1), 2, none⟩ = some (.int .i64 bd) ∧ W.cell? ⟨(w.heap.size + 1), 3, none⟩ = some (.slice y lb capb) ∧ W.cell? ⟨w3.heap.size, 0, none⟩ = some (.int .i64 mw) ∧ W.cell? ⟨w3.heap.size, 1, none⟩ = some (.int .i64 mr) ∧ W.cell? ⟨w3.heap.size, 2, none⟩ = some (.int .i64 ((ad + bd) / 2)) ∧ W.cell? ⟨w3.heap.size, 3, none⟩ = some (.slice (some ⟨g1, 0, none⟩) mc.length cap1)) (exact ⟨blk_cell hA 0, blk_cell hA 1, blk_cell hA 2, blk_cell hA 3, blk_cell hC 0, blk_cell hC 1, blk_cell hC 2, blk_cell hC 3, blk_cell hS 0, blk_cell hS 1, blk_cell hS 2, blk_cell hS 3⟩) (first
      | (go_at_call 25; (with_reducible refine (Hca.out _ (Hrda.out _ hB) (HT.out _ hB)).mono ?_); rintro e wq ⟨rfl, hwq⟩; have hB := hB.trans (hwq.mono hB.size); have hA := blk_kept hA hwq; have hC := blk_kept hC hwq; have hS := blk_kept hS hwq; have hx := Rd.below hx hwq)
      | (go_at_call 25; (with_reducible refine (Hcb.out _ (Hrdb.out _ hB) (HT.out _ hB)).mono ?_); rintro e wq ⟨rfl, hwq⟩; have hB := hB.trans (hwq.mono hB.size); have hA := blk_kept hA hwq; have hC := blk_kept hC hwq; have hS := blk_kept hS hwq; have hx := Rd.below hx hwq))
    all_goals go_wp2_with fail
    all_goals go_meet
    all_goals refine ⟨?_, hB, hA, hC, hS, hx⟩
    all_goals first | rfl | (congr 1; omega)
  case rest =>
    obtain ⟨rfl, hB, hA, hC, hS, hx⟩ := hcut
    clear hsm
    have i0 := blk_cell hA 0; have i1 := blk_cell hA 1; have i2 := blk_cell hA 2; have i3 := blk_cell hA 3; simp only [List.getElem?_toArray, List.getElem?_cons_zero, List.getElem?_cons_succ] at i0 i1 i2 i3
    have j0 := blk_cell hC 0; have j1 := blk_cell hC 1; have j2 := blk_cell hC 2; have j3 := blk_cell hC 3; simp only [List.getElem?_toArray, List.getElem?_cons_zero, List.getElem?_cons_succ] at j0 j1 j2 j3
    have k0 := blk_cell hS 0; have k1 := blk_cell hS 1; have k2 := blk_cell hS 2; have k3 := blk_cell hS 3; simp only [List.getElem?_toArray, List.getElem?_cons_zero, List.getElem?_cons_succ] at k0 k1 k2 k3
    go_wp2
    have hA := blk_drew hA
    have hC := blk_drew hC
    have hS := blk_drew hS
    have hx := Rd.below hx (Below.refl _ _).drew
    have hB := hB.drew
    go_region_held3 (fun W => W.cell? ⟨w.heap.size, 0, none⟩ = some (.int .i64 aw) ∧ W.cell? ⟨w.heap.size, 1, none⟩ = some (.int .i64 ar) ∧ W.cell? ⟨w.heap.size, 2, none⟩ = some (.int .i64 ad) ∧ W.cell? ⟨w.heap.size, 3, none⟩ = some (.slice x la capa) ∧ W.cell? ⟨(w.heap.size + 1), 0, none⟩ = some (.int .i64 aw) ∧ W.cell? ⟨(w.heap.size + 1), 1, none⟩ = some (.int .i64 ar) ∧ W.cell? ⟨(w.heap.size + 1), 2, none⟩ = some (.int .i64 bd) ∧ W.cell? ⟨(w.heap.size + 1), 3, none⟩ = some (.slice y lb capb) ∧ W.cell? ⟨w3.heap.size, 0, none⟩ = some (.int .i64 mw) ∧ W.cell? ⟨w3.heap.size, 1, none⟩ = some (.int .i64 mr) ∧ W.cell? ⟨w3.heap.size, 2, none⟩ = some (.int .i64 ((ad + bd) / 2)) ∧ W.cell? ⟨w3.heap.size, 3, none⟩ = some (.slice (some ⟨g1, 0, none⟩) mc.length cap1)) (exact ⟨blk_cell hA 0, blk_cell hA 1, blk_cell hA 2, blk_cell hA 3, blk_cell hC 0, blk_cell hC 1, blk_cell hC 2, blk_cell hC 3, blk_cell hS 0, blk_cell hS 1, blk_cell hS 2, blk_cell hS 3⟩) (first
      | (go_at_call 19; (with_reducible refine (ssane_any _ (HT.out _ hB)).mono ?_); rintro e wq ⟨rfl, hwq⟩; have hB := hB.trans (hwq.mono hB.size); have hA := blk_kept hA hwq; have hC := blk_kept hC hwq; have hS := blk_kept hS hwq; have hx := Rd.below hx hwq)
      | (go_at_call 25; (with_reducible refine (Hcc.out _ _ hx (HT.out _ hB)).mono ?_); rintro e wq ⟨rfl, hwq⟩; have hB := hB.trans (hwq.mono hB.size); have hA := blk_kept hA hwq; have hC := blk_kept hC hwq; have hS := blk_kept hS hwq; have hx := Rd.below hx hwq)
      | (go_at_call 31; (with_reducible refine (Hfc.out _ _ hx).mono ?_); rintro e wq ⟨rfl, hwq⟩; have hB := hB.trans (hwq.mono hB.size); have hA := blk_kept hA hwq; have hC := blk_kept hC hwq; have hS := blk_kept hS hwq; have hx := Rd.below hx hwq)
      | (go_at_call 31; (with_reducible refine (Hfa.out _ (Hrda.out _ hB)).mono ?_); rintro e wq ⟨rfl, hwq⟩; have hB := hB.trans (hwq.mono hB.size); have hA := blk_kept hA hwq; have hC := blk_kept hC hwq; have hS := blk_kept hS hwq; have hx := Rd.below hx hwq)
      | (go_at_call 31; (with_reducible refine (Hfb.out _ (Hrdb.out _ hB)).mono ?_); rintro e wq ⟨rfl, hwq⟩; have hB := hB.trans (hwq.mono hB.size); have hA := blk_kept hA hwq; have hC := blk_kept hC hwq; have hS := blk_kept hS hwq; have hx := Rd.below hx hwq))
    all_goals go_wp2
    all_goals go_ret
    all_goals exact ⟨rfl, hB⟩
set_option maxRecDepth 100000 in
set_option maxHeartbeats 8000000 in
theorem both_plain (a b : Sk.K) (va vb : Value) (key : List UInt8) (w : World) (hra : Rd mkI w va a.c) (hrb : Rd mkI w vb b.c) (hla : a.c.length ≤ maxLen) (hlb : b.c.length ≤ maxLen) (hT : TabC w) (h0 : ¬ 300 < a.c.length) (h1 : ¬ 300 < b.c.length) (h2 : ¬ 100 < key.length) (ha : Sk.Ok a) (hb : Sk.Ok b) (hw : a.w = b.w) (hs : a.s = b.s) (hh : ¬ a.s ≤ a.a + b.a) :
    Calls Tryd.prog 9 #[skV a va, skV b vb, .string ⟨key.toArray⟩] w fun e w' => e = .returned (.bool true) ∧ Below w.heap.size w w' := by
  unfold maxLen at hla hlb
  have hs1 : (⟨key.toArray⟩ : ByteArray).size = key.length := by simp [ByteArray.size]
  have hva := fun W (h : Rd mkI W va a.c) => rvalid_any a va W h (by unfold maxLen; exact hla)
  have hvb := fun W (h : Rd mkI W vb b.c) => rvalid_any b vb W h (by unfold maxLen; exact hlb)
  rw [(Sk.okB_iff a).2 ha] at hva
  rw [(Sk.okB_iff b).2 hb] at hvb
  have hok := mrg_ok a b ha hb hw hs
  have hcm := Sk.count_mrg ha hb hw key
  have hfm := Sk.fill_mrgK a b
  have hma : (Sk.K.mrg a b).a = a.a + b.a := by unfold Sk.K.mrg; rw [if_neg hh]; rfl
  rw [if_neg hh] at hcm
  have hm := fun W (h1 : Rd mkI W va a.c) (h2 : Rd mkI W vb b.c) => merge_lit a b ha hb hw hs va vb W h1 h2
  have hca := fun W (h : Rd mkI W va a.c) (hT : TabC W) => count_any a ha key va W h (by omega) hT
  have hcb := fun W (h : Rd mkI W vb b.c) (hT : TabC W) => count_any b hb key vb W h (by omega) hT
  have hcc := fun v W (h : Rd mkI W v (Sk.K.mrg a b).c) (hT : TabC W) => count_any (Sk.K.mrg a b) hok key v W h (by omega) hT
  have hfa := fun W (h : Rd mkI W va a.c) => fill_any a.w a.s a.a a.c va W h ha.len9 ha.ne
  have hfb := fun W (h : Rd mkI W vb b.c) => fill_any b.w b.s b.a b.c vb W h hb.len9 hb.ne
  have hfc := fun v W (h : Rd mkI W v (Sk.K.mrg a b).c) => fill_any (Sk.K.mrg a b).w (Sk.K.mrg a b).s (Sk.K.mrg a b).a (Sk.K.mrg a b).c v W h hok.len9 hok.ne
  have hfl1 := Nat.le_trans (Sk.fill_le a.c) ha.len9
  have hfl2 := Nat.le_trans (Sk.fill_le b.c) hb.len9
  have hp1 := ha.count0 key
  have hp2 := ha.count15 key
  have hp3 := hb.count0 key
  have hp4 := hb.count15 key
  have hp5 := ha.a1
  have hp6 := ha.a2
  have hp7 := hb.a1
  have hp8 := hb.a2
  have hp9 := ha.s1
  have hp10 := ha.s2
  generalize a.count key = ca at *
  generalize b.count key = cb at *
  generalize (Sk.K.mrg a b).count key = cm at *
  generalize Sk.fill (Sk.K.mrg a b).c = fm at *
  generalize Sk.fill a.c = fa at *
  generalize Sk.fill b.c = fb at *
  clear ha hb hok
  generalize Sk.K.mrg a b = m at *
  obtain ⟨sm, hsm⟩ : ∃ s, s = min (ca + cb) 15 := ⟨_, rfl⟩
  rw [← hsm] at hcm
  have n7 : sm.tdiv 2 = sm / 2 := by rw [Int.tdiv_eq_ediv_of_nonneg (by omega)]
  have n8 : IntKind.i64.wrap (sm / 2) = sm / 2 := by rw [IntWalk.i64_in _ (by omega)]
  have n9 : decide (sm ≤ cm) = true := by simpa using hcm
  have Hm := Lib.hid hm
  clear hm
  have Hca := Lib.hid hca
  clear hca
  have Hcb := Lib.hid hcb
  clear hcb
  have Hcc := Lib.hid hcc
  clear hcc
  have Hfa := Lib.hid hfa
  clear hfa
  have Hfb := Lib.hid hfb
  clear hfb
  have Hfc := Lib.hid hfc
  clear hfc
  have Hva := Lib.hid hva
  clear hva
  have Hvb := Lib.hid hvb
  clear hvb
  have Hra := Lib.hid hra
  have Hrb := Lib.hid hrb
  have HT := Lib.hid (fun W (h : Below w.heap.size w W) => hT.below h)
  obtain ⟨x, capa, rfl, hcapa, hcasea⟩ := hra
  obtain ⟨y, capb, rfl, hcapb, hcaseb⟩ := hrb
  clear hcasea hcaseb
  have Hrda := Lib.hid (fun W (h : Below w.heap.size w W) => Rd.below Hra.out h)
  have Hrdb := Lib.hid (fun W (h : Below w.heap.size w W) => Rd.below Hrb.out h)
  obtain ⟨aw, ar, ad, ac⟩ := a
  obtain ⟨bw, br, bd, bc⟩ := b
  obtain ⟨mw, mr, md, mc⟩ := m
  dsimp only at *
  subst hw hs hma
  have d0 : decide ((300 : Int) < (ac.length : Int)) = false := by simp; omega
  have d1 : decide ((300 : Int) < (bc.length : Int)) = false := by simp; omega
  have d2 : decide ((100 : Int) < (key.length : Int)) = false := by simp; omega
  have hB0 : Below w.heap.size w ((w.alloc (.cells #[.int .i64 aw, .int .i64 ar, .int .i64 ad, .slice x ac.length capa] 38)).alloc (.cells #[.int .i64 aw, .int .i64 ar, .int .i64 bd, .slice y bc.length capb] 38)) := below_al (below_alloc1 w _) _
  have ha0 := blk_alloc (blk_new w #[.int .i64 aw, .int .i64 ar, .int .i64 ad, .slice x ac.length capa] 38) (.cells #[.int .i64 aw, .int .i64 ar, .int .i64 bd, .slice y bc.length capb] 38)
  have hb0 := blk_new2 w (.cells #[.int .i64 aw, .int .i64 ar, .int .i64 ad, .slice x ac.length capa] 38) #[.int .i64 aw, .int .i64 ar, .int .i64 bd, .slice y bc.length capb] 38
  generalize hL : ac.length = la at *
  generalize hM : bc.length = lb at *
  skip
  have n3 : IntKind.i64.wrap (ad + bd) = ad + bd := by rw [IntWalk.i64_in _ (by omega)]
  have n4 : IntKind.i64.wrap (ca + cb) = ca + cb := by rw [IntWalk.i64_in _ (by omega)]
  have n5 : IntKind.i64.wrap ((fa : Int) + (fb : Int)) = (fa : Int) + (fb : Int) := by rw [IntWalk.i64_in _ (by omega)]
  have n6 : decide ((fm : Int) ≤ (fa : Int) + (fb : Int)) = true := by simp; omega
  clear hL hM
  go_enter Tryd.func9, Tryd.ntmps9
  go_wp2_with (first
    | (go_at_call 18; (with_reducible refine (Hva.out ((w.alloc (.cells #[.int .i64 aw, .int .i64 ar, .int .i64 ad, .slice x la capa] 38)).alloc (.cells #[.int .i64 aw, .int .i64 ar, .int .i64 bd, .slice y lb capb] 38)) (Hrda.out _ hB0)).mono ?_); rintro e w1 ⟨rfl, hw1⟩; have hB1 := hB0.trans (hw1.mono hB0.size); have ha1 := blk_kept ha0 hw1; have hb1 := blk_kept hb0 hw1; have p0 := blk_cell ha1 0; have p1 := blk_cell ha1 1; have p2 := blk_cell ha1 2; have p3 := blk_cell ha1 3; simp only [List.getElem?_toArray, List.getElem?_cons_zero, List.getElem?_cons_succ] at p0 p1 p2 p3; have s0 := blk_cell hb1 0; have s1 := blk_cell hb1 1; have s2 := blk_cell hb1 2; have s3 := blk_cell hb1 3; simp only [List.getElem?_toArray, List.getElem?_cons_zero, List.getElem?_cons_succ] at s0 s1 s2 s3)
    | (go_at_call 18; (with_reducible refine (Hvb.out w1 (Hrdb.out _ hB1)).mono ?_); rintro e w2 ⟨rfl, hw2⟩; have hB2 := hB1.trans (hw2.mono hB1.size); have ha2 := blk_kept ha1 hw2; have hb2 := blk_kept hb1 hw2; have u0 := blk_cell ha2 0; have u1 := blk_cell ha2 1; have u2 := blk_cell ha2 2; have u3 := blk_cell ha2 3; simp only [List.getElem?_toArray, List.getElem?_cons_zero, List.getElem?_cons_succ] at u0 u1 u2 u3; have v0 := blk_cell hb2 0; have v1 := blk_cell hb2 1; have v2 := blk_cell hb2 2; have v3 := blk_cell hb2 3; simp only [List.getElem?_toArray, List.getElem?_cons_zero, List.getElem?_cons_succ] at v0 v1 v2 v3)
    | (go_at_call 27; (with_reducible refine (Hm.out w2 (Hrda.out _ hB2) (Hrdb.out _ hB2)).mono ?_); rintro e w3 ⟨g1, cap1, rfl, hown3, hw3⟩; have hx3 := ownOf_rd hown3; have hB3 := hB2.trans (hw3.mono hB2.size); have ha3 := blk_kept ha2 hw3; have hb3 := blk_kept hb2 hw3; have hS3 := blk_new w3 #[.int .i64 mw, .int .i64 mr, .int .i64 (ad + bd), .slice (some ⟨g1, 0, none⟩) mc.length cap1] 38))
  have hB : Below w.heap.size w (w3.alloc (.cells #[.int .i64 mw, .int .i64 mr, .int .i64 (ad + bd), .slice (some ⟨g1, 0, none⟩) mc.length cap1] 38)).drew := (below_al hB3 _).drew
  have hA : Blk (w3.alloc (.cells #[.int .i64 mw, .int .i64 mr, .int .i64 (ad + bd), .slice (some ⟨g1, 0, none⟩) mc.length cap1] 38)).drew w.heap.size #[.int .i64 aw, .int .i64 ar, .int .i64 ad, .slice x la capa] 38 := blk_alloc ha3 _
  have hC : Blk (w3.alloc (.cells #[.int .i64 mw, .int .i64 mr, .int .i64 (ad + bd), .slice (some ⟨g1, 0, none⟩) mc.length cap1] 38)).drew (w.heap.size + 1) #[.int .i64 aw, .int .i64 ar, .int .i64 bd, .slice y lb capb] 38 := blk_alloc hb3 _
  have hS : Blk (w3.alloc (.cells #[.int .i64 mw, .int .i64 mr, .int .i64 (ad + bd), .slice (some ⟨g1, 0, none⟩) mc.length cap1] 38)).drew w3.heap.size #[.int .i64 mw, .int .i64 mr, .int .i64 (ad + bd), .slice (some ⟨g1, 0, none⟩) mc.length cap1] 38 := hS3
  have hx : Rd mkI (w3.alloc (.cells #[.int .i64 mw, .int .i64 mr, .int .i64 (ad + bd), .slice (some ⟨g1, 0, none⟩) mc.length cap1] 38)).drew (.slice (some ⟨g1, 0, none⟩) mc.length cap1) mc := Rd.below hx3 (below_alloc1 w3 _).drew
  clear hB3 ha3 hb3 hS3 hx3 hown3
  go_cut [9] (fun s9 wx => s9 = .int .i64 sm ∧ Below w.heap.size w wx ∧ Blk wx w.heap.size #[.int .i64 aw, .int .i64 ar, .int .i64 ad, .slice x la capa] 38 ∧ Blk wx (w.heap.size + 1) #[.int .i64 aw, .int .i64 ar, .int .i64 bd, .slice y lb capb] 38 ∧ Blk wx w3.heap.size #[.int .i64 mw, .int .i64 mr, .int .i64 (ad + bd), .slice (some ⟨g1, 0, none⟩) mc.length cap1] 38 ∧ Rd mkI wx (.slice (some ⟨g1, 0, none⟩) mc.length cap1) mc)
  case first =>
    go_region_held3 (fun W => W.cell? ⟨w.heap.size, 0, none⟩ = some (.int .i64 aw) ∧ W.cell? ⟨w.heap.size, 1, none⟩ = some (.int .i64 ar) ∧ W.cell? ⟨w.heap.size, 2, none⟩ = some (.int .i64 ad) ∧ W.cell? ⟨w.heap.size, 3, none⟩ = some (.slice x la capa) ∧ W.cell? ⟨(w.heap.size + 1), 0, none⟩ = some (.int .i64 aw) ∧ W.cell? ⟨(w.heap.size + 1), 1, none⟩ = some (.int .i64 ar) ∧ W.cell? ⟨(w.heap.size + 1), 2, none⟩ = some (.int .i64 bd) ∧ W.cell? ⟨(w.heap.size + 1), 3, none⟩ = some (.slice y lb capb) ∧ W.cell? ⟨w3.heap.size, 0, none⟩ = some (.int .i64 mw) ∧ W.cell? ⟨w3.heap.size, 1, none⟩ = some (.int .i64 mr) ∧ W.cell? ⟨w3.heap.size, 2, none⟩ = some (.int .i64 (ad + bd)) ∧ W.cell? ⟨w3.heap.size, 3, none⟩ = some (.slice (some ⟨g1, 0, none⟩) mc.length cap1)) (exact ⟨blk_cell hA 0, blk_cell hA 1, blk_cell hA 2, blk_cell hA 3, blk_cell hC 0, blk_cell hC 1, blk_cell hC 2, blk_cell hC 3, blk_cell hS 0, blk_cell hS 1, blk_cell hS 2, blk_cell hS 3⟩) (first
      | (go_at_call 25; (with_reducible refine (Hca.out _ (Hrda.out _ hB) (HT.out _ hB)).mono ?_); rintro e wq ⟨rfl, hwq⟩; have hB := hB.trans (hwq.mono hB.size); have hA := blk_kept hA hwq; have hC := blk_kept hC hwq; have hS := blk_kept hS hwq; have hx := Rd.below hx hwq)
      | (go_at_call 25; (with_reducible refine (Hcb.out _ (Hrdb.out _ hB) (HT.out _ hB)).mono ?_); rintro e wq ⟨rfl, hwq⟩; have hB := hB.trans (hwq.mono hB.size); have hA := blk_kept hA hwq; have hC := blk_kept hC hwq; have hS := blk_kept hS hwq; have hx := Rd.below hx hwq))
    all_goals go_wp2_with fail
    all_goals go_meet
    all_goals refine ⟨?_, hB, hA, hC, hS, hx⟩
    all_goals first | rfl | (congr 1; omega)
  case rest =>
    obtain ⟨rfl, hB, hA, hC, hS, hx⟩ := hcut
    clear hsm
    have i0 := blk_cell hA 0; have i1 := blk_cell hA 1; have i2 := blk_cell hA 2; have i3 := blk_cell hA 3; simp only [List.getElem?_toArray, List.getElem?_cons_zero, List.getElem?_cons_succ] at i0 i1 i2 i3
    have j0 := blk_cell hC 0; have j1 := blk_cell hC 1; have j2 := blk_cell hC 2; have j3 := blk_cell hC 3; simp only [List.getElem?_toArray, List.getElem?_cons_zero, List.getElem?_cons_succ] at j0 j1 j2 j3
    have k0 := blk_cell hS 0; have k1 := blk_cell hS 1; have k2 := blk_cell hS 2; have k3 := blk_cell hS 3; simp only [List.getElem?_toArray, List.getElem?_cons_zero, List.getElem?_cons_succ] at k0 k1 k2 k3
    go_wp2
    have hA := blk_drew hA
    have hC := blk_drew hC
    have hS := blk_drew hS
    have hx := Rd.below hx (Below.refl _ _).drew
    have hB := hB.drew
    go_region_held3 (fun W => W.cell? ⟨w.heap.size, 0, none⟩ = some (.int .i64 aw) ∧ W.cell? ⟨w.heap.size, 1, none⟩ = some (.int .i64 ar) ∧ W.cell? ⟨w.heap.size, 2, none⟩ = some (.int .i64 ad) ∧ W.cell? ⟨w.heap.size, 3, none⟩ = some (.slice x la capa) ∧ W.cell? ⟨(w.heap.size + 1), 0, none⟩ = some (.int .i64 aw) ∧ W.cell? ⟨(w.heap.size + 1), 1, none⟩ = some (.int .i64 ar) ∧ W.cell? ⟨(w.heap.size + 1), 2, none⟩ = some (.int .i64 bd) ∧ W.cell? ⟨(w.heap.size + 1), 3, none⟩ = some (.slice y lb capb) ∧ W.cell? ⟨w3.heap.size, 0, none⟩ = some (.int .i64 mw) ∧ W.cell? ⟨w3.heap.size, 1, none⟩ = some (.int .i64 mr) ∧ W.cell? ⟨w3.heap.size, 2, none⟩ = some (.int .i64 (ad + bd)) ∧ W.cell? ⟨w3.heap.size, 3, none⟩ = some (.slice (some ⟨g1, 0, none⟩) mc.length cap1)) (exact ⟨blk_cell hA 0, blk_cell hA 1, blk_cell hA 2, blk_cell hA 3, blk_cell hC 0, blk_cell hC 1, blk_cell hC 2, blk_cell hC 3, blk_cell hS 0, blk_cell hS 1, blk_cell hS 2, blk_cell hS 3⟩) (first
      | (go_at_call 19; (with_reducible refine (ssane_any _ (HT.out _ hB)).mono ?_); rintro e wq ⟨rfl, hwq⟩; have hB := hB.trans (hwq.mono hB.size); have hA := blk_kept hA hwq; have hC := blk_kept hC hwq; have hS := blk_kept hS hwq; have hx := Rd.below hx hwq)
      | (go_at_call 25; (with_reducible refine (Hcc.out _ _ hx (HT.out _ hB)).mono ?_); rintro e wq ⟨rfl, hwq⟩; have hB := hB.trans (hwq.mono hB.size); have hA := blk_kept hA hwq; have hC := blk_kept hC hwq; have hS := blk_kept hS hwq; have hx := Rd.below hx hwq)
      | (go_at_call 31; (with_reducible refine (Hfc.out _ _ hx).mono ?_); rintro e wq ⟨rfl, hwq⟩; have hB := hB.trans (hwq.mono hB.size); have hA := blk_kept hA hwq; have hC := blk_kept hC hwq; have hS := blk_kept hS hwq; have hx := Rd.below hx hwq)
      | (go_at_call 31; (with_reducible refine (Hfa.out _ (Hrda.out _ hB)).mono ?_); rintro e wq ⟨rfl, hwq⟩; have hB := hB.trans (hwq.mono hB.size); have hA := blk_kept hA hwq; have hC := blk_kept hC hwq; have hS := blk_kept hS hwq; have hx := Rd.below hx hwq)
      | (go_at_call 31; (with_reducible refine (Hfb.out _ (Hrdb.out _ hB)).mono ?_); rintro e wq ⟨rfl, hwq⟩; have hB := hB.trans (hwq.mono hB.size); have hA := blk_kept hA hwq; have hC := blk_kept hC hwq; have hS := blk_kept hS hwq; have hx := Rd.below hx hwq))
    all_goals go_wp2
    all_goals go_ret
    all_goals exact ⟨rfl, hB⟩
theorem lawboth_any (a b : Sk.K) (va vb : Value) (key : List UInt8) (w : World) (hra : Rd mkI w va a.c) (hrb : Rd mkI w vb b.c) (hla : a.c.length ≤ maxLen) (hlb : b.c.length ≤ maxLen) (hT : TabC w) :
    Calls Tryd.prog 9 #[skV a va, skV b vb, .string ⟨key.toArray⟩] w fun e w' => e = .returned (.bool true) ∧ Below w.heap.size w w' := by
  by_cases h0 : 300 < a.c.length
  · exact both_bigA a b va vb key w hra hrb hla hlb hT h0
  by_cases h1 : 300 < b.c.length
  · exact both_bigB a b va vb key w hra hrb hla hlb hT h0 h1
  by_cases h2 : 100 < key.length
  · exact both_key a b va vb key w hra hrb hla hlb hT h0 h1 h2
  cases ha : Sk.okB a with
  | false => exact both_badA a b va vb key w hra hrb hla hlb hT h0 h1 h2 ha
  | true =>
    cases hb : Sk.okB b with
    | false => exact both_badB a b va vb key w hra hrb hla hlb hT h0 h1 h2 ha hb
    | true =>
      have ha := (Sk.okB_iff a).1 ha
      have hb := (Sk.okB_iff b).1 hb
      by_cases hw : a.w = b.w
      case neg => exact both_errW a b va vb key w hra hrb hla hlb hT h0 h1 h2 ha hb hw
      by_cases hs : a.s = b.s
      case neg => exact both_errS a b va vb key w hra hrb hla hlb hT h0 h1 h2 ha hb hw hs
      by_cases hh : a.s ≤ a.a + b.a
      · exact both_half a b va vb key w hra hrb hla hlb hT h0 h1 h2 ha hb hw hs hh
      · exact both_plain a b va vb key w hra hrb hla hlb hT h0 h1 h2 ha hb hw hs hh
end Go.Proofs.YtbgieephehfgpabDoor
