/-
  The function of the law SketchMergesAsSpecified returns true. Condition: the table is as the program's text lays it.
-/
import Derived.Test.YtbgieephehfgpabDoorJB8
namespace Go.Proofs.YtbgieephehfgpabDoor
open Go Go.RowKit
theorem rd_nil0 (w : World) : Rd mkI w (.slice none 0 0) [] := ⟨none, 0, rfl, by simp, .inl rfl⟩
/-- the program's Merge, in both orders, and the reference's make the same, and the same error -/
theorem merge_both (a b : Sk.K) (ha : Sk.Ok a) (hb : Sk.Ok b) : ∃ (m : Sk.K) (er : Int), m.c.length ≤ 1000000000 ∧
    (∀ (va vb : Value) (W : World), Rd mkI W va a.c → Rd mkI W vb b.c → Calls Tryd.prog 27 #[skV a va, skV b vb] W fun e w' => (∃ x cap, e = .returned (.tuple #[.agg #[.int .i64 m.w, .int .i64 m.s, .int .i64 m.a, .slice x m.c.length cap], .int .i64 er]) ∧ Rd mkI w' (.slice x m.c.length cap) m.c) ∧ Below W.heap.size W w') ∧
    (∀ (va vb : Value) (W : World), Rd mkI W va a.c → Rd mkI W vb b.c → Calls Tryd.prog 27 #[skV b vb, skV a va] W fun e w' => (∃ x cap, e = .returned (.tuple #[.agg #[.int .i64 m.w, .int .i64 m.s, .int .i64 m.a, .slice x m.c.length cap], .int .i64 er]) ∧ Rd mkI w' (.slice x m.c.length cap) m.c) ∧ Below W.heap.size W w') ∧
    (∀ (va vb : Value) (W : World), Rd mkI W va a.c → Rd mkI W vb b.c → Calls Tryd.prog 28 #[skV a va, skV b vb] W fun e w' => (∃ x cap, e = .returned (.agg #[.int .i64 m.w, .int .i64 m.s, .int .i64 m.a, .slice x m.c.length cap, .int .i64 er]) ∧ Rd mkI w' (.slice x m.c.length cap) m.c) ∧ Below W.heap.size W w') := by
  by_cases h : a.w = b.w ∧ a.s = b.s
  · obtain ⟨hw, hs⟩ := h
    have hml := Sk.mrg_len a.c b.c (by have h1 := ha.clen; have h2 := hb.clen; have : b.n = a.n := by { unfold Sk.K.n; rw [hw] }; omega)
    have hlen : (Sk.K.mrg a b).c.length ≤ 1000000000 := by
      have h9 := ha.len9
      have h8 : (Sk.K.mrg a b).c.length = a.c.length := by
        unfold Sk.K.mrg
        split
        · show (Sk.half (Sk.mrg a.c b.c)).length = _
          rw [Sk.half_len, hml]
        · exact hml
      omega
    refine ⟨Sk.K.mrg a b, 0, hlen, fun va vb W h1 h2 => (merge_lit a b ha hb hw hs va vb W h1 h2).mono fun e w' ⟨g, cap, he, ho, hB⟩ => ⟨⟨_, cap, he, ownOf_rd ho⟩, hB⟩, fun va vb W h1 h2 => ?_, fun va vb W h1 h2 => (rmerge_lit a b ha hb hw hs va vb W h1 h2).mono fun e w' ⟨g, cap, he, ho, hB⟩ => ⟨⟨_, cap, he, ownOf_rd ho⟩, hB⟩⟩
    rw [Sk.mrg_commK a b hw hs]
    exact (merge_lit b a hb ha hw.symm hs.symm vb va W h2 h1).mono fun e w' ⟨g, cap, he, ho, hB⟩ => ⟨⟨_, cap, he, ownOf_rd ho⟩, hB⟩
  · have hd : a.w ≠ b.w ∨ (a.w = b.w ∧ a.s ≠ b.s) := by
      by_cases h1 : a.w = b.w
      · exact .inr ⟨h1, fun h2 => h ⟨h1, h2⟩⟩
      · exact .inl h1
    have hd2 : b.w ≠ a.w ∨ (b.w = a.w ∧ b.s ≠ a.s) := by
      rcases hd with h1 | ⟨h1, h2⟩
      · exact .inl fun e => h1 e.symm
      · exact .inr ⟨h1.symm, fun e => h2 e.symm⟩
    refine ⟨⟨0, 0, 0, []⟩, 1, by simp, fun va vb W ⟨x, cx, h1, _⟩ ⟨y, cy, h2, _⟩ => ?_, fun va vb W ⟨x, cx, h1, _⟩ ⟨y, cy, h2, _⟩ => ?_, fun va vb W ⟨x, cx, h1, _⟩ ⟨y, cy, h2, _⟩ => ?_⟩
    · exact (merge_err a b hd va vb x y _ _ cx cy h1 h2 W).mono fun e w' ⟨he, hB⟩ => ⟨⟨none, 0, he, rd_nil0 _⟩, hB⟩
    · exact (merge_err b a hd2 vb va y x _ _ cy cx h2 h1 W).mono fun e w' ⟨he, hB⟩ => ⟨⟨none, 0, he, rd_nil0 _⟩, hB⟩
    · exact (rmerge_err a b hd va vb x y _ _ cx cy h1 h2 W).mono fun e w' ⟨he, hB⟩ => ⟨⟨none, 0, he, rd_nil0 _⟩, hB⟩
set_option maxRecDepth 100000 in
set_option maxHeartbeats 8000000 in
theorem merges_bigA (a b : Sk.K) (va vb : Value) (w : World) (hra : Rd mkI w va a.c) (hrb : Rd mkI w vb b.c) (hla : a.c.length ≤ maxLen) (hlb : b.c.length ≤ maxLen) (hT : TabC w) (h : 300 < a.c.length) :
    Calls Tryd.prog 8 #[skV a va, skV b vb] w fun e w' => e = .returned (.bool true) ∧ Below w.heap.size w w' := by
  unfold maxLen at hla hlb
  obtain ⟨x, capa, rfl, hcapa, hcasea⟩ := hra
  obtain ⟨y, capb, rfl, hcapb, hcaseb⟩ := hrb
  clear hcasea hcaseb
  obtain ⟨aw, ar, ad, ac⟩ := a
  obtain ⟨bw, br, bd, bc⟩ := b
  dsimp only at *
  have d0 : decide ((300 : Int) < (ac.length : Int)) = true := by simp; omega
  have hB0 : Below w.heap.size w ((w.alloc (.cells #[.int .i64 aw, .int .i64 ar, .int .i64 ad, .slice x ac.length capa] 38)).alloc (.cells #[.int .i64 bw, .int .i64 br, .int .i64 bd, .slice y bc.length capb] 38)) := below_al (below_alloc1 w _) _
  have ha0 := blk_alloc (blk_new w #[.int .i64 aw, .int .i64 ar, .int .i64 ad, .slice x ac.length capa] 38) (.cells #[.int .i64 bw, .int .i64 br, .int .i64 bd, .slice y bc.length capb] 38)
  have hb0 := blk_new2 w (.cells #[.int .i64 aw, .int .i64 ar, .int .i64 ad, .slice x ac.length capa] 38) #[.int .i64 bw, .int .i64 br, .int .i64 bd, .slice y bc.length capb] 38
  generalize hL : ac.length = la at *
  generalize hM : bc.length = lb at *
  clear hL hM
  go_enter Tryd.func8, Tryd.ntmps8
  go_wp2_with (go_at_call 19; (with_reducible refine (ssane_any ((w.alloc (.cells #[.int .i64 aw, .int .i64 ar, .int .i64 ad, .slice x la capa] 38)).alloc (.cells #[.int .i64 bw, .int .i64 br, .int .i64 bd, .slice y lb capb] 38)) (hT.below hB0)).mono ?_); rintro e w1 ⟨rfl, hw1⟩; have hB1 := hB0.trans (hw1.mono hB0.size))
  go_ret
  exact ⟨rfl, hB1⟩
set_option maxRecDepth 100000 in
set_option maxHeartbeats 8000000 in
theorem merges_bigB (a b : Sk.K) (va vb : Value) (w : World) (hra : Rd mkI w va a.c) (hrb : Rd mkI w vb b.c) (hla : a.c.length ≤ maxLen) (hlb : b.c.length ≤ maxLen) (hT : TabC w) (h0 : ¬ 300 < a.c.length) (h : 300 < b.c.length) :
    Calls Tryd.prog 8 #[skV a va, skV b vb] w fun e w' => e = .returned (.bool true) ∧ Below w.heap.size w w' := by
  unfold maxLen at hla hlb
  obtain ⟨x, capa, rfl, hcapa, hcasea⟩ := hra
  obtain ⟨y, capb, rfl, hcapb, hcaseb⟩ := hrb
  clear hcasea hcaseb
  obtain ⟨aw, ar, ad, ac⟩ := a
  obtain ⟨bw, br, bd, bc⟩ := b
  dsimp only at *
  have d0 : decide ((300 : Int) < (ac.length : Int)) = false := by simp; omega
  have d1 : decide ((300 : Int) < (bc.length : Int)) = true := by simp; omega
  have hB0 : Below w.heap.size w ((w.alloc (.cells #[.int .i64 aw, .int .i64 ar, .int .i64 ad, .slice x ac.length capa] 38)).alloc (.cells #[.int .i64 bw, .int .i64 br, .int .i64 bd, .slice y bc.length capb] 38)) := below_al (below_alloc1 w _) _
  have ha0 := blk_alloc (blk_new w #[.int .i64 aw, .int .i64 ar, .int .i64 ad, .slice x ac.length capa] 38) (.cells #[.int .i64 bw, .int .i64 br, .int .i64 bd, .slice y bc.length capb] 38)
  have hb0 := blk_new2 w (.cells #[.int .i64 aw, .int .i64 ar, .int .i64 ad, .slice x ac.length capa] 38) #[.int .i64 bw, .int .i64 br, .int .i64 bd, .slice y bc.length capb] 38
  generalize hL : ac.length = la at *
  generalize hM : bc.length = lb at *
  clear hL hM
  go_enter Tryd.func8, Tryd.ntmps8
  go_wp2_with (go_at_call 19; (with_reducible refine (ssane_any ((w.alloc (.cells #[.int .i64 aw, .int .i64 ar, .int .i64 ad, .slice x la capa] 38)).alloc (.cells #[.int .i64 bw, .int .i64 br, .int .i64 bd, .slice y lb capb] 38)) (hT.below hB0)).mono ?_); rintro e w1 ⟨rfl, hw1⟩; have hB1 := hB0.trans (hw1.mono hB0.size))
  go_ret
  exact ⟨rfl, hB1⟩
set_option maxRecDepth 100000 in
set_option maxHeartbeats 8000000 in
theorem merges_badA (a b : Sk.K) (va vb : Value) (w : World) (hra : Rd mkI w va a.c) (hrb : Rd mkI w vb b.c) (hla : a.c.length ≤ maxLen) (hlb : b.c.length ≤ maxLen) (hT : TabC w) (h0 : ¬ 300 < a.c.length) (h1 : ¬ 300 < b.c.length) (h : Sk.okB a = false) :
    Calls Tryd.prog 8 #[skV a va, skV b vb] w fun e w' => e = .returned (.bool true) ∧ Below w.heap.size w w' := by
  unfold maxLen at hla hlb
  have hva := fun W (h : Rd mkI W va a.c) => rvalid_any a va W h (by unfold maxLen; exact hla)
  have hvb := fun W (h : Rd mkI W vb b.c) => rvalid_any b vb W h (by unfold maxLen; exact hlb)
  rw [h] at hva
  clear h hvb
  have Hva := Lib.hid hva
  clear hva
  have Hra := Lib.hid hra
  have Hrb := Lib.hid hrb
  have HT := Lib.hid (fun W (h : Below w.heap.size w W) => hT.below h)
  obtain ⟨x, capa, rfl, hcapa, hcasea⟩ := hra
  obtain ⟨y, capb, rfl, hcapb, hcaseb⟩ := hrb
  clear hcasea hcaseb
  have Hrda := Lib.hid (fun W (h : Below w.heap.size w W) => Rd.below Hra.out h)
  have Hrdb := Lib.hid (fun W (h : Below w.heap.size w W) => Rd.below Hrb.out h)
  obtain ⟨aw, ar, ad, ac⟩ := a
  obtain ⟨bw, br, bd, bc⟩ := b
  dsimp only at *
  have d0 : decide ((300 : Int) < (ac.length : Int)) = false := by simp; omega
  have d1 : decide ((300 : Int) < (bc.length : Int)) = false := by simp; omega
  have hB0 : Below w.heap.size w ((w.alloc (.cells #[.int .i64 aw, .int .i64 ar, .int .i64 ad, .slice x ac.length capa] 38)).alloc (.cells #[.int .i64 bw, .int .i64 br, .int .i64 bd, .slice y bc.length capb] 38)) := below_al (below_alloc1 w _) _
  have ha0 := blk_alloc (blk_new w #[.int .i64 aw, .int .i64 ar, .int .i64 ad, .slice x ac.length capa] 38) (.cells #[.int .i64 bw, .int .i64 br, .int .i64 bd, .slice y bc.length capb] 38)
  have hb0 := blk_new2 w (.cells #[.int .i64 aw, .int .i64 ar, .int .i64 ad, .slice x ac.length capa] 38) #[.int .i64 bw, .int .i64 br, .int .i64 bd, .slice y bc.length capb] 38
  generalize hL : ac.length = la at *
  generalize hM : bc.length = lb at *
  clear hL hM
  go_enter Tryd.func8, Tryd.ntmps8
  go_wp2_with (first
    | (go_at_call 18; (with_reducible refine (Hva.out ((w.alloc (.cells #[.int .i64 aw, .int .i64 ar, .int .i64 ad, .slice x la capa] 38)).alloc (.cells #[.int .i64 bw, .int .i64 br, .int .i64 bd, .slice y lb capb] 38)) (Hrda.out _ hB0)).mono ?_); rintro e w1 ⟨rfl, hw1⟩; have hB1 := hB0.trans (hw1.mono hB0.size); have ha1 := blk_kept ha0 hw1; have hb1 := blk_kept hb0 hw1; have p0 := blk_cell ha1 0; have p1 := blk_cell ha1 1; have p2 := blk_cell ha1 2; have p3 := blk_cell ha1 3; simp only [List.getElem?_toArray, List.getElem?_cons_zero, List.getElem?_cons_succ] at p0 p1 p2 p3; have s0 := blk_cell hb1 0; have s1 := blk_cell hb1 1; have s2 := blk_cell hb1 2; have s3 := blk_cell hb1 3; simp only [List.getElem?_toArray, List.getElem?_cons_zero, List.getElem?_cons_succ] at s0 s1 s2 s3)
    | (go_at_call 19; (with_reducible refine (ssane_any w1 (HT.out _ hB1)).mono ?_); rintro e w5 ⟨rfl, hw5⟩; have hB5 := hB1.trans (hw5.mono hB1.size)))
  go_ret
  exact ⟨rfl, hB5⟩
set_option maxRecDepth 100000 in
set_option maxHeartbeats 8000000 in
theorem merges_badB (a b : Sk.K) (va vb : Value) (w : World) (hra : Rd mkI w va a.c) (hrb : Rd mkI w vb b.c) (hla : a.c.length ≤ maxLen) (hlb : b.c.length ≤ maxLen) (hT : TabC w) (h0 : ¬ 300 < a.c.length) (h1 : ¬ 300 < b.c.length) (h2 : Sk.okB a = true) (h : Sk.okB b = false) :
    Calls Tryd.prog 8 #[skV a va, skV b vb] w fun e w' => e = .returned (.bool true) ∧ Below w.heap.size w w' := by
  unfold maxLen at hla hlb
  have hva := fun W (h : Rd mkI W va a.c) => rvalid_any a va W h (by unfold maxLen; exact hla)
  have hvb := fun W (h : Rd mkI W vb b.c) => rvalid_any b vb W h (by unfold maxLen; exact hlb)
  rw [h2] at hva
  rw [h] at hvb
  clear h h2
  have Hva := Lib.hid hva
  clear hva
  have Hvb := Lib.hid hvb
  clear hvb
  have Hra := Lib.hid hra
  have Hrb := Lib.hid hrb
  have HT := Lib.hid (fun W (h : Below w.heap.size w W) => hT.below h)
  obtain ⟨x, capa, rfl, hcapa, hcasea⟩ := hra
  obtain ⟨y, capb, rfl, hcapb, hcaseb⟩ := hrb
  clear hcasea hcaseb
  have Hrda := Lib.hid (fun W (h : Below w.heap.size w W) => Rd.below Hra.out h)
  have Hrdb := Lib.hid (fun W (h : Below w.heap.size w W) => Rd.below Hrb.out h)
  obtain ⟨aw, ar, ad, ac⟩ := a
  obtain ⟨bw, br, bd, bc⟩ := b
  dsimp only at *
  have d0 : decide ((300 : Int) < (ac.length : Int)) = false := by simp; omega
  have d1 : decide ((300 : Int) < (bc.length : Int)) = false := by simp; omega
  have hB0 : Below w.heap.size w ((w.alloc (.cells #[.int .i64 aw, .int .i64 ar, .int .i64 ad, .slice x ac.length capa] 38)).alloc (.cells #[.int .i64 bw, .int .i64 br, .int .i64 bd, .slice y bc.length capb] 38)) := below_al (below_alloc1 w _) _
  have ha0 := blk_alloc (blk_new w #[.int .i64 aw, .int .i64 ar, .int .i64 ad, .slice x ac.length capa] 38) (.cells #[.int .i64 bw, .int .i64 br, .int .i64 bd, .slice y bc.length capb] 38)
  have hb0 := blk_new2 w (.cells #[.int .i64 aw, .int .i64 ar, .int .i64 ad, .slice x ac.length capa] 38) #[.int .i64 bw, .int .i64 br, .int .i64 bd, .slice y bc.length capb] 38
  generalize hL : ac.length = la at *
  generalize hM : bc.length = lb at *
  clear hL hM
  go_enter Tryd.func8, Tryd.ntmps8
  go_wp2_with (first
    | (go_at_call 18; (with_reducible refine (Hva.out ((w.alloc (.cells #[.int .i64 aw, .int .i64 ar, .int .i64 ad, .slice x la capa] 38)).alloc (.cells #[.int .i64 bw, .int .i64 br, .int .i64 bd, .slice y lb capb] 38)) (Hrda.out _ hB0)).mono ?_); rintro e w1 ⟨rfl, hw1⟩; have hB1 := hB0.trans (hw1.mono hB0.size); have ha1 := blk_kept ha0 hw1; have hb1 := blk_kept hb0 hw1; have p0 := blk_cell ha1 0; have p1 := blk_cell ha1 1; have p2 := blk_cell ha1 2; have p3 := blk_cell ha1 3; simp only [List.getElem?_toArray, List.getElem?_cons_zero, List.getElem?_cons_succ] at p0 p1 p2 p3; have s0 := blk_cell hb1 0; have s1 := blk_cell hb1 1; have s2 := blk_cell hb1 2; have s3 := blk_cell hb1 3; simp only [List.getElem?_toArray, List.getElem?_cons_zero, List.getElem?_cons_succ] at s0 s1 s2 s3)
    | (go_at_call 18; (with_reducible refine (Hvb.out w1 (Hrdb.out _ hB1)).mono ?_); rintro e w2 ⟨rfl, hw2⟩; have hB2 := hB1.trans (hw2.mono hB1.size); have ha2 := blk_kept ha1 hw2; have hb2 := blk_kept hb1 hw2; have u0 := blk_cell ha2 0; have u1 := blk_cell ha2 1; have u2 := blk_cell ha2 2; have u3 := blk_cell ha2 3; simp only [List.getElem?_toArray, List.getElem?_cons_zero, List.getElem?_cons_succ] at u0 u1 u2 u3; have v0 := blk_cell hb2 0; have v1 := blk_cell hb2 1; have v2 := blk_cell hb2 2; have v3 := blk_cell hb2 3; simp only [List.getElem?_toArray, List.getElem?_cons_zero, List.getElem?_cons_succ] at v0 v1 v2 v3)
    | (go_at_call 19; (with_reducible refine (ssane_any w2 (HT.out _ hB2)).mono ?_); rintro e w5 ⟨rfl, hw5⟩; have hB5 := hB2.trans (hw5.mono hB2.size)))
  go_ret
  exact ⟨rfl, hB5⟩
set_option maxRecDepth 100000 in
set_option maxHeartbeats 8000000 in
theorem merges_good (a b : Sk.K) (va vb : Value) (w : World) (hra : Rd mkI w va a.c) (hrb : Rd mkI w vb b.c) (hla : a.c.length ≤ maxLen) (hlb : b.c.length ≤ maxLen) (hT : TabC w) (h0 : ¬ 300 < a.c.length) (h1 : ¬ 300 < b.c.length) (ha : Sk.Ok a) (hb : Sk.Ok b) :
    Calls Tryd.prog 8 #[skV a va, skV b vb] w fun e w' => e = .returned (.bool true) ∧ Below w.heap.size w w' := by
  unfold maxLen at hla hlb
  have hva := fun W (h : Rd mkI W va a.c) => rvalid_any a va W h (by unfold maxLen; exact hla)
  have hvb := fun W (h : Rd mkI W vb b.c) => rvalid_any b vb W h (by unfold maxLen; exact hlb)
  rw [(Sk.okB_iff a).2 ha] at hva
  rw [(Sk.okB_iff b).2 hb] at hvb
  obtain ⟨m, er, hml, hm1, hm2, hm3⟩ := merge_both a b ha hb
  have hm1 := fun W (h1 : Rd mkI W va a.c) (h2 : Rd mkI W vb b.c) => hm1 va vb W h1 h2
  have hm2 := fun W (h1 : Rd mkI W va a.c) (h2 : Rd mkI W vb b.c) => hm2 va vb W h1 h2
  have hm3 := fun W (h1 : Rd mkI W va a.c) (h2 : Rd mkI W vb b.c) => hm3 va vb W h1 h2
  have hsame := fun va vb W (h1 : Rd mkI W va m.c) (h2 : Rd mkI W vb m.c) => same_true m va vb W h1 h2 hml
  have hsameH := fun va vb W (h1 : Rd mkI W va a.half.c) (h2 : Rd mkI W vb a.half.c) => same_true a.half va vb W h1 h2 (by show (Sk.half a.c).length ≤ _; rw [Sk.half_len]; exact ha.len9)
  have hh1 := fun W (h : Rd mkI W va a.c) => halve_lit a ha va W h
  have hh2 := fun W (h : Rd mkI W va a.c) => rhalve_lit a ha va W h
  clear ha hb hml
  generalize a.half = p at *
  have Hva := Lib.hid hva
  clear hva
  have Hvb := Lib.hid hvb
  clear hvb
  have Qm1 := Lib.hid hm1
  clear hm1
  have Qm2 := Lib.hid hm2
  clear hm2
  have Qm3 := Lib.hid hm3
  clear hm3
  have Qsame := Lib.hid hsame
  clear hsame
  have QsameH := Lib.hid hsameH
  clear hsameH
  have Qh1 := Lib.hid hh1
  clear hh1
  have Qh2 := Lib.hid hh2
  clear hh2
  have Hra := Lib.hid hra
  have Hrb := Lib.hid hrb
  have HT := Lib.hid (fun W (h : Below w.heap.size w W) => hT.below h)
  obtain ⟨x, capa, rfl, hcapa, hcasea⟩ := hra
  obtain ⟨y, capb, rfl, hcapb, hcaseb⟩ := hrb
  clear hcasea hcaseb
  have Hrda := Lib.hid (fun W (h : Below w.heap.size w W) => Rd.below Hra.out h)
  have Hrdb := Lib.hid (fun W (h : Below w.heap.size w W) => Rd.below Hrb.out h)
  obtain ⟨aw, ar, ad, ac⟩ := a
  obtain ⟨bw, br, bd, bc⟩ := b
  obtain ⟨mw, mr, md, mc⟩ := m
  obtain ⟨pw, pr, pd, pc⟩ := p
  dsimp only at *
  have d0 : decide ((300 : Int) < (ac.length : Int)) = false := by simp; omega
  have d1 : decide ((300 : Int) < (bc.length : Int)) = false := by simp; omega
  have hB0 : Below w.heap.size w ((w.alloc (.cells #[.int .i64 aw, .int .i64 ar, .int .i64 ad, .slice x ac.length capa] 38)).alloc (.cells #[.int .i64 bw, .int .i64 br, .int .i64 bd, .slice y bc.length capb] 38)) := below_al (below_alloc1 w _) _
  have ha0 := blk_alloc (blk_new w #[.int .i64 aw, .int .i64 ar, .int .i64 ad, .slice x ac.length capa] 38) (.cells #[.int .i64 bw, .int .i64 br, .int .i64 bd, .slice y bc.length capb] 38)
  have hb0 := blk_new2 w (.cells #[.int .i64 aw, .int .i64 ar, .int .i64 ad, .slice x ac.length capa] 38) #[.int .i64 bw, .int .i64 br, .int .i64 bd, .slice y bc.length capb] 38
  generalize hL : ac.length = la at *
  generalize hM : bc.length = lb at *
  generalize hN : mc.length = lm at *
  generalize hP : pc.length = lp at *
  clear hN hP
  clear hL hM
  go_enter Tryd.func8, Tryd.ntmps8
  go_wp2_with (first
    | (go_at_call 18; (with_reducible refine (Hva.out ((w.alloc (.cells #[.int .i64 aw, .int .i64 ar, .int .i64 ad, .slice x la capa] 38)).alloc (.cells #[.int .i64 bw, .int .i64 br, .int .i64 bd, .slice y lb capb] 38)) (Hrda.out _ hB0)).mono ?_); rintro e w1 ⟨rfl, hw1⟩; have hB1 := hB0.trans (hw1.mono hB0.size); have ha1 := blk_kept ha0 hw1; have hb1 := blk_kept hb0 hw1; have p0 := blk_cell ha1 0; have p1 := blk_cell ha1 1; have p2 := blk_cell ha1 2; have p3 := blk_cell ha1 3; simp only [List.getElem?_toArray, List.getElem?_cons_zero, List.getElem?_cons_succ] at p0 p1 p2 p3; have s0 := blk_cell hb1 0; have s1 := blk_cell hb1 1; have s2 := blk_cell hb1 2; have s3 := blk_cell hb1 3; simp only [List.getElem?_toArray, List.getElem?_cons_zero, List.getElem?_cons_succ] at s0 s1 s2 s3)
    | (go_at_call 18; (with_reducible refine (Hvb.out w1 (Hrdb.out _ hB1)).mono ?_); rintro e w2 ⟨rfl, hw2⟩; have hB2 := hB1.trans (hw2.mono hB1.size); have ha2 := blk_kept ha1 hw2; have hb2 := blk_kept hb1 hw2; have u0 := blk_cell ha2 0; have u1 := blk_cell ha2 1; have u2 := blk_cell ha2 2; have u3 := blk_cell ha2 3; simp only [List.getElem?_toArray, List.getElem?_cons_zero, List.getElem?_cons_succ] at u0 u1 u2 u3; have v0 := blk_cell hb2 0; have v1 := blk_cell hb2 1; have v2 := blk_cell hb2 2; have v3 := blk_cell hb2 3; simp only [List.getElem?_toArray, List.getElem?_cons_zero, List.getElem?_cons_succ] at v0 v1 v2 v3)
    | (go_at_call 27; (with_reducible refine (Qm1.out w2 (Hrda.out _ hB2) (Hrdb.out _ hB2)).mono ?_); rintro e w3 ⟨⟨x1, cap1, rfl, hx1⟩, hw3⟩; have hB3 := hB2.trans (hw3.mono hB2.size); have ha3 := blk_kept ha2 hw3; have hb3 := blk_kept hb2 hw3; have hS3 := blk_new w3 #[.int .i64 mw, .int .i64 mr, .int .i64 md, .slice x1 lm cap1] 38; have haA := blk_alloc ha3 (.cells #[.int .i64 mw, .int .i64 mr, .int .i64 md, .slice x1 lm cap1] 38); have hbA := blk_alloc hb3 (.cells #[.int .i64 mw, .int .i64 mr, .int .i64 md, .slice x1 lm cap1] 38); have i0 := blk_cell haA 0; have i1 := blk_cell haA 1; have i2 := blk_cell haA 2; have i3 := blk_cell haA 3; simp only [List.getElem?_toArray, List.getElem?_cons_zero, List.getElem?_cons_succ] at i0 i1 i2 i3; have j0 := blk_cell hbA 0; have j1 := blk_cell hbA 1; have j2 := blk_cell hbA 2; have j3 := blk_cell hbA 3; simp only [List.getElem?_toArray, List.getElem?_cons_zero, List.getElem?_cons_succ] at j0 j1 j2 j3)
    | (go_at_call 27; (with_reducible refine (Qm2.out (w3.alloc (.cells #[.int .i64 mw, .int .i64 mr, .int .i64 md, .slice x1 lm cap1] 38)) (Hrda.out _ (below_al hB3 _)) (Hrdb.out _ (below_al hB3 _))).mono ?_); rintro e w4 ⟨⟨x2, cap2, rfl, hx2⟩, hw4⟩; have hc4 := after1 hw4; have hB4 := hB3.trans (hc4.1.mono hB3.size); have ha4 := blk_kept ha3 hc4.1; have hb4 := blk_kept hb3 hc4.1; have hx1 := Rd.below hx1 hc4.1; have hS4 := hc4.2.1; have hU4 := blk_new w4 #[.int .i64 mw, .int .i64 mr, .int .i64 md, .slice x2 lm cap2] 38; have haB := blk_alloc ha4 (.cells #[.int .i64 mw, .int .i64 mr, .int .i64 md, .slice x2 lm cap2] 38); have hbB := blk_alloc hb4 (.cells #[.int .i64 mw, .int .i64 mr, .int .i64 md, .slice x2 lm cap2] 38); have k0 := blk_cell haB 0; have k1 := blk_cell haB 1; have k2 := blk_cell haB 2; have k3 := blk_cell haB 3; simp only [List.getElem?_toArray, List.getElem?_cons_zero, List.getElem?_cons_succ] at k0 k1 k2 k3; have l0 := blk_cell hbB 0; have l1 := blk_cell hbB 1; have l2 := blk_cell hbB 2; have l3 := blk_cell hbB 3; simp only [List.getElem?_toArray, List.getElem?_cons_zero, List.getElem?_cons_succ] at l0 l1 l2 l3)
    | (go_at_call 28; (with_reducible refine (Qm3.out (w4.alloc (.cells #[.int .i64 mw, .int .i64 mr, .int .i64 md, .slice x2 lm cap2] 38)) (Hrda.out _ (below_al hB4 _)) (Hrdb.out _ (below_al hB4 _))).mono ?_); rintro e w5 ⟨⟨x3, cap3, rfl, hx3⟩, hw5⟩; have hc5 := after1 hw5; have hB5 := hB4.trans (hc5.1.mono hB4.size); have ha5 := blk_kept ha4 hc5.1; have hb5 := blk_kept hb4 hc5.1; have hx1 := Rd.below hx1 hc5.1; have hx2 := Rd.below hx2 hc5.1; have hS5 := blk_kept hS4 hc5.1; have hU5 := hc5.2.1; have hV5 := blk_new w5 #[.int .i64 mw, .int .i64 mr, .int .i64 md, .slice x3 lm cap3, .int .i64 er] 57))
  have hB : Below w.heap.size w (w5.alloc (.cells #[.int .i64 mw, .int .i64 mr, .int .i64 md, .slice x3 lm cap3, .int .i64 er] 57)).drew := (below_al hB5 _).drew
  have hA : Blk (w5.alloc (.cells #[.int .i64 mw, .int .i64 mr, .int .i64 md, .slice x3 lm cap3, .int .i64 er] 57)).drew w.heap.size #[.int .i64 aw, .int .i64 ar, .int .i64 ad, .slice x la capa] 38 := blk_alloc ha5 _
  have hS : Blk (w5.alloc (.cells #[.int .i64 mw, .int .i64 mr, .int .i64 md, .slice x3 lm cap3, .int .i64 er] 57)).drew w3.heap.size #[.int .i64 mw, .int .i64 mr, .int .i64 md, .slice x1 lm cap1] 38 := blk_alloc hS5 _
  have hU : Blk (w5.alloc (.cells #[.int .i64 mw, .int .i64 mr, .int .i64 md, .slice x3 lm cap3, .int .i64 er] 57)).drew w4.heap.size #[.int .i64 mw, .int .i64 mr, .int .i64 md, .slice x2 lm cap2] 38 := blk_alloc hU5 _
  have hV : Blk (w5.alloc (.cells #[.int .i64 mw, .int .i64 mr, .int .i64 md, .slice x3 lm cap3, .int .i64 er] 57)).drew w5.heap.size #[.int .i64 mw, .int .i64 mr, .int .i64 md, .slice x3 lm cap3, .int .i64 er] 57 := hV5
  have hB5' : Below w5.heap.size w5 (w5.alloc (.cells #[.int .i64 mw, .int .i64 mr, .int .i64 md, .slice x3 lm cap3, .int .i64 er] 57)).drew := (below_alloc1 w5 _).drew
  have hx1 := Rd.below hx1 hB5'
  have hx2 := Rd.below hx2 hB5'
  have hx3 := Rd.below hx3 hB5'
  clear hB5 ha5 hb5 hS5 hU5 hV5 hB5' hB4 ha4 hb4 hS4 hU4 hB3 ha3 hb3 hS3 haA hbA haB hbB
  go_region_held3 (fun W => W.cell? ⟨w.heap.size, 0, none⟩ = some (.int .i64 aw) ∧ W.cell? ⟨w.heap.size, 1, none⟩ = some (.int .i64 ar) ∧ W.cell? ⟨w.heap.size, 2, none⟩ = some (.int .i64 ad) ∧ W.cell? ⟨w.heap.size, 3, none⟩ = some (.slice x la capa) ∧ W.cell? ⟨w3.heap.size, 0, none⟩ = some (.int .i64 mw) ∧ W.cell? ⟨w3.heap.size, 1, none⟩ = some (.int .i64 mr) ∧ W.cell? ⟨w3.heap.size, 2, none⟩ = some (.int .i64 md) ∧ W.cell? ⟨w3.heap.size, 3, none⟩ = some (.slice x1 lm cap1) ∧ W.cell? ⟨w4.heap.size, 0, none⟩ = some (.int .i64 mw) ∧ W.cell? ⟨w4.heap.size, 1, none⟩ = some (.int .i64 mr) ∧ W.cell? ⟨w4.heap.size, 2, none⟩ = some (.int .i64 md) ∧ W.cell? ⟨w4.heap.size, 3, none⟩ = some (.slice x2 lm cap2) ∧ W.cell? ⟨w5.heap.size, 0, none⟩ = some (.int .i64 mw) ∧ W.cell? ⟨w5.heap.size, 1, none⟩ = some (.int .i64 mr) ∧ W.cell? ⟨w5.heap.size, 2, none⟩ = some (.int .i64 md) ∧ W.cell? ⟨w5.heap.size, 3, none⟩ = some (.slice x3 lm cap3) ∧ W.cell? ⟨w5.heap.size, 4, none⟩ = some (.int .i64 er)) (exact ⟨blk_cell hA 0, blk_cell hA 1, blk_cell hA 2, blk_cell hA 3, blk_cell hS 0, blk_cell hS 1, blk_cell hS 2, blk_cell hS 3, blk_cell hU 0, blk_cell hU 1, blk_cell hU 2, blk_cell hU 3, blk_cell hV 0, blk_cell hV 1, blk_cell hV 2, blk_cell hV 3, blk_cell hV 4⟩) (first
    | (go_at_call 19; (with_reducible refine (ssane_any _ (HT.out _ hB)).mono ?_); rintro e wq ⟨rfl, hwq⟩; have hB := hB.trans (hwq.mono hB.size); have hA := blk_kept hA hwq; have hS := blk_kept hS hwq; have hU := blk_kept hU hwq; have hV := blk_kept hV hwq; have hx1 := Rd.below hx1 hwq; have hx2 := Rd.below hx2 hwq; have hx3 := Rd.below hx3 hwq)
    | (go_at_call 21; (with_reducible refine (Qsame.out _ _ _ hx1 hx3).mono ?_); rintro e wq ⟨rfl, hwq⟩; have hB := hB.trans (hwq.mono hB.size); have hA := blk_kept hA hwq; have hS := blk_kept hS hwq; have hU := blk_kept hU hwq; have hV := blk_kept hV hwq; have hx1 := Rd.below hx1 hwq; have hx2 := Rd.below hx2 hwq; have hx3 := Rd.below hx3 hwq)
    | (go_at_call 21; (with_reducible refine (Qsame.out _ _ _ hx1 hx2).mono ?_); rintro e wq ⟨rfl, hwq⟩; have hB := hB.trans (hwq.mono hB.size); have hA := blk_kept hA hwq; have hS := blk_kept hS hwq; have hU := blk_kept hU hwq; have hV := blk_kept hV hwq; have hx1 := Rd.below hx1 hwq; have hx2 := Rd.below hx2 hwq; have hx3 := Rd.below hx3 hwq)
    | (go_at_call 21; (with_reducible refine (QsameH.out _ _ _ hx5 hx6).mono ?_); rintro e wq ⟨rfl, hwq⟩; have hB := hB.trans (hwq.mono hB.size); have hA := blk_kept hA hwq; have hS := blk_kept hS hwq; have hU := blk_kept hU hwq; have hV := blk_kept hV hwq; have hx1 := Rd.below hx1 hwq; have hx2 := Rd.below hx2 hwq; have hx3 := Rd.below hx3 hwq)
    | (go_at_call 29; (with_reducible refine (Qh1.out _ (Hrda.out _ hB)).mono ?_); rintro e wq ⟨g5, cap5, rfl, hown5, hwq⟩; have hx5 := ownOf_rd hown5; (try have hx6 := Rd.below hx6 hwq); have hB := hB.trans (hwq.mono hB.size); have hA := blk_kept hA hwq; have hS := blk_kept hS hwq; have hU := blk_kept hU hwq; have hV := blk_kept hV hwq; have hx1 := Rd.below hx1 hwq; have hx2 := Rd.below hx2 hwq; have hx3 := Rd.below hx3 hwq)
    | (go_at_call 30; (with_reducible refine (Qh2.out _ (Hrda.out _ hB)).mono ?_); rintro e wq ⟨g6, cap6, rfl, hown6, hwq⟩; have hx6 := ownOf_rd hown6; (try have hx5 := Rd.below hx5 hwq); have hB := hB.trans (hwq.mono hB.size); have hA := blk_kept hA hwq; have hS := blk_kept hS hwq; have hU := blk_kept hU hwq; have hV := blk_kept hV hwq; have hx1 := Rd.below hx1 hwq; have hx2 := Rd.below hx2 hwq; have hx3 := Rd.below hx3 hwq))
  all_goals
    go_wp2
    go_ret
    exact ⟨rfl, hB⟩
theorem lawmerges_any (a b : Sk.K) (va vb : Value) (w : World) (hra : Rd mkI w va a.c) (hrb : Rd mkI w vb b.c) (hla : a.c.length ≤ maxLen) (hlb : b.c.length ≤ maxLen) (hT : TabC w) :
    Calls Tryd.prog 8 #[skV a va, skV b vb] w fun e w' => e = .returned (.bool true) ∧ Below w.heap.size w w' := by
  by_cases h0 : 300 < a.c.length
  · exact merges_bigA a b va vb w hra hrb hla hlb hT h0
  by_cases h1 : 300 < b.c.length
  · exact merges_bigB a b va vb w hra hrb hla hlb hT h0 h1
  cases ha : Sk.okB a with
  | false => exact merges_badA a b va vb w hra hrb hla hlb hT h0 h1 ha
  | true =>
    cases hb : Sk.okB b with
    | false => exact merges_badB a b va vb w hra hrb hla hlb hT h0 h1 ha hb
    | true => exact merges_good a b va vb w hra hrb hla hlb hT h0 h1 ((Sk.okB_iff a).1 ha) ((Sk.okB_iff b).1 hb)
end Go.Proofs.YtbgieephehfgpabDoor
