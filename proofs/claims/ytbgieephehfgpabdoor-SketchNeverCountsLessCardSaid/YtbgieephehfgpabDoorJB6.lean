/-
  Several texts of this proof in one: SkValid, SkAdd, RefSk, RefMrg. Each states its own conditions.
-/
import Derived.Test.YtbgieephehfgpabDoorJB5
import Derived.Deep.RegionLaw
import Derived.Deep.AppendLies
/-
  What the program's Fill, New and Valid return. Conditions: for Fill: the sketch is valid; for Valid: none beyond the size of an int.
-/
namespace Go.Proofs.YtbgieephehfgpabDoor
open Go Go.RowKit
theorem Sk.fill_take (c : List Int) (k : Nat) (x : Int) (h : c[k]? = some x) : Sk.fill (c.take (k + 1)) = Sk.fill (c.take k) + if x = 0 then 0 else 1 := by
  rw [List.take_add_one, h]
  exact Sk.fill_snoc _ _
set_option maxRecDepth 100000 in
set_option maxHeartbeats 2000000 in
theorem fill_any (kw ks ka : Int) (c : List Int) (v : Value) (w : World) (hr : Rd mkI w v c) (hlen : c.length ≤ 1000000000) (h0 : c ≠ []) :
    Calls Tryd.prog 31 #[.agg #[.int .i64 kw, .int .i64 ks, .int .i64 ka, v]] w fun e w' => e = .returned (.int .i64 (Sk.fill c : Int)) ∧ Below w.heap.size w w' := by
  obtain ⟨g, off, cap, rfl, _, hg, hc⟩ := rd_parts hr h0
  have hfl := fun k (hk : k ≤ c.length) => Nat.le_trans (Sk.fill_le (c.take k)) (by rw [List.length_take]; exact Nat.min_le_left k c.length : (c.take k).length ≤ k)
  have hst := Sk.fill_take c
  have Hc := Lib.hid hc
  have Hfl := Lib.hid hfl
  have Hst := Lib.hid hst
  have H0 := Lib.hid h0
  have hB := below_alloc1 w (.cells #[.int .i64 kw, .int .i64 ks, .int .i64 ka, .slice (some ⟨g, off, none⟩) c.length cap] 38)
  have Hcw : Hid (∀ i x, c[i]? = some x → (w.alloc (.cells #[.int .i64 kw, .int .i64 ks, .int .i64 ka, .slice (some ⟨g, off, none⟩) c.length cap] 38)).cell? ⟨g, off + i, none⟩ = some (.int .i64 x)) := Lib.hid fun i x hi => (hB.cell (p := ⟨g, off + i, none⟩) hg).trans (hc i x hi)
  have HB := Lib.hid hB
  clear hc hfl hst hr h0 hB
  go_enter Tryd.func31, Tryd.ntmps31
  go_wp2
  generalize w.alloc (.cells #[.int .i64 kw, .int .i64 ks, .int .i64 ka, .slice (some ⟨g, off, none⟩) c.length cap] 38) = w1 at *
  go_loopw [3, 9] (fun n i wr => ∃ k : Nat, k ≤ c.length ∧ i = .int .i64 (k : Int) ∧ n = .int .i64 (Sk.fill (c.take k) : Int) ∧ w1 = wr) (fun _ i _ => c.length - (intOf i).toNat)
  case atStart => exact ⟨0, by omega, rfl, rfl, rfl⟩
  case round =>
    obtain ⟨k, hk, rfl, rfl, rfl⟩ := hrel
    by_cases hlt : k < c.length
    · obtain ⟨x, hx⟩ : ∃ x, c[k]? = some x := ⟨_, List.getElem?_eq_getElem hlt⟩
      have hcx := Hcw.out k x hx
      have hs2 := Hst.out k x hx
      have hfk := Hfl.out k hk
      have Hs2 := Lib.hid hs2
      clear hs2 hx
      generalize hq : Sk.fill (c.take k) = q at *
      clear hq
      by_cases hz : x = 0
      · subst hz
        go_wp2
        go_roundw
        case rel => exact ⟨k + 1, by omega, by go_num, by rw [Hs2.out]; simp, trivial⟩
        case measure => simp [intOf]; omega
      · have hne : (x != 0) = true := by simpa using hz
        have hne2 : (x == 0) = false := by simpa using hz
        go_wp2
        go_roundw
        case rel => exact ⟨k + 1, by omega, by go_num, by rw [Hs2.out, if_neg hz]; go_num, trivial⟩
        case measure => simp [intOf]; omega
    · obtain rfl : k = c.length := by omega
      rw [List.take_length]
      go_wp2
      go_ret
      exact ⟨rfl, HB.out⟩
/-- a sketch without counts -/
def Sk.new (n : Nat) (s : Int) : Sk.K := ⟨n, s, 0, List.replicate (4 * n) 0⟩
set_option maxRecDepth 100000 in
set_option maxHeartbeats 1000000 in
theorem new_arg (n s : Int) (w : World) (hn : n ≤ 9223372036854775807) (h : isPow n = false ∨ (isPow n = true ∧ s < 1)) :
    Calls Tryd.prog 23 #[.int .i64 n, .int .i64 s] w fun e w' => e = .returned (.tuple #[.agg #[.int .i64 0, .int .i64 0, .int .i64 0, .slice none 0 0], .int .i64 1]) ∧ Below w.heap.size w w' := by
  have hp := fun W => power_any n W hn
  have HB := Lib.hid (below_alloc1 w (.cells #[.int .i64 0, .int .i64 0, .int .i64 0, .slice none 0 0] 38))
  rcases h with h | ⟨h, hs⟩
  · rw [h] at hp
    have Hp := Lib.hid hp
    clear hp h
    go_enter Tryd.func23, Tryd.ntmps23
    go_wp2_with (go_at_call 58; (with_reducible refine (Hp.out _).mono ?_); rintro e w1 ⟨rfl, rfl⟩)
    exact bodyPost_ret (v := .tuple #[.agg #[.int .i64 0, .int .i64 0, .int .i64 0, .slice none 0 0], .int .i64 1]) (by simp [results, Tryd.results23, go_sem]) rfl ⟨rfl, HB.out⟩
  · rw [h] at hp
    have Hp := Lib.hid hp
    clear hp h
    have hd : decide (s < 1) = true := by simpa using hs
    go_enter Tryd.func23, Tryd.ntmps23
    go_wp2_with (go_at_call 58; (with_reducible refine (Hp.out _).mono ?_); rintro e w1 ⟨rfl, rfl⟩)
    exact bodyPost_ret (v := .tuple #[.agg #[.int .i64 0, .int .i64 0, .int .i64 0, .slice none 0 0], .int .i64 1]) (by simp [results, Tryd.results23, go_sem]) rfl ⟨rfl, HB.out⟩
set_option maxRecDepth 100000 in
set_option maxHeartbeats 1000000 in
theorem new_limit (n s : Int) (w : World) (hn : n ≤ 9223372036854775807) (hp1 : isPow n = true) (hs1 : 1 ≤ s) (h : 4096 < n ∨ (n ≤ 4096 ∧ 1048576 < s)) :
    Calls Tryd.prog 23 #[.int .i64 n, .int .i64 s] w fun e w' => e = .returned (.tuple #[.agg #[.int .i64 0, .int .i64 0, .int .i64 0, .slice none 0 0], .int .i64 2]) ∧ Below w.heap.size w w' := by
  have hp := fun W => power_any n W hn
  rw [hp1] at hp
  have Hp := Lib.hid hp
  clear hp hp1
  have HB := Lib.hid (below_alloc1 w (.cells #[.int .i64 0, .int .i64 0, .int .i64 0, .slice none 0 0] 38))
  have hd : decide (s < 1) = false := by simp; omega
  rcases h with h | ⟨h, h2⟩
  · have hd2 : decide (4096 < n) = true := by simpa using h
    go_enter Tryd.func23, Tryd.ntmps23
    go_wp2_with (go_at_call 58; (with_reducible refine (Hp.out _).mono ?_); rintro e w1 ⟨rfl, rfl⟩)
    exact bodyPost_ret (v := .tuple #[.agg #[.int .i64 0, .int .i64 0, .int .i64 0, .slice none 0 0], .int .i64 2]) (by simp [results, Tryd.results23, go_sem]) rfl ⟨rfl, HB.out⟩
  · have hd2 : decide (4096 < n) = false := by simp; omega
    have hd3 : decide (1048576 < s) = true := by simpa using h2
    go_enter Tryd.func23, Tryd.ntmps23
    go_wp2_with (go_at_call 58; (with_reducible refine (Hp.out _).mono ?_); rintro e w1 ⟨rfl, rfl⟩)
    exact bodyPost_ret (v := .tuple #[.agg #[.int .i64 0, .int .i64 0, .int .i64 0, .slice none 0 0], .int .i64 2]) (by simp [results, Tryd.results23, go_sem]) rfl ⟨rfl, HB.out⟩
set_option maxRecDepth 100000 in
set_option maxHeartbeats 1000000 in
theorem new_ok (n : Nat) (s : Int) (w : World) (hp1 : isPow (n : Int) = true) (hs1 : 1 ≤ s) (hn : n ≤ 4096) (hs2 : s ≤ 1048576) :
    Calls Tryd.prog 23 #[.int .i64 (n : Int), .int .i64 s] w fun e w' => (∃ v', e = .returned (.tuple #[skV (Sk.new n s) v', .int .i64 0]) ∧ OwnI w' w.heap.size v' (Sk.new n s).c) ∧ Below w.heap.size w w' := by
  have hp := fun W => power_any (n : Int) W (by omega)
  rw [hp1] at hp
  have Hp := Lib.hid hp
  have hn1 := Sk.pow_pos hp1
  clear hp hp1
  have hd : decide (s < 1) = false := by simp; omega
  have hd2 : decide (4096 < (n : Int)) = false := by simp; omega
  have hd3 : decide (1048576 < s) = false := by simp; omega
  obtain ⟨m, hm⟩ : ∃ m, m = 4 * n := ⟨_, rfl⟩
  have hm4 : 4 * (n : Int) = (m : Int) := by omega
  have Hm := Lib.hid hm
  have hmb : m ≤ 16384 := by omega
  clear hm
  go_enter Tryd.func23, Tryd.ntmps23
  go_wp2_with (first
    | (go_at_call 58; (with_reducible refine (Hp.out _).mono ?_); rintro e w1 ⟨rfl, rfl⟩)
    | (at_make; refine wp_make (mk := mkI) Tryd.underlying36 info_int rfl (by decide) 0 rfl rfl (.tmp 26) (.tmp 26) rfl (w.heap.size + 1) .i64 .i64 _ _ m rfl rfl rfl rfl (by omega) (by simp) ?_; intro w2 hown2 hg2; have hk2 := hg2.kept _ _ (blk_new w _ _) (by omega); have hB2 := hg2.below _ _ (below_alloc1 w _) (by omega); have o0 := blk_cell hk2 0; have o1 := blk_cell hk2 1; have o2 := blk_cell hk2 2; have o3 := blk_cell hk2 3; have p0 := blk_free hk2 0; have p1 := blk_free hk2 1; have p2 := blk_free hk2 2; have p3 := blk_free hk2 3; simp only [List.getElem?_toArray, List.getElem?_cons_zero, List.getElem?_cons_succ] at o0 o1 o2 o3))
  rw [World.size_alloc] at hown2
  refine bodyPost_ret (v := .tuple #[.agg #[.int .i64 (n : Int), .int .i64 s, .int .i64 0, .slice (some ⟨w.heap.size + 1, 0, none⟩) m m], .int .i64 0]) (by simp [results, Tryd.results23, go_sem, o0, o1, o2, o3]) rfl ⟨⟨_, rfl, ?_⟩, ?_⟩
  · show OwnI _ _ _ (List.replicate (4 * n) 0)
    rw [← Hm.out]
    exact ownOf_mono (base := w.heap.size + 1) (ownOf_far (ownOf_far (ownOf_far (ownOf_far hown2 (by show w.heap.size < _; omega) _) (by show w.heap.size < _; omega) _) (by show w.heap.size < _; omega) _) (by show w.heap.size < _; omega) _) (by omega)
  · exact (Below.setCell (Below.setCell (Below.setCell (Below.setCell hB2 (p := ⟨w.heap.size, 0, none⟩) (by show w.heap.size ≤ w.heap.size; omega) _) (p := ⟨w.heap.size, 1, none⟩) (by show w.heap.size ≤ w.heap.size; omega) _) (p := ⟨w.heap.size, 2, none⟩) (by show w.heap.size ≤ w.heap.size; omega) _) (p := ⟨w.heap.size, 3, none⟩) (by show w.heap.size ≤ w.heap.size; omega) _)
/-- a cell that no valid sketch has -/
def Sk.bad (a x : Int) : Bool := decide (x < 0) || decide (15 < x) || decide (a < x)
set_option maxRecDepth 100000 in
set_option maxHeartbeats 1000000 in
theorem valid1_any (x a : Int) (bb : Nat) (w : World) (hb : w.cell? ⟨bb, 2, none⟩ = some (.int .i64 a)) :
    Calls Tryd.prog 63 #[.int .i64 x, .pointer (some ⟨bb, 0, none⟩)] w fun e w' => e = .returned (.bool (Sk.bad a x)) ∧ w = w' := by
  by_cases h1 : x < 0
  · have hr : Sk.bad a x = true := by simp [Sk.bad, h1]
    rw [hr]
    have hd : decide (x < 0) = true := by simpa using h1
    clear hr
    go_enter Tryd.func63, Tryd.ntmps63
    go_wp2
    go_ret
    exact ⟨rfl, rfl⟩
  · have hd : decide (x < 0) = false := by simpa using h1
    by_cases h2 : 15 < x
    · have hr : Sk.bad a x = true := by simp [Sk.bad, h2]
      rw [hr]
      have hd2 : decide (15 < x) = true := by simpa using h2
      clear hr
      go_enter Tryd.func63, Tryd.ntmps63
      go_wp2
      go_ret
      exact ⟨rfl, rfl⟩
    · have hd2 : decide (15 < x) = false := by simpa using h2
      have hr : Sk.bad a x = decide (a < x) := by simp [Sk.bad, hd, hd2]
      rw [hr]
      clear hr
      generalize hq : decide (a < x) = q
      go_enter Tryd.func63, Tryd.ntmps63
      go_wp2
      go_ret
      exact ⟨rfl, rfl⟩
theorem Sk.any_take (p : Int → Bool) (c : List Int) (k : Nat) (x : Int) (h : c[k]? = some x) (h0 : (c.take k).any p = false) (hx : p x = false) : (c.take (k + 1)).any p = false := by
  rw [List.take_add_one, h, List.any_append, h0]
  simp [hx]
set_option maxRecDepth 100000 in
set_option maxHeartbeats 2000000 in
theorem index_any (v : Value) (c : List Int) (a : Int) (bb : Nat) (w : World) (hr : Rd mkI w v c) (hlen : c.length ≤ maxLen) (hb : w.cell? ⟨bb, 2, none⟩ = some (.int .i64 a)) :
    Calls Tryd.prog 72 #[v, .func (.func 63) #[] #[.pointer (some ⟨bb, 0, none⟩)]] w fun e w' => (∃ r : Int, e = .returned (.int .i64 r) ∧ decide (0 ≤ r) = c.any (Sk.bad a)) ∧ w = w' := by
  unfold maxLen at hlen
  obtain ⟨x0, cap, rfl, hcap, hcase⟩ := hr
  have Hcase := Lib.hid hcase
  clear hcase
  go_enter Tryd.func72, Tryd.ntmps72
  go_wp2
  go_loopw [8] (fun i wr => ∃ k : Nat, k ≤ c.length ∧ i = .int .i64 (k : Int) ∧ (c.take k).any (Sk.bad a) = false ∧ w = wr) (fun i _ => c.length - (intOf i).toNat)
  case atStart => exact ⟨0, by omega, rfl, rfl, rfl⟩
  case round =>
    obtain ⟨k, hk, rfl, hno, rfl⟩ := hrel
    by_cases hlt : k < c.length
    · rcases Hcase.out with hnil | ⟨g, off, rfl, hg, hc⟩
      · subst hnil; simp at hlt
      · obtain ⟨x, hx⟩ : ∃ x, c[k]? = some x := ⟨_, List.getElem?_eq_getElem hlt⟩
        have hcx : w.cell? ⟨g, off + k, none⟩ = some (.int .i64 x) := hc k x hx
        have hv := valid1_any x a bb w hb
        have Hno := Lib.hid hno
        have Hx := Lib.hid hx
        cases hbx : Sk.bad a x with
        | true =>
          rw [hbx] at hv
          have Hv := Lib.hid hv
          have Hbx := Lib.hid hbx
          clear hc hv hno hx hbx
          go_wp2_with (go_at_call 63; (with_reducible refine Hv.out.mono ?_); rintro e w1 ⟨rfl, rfl⟩)
          go_ret
          exact ⟨⟨_, rfl, by rw [List.any_eq_true.2 ⟨x, List.mem_of_getElem? Hx.out, Hbx.out⟩]; simp⟩, rfl⟩
        | false =>
          rw [hbx] at hv
          have Hv := Lib.hid hv
          have Hnx := Lib.hid (Sk.any_take (Sk.bad a) c k x hx hno hbx)
          clear hc hv hno hx hbx
          go_wp2_with (go_at_call 63; (with_reducible refine Hv.out.mono ?_); rintro e w1 ⟨rfl, rfl⟩)
          go_roundw
          case rel => exact ⟨k + 1, by omega, by go_num, Hnx.out, trivial⟩
          case measure => simp [intOf]; omega
    · obtain rfl : k = c.length := by omega
      rw [List.take_length] at hno
      have Hno := Lib.hid hno
      clear hno
      go_wp2
      go_ret
      exact ⟨⟨-1, rfl, by rw [Hno.out]; rfl⟩, rfl⟩
set_option maxRecDepth 100000 in
set_option maxHeartbeats 1000000 in
theorem contains_any (v : Value) (c : List Int) (a : Int) (bb : Nat) (w : World) (hr : Rd mkI w v c) (hlen : c.length ≤ maxLen) (hb : w.cell? ⟨bb, 2, none⟩ = some (.int .i64 a)) :
    Calls Tryd.prog 62 #[v, .func (.func 63) #[] #[.pointer (some ⟨bb, 0, none⟩)]] w fun e w' => e = .returned (.bool (c.any (Sk.bad a))) ∧ w = w' := by
  have hi := Lib.hid (index_any v c a bb w hr hlen hb)
  obtain ⟨x0, cap, rfl, hcap, hcase⟩ := hr
  clear hcase
  generalize c.any (Sk.bad a) = q at *
  go_enter Tryd.func62, Tryd.ntmps62
  go_wp2_with (go_at_call 72; (with_reducible refine hi.out.mono ?_); rintro e w1 ⟨⟨r, rfl, hq⟩, rfl⟩)
  go_ret
  exact ⟨rfl, rfl⟩
/-- whether a sketch is valid, in the order in which it is asked -/
def Sk.okB (k : Sk.K) : Bool := isPow k.w && (decide (k.w ≤ 4096) && (decide (1 ≤ k.s) && (decide (k.s ≤ 1048576) && (decide (0 ≤ k.a) && (decide (k.a < k.s) && (decide ((k.c.length : Int) = 4 * k.w) && !k.c.any (Sk.bad k.a)))))))
theorem Sk.okB_iff (k : Sk.K) : Sk.okB k = true ↔ Sk.Ok k := by
  simp only [Sk.okB, Bool.and_eq_true, decide_eq_true_eq, Bool.not_eq_true', List.any_eq_false, Sk.bad, Bool.or_eq_true, not_or]
  constructor
  · rintro ⟨h1, h2, h3, h4, h5, h6, h7, h8⟩
    exact ⟨h1, h2, h3, h4, h5, h6, h7, fun x hx => by have := h8 x hx; omega⟩
  · intro h
    exact ⟨h.pow, h.wide, h.s1, h.s2, h.a1, h.a2, h.len, fun x hx => by have := h.cells x hx; omega⟩

set_option maxRecDepth 100000 in
set_option maxHeartbeats 1000000 in
theorem valid_no0 (k : Sk.K) (v : Value) (w : World) (hr : Rd mkI w v k.c) (hlen : k.c.length ≤ maxLen) (hw : k.w ≤ 9223372036854775807)  (hno : ¬ (isPow k.w = true)) :
    Calls Tryd.prog 33 #[skV k v] w fun e w' => e = .returned (.bool false) ∧ Below w.heap.size w w' := by
  unfold maxLen at hlen
  obtain ⟨x0, cap, rfl, _, _⟩ := hr
  have hp := fun W => power_any k.w W hw
  have hp0 : isPow k.w = false := by simpa using hno
  rw [hp0] at hp
  obtain ⟨kw, ks, ka, kc⟩ := k
  dsimp only at *
  have Hp := Lib.hid hp
  have HB := Lib.hid (below_alloc1 w (.cells #[.int .i64 kw, .int .i64 ks, .int .i64 ka, .slice x0 kc.length cap] 38))
  clear hp hp0 hno
  generalize kc.length = len at *
  go_enter Tryd.func33, Tryd.ntmps33
  go_wp2_with (go_at_call 58; (with_reducible refine (Hp.out _).mono ?_); rintro e w1 ⟨rfl, rfl⟩)
  go_ret
  exact ⟨rfl, HB.out⟩
set_option maxRecDepth 100000 in
set_option maxHeartbeats 1000000 in
theorem valid_no1 (k : Sk.K) (v : Value) (w : World) (hr : Rd mkI w v k.c) (hlen : k.c.length ≤ maxLen) (hw : k.w ≤ 9223372036854775807) (h0 : isPow k.w = true) (hno : ¬ (k.w ≤ 4096)) :
    Calls Tryd.prog 33 #[skV k v] w fun e w' => e = .returned (.bool false) ∧ Below w.heap.size w w' := by
  unfold maxLen at hlen
  obtain ⟨x0, cap, rfl, _, _⟩ := hr
  have hp := fun W => power_any k.w W hw
  have h1w := Sk.pow_pos h0
  rw [h0] at hp
  obtain ⟨kw, ks, ka, kc⟩ := k
  dsimp only at *
  have d1 : decide (4096 < kw) = true := by simp; omega
  have Hp := Lib.hid hp
  have HB := Lib.hid (below_alloc1 w (.cells #[.int .i64 kw, .int .i64 ks, .int .i64 ka, .slice x0 kc.length cap] 38))
  clear hp h0
  generalize kc.length = len at *
  go_enter Tryd.func33, Tryd.ntmps33
  go_wp2_with (go_at_call 58; (with_reducible refine (Hp.out _).mono ?_); rintro e w1 ⟨rfl, rfl⟩)
  go_ret
  exact ⟨rfl, HB.out⟩
set_option maxRecDepth 100000 in
set_option maxHeartbeats 1000000 in
theorem valid_no2 (k : Sk.K) (v : Value) (w : World) (hr : Rd mkI w v k.c) (hlen : k.c.length ≤ maxLen) (hw : k.w ≤ 9223372036854775807) (h0 : isPow k.w = true) (h1 : k.w ≤ 4096) (hno : ¬ (1 ≤ k.s)) :
    Calls Tryd.prog 33 #[skV k v] w fun e w' => e = .returned (.bool false) ∧ Below w.heap.size w w' := by
  unfold maxLen at hlen
  obtain ⟨x0, cap, rfl, _, _⟩ := hr
  have hp := fun W => power_any k.w W hw
  have h1w := Sk.pow_pos h0
  rw [h0] at hp
  obtain ⟨kw, ks, ka, kc⟩ := k
  dsimp only at *
  have d1 : decide (4096 < kw) = false := by simp; omega
  have d2 : decide (ks < 1) = true := by simp; omega
  have Hp := Lib.hid hp
  have HB := Lib.hid (below_alloc1 w (.cells #[.int .i64 kw, .int .i64 ks, .int .i64 ka, .slice x0 kc.length cap] 38))
  clear hp h0
  generalize kc.length = len at *
  go_enter Tryd.func33, Tryd.ntmps33
  go_wp2_with (go_at_call 58; (with_reducible refine (Hp.out _).mono ?_); rintro e w1 ⟨rfl, rfl⟩)
  go_ret
  exact ⟨rfl, HB.out⟩
set_option maxRecDepth 100000 in
set_option maxHeartbeats 1000000 in
theorem valid_no3 (k : Sk.K) (v : Value) (w : World) (hr : Rd mkI w v k.c) (hlen : k.c.length ≤ maxLen) (hw : k.w ≤ 9223372036854775807) (h0 : isPow k.w = true) (h1 : k.w ≤ 4096) (h2 : 1 ≤ k.s) (hno : ¬ (k.s ≤ 1048576)) :
    Calls Tryd.prog 33 #[skV k v] w fun e w' => e = .returned (.bool false) ∧ Below w.heap.size w w' := by
  unfold maxLen at hlen
  obtain ⟨x0, cap, rfl, _, _⟩ := hr
  have hp := fun W => power_any k.w W hw
  have h1w := Sk.pow_pos h0
  rw [h0] at hp
  obtain ⟨kw, ks, ka, kc⟩ := k
  dsimp only at *
  have d1 : decide (4096 < kw) = false := by simp; omega
  have d2 : decide (ks < 1) = false := by simp; omega
  have d3 : decide (1048576 < ks) = true := by simp; omega
  have Hp := Lib.hid hp
  have HB := Lib.hid (below_alloc1 w (.cells #[.int .i64 kw, .int .i64 ks, .int .i64 ka, .slice x0 kc.length cap] 38))
  clear hp h0
  generalize kc.length = len at *
  go_enter Tryd.func33, Tryd.ntmps33
  go_wp2_with (go_at_call 58; (with_reducible refine (Hp.out _).mono ?_); rintro e w1 ⟨rfl, rfl⟩)
  go_ret
  exact ⟨rfl, HB.out⟩
set_option maxRecDepth 100000 in
set_option maxHeartbeats 1000000 in
theorem valid_no4 (k : Sk.K) (v : Value) (w : World) (hr : Rd mkI w v k.c) (hlen : k.c.length ≤ maxLen) (hw : k.w ≤ 9223372036854775807) (h0 : isPow k.w = true) (h1 : k.w ≤ 4096) (h2 : 1 ≤ k.s) (h3 : k.s ≤ 1048576) (hno : ¬ (0 ≤ k.a)) :
    Calls Tryd.prog 33 #[skV k v] w fun e w' => e = .returned (.bool false) ∧ Below w.heap.size w w' := by
  unfold maxLen at hlen
  obtain ⟨x0, cap, rfl, _, _⟩ := hr
  have hp := fun W => power_any k.w W hw
  have h1w := Sk.pow_pos h0
  rw [h0] at hp
  obtain ⟨kw, ks, ka, kc⟩ := k
  dsimp only at *
  have d1 : decide (4096 < kw) = false := by simp; omega
  have d2 : decide (ks < 1) = false := by simp; omega
  have d3 : decide (1048576 < ks) = false := by simp; omega
  have d4 : decide (ka < 0) = true := by simp; omega
  have Hp := Lib.hid hp
  have HB := Lib.hid (below_alloc1 w (.cells #[.int .i64 kw, .int .i64 ks, .int .i64 ka, .slice x0 kc.length cap] 38))
  clear hp h0
  generalize kc.length = len at *
  go_enter Tryd.func33, Tryd.ntmps33
  go_wp2_with (go_at_call 58; (with_reducible refine (Hp.out _).mono ?_); rintro e w1 ⟨rfl, rfl⟩)
  go_ret
  exact ⟨rfl, HB.out⟩
set_option maxRecDepth 100000 in
set_option maxHeartbeats 1000000 in
theorem valid_no5 (k : Sk.K) (v : Value) (w : World) (hr : Rd mkI w v k.c) (hlen : k.c.length ≤ maxLen) (hw : k.w ≤ 9223372036854775807) (h0 : isPow k.w = true) (h1 : k.w ≤ 4096) (h2 : 1 ≤ k.s) (h3 : k.s ≤ 1048576) (h4 : 0 ≤ k.a) (hno : ¬ (k.a < k.s)) :
    Calls Tryd.prog 33 #[skV k v] w fun e w' => e = .returned (.bool false) ∧ Below w.heap.size w w' := by
  unfold maxLen at hlen
  obtain ⟨x0, cap, rfl, _, _⟩ := hr
  have hp := fun W => power_any k.w W hw
  have h1w := Sk.pow_pos h0
  rw [h0] at hp
  obtain ⟨kw, ks, ka, kc⟩ := k
  dsimp only at *
  have d1 : decide (4096 < kw) = false := by simp; omega
  have d2 : decide (ks < 1) = false := by simp; omega
  have d3 : decide (1048576 < ks) = false := by simp; omega
  have d4 : decide (ka < 0) = false := by simp; omega
  have d5 : decide (ks ≤ ka) = true := by simp; omega
  have Hp := Lib.hid hp
  have HB := Lib.hid (below_alloc1 w (.cells #[.int .i64 kw, .int .i64 ks, .int .i64 ka, .slice x0 kc.length cap] 38))
  clear hp h0
  generalize kc.length = len at *
  go_enter Tryd.func33, Tryd.ntmps33
  go_wp2_with (go_at_call 58; (with_reducible refine (Hp.out _).mono ?_); rintro e w1 ⟨rfl, rfl⟩)
  go_ret
  exact ⟨rfl, HB.out⟩
set_option maxRecDepth 100000 in
set_option maxHeartbeats 1000000 in
theorem valid_no6 (k : Sk.K) (v : Value) (w : World) (hr : Rd mkI w v k.c) (hlen : k.c.length ≤ maxLen) (hw : k.w ≤ 9223372036854775807) (h0 : isPow k.w = true) (h1 : k.w ≤ 4096) (h2 : 1 ≤ k.s) (h3 : k.s ≤ 1048576) (h4 : 0 ≤ k.a) (h5 : k.a < k.s) (hno : ¬ ((k.c.length : Int) = 4 * k.w)) :
    Calls Tryd.prog 33 #[skV k v] w fun e w' => e = .returned (.bool false) ∧ Below w.heap.size w w' := by
  unfold maxLen at hlen
  obtain ⟨x0, cap, rfl, _, _⟩ := hr
  have hp := fun W => power_any k.w W hw
  have h1w := Sk.pow_pos h0
  rw [h0] at hp
  obtain ⟨kw, ks, ka, kc⟩ := k
  dsimp only at *
  have d1 : decide (4096 < kw) = false := by simp; omega
  have d2 : decide (ks < 1) = false := by simp; omega
  have d3 : decide (1048576 < ks) = false := by simp; omega
  have d4 : decide (ka < 0) = false := by simp; omega
  have d5 : decide (ks ≤ ka) = false := by simp; omega
  have d6 : ((kc.length : Int) != 4 * kw) = true := by simpa using hno
  have d7 : ((kc.length : Int) == 4 * kw) = false := by simpa using hno
  have Hp := Lib.hid hp
  have HB := Lib.hid (below_alloc1 w (.cells #[.int .i64 kw, .int .i64 ks, .int .i64 ka, .slice x0 kc.length cap] 38))
  clear hp h0 hno
  generalize kc.length = len at *
  go_enter Tryd.func33, Tryd.ntmps33
  go_wp2_with (go_at_call 58; (with_reducible refine (Hp.out _).mono ?_); rintro e w1 ⟨rfl, rfl⟩)
  go_ret
  exact ⟨rfl, HB.out⟩
set_option maxRecDepth 100000 in
set_option maxHeartbeats 1000000 in
theorem valid_cells (k : Sk.K) (v : Value) (w : World) (hr : Rd mkI w v k.c) (hlen : k.c.length ≤ maxLen) (hw : k.w ≤ 9223372036854775807) (h0 : isPow k.w = true) (h1 : k.w ≤ 4096) (h2 : 1 ≤ k.s) (h3 : k.s ≤ 1048576) (h4 : 0 ≤ k.a) (h5 : k.a < k.s) (h6 : (k.c.length : Int) = 4 * k.w) :
    Calls Tryd.prog 33 #[skV k v] w fun e w' => e = .returned (.bool (!k.c.any (Sk.bad k.a))) ∧ Below w.heap.size w w' := by
  have hr2 := hr
  obtain ⟨x0, cap, rfl, hcap, hcase⟩ := hr
  clear hcase
  have hp := fun W => power_any k.w W hw
  have h1w := Sk.pow_pos h0
  rw [h0] at hp
  have hB1 := below_alloc1 w (.cells #[.int .i64 k.w, .int .i64 k.s, .int .i64 k.a, .slice x0 k.c.length cap] 38)
  have hcf := contains_any (.slice x0 k.c.length cap) k.c k.a w.heap.size _ (hr2.below hB1) hlen (blk_cell (blk_new w _ _) 2)
  obtain ⟨kw, ks, ka, kc⟩ := k
  unfold maxLen at hlen
  dsimp only at *
  have d1 : decide (4096 < kw) = false := by simp; omega
  have d2 : decide (ks < 1) = false := by simp; omega
  have d3 : decide (1048576 < ks) = false := by simp; omega
  have d4 : decide (ka < 0) = false := by simp; omega
  have d5 : decide (ks ≤ ka) = false := by simp; omega
  generalize kc.any (Sk.bad ka) = q at *
  generalize kc.length = len at *
  obtain ⟨m, rfl⟩ : ∃ m : Nat, kw = (m : Int) := ⟨kw.toNat, by omega⟩
  obtain rfl : len = 4 * m := by omega
  have e1 : ((4 * m : Nat) : Int) = 4 * (m : Int) := by omega
  have Hp := Lib.hid hp
  have HB := Lib.hid hB1
  have Hcf := Lib.hid hcf
  clear hp hB1 hcf hr2 h0 h6
  go_enter Tryd.func33, Tryd.ntmps33
  go_wp2_with (first | (go_at_call 58; (with_reducible refine (Hp.out _).mono ?_); rintro e w1 ⟨rfl, rfl⟩) | (go_at_call 62; (with_reducible refine Hcf.out.mono ?_); rintro e w1 ⟨rfl, rfl⟩))
  go_ret
  exact ⟨rfl, HB.out⟩
theorem valid_any (k : Sk.K) (v : Value) (w : World) (hr : Rd mkI w v k.c) (hlen : k.c.length ≤ maxLen) (hw : k.w ≤ 9223372036854775807) :
    Calls Tryd.prog 33 #[skV k v] w fun e w' => e = .returned (.bool (Sk.okB k)) ∧ Below w.heap.size w w' := by
  by_cases h0 : isPow k.w = true
  case neg => rw [show Sk.okB k = false by simp [Sk.okB, h0]]; exact valid_no0 k v w hr hlen hw h0
  by_cases h1 : k.w ≤ 4096
  case neg => rw [show Sk.okB k = false by simp [Sk.okB, h1]]; exact valid_no1 k v w hr hlen hw h0 h1
  by_cases h2 : 1 ≤ k.s
  case neg => rw [show Sk.okB k = false by simp [Sk.okB, h2]]; exact valid_no2 k v w hr hlen hw h0 h1 h2
  by_cases h3 : k.s ≤ 1048576
  case neg => rw [show Sk.okB k = false by simp [Sk.okB, h3]]; exact valid_no3 k v w hr hlen hw h0 h1 h2 h3
  by_cases h4 : 0 ≤ k.a
  case neg => rw [show Sk.okB k = false by simp [Sk.okB, h4]]; exact valid_no4 k v w hr hlen hw h0 h1 h2 h3 h4
  by_cases h5 : k.a < k.s
  case neg => rw [show Sk.okB k = false by simp [Sk.okB, h5]]; exact valid_no5 k v w hr hlen hw h0 h1 h2 h3 h4 h5
  by_cases h6 : (k.c.length : Int) = 4 * k.w
  case neg => rw [show Sk.okB k = false by simp [Sk.okB, h6]]; exact valid_no6 k v w hr hlen hw h0 h1 h2 h3 h4 h5 h6
  rw [show Sk.okB k = !k.c.any (Sk.bad k.a) by simp [Sk.okB, h0, h1, h2, h3, h4, h5, h6]]
  exact valid_cells k v w hr hlen hw h0 h1 h2 h3 h4 h5 h6
end Go.Proofs.YtbgieephehfgpabDoor
/-
  What slices.Clone and the program's Add return. Conditions: the list is not empty; for Add: the sketch is valid, the key is short, the tables are as their texts lay them.
-/
namespace Go.Proofs.YtbgieephehfgpabDoor
open Go Go.RowKit Go.Shelf
attribute [local go_sem] Oper.semAt_some
namespace Sk
def incB (n : Int) (p : List Nat) (c : List Int) : List Int := if n < 15 then inc n p c else c
theorem incB_nil (n : Int) (c : List Int) : incB n [] c = c := by unfold incB; rw [inc_nil]; simp
theorem incB_len (n : Int) (p : List Nat) (c : List Int) : (incB n p c).length = c.length := by unfold incB; split <;> simp [inc_len]
theorem incB_add (p : List Nat) (c : List Int) : incB (cnt c p) p c = add p c := rfl
theorem incB_hit (n : Int) (p : List Nat) (c : List Int) (i : Nat) (hl : i < c.length) (hn : n < 15) (h : at' (incB n p c) i = n) : (incB n p c).set i (n + 1) = incB n (p ++ [i]) c := by
  unfold incB at h ⊢
  rw [if_pos hn] at h
  rw [if_pos hn, if_pos hn, inc_step n p c i hl, if_pos h]
theorem incB_miss (n : Int) (p : List Nat) (c : List Int) (i : Nat) (hl : i < c.length) (h : at' (incB n p c) i ≠ n ∨ ¬ n < 15) : incB n p c = incB n (p ++ [i]) c := by
  by_cases hn : n < 15
  · rcases h with h | h
    · unfold incB at h ⊢
      rw [if_pos hn] at h
      rw [if_pos hn, if_pos hn, inc_step n p c i hl, if_neg h]
    · exact absurd hn h
  · unfold incB
    rw [if_neg hn, if_neg hn]
end Sk
set_option maxRecDepth 100000 in
set_option maxHeartbeats 1000000 in
theorem clone_any (g off cap : Nat) (c : List Int) (w : World) (hg : g < w.heap.size) (hc : ∀ i x, c[i]? = some x → w.cell? ⟨g, off + i, none⟩ = some (.int .i64 x)) (hcap : c.length ≤ cap) (hlen : c.length ≤ 1000000000) :
    Calls Tryd.prog 55 #[.slice (some ⟨g, off, none⟩) c.length cap] w fun e w' => (∃ v, e = .returned v ∧ OwnI w' w.heap.size v c) ∧ Below w.heap.size w w' := by
  have q22 : ∀ (w : World) (a : Option Addr) (n c n' c' : Nat), (binOp .eql 36 (.slice a n c) (.slice none n' c')).run Tryd.prog w = .ok (.bool a.isNone) w := fun w a n c n' c' => Lib.run_eql_slice_nil w _ _ a n c n' c' Tryd.underlying36
  have hrd : Rd mkI (w.alloc (.cells #[] 3)) (.slice (some ⟨g, off, none⟩) c.length cap) c := ⟨_, cap, rfl, hcap, .inr ⟨g, off, rfl, by simp; omega, fun i x hi => ((below_alloc1 w _).cell (p := ⟨g, off + i, none⟩) hg).trans (hc i x hi)⟩⟩
  have Hrd := Lib.hid hrd
  have E1 : Hid (([] : List Int).length + c.length < 1000000000000) := Lib.hid (by simp; omega)
  clear hc hrd
  go_enter Tryd.func55, Tryd.ntmps55
  go_wp2_with (at_builtin; refine wp_appR mkI_one Tryd.underlying36 info_int rfl (by decide) rfl (.tmp 5) (.tmp 6) rfl w.heap.size _ [] rfl (ownOf_lit w w.heap.size [] #[] 0 rfl rfl (Nat.le_refl _) (Nat.zero_le _)) _ c rfl Hrd.out E1.out (by rw [World.size_alloc]; omega) ?_; intro v1 w1 hown1 hg1)
  go_ret
  exact ⟨⟨_, rfl, by simpa using hown1⟩, hg1.below _ _ (below_alloc1 _ _) (Nat.le_refl _)⟩
theorem blk_grownRow {w w' : World} {b : Nat} {cs : Array Value} {t : TypeId} {row : Option Nat} (h : Blk w b cs t) (hg : w.grownBy w' row) (hr : ∀ r, row = some r → ∃ o : Obj, w.heap[r]? = some o ∧ o.isCells = false) : Blk w' b cs t :=
  blk_grown h hg (fun e => by
    obtain ⟨o, ho, hc⟩ := hr b e.symm
    rw [h] at ho
    cases ho
    cases hc)
theorem ownOf_grownRow {α : Type} {mk : α → Value} {e : TypeId} {w w' : World} {base : Nat} {v : Value} {l : List α} {row : Option Nat} (h : OwnOf mk e w base v l) (hg : w.grownBy w' row) (hr : ∀ r, row = some r → ∃ o : Obj, w.heap[r]? = some o ∧ o.isCells = false) : OwnOf mk e w' base v l := by
  refine ⟨h.1, ?_⟩
  rcases h.2 with hn | ⟨g, cap, cur, rfl, hbb, hgg, rest⟩
  · exact .inl hn
  · exact .inr ⟨g, cap, cur, rfl, hbb, blk_grownRow hgg hg hr, rest⟩
set_option maxRecDepth 100000 in
set_option maxHeartbeats 4000000 in
theorem sadd2_any (k : Sk.K) (hk : Sk.Ok k) (key : List UInt8) (v : Value) (w : World) (hr : Rd mkI w v k.c) (hkey : key.length ≤ 10000) (hT : TabC w) :
    Calls Tryd.prog 20 #[skV k v, .string ⟨key.toArray⟩] w fun e w' => (∃ v', e = .returned (skV (k.add key) v') ∧ OwnI w' w.heap.size v' (k.add key).c) ∧ Below w.heap.size w w' := by
  have hne := hk.ne
  have hlen9 := hk.len9
  obtain ⟨g, off, cap, rfl, hcap, hg, hc⟩ := rd_parts hr hne
  have hn1 := hk.n1
  have hcl := hk.clen
  have hwn := hk.wn
  have hn2 : k.n ≤ 4096 := by have := hk.wide; omega
  have hp : k.p key = [Sk.q key k.n 0, Sk.q key k.n 1, Sk.q key k.n 2, Sk.q key k.n 3] := rfl
  have hq0 : Sk.q key k.n 0 < k.c.length := by rw [hcl]; exact Sk.q_lt key k.n 0 hn1 (by omega)
  have hq1 : Sk.q key k.n 1 < k.c.length := by rw [hcl]; exact Sk.q_lt key k.n 1 hn1 (by omega)
  have hq2 : Sk.q key k.n 2 < k.c.length := by rw [hcl]; exact Sk.q_lt key k.n 2 hn1 (by omega)
  have hq3 : Sk.q key k.n 3 < k.c.length := by rw [hcl]; exact Sk.q_lt key k.n 3 hn1 (by omega)
  have hof := fun (W : World) (h : TabC W) => of_places key k.n k.s k.a (some ⟨g, off, none⟩) k.c.length cap W hkey hn1 hn2 h
  simp only [plA_q] at hof
  have hcnt : k.count key = Sk.cnt k.c [Sk.q key k.n 0, Sk.q key k.n 1, Sk.q key k.n 2, Sk.q key k.n 3] := rfl
  have hle := fun (g' cap' : Nat) (W : World) (hb : g' < W.heap.size) (h : ∀ i x, k.c[i]? = some x → W.cell? ⟨g', 0 + i, none⟩ = some (mkI x)) => least_any g' 0 k.c.length cap' k.c rfl ⟨_, hq0⟩ ⟨_, hq1⟩ ⟨_, hq2⟩ ⟨_, hq3⟩ W hb h
  dsimp only at hle
  rw [← hcnt] at hle
  have hcn := fun (W : World) h1 h2 => clone_any g off cap k.c W h1 h2 hcap hlen9
  rw [show skV k (.slice (some ⟨g, off, none⟩) k.c.length cap) = .agg #[.int .i64 (k.n : Int), .int .i64 k.s, .int .i64 k.a, .slice (some ⟨g, off, none⟩) k.c.length cap] by rw [hwn]]
  have Hof := Lib.hid hof
  have Hle := Lib.hid hle
  have Hcn := Lib.hid hcn
  have Hc := Lib.hid hc
  have Hwn := Lib.hid hwn
  have Hcl := Lib.hid hcl
  have Hp := Lib.hid hp
  have Hr := Lib.hid hr
  clear hof hle hcn hc hwn hcl hp hcnt hr
  generalize hN : k.n = n at *
  have HN := Lib.hid hN
  clear hN
  generalize hL : k.c.length = len at *
  have HL := Lib.hid hL
  clear hL
  generalize hq0e : Sk.q key n 0 = q0 at *
  generalize hq1e : Sk.q key n 1 = q1 at *
  generalize hq2e : Sk.q key n 2 = q2 at *
  generalize hq3e : Sk.q key n 3 = q3 at *
  clear hq0e hq1e hq2e hq3e
  refine (callsIn_wide (n := 5)).1 ?_
  refine callsIn_of_wp_marks Tryd.func20 rfl trivial ?_ rfl
  simp only [Tryd.ntmps20, List.size_toArray, List.length_cons, List.length_nil, Nat.reduceAdd, Nat.reduceSub, Array.replicate_succ, Array.replicate_zero, List.push_toArray, List.append_toArray, List.nil_append, List.cons_append]
  refine wpIn_wide.2 ?_
  go_wp2_with fail
  obtain ⟨W0, hW0⟩ : ∃ W0, W0 = (w.alloc (.cells #[.int .i64 (n : Int), .int .i64 k.s, .int .i64 k.a, .slice (some ⟨g, off, none⟩) len cap] 38)).alloc (.cells #[.int .i64 0, .int .i64 0, .int .i64 0, .slice none 0 0] 38) := ⟨_, rfl⟩
  have hb0 : Blk W0 w.heap.size #[.int .i64 (n : Int), .int .i64 k.s, .int .i64 k.a, .slice (some ⟨g, off, none⟩) len cap] 38 := by rw [hW0]; exact blk_alloc (blk_new w _ _) _
  have ho0 : Blk W0 (w.heap.size + 1) #[.int .i64 0, .int .i64 0, .int .i64 0, .slice none 0 0] 38 := by rw [hW0]; exact blk_new2 w _ _ _
  have hB0 : Below w.heap.size w W0 := by rw [hW0]; exact below_al (below_alloc1 _ _) _
  have hz0 : w.heap.size + 2 ≤ W0.heap.size := by rw [hW0]; simp
  rw [← hW0]
  clear hW0
  generalize hka : k.a = ka at *
  generalize hks : k.s = ks at *
  have Hka := Lib.hid hka
  have Hks := Lib.hid hks
  clear hka hks
  with_reducible refine (Hof.out W0 (hT.below hB0)).mono ?_
  rintro e w1 ⟨rfl, hw1⟩
  have hb1 := blk_kept hb0 hw1
  have ho1 := blk_kept ho0 hw1
  have hB1 := hB0.trans (hw1.mono hB0.size)
  have hz1 := Nat.le_trans hz0 hw1.size
  clear hb0 ho0 hB0 hz0 hw1
  have c0 := blk_cell hb1 0
  have c1 := blk_cell hb1 1
  have c2 := blk_cell hb1 2
  have c3 := blk_cell hb1 3
  simp only [List.getElem?_toArray, List.getElem?_cons_zero, List.getElem?_cons_succ] at c0 c1 c2 c3
  have Hz1 := Lib.hid hz1
  have HB1 := Lib.hid hB1
  have Hb1 := Lib.hid hb1
  have Ho1 := Lib.hid ho1
  have hlt1 : w.heap.size < w1.heap.size := by omega
  have hne1 : w.heap.size ≠ w1.heap.size := by omega
  clear hz1 hB1 hb1 ho1
  dsimp only
  go_wp2_with fail
  have hz1 := Hz1.out
  obtain ⟨W2, hW2⟩ : ∃ W2, W2 = w1.alloc (.cells #[.int .i64 (q0 : Int), .int .i64 (q1 : Int), .int .i64 (q2 : Int), .int .i64 (q3 : Int)] 88) := ⟨_, rfl⟩
  have hb2 : Blk W2 w.heap.size #[.int .i64 (n : Int), .int .i64 ks, .int .i64 ka, .slice (some ⟨g, off, none⟩) len cap] 38 := by rw [hW2]; exact blk_alloc Hb1.out _
  have ho2 : Blk W2 (w.heap.size + 1) #[.int .i64 0, .int .i64 0, .int .i64 0, .slice none 0 0] 38 := by rw [hW2]; exact blk_alloc Ho1.out _
  have hp2 : Blk W2 w1.heap.size #[.int .i64 (q0 : Int), .int .i64 (q1 : Int), .int .i64 (q2 : Int), .int .i64 (q3 : Int)] 88 := by rw [hW2]; exact blk_new _ _ _
  have hB2 : Below w.heap.size w W2 := by rw [hW2]; exact below_al HB1.out _
  have hz2 : W2.heap.size = w1.heap.size + 1 := by rw [hW2]; simp
  rw [← hW2]
  clear hW2 c0 c1 c2 c3
  with_reducible refine (Hcn.out W2 (Nat.lt_of_lt_of_le hg hB2.size) (fun i x hi => (hB2.cell (p := ⟨g, off + i, none⟩) hg).trans (Hc.out i x hi))).mono ?_
  rintro e w3 ⟨⟨v3, rfl, hown3⟩, hw3⟩
  have hb3 := blk_kept hb2 hw3
  have ho3 := blk_kept ho2 hw3
  have hp3 := blk_kept hp2 hw3
  have hB3 := hB2.trans (hw3.mono hB2.size)
  obtain ⟨g', cap', rfl, hg', hg3⟩ := ownOf_slice hown3 hne
  rw [HL.out] at hown3 ⊢
  clear hb2 ho2 hp2 hB2 hw3
  have c0 := blk_cell hb3 0
  have c1 := blk_cell hb3 1
  have c2 := blk_cell hb3 2
  have c3 := blk_cell hb3 3
  have f3 := blk_free hb3 3
  have a0 := blk_cell hp3 0
  have a1 := blk_cell hp3 1
  have a2 := blk_cell hp3 2
  have a3 := blk_cell hp3 3
  simp only [List.getElem?_toArray, List.getElem?_cons_zero, List.getElem?_cons_succ] at c0 c1 c2 c3 a0 a1 a2 a3
  have Hown3 := Lib.hid hown3
  have HB3 := Lib.hid hB3
  have Hb3 := Lib.hid hb3
  have Ho3 := Lib.hid ho3
  have Hp3 := Lib.hid hp3
  have Hz2 := Lib.hid hz2
  have Hg' := Lib.hid hg'
  have Hg3 := Lib.hid hg3
  have hpb : w.heap.size ≠ w1.heap.size := by omega
  clear hown3 hB3 hb3 ho3 hp3 hz2 hg' hg3 hz1
  dsimp only
  go_wp2_with fail
  have hz1 := Hz1.out
  have hz2 := Hz2.out
  have hgg := Hg'.out
  obtain ⟨W4, hW4⟩ : ∃ W4, W4 = w3.setCell ⟨w.heap.size, 3, none⟩ (.slice (some ⟨g', 0, none⟩) len cap') := ⟨_, rfl⟩
  have hb4 : Blk W4 w.heap.size #[.int .i64 (n : Int), .int .i64 ks, .int .i64 ka, .slice (some ⟨g', 0, none⟩) len cap'] 38 := by rw [hW4]; exact blk_set Hb3.out 3 _
  have ho4 : Blk W4 (w.heap.size + 1) #[.int .i64 0, .int .i64 0, .int .i64 0, .slice none 0 0] 38 := by rw [hW4]; exact blk_far Ho3.out (p := ⟨w.heap.size, 3, none⟩) (by show w.heap.size + 1 ≠ w.heap.size; omega) _
  have hp4 : Blk W4 w1.heap.size #[.int .i64 (q0 : Int), .int .i64 (q1 : Int), .int .i64 (q2 : Int), .int .i64 (q3 : Int)] 88 := by rw [hW4]; exact blk_far Hp3.out (p := ⟨w.heap.size, 3, none⟩) (by show w1.heap.size ≠ w.heap.size; omega) _
  have hB4 : Below w.heap.size w W4 := by rw [hW4]; exact HB3.out.setCell (p := ⟨w.heap.size, 3, none⟩) (by show w.heap.size ≤ w.heap.size; omega) _
  have hown4 : OwnI W4 W2.heap.size (.slice (some ⟨g', 0, none⟩) len cap') k.c := by rw [hW4]; exact ownOf_far Hown3.out (by show w.heap.size < _; omega) _
  have hg4 : g' < W4.heap.size := by rw [hW4]; simpa using Hg3.out
  rw [← hW4]
  clear hW4 c0 c1 c2 c3 f3 a0 a1 a2 a3
  with_reducible refine (Hle.out g' cap' W4 hg4 (fun i x hi => by rw [Nat.zero_add]; exact ownOf_cell hown4 i x hi)).mono ?_
  rintro e w5 ⟨rfl, hw5⟩
  have hb5 := blk_kept hb4 hw5
  have ho5 := blk_kept ho4 hw5
  have hp5 := blk_kept hp4 hw5
  have hB5 := hB4.trans (hw5.mono hB4.size)
  have hown5 := ownOf_kept hown4 hw5
  have hg5 := Nat.lt_of_lt_of_le hg4 hw5.size
  clear hb4 ho4 hp4 hB4 hown4 hw5 hg4
  have c0 := blk_cell hb5 0
  have c1 := blk_cell hb5 1
  have c2 := blk_cell hb5 2
  have c3 := blk_cell hb5 3
  have a0 := blk_cell hp5 0
  have a1 := blk_cell hp5 1
  have a2 := blk_cell hp5 2
  have a3 := blk_cell hp5 3
  simp only [List.getElem?_toArray, List.getElem?_cons_zero, List.getElem?_cons_succ] at c0 c1 c2 c3 a0 a1 a2 a3
  have hl5 := blk_lt hb5
  have hl6 := blk_lt hp5
  have Hown5 := Lib.hid hown5
  have HB5 := Lib.hid hB5
  have Hb5 := Lib.hid hb5
  have Ho5 := Lib.hid ho5
  have Hp5 := Lib.hid hp5
  have Hg5 := Lib.hid hg5
  have hct0 := hk.count0 key
  generalize hct : k.count key = ct at *
  have Hct := Lib.hid hct
  clear hown5 hB5 hb5 ho5 hp5 hg5 hz1 hz2 hgg hct
  dsimp only
  go_wp2_with (go_at_call 57; (with_reducible refine (each_any _ _ _ _ _ _ _ _).mono ?_); rintro e w' ⟨rfl, rfl⟩)
  obtain ⟨W7, hW7⟩ : ∃ W7, W7 = ((w5.alloc (.cells #[.int .i64 ct] 3)).alloc (.cells #[.slice (some ⟨g', 0, none⟩) len cap'] 36)).alloc (.cells #[.int .i64 (q0 : Int), .int .i64 (q1 : Int), .int .i64 (q2 : Int), .int .i64 (q3 : Int)] 88) := ⟨_, rfl⟩
  have hb7 : Blk W7 w.heap.size #[.int .i64 (n : Int), .int .i64 ks, .int .i64 ka, .slice (some ⟨g', 0, none⟩) len cap'] 38 := by rw [hW7]; exact blk_alloc (blk_alloc (blk_alloc Hb5.out _) _) _
  have ho7 : Blk W7 (w.heap.size + 1) #[.int .i64 0, .int .i64 0, .int .i64 0, .slice none 0 0] 38 := by rw [hW7]; exact blk_alloc (blk_alloc (blk_alloc Ho5.out _) _) _
  have hn7 : Blk W7 w5.heap.size #[.int .i64 ct] 3 := by rw [hW7]; exact blk_alloc (blk_alloc (blk_new _ _ _) _) _
  have hl7 : Blk W7 (w5.heap.size + 1) #[.slice (some ⟨g', 0, none⟩) len cap'] 36 := by rw [hW7]; exact blk_alloc (blk_new2 _ _ _ _) _
  have hp7 : Blk W7 (w5.heap.size + 1 + 1) #[.int .i64 (q0 : Int), .int .i64 (q1 : Int), .int .i64 (q2 : Int), .int .i64 (q3 : Int)] 88 := by rw [hW7]; exact heap_alloc_at _ _ _ (by simp)
  have hB7 : Below w.heap.size w W7 := by rw [hW7]; exact below_al (below_al (below_al HB5.out _) _) _
  have hown7 : OwnI W7 W2.heap.size (.slice (some ⟨g', 0, none⟩) len cap') k.c := by
    rw [hW7]
    exact ownOf_kept (ownOf_kept (ownOf_kept Hown5.out (below_alloc1 _ _)) (below_alloc1 _ _)) (below_alloc1 _ _)
  have hs7 : W7.heap.size = w5.heap.size + 3 := by rw [hW7]; simp
  rw [← hW7]
  clear hW7 c0 c1 c2 c3 a0 a1 a2 a3
  have hz1 := Hz1.out
  have hz2 := Hz2.out
  have hg5 := Hg5.out
  have hgg := Hg'.out
  have Hs7 := Lib.hid hs7
  clear hs7
  refine wpIn_wide.1 (wpIn_rangeFunc_ownF (n := 5) rfl (by omega) (gf := 70) (lb := #[.pointer (some ⟨w5.heap.size + 1 + 1, 0, none⟩), .pointer (some ⟨w5.heap.size + 1, 0, none⟩)]) rfl trivial (enters_of Tryd.func70 (by kernel_rfl) rfl)
    (each_stops Fence.wide 4 trivial rfl (by omega) (w5.heap.size + 1) (w5.heap.size + 1 + 1) g' 0 len cap' ⟨q0, hq0⟩ ⟨q1, hq1⟩ ⟨q2, hq2⟩ ⟨q3, hq3⟩ W7 hl7 hp7) (fun h k => h.trans k) (KeepBox.put (blk_lt hl7) (blk_lt hp7)) (Below.refl _ _) (fun _ => rfl)
    (fun pre W => (OwnI W W2.heap.size (.slice (some ⟨g', 0, none⟩) len cap') (Sk.incB ct (pre.map (·.1)) k.c) ∧ Blk W w5.heap.size #[.int .i64 ct] 3 ∧ Blk W w.heap.size #[.int .i64 (n : Int), .int .i64 ks, .int .i64 ka, .slice (some ⟨g', 0, none⟩) len cap'] 38 ∧ Blk W (w.heap.size + 1) #[.int .i64 0, .int .i64 0, .int .i64 0, .slice none 0 0] 38) ∧ Below w.heap.size w W)
    (fun _ _ _ => False)
    (OwnFrom.and (Own.from (fun s A B row hs hg hr => ⟨ownOf_grownRow hs.1 hg hr, blk_grownRow hs.2.1 hg hr, blk_grownRow hs.2.2.1 hg hr, blk_grownRow hs.2.2.2 hg hr⟩) _) (ownFrom_below (Nat.le_refl _) (by rw [Hs7.out]; omega)))
    (fun _ _ _ _ _ hs _ _ => hs)
    ⟨⟨(by rw [List.map_nil, Sk.incB_nil]; exact hown7), hn7, hb7, ho7⟩, hB7⟩
    (fun x => { tmps := #[.agg #[.int .i64 (n : Int), .int .i64 ks, .int .i64 ka, .slice (some ⟨g, off, none⟩) len cap], .string ⟨key.toArray⟩, .pointer (some ⟨w.heap.size, 0, none⟩), undef, .pointer (some ⟨w.heap.size + 1, 0, none⟩), .pointer (some ⟨w1.heap.size, 0, none⟩), .pointer (some ⟨w5.heap.size, 0, none⟩), .pointer (some ⟨g', x.1, none⟩), .agg #[.int .i64 (n : Int), .int .i64 ks, .int .i64 ka, .slice (some ⟨g, off, none⟩) len cap], .string ⟨key.toArray⟩, .agg #[.int .i64 (q0 : Int), .int .i64 (q1 : Int), .int .i64 (q2 : Int), .int .i64 (q3 : Int)], .pointer (some ⟨w.heap.size, 3, none⟩), .slice (some ⟨g, off, none⟩) len cap, .slice (some ⟨g', 0, none⟩) len cap', .pointer (some ⟨w.heap.size, 3, none⟩), .pointer (some ⟨w.heap.size, 3, none⟩), .slice (some ⟨g', 0, none⟩) len cap', .agg #[.int .i64 (q0 : Int), .int .i64 (q1 : Int), .int .i64 (q2 : Int), .int .i64 (q3 : Int)], .int .i64 ct, .pointer (some ⟨w.heap.size, 3, none⟩), .slice (some ⟨g', 0, none⟩) len cap', .agg #[.int .i64 (q0 : Int), .int .i64 (q1 : Int), .int .i64 (q2 : Int), .int .i64 (q3 : Int)], .func (.func 70) #[] #[.pointer (some ⟨w5.heap.size + 1 + 1, 0, none⟩), .pointer (some ⟨w5.heap.size + 1, 0, none⟩)], .pointer (some ⟨g', x.1, none⟩), undef, undef, undef, undef, undef, undef, undef, undef, undef, undef, undef, undef, undef, undef, undef, undef, undef, undef, undef, undef, undef, undef, undef, undef, undef, undef], defers := [] }) ?assign ?body ?done ?stop)
  case assign =>
    intro l x W K hK
    gi_wp2
    exact hK
  case body =>
    rintro l pre x W ⟨⟨hown, hn, hb, ho⟩, hB⟩ _
    obtain ⟨x, hx⟩ := x
    have hll : (Sk.incB ct (pre.map (·.1)) k.c).length = len := by rw [Sk.incB_len, HL.out]
    have hxl : x < k.c.length := by rw [HL.out]; exact hx
    have hcx : W.cell? ⟨g', x, none⟩ = some (.int .i64 (Sk.at' (Sk.incB ct (pre.map (·.1)) k.c) x)) := ownOf_cell hown x _ (Sk.at_of (by rw [hll]; exact hx))
    have hfx : W.frozen? ⟨g', x, none⟩ = false := ownOf_free hown x
    have hcn : W.cell? ⟨w5.heap.size, 0, none⟩ = some (.int .i64 ct) := blk_cell hn 0
    have hit := Sk.incB_hit ct (pre.map (·.1)) k.c x hxl
    have miss := Sk.incB_miss ct (pre.map (·.1)) k.c x hxl
    rw [show pre.map (·.1) ++ [x] = (pre ++ [(⟨x, hx⟩ : Fin len)]).map (·.1) by simp] at hit miss
    have hset := ownOf_set hown hll.symm x (ct + 1)
    have hne1 : w5.heap.size ≠ g' := by omega
    have hne2 : w.heap.size ≠ g' := by omega
    have hne3 : w.heap.size + 1 ≠ g' := by omega
    have Hn2 := Lib.hid (blk_far hn (p := ⟨g', x, none⟩) hne1 (mkI (ct + 1)))
    have Hb2 := Lib.hid (blk_far hb (p := ⟨g', x, none⟩) hne2 (mkI (ct + 1)))
    have Ho2 := Lib.hid (blk_far ho (p := ⟨g', x, none⟩) hne3 (mkI (ct + 1)))
    have HB2 := Lib.hid (Below.setCell hB (p := ⟨g', x, none⟩) (by show w.heap.size ≤ g'; omega) (mkI (ct + 1)))
    have HK2 := Lib.hid (KeepBox.set (bl := w5.heap.size + 1) (bp := w5.heap.size + 1 + 1) W ⟨g', x, none⟩ (mkI (ct + 1)) (by show w5.heap.size + 1 ≠ g'; omega) (by show w5.heap.size + 1 + 1 ≠ g'; omega))
    generalize Sk.at' (Sk.incB ct (pre.map (·.1)) k.c) x = z at *
    have Hown := Lib.hid hown
    have Hn := Lib.hid hn
    have Hb := Lib.hid hb
    have Ho := Lib.hid ho
    have HB := Lib.hid hB
    have Hit := Lib.hid hit
    have Miss := Lib.hid miss
    have Hset := Lib.hid hset
    have hmx : Tryd.prog.follows .mixedOrders = true := by kernel_rfl
    clear hown hn hb ho hB hit miss hset hll hxl hb7 ho7 hn7 hl7 hp7 hB7 hown7 hz1 hz2 hg5 hgg hne1 hne2 hne3 hne hpb hlt1 hl5 hl6
    dsimp only
    by_cases hz : z = ct
    · subst hz
      by_cases h15 : z < 15
      · have hd : decide (z < 15) = true := by simpa using h15
        have Hit2 := Lib.hid (Hit.out h15 rfl)
        gi_wp2
        gi_region_with_o (fail)
        all_goals gi_wp2
        all_goals exact ⟨(KeepsOthers.setCell _ _ _).trans (KeepsOthers.drew _), HK2.out, ⟨by rw [← Hit2.out]; exact Hset.out, Hn2.out, Hb2.out, Ho2.out⟩, HB2.out.drew⟩
      · have hd : decide (z < 15) = false := by simpa using h15
        have Miss2 := Lib.hid (Miss.out (.inr h15))
        gi_wp2
        gi_region_with_o (fail)
        all_goals gi_wp2
        all_goals exact ⟨KeepsOthers.drew _, ⟨rfl, rfl⟩, ⟨by rw [← Miss2.out]; exact Hown.out, Hn.out, Hb.out, Ho.out⟩, HB.out.drew⟩
    · have hd : (z == ct) = false := by simpa using hz
      have Miss2 := Lib.hid (Miss.out (.inl hz))
      gi_wp2
      gi_region_with_o (fail)
      all_goals gi_wp2
      all_goals exact ⟨KeepsOthers.drew _, ⟨rfl, rfl⟩, ⟨by rw [← Miss2.out]; exact Hown.out, Hn.out, Hb.out, Ho.out⟩, HB.out.drew⟩
  case done =>
    rintro D ys W hD rfl ⟨⟨hown, hn, hb, ho⟩, hB⟩ hK
    have hadd : Sk.incB ct ([(⟨q0, hq0⟩ : Fin len), ⟨q1, hq1⟩, ⟨q2, hq2⟩, ⟨q3, hq3⟩].map (·.1)) k.c = Sk.add (k.p key) k.c := by
      rw [← Sk.incB_add, ← Hct.out, Hp.out]
      show Sk.incB (Sk.cnt k.c (k.p key)) _ _ = _
      rw [Hp.out]
      rfl
    rw [hadd] at hown
    have hD2 := hD
    rw [Hs7.out] at hD2
    have hDn : D ≠ w.heap.size := by omega
    have hDo : D ≠ w.heap.size + 1 := by omega
    have c0 := blk_cell hb 0
    have c1 := blk_cell hb 1
    have c2 := blk_cell hb 2
    have c3 := blk_cell hb 3
    have f2 := blk_free hb 2
    have o0 := blk_cell ho 0
    have o1 := blk_cell ho 1
    have o2 := blk_cell ho 2
    have o3 := blk_cell ho 3
    have p0 := blk_free ho 0
    have p1 := blk_free ho 1
    have p2 := blk_free ho 2
    have p3 := blk_free ho 3
    simp only [List.getElem?_toArray, List.getElem?_cons_zero, List.getElem?_cons_succ] at c0 c1 c2 c3 o0 o1 o2 o3
    have ha1 := hk.a1
    have ha2 := hk.a2
    have hs2 := hk.s2
    rw [Hka.out] at ha1 ha2
    rw [Hks.out] at ha2 hs2
    have Hown := Lib.hid hown
    have Hb := Lib.hid hb
    have Ho := Lib.hid ho
    have HB := Lib.hid hB
    have HK := Lib.hid hK
    clear hadd hown hn hb ho hB hK hb7 ho7 hn7 hl7 hp7 hB7 hown7
    by_cases hd : ka + 1 = ks
    · have hde : (ka + 1 == ks) = true := by simpa using hd
      have hde2 : decide (ka + 1 = ks) = true := by simpa using hd
      have Hd := Lib.hid hd
      clear hd
      go_wp2_with fail
      have hd := Hd.out
      have hkadd : k.add key = ⟨(n : Int), ks, (ka + 1) / 2, Sk.half (Sk.add (k.p key) k.c)⟩ := by
        unfold Sk.K.add Sk.K.add1 Sk.K.half
        rw [if_pos (by rw [Hka.out, Hks.out]; exact hd), Hka.out, Hks.out, Hwn.out]
      obtain ⟨W8, hW8⟩ : ∃ W8, W8 = W.setCell ⟨w.heap.size, 2, none⟩ (.int .i64 (ka + 1)) := ⟨_, rfl⟩
      have ho8 : Blk W8 (w.heap.size + 1) #[.int .i64 0, .int .i64 0, .int .i64 0, .slice none 0 0] 38 := by rw [hW8]; exact blk_far Ho.out (p := ⟨w.heap.size, 2, none⟩) (by show w.heap.size + 1 ≠ w.heap.size; omega) _
      have hK8 : W8.heap[D]? = some (.deferred (some [])) := by rw [hW8]; exact blk_far HK.out (p := ⟨w.heap.size, 2, none⟩) hDn _
      have hB8 : Below w.heap.size w W8 := by rw [hW8]; exact HB.out.setCell (p := ⟨w.heap.size, 2, none⟩) (by show w.heap.size ≤ w.heap.size; omega) _
      have hown8 : OwnI W8 W2.heap.size (.slice (some ⟨g', 0, none⟩) len cap') (Sk.add (k.p key) k.c) := by rw [hW8]; exact ownOf_far Hown.out (by show w.heap.size < _; omega) _
      have hz8 : w.heap.size + 1 < W8.heap.size := blk_lt ho8
      have hal := Sk.add_len (k.p key) k.c
      have hax : ∀ x ∈ Sk.add (k.p key) k.c, 0 ≤ x ∧ x ≤ 15 := by
        intro x hx
        obtain ⟨i, hi⟩ := List.getElem?_of_mem hx
        have e := Sk.at_of (List.getElem?_eq_some_iff.1 hi).1
        rw [hi] at e
        have := hk.add1_at key i
        simp only [Sk.K.add1] at this
        simp at e
        omega
      have hhne : Sk.half (Sk.add (k.p key) k.c) ≠ [] := by
        intro h
        have h1 := Sk.half_len (Sk.add (k.p key) k.c)
        rw [h, hal] at h1
        exact hne (List.length_eq_zero_iff.1 h1.symm)
      have hane : Sk.add (k.p key) k.c ≠ [] := by
        intro h
        rw [h] at hal
        exact hne (List.length_eq_zero_iff.1 hal.symm)
      have hHv := halve_any (n : Int) ks (ka + 1) (Sk.add (k.p key) k.c) _ W8 (ownOf_rd hown8) (by rw [hal, HL.out]; exact hlen9) hane hax (by omega) (by omega)
      rw [← hW8]
      clear hW8 c0 c1 c2 c3 f2 o0 o1 o2 o3 p0 p1 p2 p3
      with_reducible refine hHv.mono ?_
      rintro e w9 ⟨⟨v9, rfl, hown9⟩, hw9⟩
      have ho9 := blk_kept ho8 hw9
      have hK9 := blk_kept hK8 hw9
      have hB9 := hB8.trans (hw9.mono hB8.size)
      obtain ⟨g9, cap9, rfl, hg9, _⟩ := ownOf_slice hown9 hhne
      have o0 := blk_cell ho9 0
      have o1 := blk_cell ho9 1
      have o2 := blk_cell ho9 2
      have o3 := blk_cell ho9 3
      have p0 := blk_free ho9 0
      have p1 := blk_free ho9 1
      have p2 := blk_free ho9 2
      have p3 := blk_free ho9 3
      simp only [List.getElem?_toArray, List.getElem?_cons_zero, List.getElem?_cons_succ] at o0 o1 o2 o3
      generalize hh9 : (Sk.half (Sk.add (k.p key) k.c)).length = len9 at *
      have Hkadd := Lib.hid hkadd
      have Hown9 := Lib.hid hown9
      have Ho9 := Lib.hid ho9
      have HK9 := Lib.hid hK9
      have HB9 := Lib.hid hB9
      clear hkadd hown9 ho9 hK9 hB9 ho8 hK8 hB8 hown8 hHv hax hw9 hal hhne hane hd hh9
      dsimp only
      go_wp2
      have hKf := blk_far (blk_far (blk_far (blk_far HK9.out (p := ⟨w.heap.size + 1, 0, none⟩) hDo (.int .i64 (n : Int))) (p := ⟨w.heap.size + 1, 1, none⟩) hDo (.int .i64 ks)) (p := ⟨w.heap.size + 1, 2, none⟩) hDo (.int .i64 ((ka + 1) / 2))) (p := ⟨w.heap.size + 1, 3, none⟩) hDo (.slice (some ⟨g9, 0, none⟩) len9 cap9)
      have hbf := blk_set (blk_set (blk_set (blk_set Ho9.out 0 (.int .i64 (n : Int))) 1 (.int .i64 ks)) 2 (.int .i64 ((ka + 1) / 2))) 3 (.slice (some ⟨g9, 0, none⟩) len9 cap9)
      simp only [List.setIfInBounds_toArray, List.set_cons_zero, List.set_cons_succ] at hbf
      have hof := ownOf_far (ownOf_far (ownOf_far (ownOf_far Hown9.out (p := ⟨w.heap.size + 1, 0, none⟩) hz8 (.int .i64 (n : Int))) (p := ⟨w.heap.size + 1, 1, none⟩) hz8 (.int .i64 ks)) (p := ⟨w.heap.size + 1, 2, none⟩) hz8 (.int .i64 ((ka + 1) / 2))) (p := ⟨w.heap.size + 1, 3, none⟩) hz8 (.slice (some ⟨g9, 0, none⟩) len9 cap9)
      have hBf := (((HB9.out.setCell (p := ⟨w.heap.size + 1, 0, none⟩) (by show w.heap.size ≤ w.heap.size + 1; omega) (.int .i64 (n : Int))).setCell (p := ⟨w.heap.size + 1, 1, none⟩) (by show w.heap.size ≤ w.heap.size + 1; omega) (.int .i64 ks)).setCell (p := ⟨w.heap.size + 1, 2, none⟩) (by show w.heap.size ≤ w.heap.size + 1; omega) (.int .i64 ((ka + 1) / 2))).setCell (p := ⟨w.heap.size + 1, 3, none⟩) (by show w.heap.size ≤ w.heap.size + 1; omega) (.slice (some ⟨g9, 0, none⟩) len9 cap9)
      refine ⟨by simp, .inl ⟨_, _, rfl, run_takeDeferred hKf, ?_⟩⟩
      rw [Hkadd.out]
      refine ⟨_, results_cell_row Tryd.results20 _ _ (w.heap.size + 1) 38 _ _ _ rfl ((heap_putObj_far _ _ _ _ (fun h => hDo h.symm)).trans hbf) Tryd.underlying38 rfl (by kernel_rfl), ⟨_, rfl, ?_⟩, hBf.trans (belowK_b (w := w) (Nat.le_refl _) _ D _ _ (by omega) hKf rfl rfl)⟩
      exact ownOf_mono (ownOf_grownRow hof (grownBy_putObj' _ D _) (fun r e => by cases e; exact ⟨_, hKf, rfl⟩)) (by omega)
    · have hde : (ka + 1 == ks) = false := by simpa using hd
      have hkadd : k.add key = ⟨(n : Int), ks, ka + 1, Sk.add (k.p key) k.c⟩ := by
        unfold Sk.K.add Sk.K.add1
        rw [if_neg (by rw [Hka.out, Hks.out]; exact hd), Hka.out, Hks.out, Hwn.out]
      have Hkadd := Lib.hid hkadd
      clear hkadd
      go_wp2
      have hKf := blk_far (blk_far (blk_far (blk_far (blk_far HK.out (p := ⟨w.heap.size, 2, none⟩) hDn (.int .i64 (ka + 1))) (p := ⟨w.heap.size + 1, 0, none⟩) hDo (.int .i64 (n : Int))) (p := ⟨w.heap.size + 1, 1, none⟩) hDo (.int .i64 ks)) (p := ⟨w.heap.size + 1, 2, none⟩) hDo (.int .i64 (ka + 1))) (p := ⟨w.heap.size + 1, 3, none⟩) hDo (.slice (some ⟨g', 0, none⟩) len cap')
      have hbf := blk_set (blk_set (blk_set (blk_set (blk_far Ho.out (p := ⟨w.heap.size, 2, none⟩) (by show w.heap.size + 1 ≠ w.heap.size; omega) (.int .i64 (ka + 1))) 0 (.int .i64 (n : Int))) 1 (.int .i64 ks)) 2 (.int .i64 (ka + 1))) 3 (.slice (some ⟨g', 0, none⟩) len cap')
      simp only [List.setIfInBounds_toArray, List.set_cons_zero, List.set_cons_succ] at hbf
      have hof := ownOf_far (ownOf_far (ownOf_far (ownOf_far (ownOf_far Hown.out (p := ⟨w.heap.size, 2, none⟩) (by show w.heap.size < _; omega) (.int .i64 (ka + 1))) (p := ⟨w.heap.size + 1, 0, none⟩) (by show w.heap.size + 1 < _; omega) (.int .i64 (n : Int))) (p := ⟨w.heap.size + 1, 1, none⟩) (by show w.heap.size + 1 < _; omega) (.int .i64 ks)) (p := ⟨w.heap.size + 1, 2, none⟩) (by show w.heap.size + 1 < _; omega) (.int .i64 (ka + 1))) (p := ⟨w.heap.size + 1, 3, none⟩) (by show w.heap.size + 1 < _; omega) (.slice (some ⟨g', 0, none⟩) len cap')
      have hBf := ((((HB.out.setCell (p := ⟨w.heap.size, 2, none⟩) (by show w.heap.size ≤ w.heap.size; omega) (.int .i64 (ka + 1))).setCell (p := ⟨w.heap.size + 1, 0, none⟩) (by show w.heap.size ≤ w.heap.size + 1; omega) (.int .i64 (n : Int))).setCell (p := ⟨w.heap.size + 1, 1, none⟩) (by show w.heap.size ≤ w.heap.size + 1; omega) (.int .i64 ks)).setCell (p := ⟨w.heap.size + 1, 2, none⟩) (by show w.heap.size ≤ w.heap.size + 1; omega) (.int .i64 (ka + 1))).setCell (p := ⟨w.heap.size + 1, 3, none⟩) (by show w.heap.size ≤ w.heap.size + 1; omega) (.slice (some ⟨g', 0, none⟩) len cap')
      refine ⟨by simp, .inl ⟨_, _, rfl, run_takeDeferred hKf, ?_⟩⟩
      rw [Hkadd.out]
      refine ⟨_, results_cell_row Tryd.results20 _ _ (w.heap.size + 1) 38 _ _ _ rfl ((heap_putObj_far _ _ _ _ (fun h => hDo h.symm)).trans hbf) Tryd.underlying38 rfl (by kernel_rfl), ⟨_, rfl, ?_⟩, hBf.trans (belowK_b (w := w) (Nat.le_refl _) _ D _ _ (by omega) hKf rfl rfl)⟩
      exact ownOf_mono (ownOf_grownRow hof (grownBy_putObj' _ D _) (fun r e => by cases e; exact ⟨_, hKf, rfl⟩)) (by omega)
  case stop =>
    rintro D c pre W _ _ h _
    exact h.elim
end Go.Proofs.YtbgieephehfgpabDoor
/-
  What the reference's Count, Fill, Halve and Merge return. Conditions: the sketches are valid, the key is short, the reference's table is as its text lays it.
-/
namespace Go.Proofs.YtbgieephehfgpabDoor
open Go Go.RowKit
set_option maxRecDepth 100000 in
set_option maxHeartbeats 2000000 in
theorem rcount_any (k : Sk.K) (hk : Sk.Ok k) (key : List UInt8) (v : Value) (w : World) (hr : Rd mkI w v k.c) (hkey : key.length ≤ 10000) (hT : TabR w) :
    Calls Tryd.prog 34 #[skV k v, .string ⟨key.toArray⟩] w fun e w' => e = .returned (.int .i64 (k.count key)) ∧ Below w.heap.size w w' := by
  obtain ⟨g, off, cap, rfl, _, hg, hc⟩ := rd_parts hr hk.ne
  have hn1 := hk.n1
  have hcl := hk.clen
  have hwn := hk.wn
  have hn2 : k.n ≤ 4096 := by have := hk.wide; omega
  have hcnt : k.count key = Sk.cnt k.c (Sk.places key k.n 4) := rfl
  rw [hcnt, show skV k (.slice (some ⟨g, off, none⟩) k.c.length cap) = .agg #[.int .i64 (k.n : Int), .int .i64 k.s, .int .i64 k.a, .slice (some ⟨g, off, none⟩) k.c.length cap] by rw [hwn]]
  have hpl := fun (row : Nat) (W : World) (hr : row < 4) (h : TabR W) => rplace_any key row k.n W hkey hr hn1 hn2 h
  have hlt := fun row => Sk.plN_lt key row k.n hn1
  have hrl := fun row (h : row < 4) => Sk.q_lt key k.n row hn1 h
  have hat := fun (i : Nat) (h : i < k.c.length) => hc i _ (Sk.at_of h)
  generalize k.n = n at *
  obtain ⟨kw, ks, ka, kc⟩ := k
  dsimp only at *
  have Hat := Lib.hid hat
  have Hcl := Lib.hid hcl
  clear hat hc hwn hcnt hr hk
  generalize kc.length = len at *
  have hB1 := below_alloc1 w (.cells #[.int .i64 (n : Int), .int .i64 ks, .int .i64 ka, .slice (some ⟨g, off, none⟩) len cap] 38)
  have hb1 := blk_new w #[.int .i64 (n : Int), .int .i64 ks, .int .i64 ka, .slice (some ⟨g, off, none⟩) len cap] 38
  clear hcl
  go_enter Tryd.func34, Tryd.ntmps34
  go_wp2
  go_loopw [5, 6] (fun c i wr => ∃ k : Nat, k ≤ 4 ∧ i = .int .i64 (k : Int) ∧ c = .int .i64 (Sk.cnt kc (Sk.places key n k)) ∧ Blk wr w.heap.size #[.int .i64 (n : Int), .int .i64 ks, .int .i64 ka, .slice (some ⟨g, off, none⟩) len cap] 38 ∧ Below w.heap.size w wr) (fun _ i _ => 4 - (intOf i).toNat)
  case atStart => exact ⟨0, by omega, rfl, rfl, hb1, hB1⟩
  case round =>
    clear hb1 hB1
    obtain ⟨k, hk4, rfl, rfl, hb, hB⟩ := hrel
    by_cases h4 : k < 4
    · have hp1 := hpl k
      have hpk := hlt k
      have hql := hrl k h4
      have hps := Sk.places_succ key n k
      have hsn := Sk.cnt_snoc kc (Sk.places key n k) (k * n + Sk.plN key k n)
      rw [← hps] at hsn
      unfold Sk.q at hql
      generalize Sk.plN key k n = p at *
      have hkn : k * n ≤ 3 * n := Nat.mul_le_mul_right n (by omega)
      have hmul : (k : Int) * (n : Int) = ((k * n : Nat) : Int) := by simp
      generalize k * n = z at *
      have hmul2 : IntKind.i64.wrap ((k : Int) * (n : Int)) = (z : Int) := by rw [hmul, IntWalk.i64_in _ (by omega)]
      obtain ⟨q, hq⟩ : ∃ q, q = z + p := ⟨_, rfl⟩
      rw [← hq] at hql hsn
      have hadd : IntKind.i64.wrap ((z : Int) + (p : Int)) = (q : Int) := by rw [IntWalk.i64_in _ (by omega)]; omega
      have hqn : (q : Int) < (len : Int) := by have := Hcl.out; omega
      have hq0 : (0 : Int) ≤ (q : Int) := by omega
      have hcx := Hat.out q (by omega)
      generalize Sk.at' kc q = x at *
      generalize hr2 : Sk.cnt kc (Sk.places key n (k + 1)) = r2 at *
      generalize Sk.cnt kc (Sk.places key n k) = r at *
      have Hr2 := Lib.hid hr2
      have Hsn := Lib.hid hsn
      have Hp1 := Lib.hid hp1
      have Hb := Lib.hid hb
      have HB := Lib.hid hB
      have k0 := blk_cell hb 0
      have k3 := blk_cell hb 3
      have kx : wr.cell? ⟨g, off + q, none⟩ = some (.int .i64 x) := (hB.cell (p := ⟨g, off + q, none⟩) hg).trans hcx
      have HTw := Lib.hid (TabR.below hT hB)
      simp only [List.getElem?_toArray, List.getElem?_cons_zero, List.getElem?_cons_succ] at k0 k3
      clear hpl hlt hrl hps hp1 hmul hsn hr2 hq hb hB hcx
      go_wp2
      go_region_held3 (fun W => W.cell? ⟨w.heap.size, 0, none⟩ = some (.int .i64 (n : Int)) ∧ W.cell? ⟨w.heap.size, 3, none⟩ = some (.slice (some ⟨g, off, none⟩) len cap) ∧ W.cell? ⟨g, off + q, none⟩ = some (.int .i64 x))
        (first | exact ⟨k0, k3, kx⟩ | exact ⟨blk_cell hb2 0, blk_cell hb2 3, kx2⟩)
        (first | (go_at_call 37; ((with_reducible refine (Hp1.out wr.drew h4 (TabR.below HTw.out (Below.refl _ _).drew)).mono ?_); rintro e w2 ⟨rfl, hw2⟩; have hb2 := blk_kept (w := wr.drew) Hb.out hw2; have hB2 := HB.out.drew.trans (hw2.mono HB.out.size); have kx2 := (hw2.cell (p := ⟨g, off + q, none⟩) (Nat.lt_of_lt_of_le hg HB.out.size)).trans kx)))
      by_cases hxr : x < r
      · have hd : decide (x < r) = true := by simpa using hxr
        go_wp2
        go_roundw
        case rel => exact ⟨k + 1, by omega, by go_num, by rw [Hr2.out, ← Hr2.out, Hr2.out, Hsn.out]; congr 1; omega, hb2, hB2⟩
        case measure => simp [intOf]; omega
      · have hd : decide (x < r) = false := by simpa using hxr
        go_wp2
        go_roundw
        case rel => exact ⟨k + 1, by omega, by go_num, by rw [Hr2.out, Hsn.out]; congr 1; omega, hb2, hB2⟩
        case measure => simp [intOf]; omega
    · obtain rfl : k = 4 := by omega
      go_wp2
      go_ret
      exact ⟨rfl, hB⟩
/-- append(s, x) for an integer, in a region that draws its order -/
theorem step_appI {ops : Array Oper} {o : Oper} {a : Act} {w : World} {K : Act → World → Prop} {Q : Exit → Act → World → Prop} {E : Prop} (hgd : o.guard = none) (s x : Operand)
    (ho : o.op = .call { callee := .builtin .append, args := #[s, x], argTypes := #[36, 36] }) (base : Nat) (v : Value) (l : List Int) (hs : a.eval s = v) (hown : OwnI w base v l)
    (y : Int) (hx : a.eval x = .slice (some ⟨w.heap.size, 0, none⟩) 1 1) (hlen : l.length < 1000000000000) (hbase : base ≤ w.heap.size)
    (h : ∀ v' w', OwnI w' base v' (l ++ [y]) → Grew base w w' v.ownBlock → K (a.put o.dst v') w') :
    if Region.wanted o (yielded ops a.tmps) = true then Oper.wp Tryd.prog o a (w.alloc (.cells #[.int .i64 y] 3)) K Q else E := by
  obtain ⟨i0, hi, hz0, hz1, hz2⟩ := info_parts info_int
  have hcl : ∀ j u, ([y].map mkI)[j]? = some u → (w.alloc (.cells #[.int .i64 y] 3)).cell? ((⟨w.heap.size, 0, none⟩ : Addr).add j) = some u := by
    intro j u hj
    rw [Addr.add_mid, Nat.zero_add, blk_cell (blk_new w _ 3), ← Array.getElem?_toList]
    exact hj
  refine step_append_lies (w.alloc (.cells #[.int .i64 y] 3)) hgd s x 36 ho base 3 i0 (.int .i64 0) 1 8 Tryd.underlying36 hi hz0 hz1 hz2 rfl (by decide) v l.length (l.map mkI) hs (hown.alloc _) ⟨w.heap.size, 0, none⟩ 1 1 ([y].map mkI) hx (by simp) hcl (by intro u hu; obtain ⟨b, _, rfl⟩ := List.mem_map.1 hu; rfl) (by decide) (by unfold maxLen; omega) (by omega) (by simp; omega) _ rfl ?_
  intro g cap w' hown' hg _ _
  have hO : OwnI w' base (.slice (some ⟨g, 0, none⟩) (l.length + 1) cap) (l ++ [y]) := by
    have e : (l ++ [y]).map mkI = l.map mkI ++ [y].map mkI := by simp
    have e2 : (l ++ [y]).length = l.length + 1 := by simp
    show w'.ownsRow _ _ _ _ _ _
    rw [e, e2]
    exact hown'
  have hrow : ∀ j, v.ownBlock = some j → base ≤ j := fun j hj => (hown.lt j hj).1
  refine h _ w' hO ⟨?_, ?_, ?_⟩
  · intro B a0 hB hBb
    exact (hB.alloc (by have := hB.size; omega) _).grown hg (by simp; omega) (fun j hj => Nat.le_trans hBb (hrow j hj))
  · have := hg.size
    rw [World.size_alloc] at this
    omega
  · intro k z hk hkb
    exact blk_grown (blk_alloc hk _) hg (fun e => by have := hrow k e.symm; omega)
theorem Sk.half_take (c : List Int) (k : Nat) (x : Int) (h : c[k]? = some x) : (Sk.half c).take (k + 1) = (Sk.half c).take k ++ [x / 2] := by
  rw [List.take_add_one]
  simp [Sk.half, h]
set_option maxRecDepth 100000 in
set_option maxHeartbeats 4000000 in
theorem rhalve_any (kw ks ka : Int) (c : List Int) (v : Value) (w : World) (hr : Rd mkI w v c) (hlen : c.length ≤ 1000000000) (h0 : c ≠ []) (hx : ∀ x ∈ c, 0 ≤ x ∧ x ≤ 15) (ha : 0 ≤ ka) (ha2 : ka ≤ 1000000000) :
    Calls Tryd.prog 30 #[.agg #[.int .i64 kw, .int .i64 ks, .int .i64 ka, v]] w fun e w' => (∃ v', e = .returned (.agg #[.int .i64 kw, .int .i64 ks, .int .i64 (ka / 2), v']) ∧ OwnI w' w.heap.size v' (Sk.half c)) ∧ Below w.heap.size w w' := by
  obtain ⟨g, off, cap, rfl, hcap, hg, hc⟩ := rd_parts hr h0
  have hst := Sk.half_take c
  have hhl := Sk.half_len c
  have Hst := Lib.hid hst
  have Hc := Lib.hid hc
  have Hx := Lib.hid hx
  have Hhl := Lib.hid hhl
  have hhne : Sk.half c ≠ [] := by intro h; apply h0; simpa [Sk.half] using h
  obtain ⟨h, hh⟩ : ∃ h, h = Sk.half c := ⟨_, rfl⟩
  rw [← hh] at Hst Hhl hhne ⊢
  clear hst hc hx hhl hr hh h0
  have Hl := Lib.hid (rfl : c.length = c.length)
  have hlc : ∀ k x, c[k]? = some x → k < c.length := fun k x hk => (List.getElem?_eq_some_iff.1 hk).1
  have hex : ∀ k, k < c.length → ∃ x, c[k]? = some x := fun k hk => ⟨_, List.getElem?_eq_getElem hk⟩
  have Hex := Lib.hid hex
  clear hlc hex Hl
  generalize c.length = len at *
  go_enter Tryd.func30, Tryd.ntmps30
  go_wp2
  obtain ⟨W0, hW0⟩ : ∃ W0, W0 = ((w.alloc (.cells #[.int .i64 kw, .int .i64 ks, .int .i64 ka, .slice (some ⟨g, off, none⟩) len cap] 38)).alloc (.cells #[.int .i64 0, .int .i64 0, .int .i64 0, .slice none 0 0] 38)).alloc (.cells #[.int .i64 kw, .int .i64 ks, .int .i64 (ka / 2), .slice none 0 0] 38) := ⟨_, rfl⟩
  have hb0 : Blk W0 w.heap.size #[.int .i64 kw, .int .i64 ks, .int .i64 ka, .slice (some ⟨g, off, none⟩) len cap] 38 := by rw [hW0]; exact blk_alloc (blk_alloc (blk_new w _ _) _) _
  have ho0 : Blk W0 (w.heap.size + 1) #[.int .i64 0, .int .i64 0, .int .i64 0, .slice none 0 0] 38 := by rw [hW0]; exact blk_alloc (blk_new2 w _ _ _) _
  have hu0 : Blk W0 (w.heap.size + 1 + 1) #[.int .i64 kw, .int .i64 ks, .int .i64 (ka / 2), .slice none 0 0] 38 := by rw [hW0]; exact heap_alloc_at _ _ _ (by simp)
  have hB0 : Below w.heap.size w W0 := by rw [hW0]; exact below_al (below_al (below_alloc1 _ _) _) _
  have hs0 : w.heap.size + 3 ≤ W0.heap.size := by rw [hW0]; simp
  rw [← hW0]
  clear hW0
  go_loopw [4] (fun i wr => ∃ (k : Nat) (v : Value), k ≤ len ∧ i = .int .i64 (k : Int) ∧ OwnI wr (w.heap.size + 3) v (h.take k) ∧ Blk wr (w.heap.size + 1 + 1) #[.int .i64 kw, .int .i64 ks, .int .i64 (ka / 2), v] 38 ∧ Blk wr w.heap.size #[.int .i64 kw, .int .i64 ks, .int .i64 ka, .slice (some ⟨g, off, none⟩) len cap] 38 ∧ Blk wr (w.heap.size + 1) #[.int .i64 0, .int .i64 0, .int .i64 0, .slice none 0 0] 38 ∧ Below w.heap.size w wr ∧ w.heap.size + 3 ≤ wr.heap.size) (fun i _ => len - (intOf i).toNat)
  case atStart => exact ⟨0, _, by omega, rfl, ownOf_nil _ _ _ _, hu0, hb0, ho0, hB0, hs0⟩
  case round =>
    clear hb0 ho0 hu0 hB0 hs0
    obtain ⟨k, v, hk, rfl, hown, hu, hb, ho, hB, hsz⟩ := hrel
    by_cases hlt : k < len
    · obtain ⟨x, hxk⟩ := Hex.out k hlt
      have hcx : wr.cell? ⟨g, off + k, none⟩ = some (.int .i64 x) := (hB.cell (p := ⟨g, off + k, none⟩) hg).trans (Hc.out k x hxk)
      obtain ⟨hx0, hx1⟩ := Hx.out x (List.mem_of_getElem? hxk)
      have hsn := Hst.out k x hxk
      have htl : (h.take k).length < 1000000000000 := by have h1 := List.length_take_le k h; omega
      have q0 := blk_cell hb 3
      have q1 := blk_cell hu 3
      simp only [List.getElem?_toArray, List.getElem?_cons_zero, List.getElem?_cons_succ] at q0 q1
      have Hsn := Lib.hid hsn
      have Hown := Lib.hid hown
      have Hu := Lib.hid hu
      have Hb := Lib.hid hb
      have Ho := Lib.hid ho
      have HB := Lib.hid hB
      have Hsz := Lib.hid hsz
      clear hsn hown hu hb ho hB hxk
      generalize hd : h.take k = d at *
      clear hd
      have hki : (0 : Int) ≤ (k : Int) := by omega
      have hkl : (k : Int) < (len : Int) := by omega
      have hl0 : w.heap.size < wr.heap.size := by omega
      have hl2 : w.heap.size + 1 + 1 < wr.heap.size := by omega
      have htd : x.tdiv 2 = x / 2 := Int.tdiv_eq_ediv_of_nonneg hx0
      have hwr : IntKind.i64.wrap (x / 2) = x / 2 := IntWalk.i64_in _ (by omega)
      go_wp2
      go_region_law (refine step_appI (w := wr.drew) rfl (.tmp 21) (.tmp 28) rfl (w.heap.size + 3) v d (by simp [Act.eval]) Hown.out (x / 2) (by simp [Act.eval]) htl Hsz.out ?_; intro v1 w1 hown1 hg1; have hu1 := hg1.kept _ _ Hu.out (by omega); have hu3 := blk_cell hu1 3; have hf3 := blk_free hu1 3; simp only [List.getElem?_toArray, List.getElem?_cons_zero, List.getElem?_cons_succ] at hu3; obtain ⟨g1, cap1, rfl, hgb1, _⟩ := ownOf_slice hown1 (by simp); have hB1 := hg1.below _ _ HB.out.drew (by omega); have hb1 := hg1.kept _ _ Hb.out (by omega); have ho1 := hg1.kept _ _ Ho.out (by omega); have hs1 := Nat.le_trans Hsz.out hg1.size; rw [List.length_append, List.length_singleton] at hown1)
      all_goals
        have Hown2 := Lib.hid (ownOf_far hown1 (p := ⟨w.heap.size + 1 + 1, 3, none⟩) (by show w.heap.size + 1 + 1 < _; omega) (.slice (some ⟨g1, 0, none⟩) (d.length + 1) cap1))
        have hu2 := blk_set hu1 3 (.slice (some ⟨g1, 0, none⟩) (d.length + 1) cap1)
        simp only [List.setIfInBounds_toArray, List.set_cons_zero, List.set_cons_succ] at hu2
        have Hu2 := Lib.hid hu2
        have Hb2 := Lib.hid (blk_far hb1 (p := ⟨w.heap.size + 1 + 1, 3, none⟩) (by show w.heap.size ≠ w.heap.size + 1 + 1; omega) (.slice (some ⟨g1, 0, none⟩) (d.length + 1) cap1))
        have Ho2 := Lib.hid (blk_far ho1 (p := ⟨w.heap.size + 1 + 1, 3, none⟩) (by show w.heap.size + 1 ≠ w.heap.size + 1 + 1; omega) (.slice (some ⟨g1, 0, none⟩) (d.length + 1) cap1))
        have HB2 := Lib.hid (Below.setCell hB1 (p := ⟨w.heap.size + 1 + 1, 3, none⟩) (by show w.heap.size ≤ w.heap.size + 1 + 1; omega) (.slice (some ⟨g1, 0, none⟩) (d.length + 1) cap1))
        clear hown1 hu1 hu2 hb1 ho1 hB1 hu3 hf3
        go_wp2
        go_roundw
        case rel => exact ⟨k + 1, _, by omega, by go_num, by rw [Hsn.out]; exact Hown2.out, Hu2.out, Hb2.out, Ho2.out, HB2.out, by simpa using hs1⟩
        case measure => simp [intOf]; omega
    · obtain rfl : k = len := by omega
      rw [List.take_of_length_le (by rw [Hhl.out]; exact Nat.le_refl _)] at hown
      obtain ⟨g1, cap1, rfl, hgb1, _⟩ := ownOf_slice hown hhne
      rw [Hhl.out] at hown hu
      have c0 := blk_cell hu 0
      have c1 := blk_cell hu 1
      have c2 := blk_cell hu 2
      have c3 := blk_cell hu 3
      have o0 := blk_cell ho 0
      have o1 := blk_cell ho 1
      have o2 := blk_cell ho 2
      have o3 := blk_cell ho 3
      have p0 := blk_free ho 0
      have p1 := blk_free ho 1
      have p2 := blk_free ho 2
      have p3 := blk_free ho 3
      have d0 := blk_cell hb 3
      simp only [List.getElem?_toArray, List.getElem?_cons_zero, List.getElem?_cons_succ] at c0 c1 c2 c3 o0 o1 o2 o3 d0
      have Hown := Lib.hid hown
      have HB := Lib.hid hB
      clear hown hB hu hb ho
      go_wp2
      refine bodyPost_ret (v := .agg #[.int .i64 kw, .int .i64 ks, .int .i64 (ka / 2), .slice (some ⟨g1, 0, none⟩) k cap1]) (by simp [results, Tryd.results30, go_sem, o0, o1, o2, o3]) rfl ⟨⟨_, rfl, ?_⟩, ?_⟩
      · exact ownOf_mono (base := w.heap.size + 3) (ownOf_far (ownOf_far (ownOf_far (ownOf_far Hown.out (by show w.heap.size + 1 < _; omega) _) (by show w.heap.size + 1 < _; omega) _) (by show w.heap.size + 1 < _; omega) _) (by show w.heap.size + 1 < _; omega) _) (by omega)
      · exact (((HB.out.setCell (p := ⟨w.heap.size + 1, 0, none⟩) (by show w.heap.size ≤ w.heap.size + 1; omega) _).setCell (p := ⟨w.heap.size + 1, 1, none⟩) (by show w.heap.size ≤ w.heap.size + 1; omega) _).setCell (p := ⟨w.heap.size + 1, 2, none⟩) (by show w.heap.size ≤ w.heap.size + 1; omega) _).setCell (p := ⟨w.heap.size + 1, 3, none⟩) (by show w.heap.size ≤ w.heap.size + 1; omega) _
end Go.Proofs.YtbgieephehfgpabDoor
/-
  What the reference's Merge returns. Conditions: the sketches are valid.
-/
namespace Go.Proofs.YtbgieephehfgpabDoor
open Go Go.RowKit
/-- the value of a sketch with an error -/
abbrev madeV (k : Sk.K) (v : Value) (e : Int) : Value := .agg #[.int .i64 k.w, .int .i64 k.s, .int .i64 k.a, v, .int .i64 e]
set_option maxRecDepth 100000 in
set_option maxHeartbeats 1000000 in
theorem rmerge_err (a b : Sk.K) (hd : a.w ≠ b.w ∨ (a.w = b.w ∧ a.s ≠ b.s)) (va vb : Value) (x y : Option Addr) (m n cx cy : Nat) (hva : va = .slice x m cx) (hvb : vb = .slice y n cy) (w : World) :
    Calls Tryd.prog 28 #[skV a va, skV b vb] w fun e w' => e = .returned (.agg #[.int .i64 0, .int .i64 0, .int .i64 0, .slice none 0 0, .int .i64 1]) ∧ Below w.heap.size w w' := by
  subst hva hvb
  obtain ⟨wa, sa, na, ac⟩ := a
  obtain ⟨wb, sb, nb, bc⟩ := b
  dsimp only at hd ⊢
  rcases hd with hd | ⟨rfl, hd⟩
  · have h1 : (wa != wb) = true := by simpa using hd
    have h2 : (wa == wb) = false := by simpa using hd
    have HB := Lib.hid (((below_al (below_al (below_alloc1 w (.cells #[.int .i64 wa, .int .i64 sa, .int .i64 na, .slice x m cx] 38)) (.cells #[.int .i64 wb, .int .i64 sb, .int .i64 nb, .slice y n cy] 38)) (.cells #[.int .i64 0, .int .i64 0, .int .i64 0, .slice none 0 0, .int .i64 1] 57))))
    go_enter Tryd.func28, Tryd.ntmps28
    go_wp2
    exact bodyPost_ret (v := .agg #[.int .i64 0, .int .i64 0, .int .i64 0, .slice none 0 0, .int .i64 1]) (by simp [results, Tryd.results28, go_sem]) rfl ⟨rfl, HB.out⟩
  · have h1 : (sa != sb) = true := by simpa using hd
    have h2 : (sa == sb) = false := by simpa using hd
    have HB := Lib.hid (((below_al (below_al (below_alloc1 w (.cells #[.int .i64 wa, .int .i64 sa, .int .i64 na, .slice x m cx] 38)) (.cells #[.int .i64 wa, .int .i64 sb, .int .i64 nb, .slice y n cy] 38)) (.cells #[.int .i64 0, .int .i64 0, .int .i64 0, .slice none 0 0, .int .i64 1] 57))))
    go_enter Tryd.func28, Tryd.ntmps28
    go_wp2
    exact bodyPost_ret (v := .agg #[.int .i64 0, .int .i64 0, .int .i64 0, .slice none 0 0, .int .i64 1]) (by simp [results, Tryd.results28, go_sem]) rfl ⟨rfl, HB.out⟩
theorem Sk.mrg_take (a b : List Int) (k : Nat) (x y : Int) (hx : a[k]? = some x) (hy : b[k]? = some y) : (Sk.mrg a b).take (k + 1) = (Sk.mrg a b).take k ++ [min (x + y) 15] := by
  rw [List.take_add_one]
  simp [Sk.mrg, List.getElem?_zipWith, hx, hy]
set_option maxRecDepth 100000 in
set_option maxHeartbeats 4000000 in
theorem rmerge_any (a b : Sk.K) (ha : Sk.Ok a) (hb : Sk.Ok b) (hw : a.w = b.w) (hs : a.s = b.s) (va vb : Value) (w : World) (hra : Rd mkI w va a.c) (hrb : Rd mkI w vb b.c) :
    Calls Tryd.prog 28 #[skV a va, skV b vb] w fun e w' => (∃ v', e = .returned (madeV (Sk.K.mrg a b) v' 0) ∧ OwnI w' w.heap.size v' (Sk.K.mrg a b).c) ∧ Below w.heap.size w w' := by
  have hbc : b.c.length = a.c.length := by have h1 := ha.clen; have h2 := hb.clen; have : b.n = a.n := by { unfold Sk.K.n; rw [hw] }; omega
  have hal := ha.len9
  have hane := ha.ne
  have h1s := ha.s2
  have h1a := ha.a1
  have h1b := ha.a2
  have h2a := hb.a1
  have h2b := hb.a2
  obtain ⟨g, off, cap, rfl, hcap, hg, hc⟩ := rd_parts hra hane
  obtain ⟨g2, off2, cap2, rfl, hcap2, hg2, hc2⟩ := rd_parts hrb hb.ne
  have hml := Sk.mrg_len a.c b.c hbc.symm
  have hmne : Sk.mrg a.c b.c ≠ [] := fun h => hane (by rw [h] at hml; simpa using hml.symm)
  have hmx : ∀ x ∈ Sk.mrg a.c b.c, 0 ≤ x ∧ x ≤ 15 := by
    intro x hx
    obtain ⟨i, hi⟩ := List.getElem?_of_mem hx
    have hlt := (List.getElem?_eq_some_iff.1 hi).1
    have e := Sk.at_of hlt
    rw [hi] at e
    have e2 := Sk.mrg_at a.c b.c i (by omega) (by omega)
    have := (ha.at i).1
    have := (hb.at i).1
    simp at e
    omega
  have hhv := fun (v : Value) (W : World) (h : Rd mkI W v (Sk.mrg a.c b.c)) => rhalve_any a.w a.s (a.a + b.a) (Sk.mrg a.c b.c) v W h (by omega) hmne hmx (by omega) (by omega)
  have hres : Sk.K.mrg a b = if a.s ≤ a.a + b.a then ⟨a.w, a.s, (a.a + b.a) / 2, Sk.half (Sk.mrg a.c b.c)⟩ else ⟨a.w, a.s, a.a + b.a, Sk.mrg a.c b.c⟩ := rfl
  have hhne : Sk.half (Sk.mrg a.c b.c) ≠ [] := by intro h; apply hmne; simpa [Sk.half] using h
  have hcell : ∀ k, k < a.c.length → ∃ x y, (0 ≤ x ∧ x ≤ 15) ∧ (0 ≤ y ∧ y ≤ 15) ∧ w.cell? ⟨g, off + k, none⟩ = some (.int .i64 x) ∧ w.cell? ⟨g2, off2 + k, none⟩ = some (.int .i64 y) ∧ (Sk.mrg a.c b.c).take (k + 1) = (Sk.mrg a.c b.c).take k ++ [min (x + y) 15] := by
    intro k hk
    have e1 := Sk.at_of hk
    have e2 := Sk.at_of (show k < b.c.length by omega)
    exact ⟨_, _, ⟨(ha.at k).1, (ha.at k).2.1⟩, ⟨(hb.at k).1, (hb.at k).2.1⟩, hc k _ e1, hc2 k _ e2, Sk.mrg_take a.c b.c k _ _ e1 e2⟩
  have Hres := Lib.hid hres
  clear hres ha hb hra hrb hmx hane hc hc2
  generalize hKK : Sk.K.mrg a b = KK at *
  clear hKK
  generalize Sk.half (Sk.mrg a.c b.c) = hf at *
  generalize Sk.mrg a.c b.c = mg at *
  obtain ⟨wa, sa, na, ac⟩ := a
  obtain ⟨wb, sb, nb, bc⟩ := b
  dsimp only at *
  subst hw hs
  rw [hbc] at hcap2 ⊢
  have Hhv := Lib.hid hhv
  have Hcell := Lib.hid hcell
  have Hml := Lib.hid hml
  clear hhv hcell hml
  generalize ac.length = len at *
  clear hbc
  go_enter Tryd.func28, Tryd.ntmps28
  go_wp2
  obtain ⟨W0, hW0⟩ : ∃ W0, W0 = (((w.alloc (.cells #[.int .i64 wa, .int .i64 sa, .int .i64 na, .slice (some ⟨g, off, none⟩) len cap] 38)).alloc (.cells #[.int .i64 wa, .int .i64 sa, .int .i64 nb, .slice (some ⟨g2, off2, none⟩) len cap2] 38)).alloc (.cells #[.int .i64 0, .int .i64 0, .int .i64 0, .slice none 0 0, .int .i64 0] 57)).alloc (.cells #[.int .i64 wa, .int .i64 sa, .int .i64 (na + nb), .slice none 0 0] 38) := ⟨_, rfl⟩
  have hb0 : Blk W0 w.heap.size #[.int .i64 wa, .int .i64 sa, .int .i64 na, .slice (some ⟨g, off, none⟩) len cap] 38 := by rw [hW0]; exact blk_alloc (blk_alloc (blk_alloc (blk_new w _ _) _) _) _
  have hd0 : Blk W0 (w.heap.size + 1) #[.int .i64 wa, .int .i64 sa, .int .i64 nb, .slice (some ⟨g2, off2, none⟩) len cap2] 38 := by rw [hW0]; exact blk_alloc (blk_alloc (blk_new2 w _ _ _) _) _
  have ho0 : Blk W0 (w.heap.size + 1 + 1) #[.int .i64 0, .int .i64 0, .int .i64 0, .slice none 0 0, .int .i64 0] 57 := by rw [hW0]; exact blk_alloc (heap_alloc_at _ _ _ (by simp)) _
  have hu0 : Blk W0 (w.heap.size + 1 + 1 + 1) #[.int .i64 wa, .int .i64 sa, .int .i64 (na + nb), .slice none 0 0] 38 := by rw [hW0]; exact heap_alloc_at _ _ _ (by simp)
  have hB0 : Below w.heap.size w W0 := by rw [hW0]; exact below_al (below_al (below_al (below_alloc1 _ _) _) _) _
  have hs0 : w.heap.size + 4 ≤ W0.heap.size := by rw [hW0]; simp
  rw [← hW0]
  clear hW0
  go_loopw [6] (fun i wr => ∃ (k : Nat) (v : Value), k ≤ len ∧ i = .int .i64 (k : Int) ∧ OwnI wr (w.heap.size + 4) v (mg.take k) ∧ Blk wr (w.heap.size + 1 + 1 + 1) #[.int .i64 wa, .int .i64 sa, .int .i64 (na + nb), v] 38 ∧ Blk wr w.heap.size #[.int .i64 wa, .int .i64 sa, .int .i64 na, .slice (some ⟨g, off, none⟩) len cap] 38 ∧ Blk wr (w.heap.size + 1) #[.int .i64 wa, .int .i64 sa, .int .i64 nb, .slice (some ⟨g2, off2, none⟩) len cap2] 38 ∧ Blk wr (w.heap.size + 1 + 1) #[.int .i64 0, .int .i64 0, .int .i64 0, .slice none 0 0, .int .i64 0] 57 ∧ Below w.heap.size w wr ∧ w.heap.size + 4 ≤ wr.heap.size) (fun i _ => len - (intOf i).toNat)
  case atStart => exact ⟨0, _, by omega, rfl, ownOf_nil _ _ _ _, hu0, hb0, hd0, ho0, hB0, hs0⟩
  case round =>
    clear hb0 hd0 ho0 hu0 hB0 hs0
    obtain ⟨k, v, hk, rfl, hown, hu, hb, hd, ho, hB, hsz⟩ := hrel
    by_cases hlt : k < len
    · obtain ⟨x, y, ⟨hx0, hx1⟩, ⟨hy0, hy1⟩, hcx, hcy, hsn⟩ := Hcell.out k hlt
      have hcx' : wr.cell? ⟨g, off + k, none⟩ = some (.int .i64 x) := (hB.cell (p := ⟨g, off + k, none⟩) hg).trans hcx
      have hcy' : wr.cell? ⟨g2, off2 + k, none⟩ = some (.int .i64 y) := (hB.cell (p := ⟨g2, off2 + k, none⟩) hg2).trans hcy
      have htl : (mg.take k).length < 1000000000000 := by have h1 := List.length_take_le k mg; omega
      have q0 := blk_cell hb 3
      have q1 := blk_cell hd 3
      have q2 := blk_cell hu 3
      simp only [List.getElem?_toArray, List.getElem?_cons_zero, List.getElem?_cons_succ] at q0 q1 q2
      have Hsn := Lib.hid hsn
      have Hown := Lib.hid hown
      have Hu := Lib.hid hu
      have Hb := Lib.hid hb
      have Hd := Lib.hid hd
      have Ho := Lib.hid ho
      have HB := Lib.hid hB
      have Hsz := Lib.hid hsz
      clear hsn hown hu hb hd ho hB hcx hcy
      generalize hd : mg.take k = d at *
      clear hd
      have hki : (0 : Int) ≤ (k : Int) := by omega
      have hkl : (k : Int) < (len : Int) := by omega
      have hwr : IntKind.i64.wrap (x + y) = x + y := IntWalk.i64_in _ (by omega)
      have hl3 : w.heap.size + 1 + 1 + 1 < wr.heap.size := by omega
      go_wp2
      go_quiet (fail)
      have Hown := Lib.hid (show OwnI (wr.drewN nq) (w.heap.size + 4) v d from Hown.out)
      have Hu := Lib.hid (show Blk (wr.drewN nq) _ _ _ from Hu.out)
      have Hb := Lib.hid (show Blk (wr.drewN nq) _ _ _ from Hb.out)
      have Hd := Lib.hid (show Blk (wr.drewN nq) _ _ _ from Hd.out)
      have Ho := Lib.hid (show Blk (wr.drewN nq) _ _ _ from Ho.out)
      have HB := Lib.hid (show Below w.heap.size w (wr.drewN nq) from HB.out.trans ⟨rfl, rfl, rfl, Nat.le_refl _, fun _ _ => rfl⟩)
      have Hsz := Lib.hid (show w.heap.size + 4 ≤ (wr.drewN nq).heap.size from Hsz.out)
      have q2 : (wr.drewN nq).cell? ⟨w.heap.size + 1 + 1 + 1, 3, none⟩ = some v := q2
      generalize wr.drewN nq = wq at *
      have fin : ∀ (v1 : Value) (w1 : World), OwnI w1 (w.heap.size + 4) v1 (d ++ [min (x + y) 15]) → Grew (w.heap.size + 4) wq w1 v.ownBlock → ∃ g1 cap1, v1 = .slice (some ⟨g1, 0, none⟩) (d.length + 1) cap1 ∧ OwnI w1 (w.heap.size + 4) (.slice (some ⟨g1, 0, none⟩) (d.length + 1) cap1) (d ++ [min (x + y) 15]) ∧ Blk w1 (w.heap.size + 1 + 1 + 1) #[.int .i64 wa, .int .i64 sa, .int .i64 (na + nb), v] 38 ∧ Blk w1 w.heap.size #[.int .i64 wa, .int .i64 sa, .int .i64 na, .slice (some ⟨g, off, none⟩) len cap] 38 ∧ Blk w1 (w.heap.size + 1) #[.int .i64 wa, .int .i64 sa, .int .i64 nb, .slice (some ⟨g2, off2, none⟩) len cap2] 38 ∧ Blk w1 (w.heap.size + 1 + 1) #[.int .i64 0, .int .i64 0, .int .i64 0, .slice none 0 0, .int .i64 0] 57 ∧ Below w.heap.size w w1 ∧ w.heap.size + 4 ≤ w1.heap.size := by
        intro v1 w1 hown1 hg1
        obtain ⟨g1, cap1, rfl, _, _⟩ := ownOf_slice hown1 (by simp)
        rw [List.length_append, List.length_singleton] at hown1 ⊢
        exact ⟨g1, cap1, rfl, hown1, hg1.kept _ _ Hu.out (by omega), hg1.kept _ _ Hb.out (by omega), hg1.kept _ _ Hd.out (by omega), hg1.kept _ _ Ho.out (by omega), hg1.below _ _ HB.out (by omega), Nat.le_trans Hsz.out hg1.size⟩
      have fin2 : ∀ (g1 cap1 : Nat) (w1 : World), OwnI w1 (w.heap.size + 4) (.slice (some ⟨g1, 0, none⟩) (d.length + 1) cap1) (d ++ [min (x + y) 15]) ∧ Blk w1 (w.heap.size + 1 + 1 + 1) #[.int .i64 wa, .int .i64 sa, .int .i64 (na + nb), v] 38 ∧ Blk w1 w.heap.size #[.int .i64 wa, .int .i64 sa, .int .i64 na, .slice (some ⟨g, off, none⟩) len cap] 38 ∧ Blk w1 (w.heap.size + 1) #[.int .i64 wa, .int .i64 sa, .int .i64 nb, .slice (some ⟨g2, off2, none⟩) len cap2] 38 ∧ Blk w1 (w.heap.size + 1 + 1) #[.int .i64 0, .int .i64 0, .int .i64 0, .slice none 0 0, .int .i64 0] 57 ∧ Below w.heap.size w w1 ∧ w.heap.size + 4 ≤ w1.heap.size →
          ∃ (k' : Nat) (v' : Value), k' ≤ len ∧ Value.int .i64 ((k : Int) + 1) = .int .i64 (k' : Int) ∧ OwnI (w1.setCell ⟨w.heap.size + 1 + 1 + 1, 3, none⟩ (.slice (some ⟨g1, 0, none⟩) (d.length + 1) cap1)) (w.heap.size + 4) v' (mg.take k') ∧ Blk (w1.setCell ⟨w.heap.size + 1 + 1 + 1, 3, none⟩ (.slice (some ⟨g1, 0, none⟩) (d.length + 1) cap1)) (w.heap.size + 1 + 1 + 1) #[.int .i64 wa, .int .i64 sa, .int .i64 (na + nb), v'] 38 ∧ Blk (w1.setCell ⟨w.heap.size + 1 + 1 + 1, 3, none⟩ (.slice (some ⟨g1, 0, none⟩) (d.length + 1) cap1)) w.heap.size #[.int .i64 wa, .int .i64 sa, .int .i64 na, .slice (some ⟨g, off, none⟩) len cap] 38 ∧ Blk (w1.setCell ⟨w.heap.size + 1 + 1 + 1, 3, none⟩ (.slice (some ⟨g1, 0, none⟩) (d.length + 1) cap1)) (w.heap.size + 1) #[.int .i64 wa, .int .i64 sa, .int .i64 nb, .slice (some ⟨g2, off2, none⟩) len cap2] 38 ∧ Blk (w1.setCell ⟨w.heap.size + 1 + 1 + 1, 3, none⟩ (.slice (some ⟨g1, 0, none⟩) (d.length + 1) cap1)) (w.heap.size + 1 + 1) #[.int .i64 0, .int .i64 0, .int .i64 0, .slice none 0 0, .int .i64 0] 57 ∧ Below w.heap.size w (w1.setCell ⟨w.heap.size + 1 + 1 + 1, 3, none⟩ (.slice (some ⟨g1, 0, none⟩) (d.length + 1) cap1)) ∧ w.heap.size + 4 ≤ (w1.setCell ⟨w.heap.size + 1 + 1 + 1, 3, none⟩ (.slice (some ⟨g1, 0, none⟩) (d.length + 1) cap1)).heap.size := by
        rintro g1 cap1 w1 ⟨hown1, hu1, hb1, hd1, ho1, hB1, hs1⟩
        have hu2 := blk_set hu1 3 (.slice (some ⟨g1, 0, none⟩) (d.length + 1) cap1)
        simp only [List.setIfInBounds_toArray, List.set_cons_zero, List.set_cons_succ] at hu2
        exact ⟨k + 1, _, by omega, by go_num, by rw [Hsn.out]; exact ownOf_far hown1 (p := ⟨w.heap.size + 1 + 1 + 1, 3, none⟩) (by show w.heap.size + 1 + 1 + 1 < _; omega) _, hu2,
          blk_far hb1 (p := ⟨w.heap.size + 1 + 1 + 1, 3, none⟩) (by show w.heap.size ≠ w.heap.size + 1 + 1 + 1; omega) _,
          blk_far hd1 (p := ⟨w.heap.size + 1 + 1 + 1, 3, none⟩) (by show w.heap.size + 1 ≠ w.heap.size + 1 + 1 + 1; omega) _,
          blk_far ho1 (p := ⟨w.heap.size + 1 + 1 + 1, 3, none⟩) (by show w.heap.size + 1 + 1 ≠ w.heap.size + 1 + 1 + 1; omega) _,
          hB1.setCell (p := ⟨w.heap.size + 1 + 1 + 1, 3, none⟩) (by show w.heap.size ≤ w.heap.size + 1 + 1 + 1; omega) _, by simpa using hs1⟩
      have Fin := Lib.hid fin
      have Fin2 := Lib.hid fin2
      clear fin fin2
      by_cases h15 : 15 < x + y
      · have hd15 : decide (15 < x + y) = true := by simpa using h15
        have hz15 : min (x + y) 15 = 15 := by omega
        have Hz15 := Lib.hid hz15
        clear hz15
        go_wp2_with (with_reducible refine wp_app1 mkI_one Tryd.underlying36 info_int rfl (by decide) rfl (.tmp 52) (.tmp 54) rfl (w.heap.size + 4) v d rfl Hown.out 15 _ rfl rfl htl Hsz.out ?_; intro v1 w1 hown1 hg1 _; obtain ⟨g1, cap1, rfl, hall⟩ := Fin.out v1 w1 (by rw [Hz15.out]; exact hown1) hg1; have Hall := Lib.hid (Fin2.out g1 cap1 w1 hall); have hu3 := blk_cell hall.2.1 3; have hf3 := blk_free hall.2.1 3; simp only [List.getElem?_toArray, List.getElem?_cons_zero, List.getElem?_cons_succ] at hu3; clear hall hown1)
        go_roundw
        case rel => exact Hall.out
        case measure => simp [intOf]; omega
      · have hd15 : decide (15 < x + y) = false := by simpa using h15
        have hz15 : min (x + y) 15 = x + y := by omega
        have Hz15 := Lib.hid hz15
        clear hz15
        go_wp2_with (with_reducible refine wp_app1 mkI_one Tryd.underlying36 info_int rfl (by decide) rfl (.tmp 52) (.tmp 54) rfl (w.heap.size + 4) v d rfl Hown.out (x + y) _ rfl rfl htl Hsz.out ?_; intro v1 w1 hown1 hg1 _; obtain ⟨g1, cap1, rfl, hall⟩ := Fin.out v1 w1 (by rw [Hz15.out]; exact hown1) hg1; have Hall := Lib.hid (Fin2.out g1 cap1 w1 hall); have hu3 := blk_cell hall.2.1 3; have hf3 := blk_free hall.2.1 3; simp only [List.getElem?_toArray, List.getElem?_cons_zero, List.getElem?_cons_succ] at hu3; clear hall hown1)
        go_roundw
        case rel => exact Hall.out
        case measure => simp [intOf]; omega
    · obtain rfl : k = len := by omega
      rw [List.take_of_length_le (by rw [Hml.out]; exact Nat.le_refl _)] at hown
      obtain ⟨g1, cap1, rfl, hgb1, _⟩ := ownOf_slice hown hmne
      rw [Hml.out] at hown hu
      have c0 := blk_cell hu 0
      have c1 := blk_cell hu 1
      have c2 := blk_cell hu 2
      have c3 := blk_cell hu 3
      have d0 := blk_cell hb 3
      simp only [List.getElem?_toArray, List.getElem?_cons_zero, List.getElem?_cons_succ] at c0 c1 c2 c3 d0
      have Hown := Lib.hid hown
      have HB := Lib.hid hB
      have Ho := Lib.hid ho
      clear hown hB hu hb hd ho
      by_cases hsa : sa ≤ na + nb
      · have hdec : decide (sa ≤ na + nb) = true := by simpa using hsa
        have Hr := Lib.hid (show KK = ⟨wa, sa, (na + nb) / 2, hf⟩ by rw [Hres.out, if_pos hsa])
        have Hv := Lib.hid (Hhv.out _ wr (ownOf_rd Hown.out))
        clear Hres Hhv
        go_wp2_with (go_at_call 30; (with_reducible refine Hv.out.mono ?_); rintro e w4 ⟨⟨v4, rfl, hown4⟩, hw4⟩; have ho4 := blk_kept Ho.out hw4; have HB4 := Lib.hid (HB.out.trans (hw4.mono HB.out.size)); have hlt4 := blk_lt Ho.out; obtain ⟨g4, cap4, rfl, hg4, _⟩ := ownOf_slice hown4 hhne; have o0 := blk_cell ho4 0; have o1 := blk_cell ho4 1; have o2 := blk_cell ho4 2; have o3 := blk_cell ho4 3; have o4 := blk_cell ho4 4; have p0 := blk_free ho4 0; have p1 := blk_free ho4 1; have p2 := blk_free ho4 2; have p3 := blk_free ho4 3; have p4 := blk_free ho4 4; simp only [List.getElem?_toArray, List.getElem?_cons_zero, List.getElem?_cons_succ] at o0 o1 o2 o3 o4; generalize hf.length = len4 at *; have Hown4 := Lib.hid hown4; clear hown4 ho4 hw4)
        rw [Hr.out]
        refine bodyPost_ret (v := .agg #[.int .i64 wa, .int .i64 sa, .int .i64 ((na + nb) / 2), .slice (some ⟨g4, 0, none⟩) len4 cap4, .int .i64 0]) (by simp [results, Tryd.results28, go_sem, o0, o1, o2, o3, o4]) rfl ⟨⟨_, rfl, ?_⟩, ?_⟩
        · exact ownOf_mono (base := wr.heap.size) (ownOf_far (ownOf_far (ownOf_far (ownOf_far (ownOf_far Hown4.out (by show w.heap.size + 1 + 1 < _; omega) _) (by show w.heap.size + 1 + 1 < _; omega) _) (by show w.heap.size + 1 + 1 < _; omega) _) (by show w.heap.size + 1 + 1 < _; omega) _) (by show w.heap.size + 1 + 1 < _; omega) _) (by omega)
        · exact ((((HB4.out.setCell (p := ⟨w.heap.size + 1 + 1, 0, none⟩) (by show w.heap.size ≤ w.heap.size + 1 + 1; omega) _).setCell (p := ⟨w.heap.size + 1 + 1, 1, none⟩) (by show w.heap.size ≤ w.heap.size + 1 + 1; omega) _).setCell (p := ⟨w.heap.size + 1 + 1, 2, none⟩) (by show w.heap.size ≤ w.heap.size + 1 + 1; omega) _).setCell (p := ⟨w.heap.size + 1 + 1, 3, none⟩) (by show w.heap.size ≤ w.heap.size + 1 + 1; omega) _).setCell (p := ⟨w.heap.size + 1 + 1, 4, none⟩) (by show w.heap.size ≤ w.heap.size + 1 + 1; omega) _
      · have hdec : decide (sa ≤ na + nb) = false := by simpa using hsa
        have Hr := Lib.hid (show KK = ⟨wa, sa, na + nb, mg⟩ by rw [Hres.out, if_neg hsa])
        have o0 := blk_cell Ho.out 0
        have o1 := blk_cell Ho.out 1
        have o2 := blk_cell Ho.out 2
        have o3 := blk_cell Ho.out 3
        have o4 := blk_cell Ho.out 4
        have p0 := blk_free Ho.out 0
        have p1 := blk_free Ho.out 1
        have p2 := blk_free Ho.out 2
        have p3 := blk_free Ho.out 3
        have p4 := blk_free Ho.out 4
        simp only [List.getElem?_toArray, List.getElem?_cons_zero, List.getElem?_cons_succ] at o0 o1 o2 o3 o4
        clear Hres Hhv
        go_wp2
        rw [Hr.out]
        refine bodyPost_ret (v := .agg #[.int .i64 wa, .int .i64 sa, .int .i64 (na + nb), .slice (some ⟨g1, 0, none⟩) k cap1, .int .i64 0]) (by simp [results, Tryd.results28, go_sem, o0, o1, o2, o3, o4]) rfl ⟨⟨_, rfl, ?_⟩, ?_⟩
        · exact ownOf_mono (base := w.heap.size + 4) (ownOf_far (ownOf_far (ownOf_far (ownOf_far (ownOf_far Hown.out (by show w.heap.size + 1 + 1 < _; omega) _) (by show w.heap.size + 1 + 1 < _; omega) _) (by show w.heap.size + 1 + 1 < _; omega) _) (by show w.heap.size + 1 + 1 < _; omega) _) (by show w.heap.size + 1 + 1 < _; omega) _) (by omega)
        · exact ((((HB.out.setCell (p := ⟨w.heap.size + 1 + 1, 0, none⟩) (by show w.heap.size ≤ w.heap.size + 1 + 1; omega) _).setCell (p := ⟨w.heap.size + 1 + 1, 1, none⟩) (by show w.heap.size ≤ w.heap.size + 1 + 1; omega) _).setCell (p := ⟨w.heap.size + 1 + 1, 2, none⟩) (by show w.heap.size ≤ w.heap.size + 1 + 1; omega) _).setCell (p := ⟨w.heap.size + 1 + 1, 3, none⟩) (by show w.heap.size ≤ w.heap.size + 1 + 1; omega) _).setCell (p := ⟨w.heap.size + 1 + 1, 4, none⟩) (by show w.heap.size ≤ w.heap.size + 1 + 1; omega) _
end Go.Proofs.YtbgieephehfgpabDoor
