/-
  Several texts of this proof in one: RefAdd, RefSmall, RefSame, SkSane. Each states its own conditions.
-/
import Derived.Test.YtbgieephehfgpabDoorJB6
/-
  What the reference's Add returns. Conditions: the sketch is valid, the key is short, the reference's table is as its text lays it.
-/
namespace Go.Proofs.YtbgieephehfgpabDoor
open Go Go.RowKit
/-- append([]int{}, x...) in a region that draws its order -/
theorem step_appRI {ops : Array Oper} {o : Oper} {a : Act} {W : World} {K : Act → World → Prop} {Q : Exit → Act → World → Prop} {E : Prop} (hgd : o.guard = none) (s x : Operand)
    (ho : o.op = .call { callee := .builtin .append, args := #[s, x], argTypes := #[36, 36] }) (e : Nat) (hs : a.eval s = .slice (some ⟨e, 0, none⟩) 0 0) (base : Nat) (hown : OwnI W base (.slice (some ⟨e, 0, none⟩) 0 0) []) (hbe : base ≤ e)
    (g off cap : Nat) (c : List Int) (hx : a.eval x = .slice (some ⟨g, off, none⟩) c.length cap) (hc : ∀ i x, c[i]? = some x → W.cell? ⟨g, off + i, none⟩ = some (.int .i64 x)) (h0 : c ≠ []) (hlen : c.length ≤ 1000000000) (hbase : base ≤ W.heap.size)
    (h : ∀ v' w', OwnI w' base v' c → Grew base W w' (some e) → (∀ b x, W.heap[b]? = some x → b ≠ e → w'.heap[b]? = some x) → K (a.put o.dst v') w') :
    if Region.wanted o (yielded ops a.tmps) = true then Oper.wp Tryd.prog o a W K Q else E := by
  obtain ⟨i0, hi, hz0, hz1, hz2⟩ := info_parts info_int
  have hcl : ∀ j u, (c.map mkI)[j]? = some u → W.cell? ((⟨g, off, none⟩ : Addr).add j) = some u := by
    intro j u hj
    rw [List.getElem?_map] at hj
    obtain ⟨y, hy, rfl⟩ := Option.map_eq_some_iff.1 hj
    rw [Addr.add_mid]
    exact hc j y hy
  have hcp : 0 < c.length := List.length_pos_iff.2 h0
  refine step_append_lies W hgd s x 36 ho base 3 i0 (.int .i64 0) 1 8 Tryd.underlying36 hi hz0 hz1 hz2 rfl (by decide) (.slice (some ⟨e, 0, none⟩) 0 0) 0 [] hs hown ⟨g, off, none⟩ c.length cap (c.map mkI) hx (by simp) hcl (by intro u hu; obtain ⟨b, _, rfl⟩ := List.mem_map.1 hu; rfl) hcp (by unfold maxLen; omega) (by omega) hbase _ rfl ?_
  intro g' cap' w' hown' hg _ _
  have hO : OwnI w' base (.slice (some ⟨g', 0, none⟩) (0 + c.length) cap') c := by
    rw [Nat.zero_add] at hown' ⊢
    exact hown'
  refine h _ w' hO ⟨?_, hg.size, ?_⟩ ?_
  · intro B a0 hB hBb
    exact hB.grown hg (by omega) (fun j hj => by simp [Value.ownBlock] at hj; omega)
  · intro k z hk hkb
    exact blk_grown hk hg (fun e => by simp [Value.ownBlock] at e; omega)
  · intro k z hk hkb
    exact blk_grown hk hg (fun e => by simp [Value.ownBlock] at e; omega)
/-- a store into a block of other cells leaves a slice of the call's own as it is -/
theorem ownOf_other {α : Type} {mk : α → Value} {e : TypeId} {w : World} {base : Nat} {v : Value} {l : List α} (h : OwnOf mk e w base v l) {T : Nat} {cs : Array Value} {t : TypeId} (hT : Blk w T cs t) (ht : (t == e) = false) (i : Nat) (x : Value) : OwnOf mk e (w.setCell ⟨T, i, none⟩ x) base v l := by
  refine ⟨h.1, ?_⟩
  rcases h.2 with hn | ⟨g, cap, cur, rfl, hbb, hgg, rest⟩
  · exact .inl hn
  · refine .inr ⟨g, cap, cur, rfl, hbb, blk_far hgg (fun hgT => ?_) x, rest⟩
    have hgT' : g = T := hgT
    rw [hgT', hT] at hgg
    simp at hgg
    rw [hgg.2] at ht
    simp at ht
theorem ownOf_apart {α : Type} {mk : α → Value} {e : TypeId} {w : World} {base g n cap : Nat} {l : List α} (h : OwnOf mk e w base (.slice (some ⟨g, 0, none⟩) n cap) l) {T : Nat} {cs : Array Value} {t : TypeId} (hT : Blk w T cs t) (ht : (t == e) = false) : T ≠ g := by
  rcases h.2 with ⟨hn, _⟩ | ⟨g', cap', cur, he, hbb, hgg, rest⟩
  · simp at hn
  · intro hTg
    simp only [Value.slice.injEq, Option.some.injEq, Addr.mk.injEq, and_true] at he
    obtain ⟨rfl, _, _⟩ := he
    rw [← hTg, hT] at hgg
    simp at hgg
    rw [hgg.2] at ht
    simp at ht
theorem cells4 {w : World} {b : Nat} {a0 a1 a2 a3 : Value} {t : TypeId} (h : Blk w b #[a0, a1, a2, a3] t) : w.cell? ⟨b, 0, none⟩ = some a0 ∧ w.cell? ⟨b, 1, none⟩ = some a1 ∧ w.cell? ⟨b, 2, none⟩ = some a2 ∧ w.cell? ⟨b, 3, none⟩ = some a3 :=
  ⟨blk_cell h 0, blk_cell h 1, blk_cell h 2, blk_cell h 3⟩
theorem Sk.incB_hit0 (n : Int) (p : List Nat) (c : List Int) (i : Nat) (hn : n < 15) (h : Sk.at' c i = n) : (Sk.incB n p c).set i (n + 1) = Sk.incB n (p ++ [i]) c := by
  unfold Sk.incB
  rw [if_pos hn, if_pos hn, Sk.inc_hit n p c i h]
theorem Sk.incB_miss0 (n : Int) (p : List Nat) (c : List Int) (i : Nat) (h : Sk.at' c i ≠ n ∨ ¬ n < 15) : Sk.incB n p c = Sk.incB n (p ++ [i]) c := by
  unfold Sk.incB
  by_cases hn : n < 15
  · rcases h with h | h
    · rw [if_pos hn, if_pos hn, Sk.inc_miss n p c i h]
    · exact absurd hn h
  · rw [if_neg hn, if_neg hn]
set_option maxRecDepth 100000 in
set_option maxHeartbeats 4000000 in
theorem radd_any (k : Sk.K) (hk : Sk.Ok k) (key : List UInt8) (v : Value) (w : World) (hr : Rd mkI w v k.c) (hkey : key.length ≤ 10000) (hT : TabR w) :
    Calls Tryd.prog 22 #[skV k v, .string ⟨key.toArray⟩] w fun e w' => (∃ v', e = .returned (skV (k.add key) v') ∧ OwnI w' w.heap.size v' (k.add key).c) ∧ Below w.heap.size w w' := by
  have hne := hk.ne
  have hlen9 := hk.len9
  have hcn := fun (W : World) (h : Rd mkI W v k.c) (hT : TabR W) => rcount_any k hk key v W h hkey hT
  have hrd := hr
  obtain ⟨g, off, cap, rfl, hcap, hg, hc⟩ := rd_parts hr hne
  have hn1 := hk.n1
  have hcl := hk.clen
  have hwn := hk.wn
  have hn2 : k.n ≤ 4096 := by have := hk.wide; omega
  have hpl := fun (row : Nat) (W : World) (hr : row < 4) (h : TabR W) => rplace_any key row k.n W hkey hr hn1 hn2 h
  have hlt := fun row => Sk.plN_lt key row k.n hn1
  have hrl := fun row (h : row < 4) => Sk.q_lt key k.n row hn1 h
  have hps := fun m => Sk.places_succ key k.n m
  have hc0 := hk.count0 key
  have hc15 := hk.count15 key
  have ha1 := hk.a1
  have ha2 := hk.a2
  have hs2 := hk.s2
  have hadd : Sk.incB (k.count key) (Sk.places key k.n 4) k.c = Sk.add (k.p key) k.c := rfl
  have hax : ∀ x ∈ Sk.add (k.p key) k.c, 0 ≤ x ∧ x ≤ 15 := by
    intro x hx
    obtain ⟨i, hi⟩ := List.getElem?_of_mem hx
    have e := Sk.at_of (List.getElem?_eq_some_iff.1 hi).1
    rw [hi] at e
    have := hk.add1_at key i
    simp only [Sk.K.add1] at this
    simp at e
    omega
  have hal := Sk.add_len (k.p key) k.c
  have hane : Sk.add (k.p key) k.c ≠ [] := by
    intro h
    rw [h] at hal
    exact hne (List.length_eq_zero_iff.1 hal.symm)
  have hhv := fun (v : Value) (W : World) (h : Rd mkI W v (Sk.add (k.p key) k.c)) => rhalve_any k.w k.s (k.a + 1) (Sk.add (k.p key) k.c) v W h (by omega) hane hax (by omega) (by omega)
  have hhne : Sk.half (Sk.add (k.p key) k.c) ≠ [] := by intro h; apply hane; simpa [Sk.half] using h
  have hres : k.add key = if k.a + 1 = k.s then ⟨k.w, k.s, (k.a + 1) / 2, Sk.half (Sk.add (k.p key) k.c)⟩ else ⟨k.w, k.s, k.a + 1, Sk.add (k.p key) k.c⟩ := rfl
  rw [← hwn] at hhv hres
  rw [show skV k (.slice (some ⟨g, off, none⟩) k.c.length cap) = .agg #[.int .i64 (k.n : Int), .int .i64 k.s, .int .i64 k.a, .slice (some ⟨g, off, none⟩) k.c.length cap] by rw [hwn]]  at hcn ⊢
  clear hax hk hwn hr
  generalize Sk.half (Sk.add (k.p key) k.c) = hf at *
  generalize Sk.add (k.p key) k.c = ad at *
  generalize k.count key = ct at *
  generalize hKK : k.add key = KK at *
  clear hKK
  generalize k.n = n at *
  obtain ⟨kw, ks, ka, kc⟩ := k
  dsimp only at *
  have Hhv := Lib.hid hhv
  have Hres := Lib.hid hres
  have Hcn := Lib.hid hcn
  have Hc := Lib.hid hc
  have Hcl := Lib.hid hcl
  have Hadd := Lib.hid hadd
  have Hal := Lib.hid hal
  have Hrd := Lib.hid hrd
  have Hps := Lib.hid hps
  have Hpl := Lib.hid hpl
  have Hlt := Lib.hid hlt
  have Hrl := Lib.hid hrl
  clear hhv hres hcn hc hcl hadd hal hrd hps hpl hlt hrl
  generalize hL : kc.length = len at *
  have HL := Lib.hid hL
  clear hL
  go_enter Tryd.func22, Tryd.ntmps22
  go_wp2_with fail
  obtain ⟨W0, hW0⟩ : ∃ W0, W0 = (w.alloc (.cells #[.int .i64 (n : Int), .int .i64 ks, .int .i64 ka, .slice (some ⟨g, off, none⟩) len cap] 38)).alloc (.cells #[.int .i64 0, .int .i64 0, .int .i64 0, .slice none 0 0] 38) := ⟨_, rfl⟩
  have hb0 : Blk W0 w.heap.size #[.int .i64 (n : Int), .int .i64 ks, .int .i64 ka, .slice (some ⟨g, off, none⟩) len cap] 38 := by rw [hW0]; exact blk_alloc (blk_new w _ _) _
  have ho0 : Blk W0 (w.heap.size + 1) #[.int .i64 0, .int .i64 0, .int .i64 0, .slice none 0 0] 38 := by rw [hW0]; exact blk_new2 w _ _ _
  have hB0 : Below w.heap.size w W0 := by rw [hW0]; exact below_al (below_alloc1 _ _) _
  rw [← hW0]
  clear hW0
  with_reducible refine (Hcn.out W0 (Rd.below Hrd.out hB0) (TabR.below hT hB0)).mono ?_
  rintro e w1 ⟨rfl, hw1⟩
  have hb1 := blk_kept hb0 hw1
  have ho1 := blk_kept ho0 hw1
  have hB1 := hB0.trans (hw1.mono hB0.size)
  have hz1 : w.heap.size + 1 < w1.heap.size := blk_lt ho1
  clear hb0 ho0 hB0 hw1
  have c0 := blk_cell hb1 0
  have c1 := blk_cell hb1 1
  have c2 := blk_cell hb1 2
  have c3 := blk_cell hb1 3
  simp only [List.getElem?_toArray, List.getElem?_cons_zero, List.getElem?_cons_succ] at c0 c1 c2 c3
  have hcw : ∀ i x, kc[i]? = some x → w1.drew.cell? ⟨g, off + i, none⟩ = some (.int .i64 x) := fun i x hi => (hB1.cell (p := ⟨g, off + i, none⟩) hg).trans (Hc.out i x hi)
  have hgw : g < w1.heap.size := Nat.lt_of_lt_of_le hg hB1.size
  have Hcw := Lib.hid hcw
  have Hb1 := Lib.hid hb1
  have Ho1 := Lib.hid ho1
  have HB1 := Lib.hid hB1
  have hl1 : w.heap.size < w1.heap.size := by omega
  have hwr : IntKind.i64.wrap (ka + 1) = ka + 1 := IntWalk.i64_in _ (by omega)
  clear hcw hb1 ho1 hB1
  dsimp only
  go_wp2
  have own1 : OwnI (w1.alloc (.cells #[] 3)).drew w1.heap.size (.slice (some ⟨w1.heap.size, 0, none⟩) 0 0) [] := ownOf_lit w1 w1.heap.size [] #[] 0 rfl rfl (Nat.le_refl _) (Nat.zero_le _)
  have own2 : OwnI ((w1.alloc (.cells #[] 3)).alloc (.cells #[.int .i64 0, .int .i64 0, .int .i64 0, .slice none 0 0] 38)).drew w1.heap.size (.slice (some ⟨w1.heap.size, 0, none⟩) 0 0) [] := ownOf_kept (w := w1.alloc (.cells #[] 3)) own1 (below_alloc1 _ _).drew
  have own3 : OwnI ((w1.alloc (.cells #[.int .i64 0, .int .i64 0, .int .i64 0, .slice none 0 0] 38)).alloc (.cells #[] 3)).drew w1.heap.size (.slice (some ⟨w1.heap.size + 1, 0, none⟩) 0 0) [] := by
    have := ownOf_lit (mk := mkI) (e := 3) (w1.alloc (.cells #[.int .i64 0, .int .i64 0, .int .i64 0, .slice none 0 0] 38)) w1.heap.size [] #[] 0 rfl rfl (by simp) (Nat.zero_le _)
    rw [World.size_alloc] at this
    exact this
  have Own1 := Lib.hid own1
  have Cel1 := Lib.hid (show ∀ i x, kc[i]? = some x → ((w1.alloc (.cells #[] 3)).drew).cell? ⟨g, off + i, none⟩ = some (.int .i64 x) from fun i x hi => (Below.cell (below_alloc1 w1 (.cells #[] 3)) (p := ⟨g, off + i, none⟩) hgw).trans (Hcw.out i x hi))
  have Bas1 := Lib.hid (show w1.heap.size ≤ ((w1.alloc (.cells #[] 3)).drew).heap.size by show _ ≤ (w1.alloc (.cells #[] 3)).heap.size; simp; try omega)
  have Own1_b := Lib.hid (show Blk ((w1.alloc (.cells #[] 3)).drew) w.heap.size _ _ from blk_alloc (Hb1.out) _)
  have Own1_o := Lib.hid (show Blk ((w1.alloc (.cells #[] 3)).drew) (w.heap.size + 1) _ _ from blk_alloc (Ho1.out) _)
  have Own1_B := Lib.hid (show Below w.heap.size w ((w1.alloc (.cells #[] 3)).drew) from (below_al HB1.out _).drew)
  have Own2 := Lib.hid own2
  have Cel2 := Lib.hid (show ∀ i x, kc[i]? = some x → (((w1.alloc (.cells #[] 3)).alloc (.cells #[.int .i64 0, .int .i64 0, .int .i64 0, .slice none 0 0] 38)).drew).cell? ⟨g, off + i, none⟩ = some (.int .i64 x) from fun i x hi => (Below.cell (below_al (below_alloc1 w1 (.cells #[] 3)) (.cells #[.int .i64 0, .int .i64 0, .int .i64 0, .slice none 0 0] 38)) (p := ⟨g, off + i, none⟩) hgw).trans (Hcw.out i x hi))
  have Bas2 := Lib.hid (show w1.heap.size ≤ (((w1.alloc (.cells #[] 3)).alloc (.cells #[.int .i64 0, .int .i64 0, .int .i64 0, .slice none 0 0] 38)).drew).heap.size by show _ ≤ ((w1.alloc (.cells #[] 3)).alloc (.cells #[.int .i64 0, .int .i64 0, .int .i64 0, .slice none 0 0] 38)).heap.size; simp; try omega)
  have Own2_b := Lib.hid (show Blk (((w1.alloc (.cells #[] 3)).alloc (.cells #[.int .i64 0, .int .i64 0, .int .i64 0, .slice none 0 0] 38)).drew) w.heap.size _ _ from blk_alloc (blk_alloc (Hb1.out) _) _)
  have Own2_o := Lib.hid (show Blk (((w1.alloc (.cells #[] 3)).alloc (.cells #[.int .i64 0, .int .i64 0, .int .i64 0, .slice none 0 0] 38)).drew) (w.heap.size + 1) _ _ from blk_alloc (blk_alloc (Ho1.out) _) _)
  have Own2_B := Lib.hid (show Below w.heap.size w (((w1.alloc (.cells #[] 3)).alloc (.cells #[.int .i64 0, .int .i64 0, .int .i64 0, .slice none 0 0] 38)).drew) from (below_al (below_al HB1.out _) _).drew)
  have Own3 := Lib.hid own3
  have Cel3 := Lib.hid (show ∀ i x, kc[i]? = some x → (((w1.alloc (.cells #[.int .i64 0, .int .i64 0, .int .i64 0, .slice none 0 0] 38)).alloc (.cells #[] 3)).drew).cell? ⟨g, off + i, none⟩ = some (.int .i64 x) from fun i x hi => (Below.cell (below_al (below_alloc1 w1 (.cells #[.int .i64 0, .int .i64 0, .int .i64 0, .slice none 0 0] 38)) (.cells #[] 3)) (p := ⟨g, off + i, none⟩) hgw).trans (Hcw.out i x hi))
  have Bas3 := Lib.hid (show w1.heap.size ≤ (((w1.alloc (.cells #[.int .i64 0, .int .i64 0, .int .i64 0, .slice none 0 0] 38)).alloc (.cells #[] 3)).drew).heap.size by show _ ≤ ((w1.alloc (.cells #[.int .i64 0, .int .i64 0, .int .i64 0, .slice none 0 0] 38)).alloc (.cells #[] 3)).heap.size; simp; try omega)
  have Own3_b := Lib.hid (show Blk (((w1.alloc (.cells #[.int .i64 0, .int .i64 0, .int .i64 0, .slice none 0 0] 38)).alloc (.cells #[] 3)).drew) w.heap.size _ _ from blk_alloc (blk_alloc (Hb1.out) _) _)
  have Own3_o := Lib.hid (show Blk (((w1.alloc (.cells #[.int .i64 0, .int .i64 0, .int .i64 0, .slice none 0 0] 38)).alloc (.cells #[] 3)).drew) (w.heap.size + 1) _ _ from blk_alloc (blk_alloc (Ho1.out) _) _)
  have Own3_B := Lib.hid (show Below w.heap.size w (((w1.alloc (.cells #[.int .i64 0, .int .i64 0, .int .i64 0, .slice none 0 0] 38)).alloc (.cells #[] 3)).drew) from (below_al (below_al HB1.out _) _).drew)
  have Own2_T := Lib.hid (show Blk (((w1.alloc (.cells #[] 3)).alloc (.cells #[.int .i64 0, .int .i64 0, .int .i64 0, .slice none 0 0] 38)).drew) (w1.heap.size + 1) #[.int .i64 0, .int .i64 0, .int .i64 0, .slice none 0 0] 38 from blk_new2 w1 _ _ _)
  have Own3_T := Lib.hid (show Blk (((w1.alloc (.cells #[.int .i64 0, .int .i64 0, .int .i64 0, .slice none 0 0] 38)).alloc (.cells #[] 3)).drew) w1.heap.size #[.int .i64 0, .int .i64 0, .int .i64 0, .slice none 0 0] 38 from blk_alloc (blk_new w1 _ _) _)
  clear own1 own2 own3
  have hfa : w.heap.size ≠ w1.heap.size + 1 := by omega
  have hfb : w.heap.size ≠ w1.heap.size := by omega
  go_cut [6] (fun s6 wx => ∃ (T : Nat) (v2 : Value), s6 = .pointer (some ⟨T, 0, none⟩) ∧ Blk wx T #[.int .i64 (n : Int), .int .i64 ks, .int .i64 (ka + 1), v2] 38 ∧ OwnI wx w1.heap.size v2 kc ∧ w1.heap.size ≤ T ∧ Blk wx w.heap.size #[.int .i64 (n : Int), .int .i64 ks, .int .i64 ka, .slice (some ⟨g, off, none⟩) len cap] 38 ∧ Blk wx (w.heap.size + 1) #[.int .i64 0, .int .i64 0, .int .i64 0, .slice none 0 0] 38 ∧ Below w.heap.size w wx)
  case first =>
    go_region_held3 (fun W => W.cell? ⟨w.heap.size, 0, none⟩ = some (.int .i64 (n : Int)) ∧ W.cell? ⟨w.heap.size, 1, none⟩ = some (.int .i64 ks) ∧ W.cell? ⟨w.heap.size, 2, none⟩ = some (.int .i64 ka) ∧ W.cell? ⟨w.heap.size, 3, none⟩ = some (.slice (some ⟨g, off, none⟩) len cap)) ((refine cells4 (t := 38) ?_; (with_reducible repeat (first | exact Hb1.out | exact hb2 | (refine blk_drew ?_) | (refine blk_alloc ?_ _) | (refine blk_far ?_ hfa _) | (refine blk_far ?_ hfb _))))) (first
      | (refine step_appRI (W := (w1.alloc (.cells #[] 3)).drew) rfl (.tmp 19) (.tmp 21) rfl w1.heap.size (by simp [Act.eval]) w1.heap.size Own1.out (by omega) g off cap kc (by rw [HL.out]; simp [Act.eval]) Cel1.out hne (by rw [HL.out]; exact hlen9) Bas1.out ?_; intro v2 w2 hown2 hg2 hkeep; have hb2 := hg2.kept _ _ Own1_b.out hl1; have ho2 := hg2.kept _ _ Own1_o.out hz1; have hB2 := hg2.below _ _ Own1_B.out (by omega); obtain ⟨g2, cap2, rfl, hgb2, hgl2⟩ := ownOf_slice hown2 hne; rw [HL.out] at hown2)
      | (refine step_appRI (W := ((w1.alloc (.cells #[] 3)).alloc (.cells #[.int .i64 0, .int .i64 0, .int .i64 0, .slice none 0 0] 38)).drew) rfl (.tmp 19) (.tmp 21) rfl w1.heap.size (by simp [Act.eval]) w1.heap.size Own2.out (by omega) g off cap kc (by rw [HL.out]; simp [Act.eval]) Cel2.out hne (by rw [HL.out]; exact hlen9) Bas2.out ?_; intro v2 w2 hown2 hg2 hkeep; have hb2 := hg2.kept _ _ Own2_b.out hl1; have ho2 := hg2.kept _ _ Own2_o.out hz1; have hB2 := hg2.below _ _ Own2_B.out (by omega); obtain ⟨g2, cap2, rfl, hgb2, hgl2⟩ := ownOf_slice hown2 hne; rw [HL.out] at hown2; have hT2 := hkeep _ _ Own2_T.out (by omega); have t0 := blk_cell hT2 0; have t1 := blk_cell hT2 1; have t2 := blk_cell hT2 2; have t3 := blk_cell hT2 3; have u0 := blk_free hT2 0; have u1 := blk_free hT2 1; have u2 := blk_free hT2 2; have u3 := blk_free hT2 3; simp only [List.getElem?_toArray, List.getElem?_cons_zero, List.getElem?_cons_succ] at t0 t1 t2 t3)
      | (refine step_appRI (W := ((w1.alloc (.cells #[.int .i64 0, .int .i64 0, .int .i64 0, .slice none 0 0] 38)).alloc (.cells #[] 3)).drew) rfl (.tmp 19) (.tmp 21) rfl (w1.heap.size + 1) (by simp [Act.eval]) w1.heap.size Own3.out (by omega) g off cap kc (by rw [HL.out]; simp [Act.eval]) Cel3.out hne (by rw [HL.out]; exact hlen9) Bas3.out ?_; intro v2 w2 hown2 hg2 hkeep; have hb2 := hg2.kept _ _ Own3_b.out hl1; have ho2 := hg2.kept _ _ Own3_o.out hz1; have hB2 := hg2.below _ _ Own3_B.out (by omega); obtain ⟨g2, cap2, rfl, hgb2, hgl2⟩ := ownOf_slice hown2 hne; rw [HL.out] at hown2; have hT2 := hkeep _ _ Own3_T.out (by omega); have t0 := blk_cell hT2 0; have t1 := blk_cell hT2 1; have t2 := blk_cell hT2 2; have t3 := blk_cell hT2 3; have u0 := blk_free hT2 0; have u1 := blk_free hT2 1; have u2 := blk_free hT2 2; have u3 := blk_free hT2 3; simp only [List.getElem?_toArray, List.getElem?_cons_zero, List.getElem?_cons_succ] at t0 t1 t2 t3))
    · go_wp2_with fail
      go_meet
      refine ⟨_, _, rfl, blk_new w2 _ _, by rw [HL.out]; exact ownOf_kept hown2 (below_alloc1 _ _), by have := hg2.size; simp at this; omega, blk_alloc hb2 _, blk_alloc ho2 _, below_al hB2 _⟩
    · go_wp2_with fail
      go_meet
      have hu := blk_set (blk_set (blk_set (blk_set hT2 0 (.int .i64 (n : Int))) 1 (.int .i64 ks)) 2 (.int .i64 (ka + 1))) 3 (.slice (some ⟨g2, 0, none⟩) kc.length cap2)
      simp only [List.setIfInBounds_toArray, List.set_cons_zero, List.set_cons_succ] at hu
      refine ⟨_, _, rfl, hu, ?_, by omega, ?_, ?_, ?_⟩
      · rw [HL.out]
        exact ownOf_other (ownOf_other (ownOf_other (ownOf_other hown2 hT2 (by decide) _ _) (blk_set hT2 0 _) (by decide) _ _) (blk_set (blk_set hT2 0 _) 1 _) (by decide) _ _) (blk_set (blk_set (blk_set hT2 0 _) 1 _) 2 _) (by decide) _ _
      · exact blk_far (blk_far (blk_far (blk_far hb2 (p := ⟨w1.heap.size + 1, 0, none⟩) hfa _) (p := ⟨w1.heap.size + 1, 1, none⟩) hfa _) (p := ⟨w1.heap.size + 1, 2, none⟩) hfa _) (p := ⟨w1.heap.size + 1, 3, none⟩) hfa _
      · exact blk_far (blk_far (blk_far (blk_far ho2 (p := ⟨w1.heap.size + 1, 0, none⟩) (by show w.heap.size + 1 ≠ w1.heap.size + 1; omega) _) (p := ⟨w1.heap.size + 1, 1, none⟩) (by show w.heap.size + 1 ≠ w1.heap.size + 1; omega) _) (p := ⟨w1.heap.size + 1, 2, none⟩) (by show w.heap.size + 1 ≠ w1.heap.size + 1; omega) _) (p := ⟨w1.heap.size + 1, 3, none⟩) (by show w.heap.size + 1 ≠ w1.heap.size + 1; omega) _
      · exact (((hB2.setCell (p := ⟨w1.heap.size + 1, 0, none⟩) (by show w.heap.size ≤ w1.heap.size + 1; omega) _).setCell (p := ⟨w1.heap.size + 1, 1, none⟩) (by show w.heap.size ≤ w1.heap.size + 1; omega) _).setCell (p := ⟨w1.heap.size + 1, 2, none⟩) (by show w.heap.size ≤ w1.heap.size + 1; omega) _).setCell (p := ⟨w1.heap.size + 1, 3, none⟩) (by show w.heap.size ≤ w1.heap.size + 1; omega) _
    · go_wp2_with fail
      go_meet
      have hu := blk_set (blk_set (blk_set (blk_set hT2 0 (.int .i64 (n : Int))) 1 (.int .i64 ks)) 2 (.int .i64 (ka + 1))) 3 (.slice (some ⟨g2, 0, none⟩) kc.length cap2)
      simp only [List.setIfInBounds_toArray, List.set_cons_zero, List.set_cons_succ] at hu
      refine ⟨_, _, rfl, hu, ?_, by omega, ?_, ?_, ?_⟩
      · rw [HL.out]
        exact ownOf_other (ownOf_other (ownOf_other (ownOf_other hown2 hT2 (by decide) _ _) (blk_set hT2 0 _) (by decide) _ _) (blk_set (blk_set hT2 0 _) 1 _) (by decide) _ _) (blk_set (blk_set (blk_set hT2 0 _) 1 _) 2 _) (by decide) _ _
      · exact blk_far (blk_far (blk_far (blk_far hb2 (p := ⟨w1.heap.size, 0, none⟩) hfb _) (p := ⟨w1.heap.size, 1, none⟩) hfb _) (p := ⟨w1.heap.size, 2, none⟩) hfb _) (p := ⟨w1.heap.size, 3, none⟩) hfb _
      · exact blk_far (blk_far (blk_far (blk_far ho2 (p := ⟨w1.heap.size, 0, none⟩) (by show w.heap.size + 1 ≠ w1.heap.size; omega) _) (p := ⟨w1.heap.size, 1, none⟩) (by show w.heap.size + 1 ≠ w1.heap.size; omega) _) (p := ⟨w1.heap.size, 2, none⟩) (by show w.heap.size + 1 ≠ w1.heap.size; omega) _) (p := ⟨w1.heap.size, 3, none⟩) (by show w.heap.size + 1 ≠ w1.heap.size; omega) _
      · exact (((hB2.setCell (p := ⟨w1.heap.size, 0, none⟩) (by show w.heap.size ≤ w1.heap.size; omega) _).setCell (p := ⟨w1.heap.size, 1, none⟩) (by show w.heap.size ≤ w1.heap.size; omega) _).setCell (p := ⟨w1.heap.size, 2, none⟩) (by show w.heap.size ≤ w1.heap.size; omega) _).setCell (p := ⟨w1.heap.size, 3, none⟩) (by show w.heap.size ≤ w1.heap.size; omega) _
  case rest =>
    obtain ⟨T, v2, rfl, hT2, hown2, hTl, hb2, ho2, hB2⟩ := hcut
    obtain ⟨g2, cap2, rfl, hgb2, hgl2⟩ := ownOf_slice hown2 hne
    rw [HL.out] at hown2 hT2
    have hTg : T ≠ g2 := ownOf_apart hown2 hT2 (by decide)
    have hNg : w.heap.size ≠ g2 := by omega
    have hOg : w.heap.size + 1 ≠ g2 := by omega
    have hOT : w.heap.size + 1 ≠ T := by omega
    clear c0 c1 c2 c3 hgl2
    go_wp2
    go_loopw [7] (fun i wr => ∃ k : Nat, k ≤ 4 ∧ i = .int .i64 (k : Int) ∧ OwnI wr w1.heap.size (.slice (some ⟨g2, 0, none⟩) len cap2) (Sk.incB ct (Sk.places key n k) kc) ∧ Blk wr T #[.int .i64 (n : Int), .int .i64 ks, .int .i64 (ka + 1), .slice (some ⟨g2, 0, none⟩) len cap2] 38 ∧ Blk wr w.heap.size #[.int .i64 (n : Int), .int .i64 ks, .int .i64 ka, .slice (some ⟨g, off, none⟩) len cap] 38 ∧ Blk wr (w.heap.size + 1) #[.int .i64 0, .int .i64 0, .int .i64 0, .slice none 0 0] 38 ∧ Below w.heap.size w wr) (fun i _ => 4 - (intOf i).toNat)
    case atStart => exact ⟨0, by omega, rfl, by rw [show Sk.places key n 0 = [] from rfl, Sk.incB_nil]; exact hown2, hT2, hb2, ho2, hB2⟩
    case round =>
      clear hown2 hT2 hb2 ho2 hB2
      obtain ⟨k, hk4, rfl, hown, hTb, hb, ho, hB⟩ := hrel
      by_cases h4 : k < 4
      · have hpk := Hlt.out k
        have hql := Hrl.out k h4
        have hp1 := Hpl.out k wr.drew h4 (TabR.below hT hB.drew)
        have hsn := Hps.out k
        unfold Sk.q at hql
        generalize Sk.plN key k n = p at *
        have hkn : k * n ≤ 3 * n := Nat.mul_le_mul_right n (by omega)
        have hmul : (k : Int) * (n : Int) = ((k * n : Nat) : Int) := by simp
        generalize k * n = z at *
        have hmul2 : IntKind.i64.wrap ((k : Int) * (n : Int)) = (z : Int) := by rw [hmul, IntWalk.i64_in _ (by omega)]
        obtain ⟨q, hq⟩ : ∃ q, q = z + p := ⟨_, rfl⟩
        rw [← hq] at hql hsn
        have hadd : IntKind.i64.wrap ((z : Int) + (p : Int)) = (q : Int) := by rw [IntWalk.i64_in _ (by omega)]; omega
        have hqn : (q : Int) < (len : Int) := by have := Hcl.out; omega
        have hql2 : q < len := by omega
        have hq0 : (0 : Int) ≤ (q : Int) := by omega
        have hqc : q < kc.length := by rw [HL.out]; exact hql2
        have hcx := Hc.out q _ (Sk.at_of hqc)
        have hit := Sk.incB_hit0 ct (Sk.places key n k) kc q
        have miss := Sk.incB_miss0 ct (Sk.places key n k) kc q
        rw [← hsn] at hit miss
        have hll : (Sk.incB ct (Sk.places key n k) kc).length = len := by rw [Sk.incB_len, HL.out]
        obtain ⟨y, hy⟩ : ∃ y, (Sk.incB ct (Sk.places key n k) kc)[q]? = some y := ⟨_, List.getElem?_eq_getElem (by omega)⟩
        generalize Sk.at' kc q = x at *
        generalize hd2 : Sk.incB ct (Sk.places key n (k + 1)) kc = d2 at *
        generalize Sk.incB ct (Sk.places key n k) kc = d1 at *
        have Hd2 := Lib.hid hd2
        have Hit := Lib.hid hit
        have Miss := Lib.hid miss
        have Hp1 := Lib.hid hp1
        have Hown := Lib.hid hown
        have HTb := Lib.hid hTb
        have Hb := Lib.hid hb
        have Ho := Lib.hid ho
        have HB := Lib.hid hB
        have Hll := Lib.hid hll
        have Hy := Lib.hid hy
        have k0 := blk_cell hb 0
        simp only [List.getElem?_toArray, List.getElem?_cons_zero, List.getElem?_cons_succ] at k0
        clear hp1 hmul hsn hq hit miss hown hTb hb ho hB hll hy hd2
        go_wp2
        go_region_held3 (fun W => W.cell? ⟨w.heap.size, 0, none⟩ = some (.int .i64 (n : Int))) (first | exact k0 | exact blk_cell hb3 0)
          (first | (go_at_call 37; ((with_reducible refine Hp1.out.mono ?_); rintro e w3 ⟨rfl, hw3⟩; have hb3 := blk_kept (w := wr.drew) Hb.out hw3)))
        have hT3 := blk_kept (w := wr.drew) HTb.out hw3
        have ho3 := blk_kept (w := wr.drew) Ho.out hw3
        have hB3 := HB.out.drew.trans (hw3.mono HB.out.size)
        have hown3 := ownOf_kept (w := wr.drew) Hown.out hw3
        have kx : w3.cell? ⟨g, off + q, none⟩ = some (.int .i64 x) := (hB3.cell (p := ⟨g, off + q, none⟩) hg).trans hcx
        have k3 := blk_cell hb3 3
        have t3 := blk_cell hT3 3
        have co := ownOf_cell hown3 q y Hy.out
        have fo := ownOf_free hown3 q
        simp only [List.getElem?_toArray, List.getElem?_cons_zero, List.getElem?_cons_succ] at k3 t3
        have HT3 := Lib.hid hT3
        have Ho3 := Lib.hid ho3
        have HB3 := Lib.hid hB3
        have Hown3 := Lib.hid hown3
        have Hb3 := Lib.hid hb3
        have hco : w3.cell? ⟨g2, q, none⟩ = some (.int .i64 y) := co
        clear hT3 ho3 hB3 hown3 hb3 hw3 co
        by_cases hx : x = ct
        · subst hx
          by_cases h15 : x < 15
          · have hd : decide (x < 15) = true := by simpa using h15
            have Hit2 := Lib.hid (Hit.out h15 rfl)
            have hset := ownOf_set Hown3.out Hll.out.symm q (x + 1)
            rw [Hit2.out] at hset
            have Hset := Lib.hid hset
            clear hset
            go_wp2
            go_roundw
            case rel => exact ⟨k + 1, by omega, by go_num, by rw [Hd2.out]; exact Hset.out, blk_far HT3.out (p := ⟨g2, q, none⟩) hTg _, blk_far Hb3.out (p := ⟨g2, q, none⟩) hNg _, blk_far Ho3.out (p := ⟨g2, q, none⟩) hOg _, HB3.out.setCell (p := ⟨g2, q, none⟩) (by show w.heap.size ≤ g2; omega) _⟩
            case measure => simp [intOf]; omega
          · have hd : decide (x < 15) = false := by simpa using h15
            have Miss2 := Lib.hid (Miss.out (.inr (by omega)))
            go_wp2
            go_roundw
            case rel => exact ⟨k + 1, by omega, by go_num, by rw [Hd2.out, ← Miss2.out]; exact Hown3.out, HT3.out, Hb3.out, Ho3.out, HB3.out⟩
            case measure => simp [intOf]; omega
        · have hd : (x == ct) = false := by simpa using hx
          have Miss2 := Lib.hid (Miss.out (.inl hx))
          go_wp2
          go_roundw
          case rel => exact ⟨k + 1, by omega, by go_num, by rw [Hd2.out, ← Miss2.out]; exact Hown3.out, HT3.out, Hb3.out, Ho3.out, HB3.out⟩
          case measure => simp [intOf]; omega
      · obtain rfl : k = 4 := by omega
        rw [Hadd.out] at hown
        have t0 := blk_cell hTb 0
        have t1 := blk_cell hTb 1
        have t2 := blk_cell hTb 2
        have t3 := blk_cell hTb 3
        simp only [List.getElem?_toArray, List.getElem?_cons_zero, List.getElem?_cons_succ] at t0 t1 t2 t3
        have Hown := Lib.hid hown
        have Ho := Lib.hid ho
        have HB := Lib.hid hB
        clear hown ho hB hTb hb
        by_cases hd : ka + 1 = ks
        · have hde : (ka + 1 == ks) = true := by simpa using hd
          have hde2 : decide (ka + 1 = ks) = true := by simpa using hd
          have Hr := Lib.hid (show KK = ⟨(n : Int), ks, (ka + 1) / 2, hf⟩ by rw [Hres.out, if_pos hd])
          have Hv := Lib.hid (Hhv.out _ wr (ownOf_rd Hown.out))
          clear hd
          go_wp2_with (go_at_call 30; (with_reducible refine Hv.out.mono ?_); rintro e w4 ⟨⟨v4, rfl, hown4⟩, hw4⟩; have ho4 := blk_kept Ho.out hw4; have HB4 := Lib.hid (HB.out.trans (hw4.mono HB.out.size)); have hlt4 := blk_lt Ho.out; obtain ⟨g4, cap4, rfl, hg4, _⟩ := ownOf_slice hown4 hhne; have o0 := blk_cell ho4 0; have o1 := blk_cell ho4 1; have o2 := blk_cell ho4 2; have o3 := blk_cell ho4 3; have p0 := blk_free ho4 0; have p1 := blk_free ho4 1; have p2 := blk_free ho4 2; have p3 := blk_free ho4 3; simp only [List.getElem?_toArray, List.getElem?_cons_zero, List.getElem?_cons_succ] at o0 o1 o2 o3; generalize hf.length = len4 at *; have Hown4 := Lib.hid hown4; clear hown4 ho4 hw4)
          rw [Hr.out]
          refine bodyPost_ret (v := .agg #[.int .i64 (n : Int), .int .i64 ks, .int .i64 ((ka + 1) / 2), .slice (some ⟨g4, 0, none⟩) len4 cap4]) (by simp [results, Tryd.results22, go_sem, o0, o1, o2, o3]) rfl ⟨⟨_, rfl, ?_⟩, ?_⟩
          · exact ownOf_mono (base := wr.heap.size) (ownOf_far (ownOf_far (ownOf_far (ownOf_far Hown4.out (by show w.heap.size + 1 < _; omega) _) (by show w.heap.size + 1 < _; omega) _) (by show w.heap.size + 1 < _; omega) _) (by show w.heap.size + 1 < _; omega) _) (by omega)
          · exact (((HB4.out.setCell (p := ⟨w.heap.size + 1, 0, none⟩) (by show w.heap.size ≤ w.heap.size + 1; omega) _).setCell (p := ⟨w.heap.size + 1, 1, none⟩) (by show w.heap.size ≤ w.heap.size + 1; omega) _).setCell (p := ⟨w.heap.size + 1, 2, none⟩) (by show w.heap.size ≤ w.heap.size + 1; omega) _).setCell (p := ⟨w.heap.size + 1, 3, none⟩) (by show w.heap.size ≤ w.heap.size + 1; omega) _
        · have hde : (ka + 1 == ks) = false := by simpa using hd
          have Hr := Lib.hid (show KK = ⟨(n : Int), ks, ka + 1, ad⟩ by rw [Hres.out, if_neg hd])
          have o0 := blk_cell Ho.out 0
          have o1 := blk_cell Ho.out 1
          have o2 := blk_cell Ho.out 2
          have o3 := blk_cell Ho.out 3
          have p0 := blk_free Ho.out 0
          have p1 := blk_free Ho.out 1
          have p2 := blk_free Ho.out 2
          have p3 := blk_free Ho.out 3
          simp only [List.getElem?_toArray, List.getElem?_cons_zero, List.getElem?_cons_succ] at o0 o1 o2 o3
          go_wp2
          rw [Hr.out]
          refine bodyPost_ret (v := .agg #[.int .i64 (n : Int), .int .i64 ks, .int .i64 (ka + 1), .slice (some ⟨g2, 0, none⟩) len cap2]) (by simp [results, Tryd.results22, go_sem, o0, o1, o2, o3]) rfl ⟨⟨_, rfl, ?_⟩, ?_⟩
          · exact ownOf_mono (base := w1.heap.size) (ownOf_far (ownOf_far (ownOf_far (ownOf_far Hown.out (by show w.heap.size + 1 < _; omega) _) (by show w.heap.size + 1 < _; omega) _) (by show w.heap.size + 1 < _; omega) _) (by show w.heap.size + 1 < _; omega) _) (by omega)
          · exact (((HB.out.setCell (p := ⟨w.heap.size + 1, 0, none⟩) (by show w.heap.size ≤ w.heap.size + 1; omega) _).setCell (p := ⟨w.heap.size + 1, 1, none⟩) (by show w.heap.size ≤ w.heap.size + 1; omega) _).setCell (p := ⟨w.heap.size + 1, 2, none⟩) (by show w.heap.size ≤ w.heap.size + 1; omega) _).setCell (p := ⟨w.heap.size + 1, 3, none⟩) (by show w.heap.size ≤ w.heap.size + 1; omega) _
end Go.Proofs.YtbgieephehfgpabDoor
/-
  What the reference's Fill, New, Valid, Same and Shared and the law's short return. Conditions: for Fill: the sketch is valid; for Shared: short keys, a width from 1 to 4096, the reference's table; for Same: the sketches are the same.
-/
namespace Go.Proofs.YtbgieephehfgpabDoor
open Go Go.RowKit
set_option maxRecDepth 100000 in
set_option maxHeartbeats 2000000 in
theorem rfill_any (kw ks ka : Int) (c : List Int) (v : Value) (w : World) (hr : Rd mkI w v c) (hlen : c.length ≤ 1000000000) (h0 : c ≠ []) (hx : ∀ x ∈ c, 0 ≤ x) :
    Calls Tryd.prog 35 #[.agg #[.int .i64 kw, .int .i64 ks, .int .i64 ka, v]] w fun e w' => e = .returned (.int .i64 (Sk.fill c : Int)) ∧ Below w.heap.size w w' := by
  obtain ⟨g, off, cap, rfl, hcap, hg, hc⟩ := rd_parts hr h0
  have hfl := fun k (hk : k ≤ c.length) => Nat.le_trans (Sk.fill_le (c.take k)) (by rw [List.length_take]; exact Nat.min_le_left k c.length : (c.take k).length ≤ k)
  have hst := Sk.fill_take c
  have Hx := Lib.hid hx
  have Hfl := Lib.hid hfl
  have Hst := Lib.hid hst
  have H0 := Lib.hid h0
  have hB := below_alloc1 w (.cells #[.int .i64 kw, .int .i64 ks, .int .i64 ka, .slice (some ⟨g, off, none⟩) c.length cap] 38)
  have hk3 := blk_cell (blk_new w #[.int .i64 kw, .int .i64 ks, .int .i64 ka, .slice (some ⟨g, off, none⟩) c.length cap] 38) 3
  have Hcw : Hid (∀ i x, c[i]? = some x → (w.alloc (.cells #[.int .i64 kw, .int .i64 ks, .int .i64 ka, .slice (some ⟨g, off, none⟩) c.length cap] 38)).cell? ⟨g, off + i, none⟩ = some (.int .i64 x)) := Lib.hid fun i x hi => (hB.cell (p := ⟨g, off + i, none⟩) hg).trans (hc i x hi)
  have HB := Lib.hid hB
  simp only [List.getElem?_toArray, List.getElem?_cons_zero, List.getElem?_cons_succ] at hk3
  clear hc hfl hst hr h0 hB hx
  go_enter Tryd.func35, Tryd.ntmps35
  go_wp2
  generalize w.alloc (.cells #[.int .i64 kw, .int .i64 ks, .int .i64 ka, .slice (some ⟨g, off, none⟩) c.length cap] 38) = w1 at *
  go_loopw [3, 4] (fun n i wr => ∃ k : Nat, k ≤ c.length ∧ i = .int .i64 (k : Int) ∧ n = .int .i64 (Sk.fill (c.take k) : Int) ∧ w1 = wr) (fun _ i _ => c.length - (intOf i).toNat)
  case atStart => exact ⟨0, by omega, rfl, rfl, rfl⟩
  case round =>
    obtain ⟨k, hk, rfl, rfl, rfl⟩ := hrel
    by_cases hlt : k < c.length
    · obtain ⟨x, hxk⟩ : ∃ x, c[k]? = some x := ⟨_, List.getElem?_eq_getElem hlt⟩
      have hcx := Hcw.out k x hxk
      have hx0 := Hx.out x (List.mem_of_getElem? hxk)
      have hs2 := Hst.out k x hxk
      have hfk := Hfl.out k hk
      have Hs2 := Lib.hid hs2
      clear hs2 hxk
      generalize hq : Sk.fill (c.take k) = q at *
      clear hq
      by_cases hz : x = 0
      · subst hz
        go_wp2
        go_roundw
        case rel => exact ⟨k + 1, by omega, by go_num, by rw [Hs2.out]; simp, trivial⟩
        case measure => simp [intOf]; omega
      · have hne : decide (0 < x) = true := by simp; omega
        go_wp2
        go_roundw
        case rel => exact ⟨k + 1, by omega, by go_num, by rw [Hs2.out, if_neg hz]; go_num, trivial⟩
        case measure => simp [intOf]; omega
    · obtain rfl : k = c.length := by omega
      rw [List.take_length]
      go_wp2
      go_ret
      exact ⟨rfl, HB.out⟩
set_option maxRecDepth 100000 in
set_option maxHeartbeats 1000000 in
theorem rnew_arg (n s : Int) (w : World) (h : isPow n = false ∨ (isPow n = true ∧ s < 1)) :
    Calls Tryd.prog 32 #[.int .i64 n, .int .i64 s] w fun e w' => e = .returned (.agg #[.int .i64 0, .int .i64 0, .int .i64 0, .slice none 0 0, .int .i64 1]) ∧ Below w.heap.size w w' := by
  have hp := fun W => rpower_any n W
  have HB := Lib.hid (below_alloc1 w (.cells #[.int .i64 0, .int .i64 0, .int .i64 0, .slice none 0 0, .int .i64 1] 57))
  rcases h with h | ⟨h, hs⟩
  · rw [h] at hp
    have Hp := Lib.hid hp
    clear hp h
    go_enter Tryd.func32, Tryd.ntmps32
    go_wp2_with (go_at_call 53; (with_reducible refine (Hp.out _).mono ?_); rintro e w1 ⟨rfl, rfl⟩)
    exact bodyPost_ret (v := .agg #[.int .i64 0, .int .i64 0, .int .i64 0, .slice none 0 0, .int .i64 1]) (by simp [results, Tryd.results32, go_sem]) rfl ⟨rfl, HB.out⟩
  · rw [h] at hp
    have Hp := Lib.hid hp
    clear hp h
    have hd : decide (s < 1) = true := by simpa using hs
    go_enter Tryd.func32, Tryd.ntmps32
    go_wp2_with (go_at_call 53; (with_reducible refine (Hp.out _).mono ?_); rintro e w1 ⟨rfl, rfl⟩)
    exact bodyPost_ret (v := .agg #[.int .i64 0, .int .i64 0, .int .i64 0, .slice none 0 0, .int .i64 1]) (by simp [results, Tryd.results32, go_sem]) rfl ⟨rfl, HB.out⟩
set_option maxRecDepth 100000 in
set_option maxHeartbeats 1000000 in
theorem rnew_limit (n s : Int) (w : World) (hp1 : isPow n = true) (hs1 : 1 ≤ s) (h : 4096 < n ∨ (n ≤ 4096 ∧ 1048576 < s)) :
    Calls Tryd.prog 32 #[.int .i64 n, .int .i64 s] w fun e w' => e = .returned (.agg #[.int .i64 0, .int .i64 0, .int .i64 0, .slice none 0 0, .int .i64 2]) ∧ Below w.heap.size w w' := by
  have hp := fun W => rpower_any n W
  rw [hp1] at hp
  have Hp := Lib.hid hp
  clear hp hp1
  have HB := Lib.hid (below_alloc1 w (.cells #[.int .i64 0, .int .i64 0, .int .i64 0, .slice none 0 0, .int .i64 2] 57))
  have hd : decide (s < 1) = false := by simp; omega
  rcases h with h | ⟨h, h2⟩
  · have hd2 : decide (4096 < n) = true := by simpa using h
    go_enter Tryd.func32, Tryd.ntmps32
    go_wp2_with (go_at_call 53; (with_reducible refine (Hp.out _).mono ?_); rintro e w1 ⟨rfl, rfl⟩)
    exact bodyPost_ret (v := .agg #[.int .i64 0, .int .i64 0, .int .i64 0, .slice none 0 0, .int .i64 2]) (by simp [results, Tryd.results32, go_sem]) rfl ⟨rfl, HB.out⟩
  · have hd2 : decide (4096 < n) = false := by simp; omega
    have hd3 : decide (1048576 < s) = true := by simpa using h2
    go_enter Tryd.func32, Tryd.ntmps32
    go_wp2_with (go_at_call 53; (with_reducible refine (Hp.out _).mono ?_); rintro e w1 ⟨rfl, rfl⟩)
    exact bodyPost_ret (v := .agg #[.int .i64 0, .int .i64 0, .int .i64 0, .slice none 0 0, .int .i64 2]) (by simp [results, Tryd.results32, go_sem]) rfl ⟨rfl, HB.out⟩
set_option maxRecDepth 100000 in
set_option maxHeartbeats 1000000 in
theorem rnew_ok (n : Nat) (s : Int) (w : World) (hp1 : isPow (n : Int) = true) (hs1 : 1 ≤ s) (hn : n ≤ 4096) (hs2 : s ≤ 1048576) :
    Calls Tryd.prog 32 #[.int .i64 (n : Int), .int .i64 s] w fun e w' => (∃ v', e = .returned (madeV (Sk.new n s) v' 0) ∧ OwnI w' w.heap.size v' (Sk.new n s).c) ∧ Below w.heap.size w w' := by
  have hp := fun W => rpower_any (n : Int) W
  rw [hp1] at hp
  have Hp := Lib.hid hp
  have hn1 := Sk.pow_pos hp1
  clear hp hp1
  have hd : decide (s < 1) = false := by simp; omega
  have hd2 : decide (4096 < (n : Int)) = false := by simp; omega
  have hd3 : decide (1048576 < s) = false := by simp; omega
  obtain ⟨m, hm⟩ : ∃ m, m = 4 * n := ⟨_, rfl⟩
  have hm4 : 4 * (n : Int) = (m : Int) := by omega
  have Hm := Lib.hid hm
  have hmb : m ≤ 16384 := by omega
  clear hm
  go_enter Tryd.func32, Tryd.ntmps32
  go_wp2_with (first
    | (go_at_call 53; (with_reducible refine (Hp.out _).mono ?_); rintro e w1 ⟨rfl, rfl⟩)
    | (at_make; refine wp_make (mk := mkI) Tryd.underlying36 info_int rfl (by decide) 0 rfl rfl (.tmp 25) (.tmp 25) rfl (w.heap.size + 1) .i64 .i64 _ _ m rfl rfl rfl rfl (by omega) (by simp) ?_; intro w2 hown2 hg2; have hk2 := hg2.kept _ _ (blk_new w _ _) (by omega); have hB2 := hg2.below _ _ (below_alloc1 w _) (by omega); have o0 := blk_cell hk2 0; have o1 := blk_cell hk2 1; have o2 := blk_cell hk2 2; have o3 := blk_cell hk2 3; have o4 := blk_cell hk2 4; have p0 := blk_free hk2 0; have p1 := blk_free hk2 1; have p2 := blk_free hk2 2; have p3 := blk_free hk2 3; have p4 := blk_free hk2 4; simp only [List.getElem?_toArray, List.getElem?_cons_zero, List.getElem?_cons_succ] at o0 o1 o2 o3 o4))
  rw [World.size_alloc] at hown2
  refine bodyPost_ret (v := .agg #[.int .i64 (n : Int), .int .i64 s, .int .i64 0, .slice (some ⟨w.heap.size + 1, 0, none⟩) m m, .int .i64 0]) (by simp [results, Tryd.results32, go_sem, o0, o1, o2, o3, o4]) rfl ⟨⟨_, rfl, ?_⟩, ?_⟩
  · show OwnI _ _ _ (List.replicate (4 * n) 0)
    rw [← Hm.out]
    exact ownOf_mono (base := w.heap.size + 1) (ownOf_far (ownOf_far (ownOf_far (ownOf_far (ownOf_far hown2 (by show w.heap.size < _; omega) _) (by show w.heap.size < _; omega) _) (by show w.heap.size < _; omega) _) (by show w.heap.size < _; omega) _) (by show w.heap.size < _; omega) _) (by omega)
  · exact (Below.setCell (Below.setCell (Below.setCell (Below.setCell (Below.setCell hB2 (p := ⟨w.heap.size, 0, none⟩) (by show w.heap.size ≤ w.heap.size; omega) _) (p := ⟨w.heap.size, 1, none⟩) (by show w.heap.size ≤ w.heap.size; omega) _) (p := ⟨w.heap.size, 2, none⟩) (by show w.heap.size ≤ w.heap.size; omega) _) (p := ⟨w.heap.size, 3, none⟩) (by show w.heap.size ≤ w.heap.size; omega) _) (p := ⟨w.heap.size, 4, none⟩) (by show w.heap.size ≤ w.heap.size; omega) _)
set_option maxRecDepth 100000 in
set_option maxHeartbeats 1000000 in
theorem rvalid_no0 (k : Sk.K) (v : Value) (w : World) (hr : Rd mkI w v k.c) (hlen : k.c.length ≤ maxLen)  (hno : ¬ (isPow k.w = true)) :
    Calls Tryd.prog 18 #[skV k v] w fun e w' => e = .returned (.bool false) ∧ Below w.heap.size w w' := by
  unfold maxLen at hlen
  obtain ⟨x0, cap, rfl, _, _⟩ := hr
  have hp := fun W => rpower_any k.w W
  have hp0 : isPow k.w = false := by simpa using hno
  rw [hp0] at hp
  obtain ⟨kw, ks, ka, kc⟩ := k
  dsimp only at *
  have Hp := Lib.hid hp
  have HB := Lib.hid (below_alloc1 w (.cells #[.int .i64 kw, .int .i64 ks, .int .i64 ka, .slice x0 kc.length cap] 38))
  clear hp hp0 hno
  generalize kc.length = len at *
  go_enter Tryd.func18, Tryd.ntmps18
  go_wp2_with (go_at_call 53; (with_reducible refine (Hp.out _).mono ?_); rintro e w1 ⟨rfl, rfl⟩)
  go_ret
  exact ⟨rfl, HB.out⟩
set_option maxRecDepth 100000 in
set_option maxHeartbeats 1000000 in
theorem rvalid_no1 (k : Sk.K) (v : Value) (w : World) (hr : Rd mkI w v k.c) (hlen : k.c.length ≤ maxLen) (h0 : isPow k.w = true) (hno : ¬ (k.w ≤ 4096)) :
    Calls Tryd.prog 18 #[skV k v] w fun e w' => e = .returned (.bool false) ∧ Below w.heap.size w w' := by
  unfold maxLen at hlen
  obtain ⟨x0, cap, rfl, _, _⟩ := hr
  have hp := fun W => rpower_any k.w W
  have h1w := Sk.pow_pos h0
  rw [h0] at hp
  obtain ⟨kw, ks, ka, kc⟩ := k
  dsimp only at *
  have d1 : decide (4096 < kw) = true := by simp; omega
  have Hp := Lib.hid hp
  have HB := Lib.hid (below_alloc1 w (.cells #[.int .i64 kw, .int .i64 ks, .int .i64 ka, .slice x0 kc.length cap] 38))
  clear hp h0
  generalize kc.length = len at *
  go_enter Tryd.func18, Tryd.ntmps18
  go_wp2_with (go_at_call 53; (with_reducible refine (Hp.out _).mono ?_); rintro e w1 ⟨rfl, rfl⟩)
  go_ret
  exact ⟨rfl, HB.out⟩
set_option maxRecDepth 100000 in
set_option maxHeartbeats 1000000 in
theorem rvalid_no2 (k : Sk.K) (v : Value) (w : World) (hr : Rd mkI w v k.c) (hlen : k.c.length ≤ maxLen) (h0 : isPow k.w = true) (h1 : k.w ≤ 4096) (hno : ¬ (1 ≤ k.s)) :
    Calls Tryd.prog 18 #[skV k v] w fun e w' => e = .returned (.bool false) ∧ Below w.heap.size w w' := by
  unfold maxLen at hlen
  obtain ⟨x0, cap, rfl, _, _⟩ := hr
  have hp := fun W => rpower_any k.w W
  have h1w := Sk.pow_pos h0
  rw [h0] at hp
  obtain ⟨kw, ks, ka, kc⟩ := k
  dsimp only at *
  have d1 : decide (4096 < kw) = false := by simp; omega
  have d2 : decide (ks < 1) = true := by simp; omega
  have Hp := Lib.hid hp
  have HB := Lib.hid (below_alloc1 w (.cells #[.int .i64 kw, .int .i64 ks, .int .i64 ka, .slice x0 kc.length cap] 38))
  clear hp h0
  generalize kc.length = len at *
  go_enter Tryd.func18, Tryd.ntmps18
  go_wp2_with (go_at_call 53; (with_reducible refine (Hp.out _).mono ?_); rintro e w1 ⟨rfl, rfl⟩)
  go_ret
  exact ⟨rfl, HB.out⟩
set_option maxRecDepth 100000 in
set_option maxHeartbeats 1000000 in
theorem rvalid_no3 (k : Sk.K) (v : Value) (w : World) (hr : Rd mkI w v k.c) (hlen : k.c.length ≤ maxLen) (h0 : isPow k.w = true) (h1 : k.w ≤ 4096) (h2 : 1 ≤ k.s) (hno : ¬ (k.s ≤ 1048576)) :
    Calls Tryd.prog 18 #[skV k v] w fun e w' => e = .returned (.bool false) ∧ Below w.heap.size w w' := by
  unfold maxLen at hlen
  obtain ⟨x0, cap, rfl, _, _⟩ := hr
  have hp := fun W => rpower_any k.w W
  have h1w := Sk.pow_pos h0
  rw [h0] at hp
  obtain ⟨kw, ks, ka, kc⟩ := k
  dsimp only at *
  have d1 : decide (4096 < kw) = false := by simp; omega
  have d2 : decide (ks < 1) = false := by simp; omega
  have d3 : decide (1048576 < ks) = true := by simp; omega
  have Hp := Lib.hid hp
  have HB := Lib.hid (below_alloc1 w (.cells #[.int .i64 kw, .int .i64 ks, .int .i64 ka, .slice x0 kc.length cap] 38))
  clear hp h0
  generalize kc.length = len at *
  go_enter Tryd.func18, Tryd.ntmps18
  go_wp2_with (go_at_call 53; (with_reducible refine (Hp.out _).mono ?_); rintro e w1 ⟨rfl, rfl⟩)
  go_ret
  exact ⟨rfl, HB.out⟩
set_option maxRecDepth 100000 in
set_option maxHeartbeats 1000000 in
theorem rvalid_no4 (k : Sk.K) (v : Value) (w : World) (hr : Rd mkI w v k.c) (hlen : k.c.length ≤ maxLen) (h0 : isPow k.w = true) (h1 : k.w ≤ 4096) (h2 : 1 ≤ k.s) (h3 : k.s ≤ 1048576) (hno : ¬ (0 ≤ k.a)) :
    Calls Tryd.prog 18 #[skV k v] w fun e w' => e = .returned (.bool false) ∧ Below w.heap.size w w' := by
  unfold maxLen at hlen
  obtain ⟨x0, cap, rfl, _, _⟩ := hr
  have hp := fun W => rpower_any k.w W
  have h1w := Sk.pow_pos h0
  rw [h0] at hp
  obtain ⟨kw, ks, ka, kc⟩ := k
  dsimp only at *
  have d1 : decide (4096 < kw) = false := by simp; omega
  have d2 : decide (ks < 1) = false := by simp; omega
  have d3 : decide (1048576 < ks) = false := by simp; omega
  have d4 : decide (ka < 0) = true := by simp; omega
  have Hp := Lib.hid hp
  have HB := Lib.hid (below_alloc1 w (.cells #[.int .i64 kw, .int .i64 ks, .int .i64 ka, .slice x0 kc.length cap] 38))
  clear hp h0
  generalize kc.length = len at *
  go_enter Tryd.func18, Tryd.ntmps18
  go_wp2_with (go_at_call 53; (with_reducible refine (Hp.out _).mono ?_); rintro e w1 ⟨rfl, rfl⟩)
  go_ret
  exact ⟨rfl, HB.out⟩
set_option maxRecDepth 100000 in
set_option maxHeartbeats 1000000 in
theorem rvalid_no5 (k : Sk.K) (v : Value) (w : World) (hr : Rd mkI w v k.c) (hlen : k.c.length ≤ maxLen) (h0 : isPow k.w = true) (h1 : k.w ≤ 4096) (h2 : 1 ≤ k.s) (h3 : k.s ≤ 1048576) (h4 : 0 ≤ k.a) (hno : ¬ (k.a < k.s)) :
    Calls Tryd.prog 18 #[skV k v] w fun e w' => e = .returned (.bool false) ∧ Below w.heap.size w w' := by
  unfold maxLen at hlen
  obtain ⟨x0, cap, rfl, _, _⟩ := hr
  have hp := fun W => rpower_any k.w W
  have h1w := Sk.pow_pos h0
  rw [h0] at hp
  obtain ⟨kw, ks, ka, kc⟩ := k
  dsimp only at *
  have d1 : decide (4096 < kw) = false := by simp; omega
  have d2 : decide (ks < 1) = false := by simp; omega
  have d3 : decide (1048576 < ks) = false := by simp; omega
  have d4 : decide (ka < 0) = false := by simp; omega
  have d5 : decide (ks ≤ ka) = true := by simp; omega
  have Hp := Lib.hid hp
  have HB := Lib.hid (below_alloc1 w (.cells #[.int .i64 kw, .int .i64 ks, .int .i64 ka, .slice x0 kc.length cap] 38))
  clear hp h0
  generalize kc.length = len at *
  go_enter Tryd.func18, Tryd.ntmps18
  go_wp2_with (go_at_call 53; (with_reducible refine (Hp.out _).mono ?_); rintro e w1 ⟨rfl, rfl⟩)
  go_ret
  exact ⟨rfl, HB.out⟩
set_option maxRecDepth 100000 in
set_option maxHeartbeats 1000000 in
theorem rvalid_no6 (k : Sk.K) (v : Value) (w : World) (hr : Rd mkI w v k.c) (hlen : k.c.length ≤ maxLen) (h0 : isPow k.w = true) (h1 : k.w ≤ 4096) (h2 : 1 ≤ k.s) (h3 : k.s ≤ 1048576) (h4 : 0 ≤ k.a) (h5 : k.a < k.s) (hno : ¬ ((k.c.length : Int) = 4 * k.w)) :
    Calls Tryd.prog 18 #[skV k v] w fun e w' => e = .returned (.bool false) ∧ Below w.heap.size w w' := by
  unfold maxLen at hlen
  obtain ⟨x0, cap, rfl, _, _⟩ := hr
  have hp := fun W => rpower_any k.w W
  have h1w := Sk.pow_pos h0
  rw [h0] at hp
  obtain ⟨kw, ks, ka, kc⟩ := k
  dsimp only at *
  have d1 : decide (4096 < kw) = false := by simp; omega
  have d2 : decide (ks < 1) = false := by simp; omega
  have d3 : decide (1048576 < ks) = false := by simp; omega
  have d4 : decide (ka < 0) = false := by simp; omega
  have d5 : decide (ks ≤ ka) = false := by simp; omega
  have d6 : ((kc.length : Int) != 4 * kw) = true := by simpa using hno
  have d7 : ((kc.length : Int) == 4 * kw) = false := by simpa using hno
  have Hp := Lib.hid hp
  have HB := Lib.hid (below_alloc1 w (.cells #[.int .i64 kw, .int .i64 ks, .int .i64 ka, .slice x0 kc.length cap] 38))
  clear hp h0 hno
  generalize kc.length = len at *
  go_enter Tryd.func18, Tryd.ntmps18
  go_wp2_with (go_at_call 53; (with_reducible refine (Hp.out _).mono ?_); rintro e w1 ⟨rfl, rfl⟩)
  go_ret
  exact ⟨rfl, HB.out⟩
set_option maxRecDepth 100000 in
set_option maxHeartbeats 2000000 in
theorem rvalid_cells (k : Sk.K) (v : Value) (w : World) (hr : Rd mkI w v k.c) (hlen : k.c.length ≤ maxLen) (h0 : isPow k.w = true) (h1 : k.w ≤ 4096) (h2 : 1 ≤ k.s) (h3 : k.s ≤ 1048576) (h4 : 0 ≤ k.a) (h5 : k.a < k.s) (h6 : (k.c.length : Int) = 4 * k.w) :
    Calls Tryd.prog 18 #[skV k v] w fun e w' => e = .returned (.bool (!k.c.any (Sk.bad k.a))) ∧ Below w.heap.size w w' := by
  obtain ⟨x0, cap, rfl, hcap, hcase⟩ := hr
  have hp := fun W => rpower_any k.w W
  have h1w := Sk.pow_pos h0
  rw [h0] at hp
  have hB1 := below_alloc1 w (.cells #[.int .i64 k.w, .int .i64 k.s, .int .i64 k.a, .slice x0 k.c.length cap] 38)
  have hb1 := blk_new w #[.int .i64 k.w, .int .i64 k.s, .int .i64 k.a, .slice x0 k.c.length cap] 38
  obtain ⟨kw, ks, ka, kc⟩ := k
  unfold maxLen at hlen
  dsimp only at *
  have d1 : decide (4096 < kw) = false := by simp; omega
  have d2 : decide (ks < 1) = false := by simp; omega
  have d3 : decide (1048576 < ks) = false := by simp; omega
  have d4 : decide (ka < 0) = false := by simp; omega
  have d5 : decide (ks ≤ ka) = false := by simp; omega
  have hany : ∀ j x, kc[j]? = some x → (kc.take j).any (Sk.bad ka) = false → Sk.bad ka x = false → (kc.take (j + 1)).any (Sk.bad ka) = false := Sk.any_take (Sk.bad ka) kc
  have htrue : ∀ j x, kc[j]? = some x → Sk.bad ka x = true → (!kc.any (Sk.bad ka)) = false := fun j x hj hb => by
    rw [List.any_eq_true.2 ⟨x, List.mem_of_getElem? hj, hb⟩]; rfl
  have hend : ∀ j, kc.length ≤ j → (kc.take j).any (Sk.bad ka) = false → (!kc.any (Sk.bad ka)) = true := fun j hj h => by
    rw [List.take_of_length_le hj] at h; rw [h]; rfl
  have hex : ∀ j, j < kc.length → ∃ x, kc[j]? = some x := fun j hj => ⟨_, List.getElem?_eq_getElem hj⟩
  have hcell : ∀ j x, kc[j]? = some x → ∃ g off, x0 = some ⟨g, off, none⟩ ∧ g < w.heap.size ∧ w.cell? ⟨g, off + j, none⟩ = some (.int .i64 x) := by
    intro j x hj
    rcases hcase with h | ⟨g, off, h1, h2, h3⟩
    · rw [h] at hj; simp at hj
    · exact ⟨g, off, h1, h2, h3 j x hj⟩
  have Hany := Lib.hid hany
  have Htrue := Lib.hid htrue
  have Hend := Lib.hid hend
  have Hex := Lib.hid hex
  have Hcell := Lib.hid hcell
  have hk2 := blk_cell hb1 2
  have hk3 := blk_cell hb1 3
  simp only [List.getElem?_toArray, List.getElem?_cons_zero, List.getElem?_cons_succ] at hk2 hk3
  clear hany htrue hend hex hcell hcase hb1
  generalize hq : (!kc.any (Sk.bad ka)) = q at *
  clear hq
  generalize kc.length = len at *
  obtain ⟨m, rfl⟩ : ∃ m : Nat, kw = (m : Int) := ⟨kw.toNat, by omega⟩
  obtain rfl : len = 4 * m := by omega
  have e1 : ((4 * m : Nat) : Int) = 4 * (m : Int) := by omega
  have Hp := Lib.hid hp
  have HB := Lib.hid hB1
  clear hp hB1 h0 h6
  go_enter Tryd.func18, Tryd.ntmps18
  go_wp2_with (go_at_call 53; (with_reducible refine (Hp.out _).mono ?_); rintro e w1 ⟨rfl, rfl⟩)
  generalize hw1 : w.alloc (.cells #[.int .i64 (m : Int), .int .i64 ks, .int .i64 ka, .slice x0 (4 * m) cap] 38) = w1 at *
  clear hw1
  go_loopw [4] (fun i wr => ∃ j : Nat, j ≤ 4 * m ∧ i = .int .i64 (j : Int) ∧ (kc.take j).any (Sk.bad ka) = false ∧ wr.cell? ⟨w.heap.size, 2, none⟩ = some (.int .i64 ka) ∧ wr.cell? ⟨w.heap.size, 3, none⟩ = some (.slice x0 (4 * m) cap) ∧ Below w.heap.size w wr) (fun i _ => 4 * m - (intOf i).toNat)
  case atStart => exact ⟨0, by omega, rfl, rfl, hk2, hk3, HB.out⟩
  case round =>
    clear hk2 hk3
    obtain ⟨j, hj, rfl, hno, hk2, hk3, hB⟩ := hrel
    by_cases hlt : j < 4 * m
    · obtain ⟨x, hx⟩ := Hex.out j hlt
      obtain ⟨g, off, rfl, hg, hcx0⟩ := Hcell.out j x hx
      have hcx : wr.cell? ⟨g, off + j, none⟩ = some (.int .i64 x) := (hB.cell (p := ⟨g, off + j, none⟩) hg).trans hcx0
      have hji : (j : Int) < 4 * (m : Int) := by omega
      have hj0 : (0 : Int) ≤ (j : Int) := by omega
      have hji2 : (j : Int) < ((4 * m : Nat) : Int) := by omega
      have HB2 := Lib.hid hB
      cases hbx : Sk.bad ka x with
      | true =>
        have Ht := Lib.hid (Htrue.out j x hx hbx)
        clear hno hx hcx0 hB
        by_cases h1 : x < 0
        · have q1 : decide (x < 0) = true := by simpa using h1
          go_wp2
          go_quiet (fail)
          go_wp2
          go_ret
          exact ⟨ret_bool (Ht.out).symm, HB2.out.trans ⟨rfl, rfl, rfl, Nat.le_refl _, fun _ _ => rfl⟩⟩
        · have q1 : decide (x < 0) = false := by simpa using h1
          by_cases h2 : 15 < x
          · have q2 : decide (15 < x) = true := by simpa using h2
            go_wp2
            go_quiet (fail)
            go_wp2
            go_ret
            exact ⟨ret_bool (Ht.out).symm, HB2.out.trans ⟨rfl, rfl, rfl, Nat.le_refl _, fun _ _ => rfl⟩⟩
          · have q2 : decide (15 < x) = false := by simpa using h2
            have q3 : decide (ka < x) = true := by simpa [Sk.bad, q1, q2] using hbx
            go_wp2
            go_quiet (fail)
            go_wp2
            go_ret
            exact ⟨ret_bool (Ht.out).symm, HB2.out.trans ⟨rfl, rfl, rfl, Nat.le_refl _, fun _ _ => rfl⟩⟩
      | false =>
        have Hn := Lib.hid (Hany.out j x hx hno hbx)
        have q1 : decide (x < 0) = false := by simp only [Sk.bad, Bool.or_eq_false_iff] at hbx; exact hbx.1.1
        have q2 : decide (15 < x) = false := by simp only [Sk.bad, Bool.or_eq_false_iff] at hbx; exact hbx.1.2
        have q3 : decide (ka < x) = false := by simp only [Sk.bad, Bool.or_eq_false_iff] at hbx; exact hbx.2
        clear hno hx hcx0 hB hbx
        go_wp2
        go_quiet (fail)
        have k2' : (wr.drewN nq).cell? ⟨w.heap.size, 2, none⟩ = some (.int .i64 ka) := hk2
        have k3' : (wr.drewN nq).cell? ⟨w.heap.size, 3, none⟩ = some (.slice (some ⟨g, off, none⟩) (4 * m) cap) := hk3
        have HB3 := Lib.hid (show Below w.heap.size w (wr.drewN nq) from HB2.out.trans ⟨rfl, rfl, rfl, Nat.le_refl _, fun _ _ => rfl⟩)
        generalize wr.drewN nq = wq at *
        go_wp2
        go_roundw
        case rel => exact ⟨j + 1, by omega, by go_num, Hn.out, k2', k3', HB3.out⟩
        case measure => simp [intOf]; omega
    · obtain rfl : j = 4 * m := by omega
      have He := Lib.hid (Hend.out _ (Nat.le_refl _) hno)
      have HB2 := Lib.hid hB
      clear hno hB
      go_wp2
      go_ret
      exact ⟨ret_bool (He.out).symm, HB2.out⟩
theorem rvalid_any (k : Sk.K) (v : Value) (w : World) (hr : Rd mkI w v k.c) (hlen : k.c.length ≤ maxLen) :
    Calls Tryd.prog 18 #[skV k v] w fun e w' => e = .returned (.bool (Sk.okB k)) ∧ Below w.heap.size w w' := by
  by_cases h0 : isPow k.w = true
  case neg => rw [show Sk.okB k = false by simp [Sk.okB, h0]]; exact rvalid_no0 k v w hr hlen h0
  by_cases h1 : k.w ≤ 4096
  case neg => rw [show Sk.okB k = false by simp [Sk.okB, h1]]; exact rvalid_no1 k v w hr hlen h0 h1
  by_cases h2 : 1 ≤ k.s
  case neg => rw [show Sk.okB k = false by simp [Sk.okB, h2]]; exact rvalid_no2 k v w hr hlen h0 h1 h2
  by_cases h3 : k.s ≤ 1048576
  case neg => rw [show Sk.okB k = false by simp [Sk.okB, h3]]; exact rvalid_no3 k v w hr hlen h0 h1 h2 h3
  by_cases h4 : 0 ≤ k.a
  case neg => rw [show Sk.okB k = false by simp [Sk.okB, h4]]; exact rvalid_no4 k v w hr hlen h0 h1 h2 h3 h4
  by_cases h5 : k.a < k.s
  case neg => rw [show Sk.okB k = false by simp [Sk.okB, h5]]; exact rvalid_no5 k v w hr hlen h0 h1 h2 h3 h4 h5
  by_cases h6 : (k.c.length : Int) = 4 * k.w
  case neg => rw [show Sk.okB k = false by simp [Sk.okB, h6]]; exact rvalid_no6 k v w hr hlen h0 h1 h2 h3 h4 h5 h6
  rw [show Sk.okB k = !k.c.any (Sk.bad k.a) by simp [Sk.okB, h0, h1, h2, h3, h4, h5, h6]]
  exact rvalid_cells k v w hr hlen h0 h1 h2 h3 h4 h5 h6
end Go.Proofs.YtbgieephehfgpabDoor
/-
  What the reference's Same and Shared and the law's short return. Conditions: for Same: the sketches are the same; for Shared: short keys, a width from 1 to 4096, the reference's table.
-/
namespace Go.Proofs.YtbgieephehfgpabDoor
open Go Go.RowKit
set_option maxRecDepth 100000 in
set_option maxHeartbeats 2000000 in
theorem same_true (k : Sk.K) (va vb : Value) (w : World) (hra : Rd mkI w va k.c) (hrb : Rd mkI w vb k.c) (hlen : k.c.length ≤ 1000000000) :
    Calls Tryd.prog 21 #[skV k va, skV k vb] w fun e w' => e = .returned (.bool true) ∧ Below w.heap.size w w' := by
  obtain ⟨xa, ca, rfl, hca, hcase⟩ := hra
  obtain ⟨xb, cb, rfl, hcb, hcase2⟩ := hrb
  obtain ⟨kw, ks, ka, kc⟩ := k
  dsimp only at *
  have hcell : ∀ j, j < kc.length → ∃ x g off g2 off2, xa = some ⟨g, off, none⟩ ∧ xb = some ⟨g2, off2, none⟩ ∧ g < w.heap.size ∧ g2 < w.heap.size ∧ w.cell? ⟨g, off + j, none⟩ = some (.int .i64 x) ∧ w.cell? ⟨g2, off2 + j, none⟩ = some (.int .i64 x) := by
    intro j hj
    rcases hcase with h | ⟨g, off, h1, h2, h3⟩
    · rw [h] at hj; simp at hj
    rcases hcase2 with h | ⟨g2, off2, h4, h5, h6⟩
    · rw [h] at hj; simp at hj
    have hx := List.getElem?_eq_getElem hj
    exact ⟨_, g, off, g2, off2, h1, h4, h2, h5, h3 j _ hx, h6 j _ hx⟩
  have Hcell := Lib.hid hcell
  clear hcell hcase hcase2
  generalize kc.length = len at *
  have hB1 := below_al (below_alloc1 w (.cells #[.int .i64 kw, .int .i64 ks, .int .i64 ka, .slice xa len ca] 38)) (.cells #[.int .i64 kw, .int .i64 ks, .int .i64 ka, .slice xb len cb] 38)
  have hb1 : Blk ((w.alloc (.cells #[.int .i64 kw, .int .i64 ks, .int .i64 ka, .slice xa len ca] 38)).alloc (.cells #[.int .i64 kw, .int .i64 ks, .int .i64 ka, .slice xb len cb] 38)) w.heap.size #[.int .i64 kw, .int .i64 ks, .int .i64 ka, .slice xa len ca] 38 := blk_alloc (blk_new w _ _) _
  have hb2 : Blk ((w.alloc (.cells #[.int .i64 kw, .int .i64 ks, .int .i64 ka, .slice xa len ca] 38)).alloc (.cells #[.int .i64 kw, .int .i64 ks, .int .i64 ka, .slice xb len cb] 38)) (w.heap.size + 1) #[.int .i64 kw, .int .i64 ks, .int .i64 ka, .slice xb len cb] 38 := blk_new2 w _ _ _
  have k1 := blk_cell hb1 3
  have k2 := blk_cell hb2 3
  simp only [List.getElem?_toArray, List.getElem?_cons_zero, List.getElem?_cons_succ] at k1 k2
  clear hb1 hb2
  go_enter Tryd.func21, Tryd.ntmps21
  go_wp2
  generalize (w.alloc (.cells #[.int .i64 kw, .int .i64 ks, .int .i64 ka, .slice xa len ca] 38)).alloc (.cells #[.int .i64 kw, .int .i64 ks, .int .i64 ka, .slice xb len cb] 38) = w1 at *
  go_loopw [5] (fun i wr => ∃ j : Nat, j ≤ len ∧ i = .int .i64 (j : Int) ∧ wr.cell? ⟨w.heap.size, 3, none⟩ = some (.slice xa len ca) ∧ wr.cell? ⟨w.heap.size + 1, 3, none⟩ = some (.slice xb len cb) ∧ Below w.heap.size w wr) (fun i _ => len - (intOf i).toNat)
  case atStart => exact ⟨0, by omega, rfl, k1, k2, hB1⟩
  case round =>
    clear k1 k2 hB1
    obtain ⟨j, hj, rfl, k1, k2, hB⟩ := hrel
    by_cases hlt : j < len
    · obtain ⟨x, g, off, g2, off2, rfl, rfl, hg, hg2, hc1, hc2⟩ := Hcell.out j hlt
      have hcx : wr.cell? ⟨g, off + j, none⟩ = some (.int .i64 x) := (hB.cell (p := ⟨g, off + j, none⟩) hg).trans hc1
      have hcy : wr.cell? ⟨g2, off2 + j, none⟩ = some (.int .i64 x) := (hB.cell (p := ⟨g2, off2 + j, none⟩) hg2).trans hc2
      have hji : (j : Int) < (len : Int) := by omega
      have hj0 : (0 : Int) ≤ (j : Int) := by omega
      have HB2 := Lib.hid hB
      clear hc1 hc2 hB
      go_wp2
      go_quiet (fail)
      have k1' : (wr.drewN nq).cell? ⟨w.heap.size, 3, none⟩ = some (.slice (some ⟨g, off, none⟩) len ca) := k1
      have k2' : (wr.drewN nq).cell? ⟨w.heap.size + 1, 3, none⟩ = some (.slice (some ⟨g2, off2, none⟩) len cb) := k2
      have HB3 := Lib.hid (show Below w.heap.size w (wr.drewN nq) from HB2.out.trans ⟨rfl, rfl, rfl, Nat.le_refl _, fun _ _ => rfl⟩)
      generalize wr.drewN nq = wq at *
      go_wp2
      go_roundw
      case rel => exact ⟨j + 1, by omega, by go_num, k1', k2', HB3.out⟩
      case measure => simp [intOf]; omega
    · obtain rfl : j = len := by omega
      have HB2 := Lib.hid hB
      clear hB
      go_wp2
      go_ret
      exact ⟨rfl, HB2.out⟩
/-- whether two keys have the same place in one of the first m rows -/
def Sk.sharedB (x y : List UInt8) (n m : Nat) : Bool := (List.range m).any fun r => Sk.plN x r n == Sk.plN y r n
theorem Sk.sharedB_iff (x y : List UInt8) (n : Nat) : Sk.sharedB x y n 4 = false ↔ ∀ r, r < 4 → Sk.plN x r n ≠ Sk.plN y r n := by
  simp [Sk.sharedB]
theorem Sk.sharedB_succ (x y : List UInt8) (n m : Nat) : Sk.sharedB x y n (m + 1) = (Sk.sharedB x y n m || (Sk.plN x m n == Sk.plN y m n)) := by
  simp [Sk.sharedB, List.range_succ]
theorem Sk.sharedB_at (x y : List UInt8) (n m : Nat) (hm : m < 4) (h : Sk.plN x m n = Sk.plN y m n) : Sk.sharedB x y n 4 = true := by
  rw [Sk.sharedB, List.any_eq_true]
  exact ⟨m, List.mem_range.2 hm, by simpa using h⟩
set_option maxRecDepth 100000 in
set_option maxHeartbeats 2000000 in
theorem shared_any (x y : List UInt8) (n : Nat) (w : World) (hx : x.length ≤ 10000) (hy : y.length ≤ 10000) (hn1 : 0 < n) (hn2 : n ≤ 4096) (hT : TabR w) :
    Calls Tryd.prog 26 #[.string ⟨x.toArray⟩, .string ⟨y.toArray⟩, .int .i64 (n : Int)] w fun e w' => e = .returned (.bool (Sk.sharedB x y n 4)) ∧ Below w.heap.size w w' := by
  have h1 := fun (row : Nat) (W : World) (hr : row < 4) (h : TabR W) => rplace_any x row n W hx hr hn1 hn2 h
  have h2 := fun (row : Nat) (W : World) (hr : row < 4) (h : TabR W) => rplace_any y row n W hy hr hn1 hn2 h
  have hs := fun m => Sk.sharedB_succ x y n m
  have hat := fun m hm h => Sk.sharedB_at x y n m hm h
  have H1 := Lib.hid h1
  have H2 := Lib.hid h2
  have Hs := Lib.hid hs
  have Hat := Lib.hid hat
  clear h1 h2 hs hat
  go_enter Tryd.func26, Tryd.ntmps26
  go_wp2
  go_loopw [7] (fun i wr => ∃ k : Nat, k ≤ 4 ∧ i = .int .i64 (k : Int) ∧ Sk.sharedB x y n k = false ∧ Below w.heap.size w wr) (fun i _ => 4 - (intOf i).toNat)
  case atStart => exact ⟨0, by omega, rfl, rfl, Below.refl _ _⟩
  case round =>
    obtain ⟨k, hk, rfl, hno, hB⟩ := hrel
    by_cases h4 : k < 4
    · have hc1 := H1.out k wr h4 (TabR.below hT hB)
      have hc2 := fun W (h : Below wr.heap.size wr W) => H2.out k W h4 (TabR.below hT (hB.trans (h.mono hB.size)))
      have hs := Hs.out k
      have ha := Hat.out k h4
      rw [hno, Bool.false_or] at hs
      generalize Sk.plN x k n = p at *
      generalize Sk.plN y k n = q at *
      have Hc1 := Lib.hid hc1
      have Hc2 := Lib.hid hc2
      have Hs2 := Lib.hid hs
      have Ha := Lib.hid ha
      have HB := Lib.hid hB
      clear hc1 hc2 hs ha hno hB
      by_cases hpq : p = q
      · subst hpq
        have Ht := Lib.hid (Ha.out rfl)
        clear Ha
        go_wp2_with (first
          | (go_at_call 37; (with_reducible refine Hc1.out.mono ?_); rintro e w1 ⟨rfl, hw1⟩)
          | (go_at_call 37; (with_reducible refine (Hc2.out w1 hw1).mono ?_); rintro e w2 ⟨rfl, hw2⟩; have hB2 := (HB.out.trans (hw1.mono HB.out.size)).trans (hw2.mono (Nat.le_trans HB.out.size hw1.size))))
        go_ret
        exact ⟨ret_bool Ht.out.symm, hB2⟩
      · have hne : ((p : Int) == (q : Int)) = false := by simp; omega
        have hne2 : (p == q) = false := by simpa using hpq
        rw [hne2] at Hs2
        have hpq2 : (p : Int) ≠ (q : Int) := by omega
        clear hne2 hpq
        go_wp2_with (first
          | (go_at_call 37; (with_reducible refine Hc1.out.mono ?_); rintro e w1 ⟨rfl, hw1⟩)
          | (go_at_call 37; (with_reducible refine (Hc2.out w1 hw1).mono ?_); rintro e w2 ⟨rfl, hw2⟩; have hB2 := (HB.out.trans (hw1.mono HB.out.size)).trans (hw2.mono (Nat.le_trans HB.out.size hw1.size))))
        go_roundw
        case rel => exact ⟨k + 1, by omega, by go_num, Hs2.out, hB2⟩
        case measure => simp [intOf]; omega
    · obtain rfl : k = 4 := by omega
      go_wp2
      go_ret
      exact ⟨ret_bool hno.symm, hB⟩
set_option maxRecDepth 100000 in
theorem short_any (v : Value) (ps : List (List UInt8)) (w : World) (hr : Rd mkS w v ps) (hlen : ps.length ≤ maxLen) :
    Calls Tryd.prog 17 #[v] w fun e w' => (∃ b, e = .returned (.bool b) ∧ (b = true → ps.length ≤ 60 ∧ ∀ x ∈ ps, x.length ≤ 100)) ∧ w = w' := by
  unfold maxLen at hlen
  obtain ⟨va, vcap, rfl, hvc, hvcell⟩ := hr
  go_enter Tryd.func17, Tryd.ntmps17
  go_wp2
  go_loopw [3] (fun i wr => ∃ k : Nat, k ≤ ps.length ∧ i = .int .i64 (k : Int) ∧ (∀ x ∈ ps.take k, x.length ≤ 100) ∧ w = wr) (fun i _ => ps.length - (intOf i).toNat)
  case atStart => exact ⟨0, by omega, rfl, by simp, rfl⟩
  case round =>
    obtain ⟨k, hk, rfl, hall, rfl⟩ := hrel
    by_cases h : k < ps.length
    · rcases hvcell with hnil | ⟨b, off, rfl, hbl, hcell⟩
      · subst hnil; simp at h
      · obtain ⟨x, hx⟩ : ∃ x, ps[k]? = some x := ⟨_, List.getElem?_eq_getElem h⟩
        have hcx : w.cell? ⟨b, off + k, none⟩ = some (.string ⟨x.toArray⟩) := hcell k x hx
        have hsz : (⟨x.toArray⟩ : ByteArray).size = x.length := by simp [ByteArray.size]
        have hnx : ∀ y ∈ ps.take (k + 1), x.length ≤ 100 → y.length ≤ 100 := by
          intro y hy h4
          rw [List.take_add_one, hx] at hy
          rcases List.mem_append.1 hy with hy | hy
          · exact hall y hy
          · simp at hy; subst hy; exact h4
        clear hcell hall hx
        by_cases h4 : x.length ≤ 100
        · have hd4 : decide ((100 : Int) < (x.length : Int)) = false := by simp; omega
          go_wp2
          go_roundw
          case rel => exact ⟨k + 1, by omega, by go_num, fun y hy => hnx y hy h4, trivial⟩
          case measure => simp [intOf]; omega
        · have hd4 : decide ((100 : Int) < (x.length : Int)) = true := by simp; omega
          go_wp2
          go_ret
          exact ⟨⟨false, rfl, fun h => by cases h⟩, rfl⟩
    · obtain rfl : k = ps.length := by omega
      by_cases h60 : ps.length ≤ 60
      · have hd : decide ((ps.length : Int) ≤ 60) = true := by simp; omega
        go_wp2
        go_ret
        exact ⟨⟨true, rfl, fun _ => ⟨h60, by simpa using hall⟩⟩, rfl⟩
      · have hd : decide ((ps.length : Int) ≤ 60) = false := by simp; omega
        go_wp2
        go_ret
        exact ⟨⟨false, rfl, fun h => by cases h⟩, rfl⟩
end Go.Proofs.YtbgieephehfgpabDoor
/-
  The sanity of the laws on sketches returns true. Condition: the tables are as the program's text lays them.
-/
namespace Go.Proofs.YtbgieephehfgpabDoor
open Go Go.RowKit
theorem Sk.new_ok (n : Nat) (s : Int) (hp : isPow (n : Int) = true) (hn : n ≤ 4096) (h1 : 1 ≤ s) (h2 : s ≤ 1048576) : Sk.Ok (Sk.new n s) := (Sk.inv_new (n : Int) s hp (by omega) h1 h2).ok
theorem Sk.cnt_zero (c : List Int) (p : List Nat) (hp : p ≠ []) (h : ∀ i, Sk.at' c i = 0) : Sk.cnt c p = 0 := by
  apply Int.le_antisymm
  · obtain ⟨i, hi⟩ := List.exists_mem_of_ne_nil p hp
    have := Sk.cnt_le (c := c) hi
    rw [h i] at this
    exact this
  · exact Sk.cnt_ge (by omega) fun i _ => by rw [h i]; exact Int.le_refl _
theorem Sk.at_rep (n : Nat) (x : Int) (i : Nat) (h : i < n) : Sk.at' (List.replicate n x) i = x := by simp [Sk.at', h]
theorem Sk.at_rep0 (n : Nat) (i : Nat) : Sk.at' (List.replicate n 0) i = 0 := by
  by_cases h : i < n
  · exact Sk.at_rep n 0 i h
  · simp [Sk.at', Nat.le_of_not_lt h]
theorem Sk.new_count (n : Nat) (s : Int) (key : List UInt8) : (Sk.new n s).count key = 0 := Sk.cnt_zero _ _ (Sk.K.p_ne _ key) (Sk.at_rep0 _)
theorem Sk.fill_rep (n : Nat) : Sk.fill (List.replicate n 0) = 0 := by
  induction n with
  | zero => rfl
  | succ n ih => simp [List.replicate_succ, Sk.fill, ih]
/-- a sketch of one column, all its cells alike -/
def Sk.one (s a x : Int) : Sk.K := ⟨1, s, a, [x, x, x, x]⟩
theorem Sk.places_one (key : List UInt8) : Sk.places key 1 4 = [0, 1, 2, 3] := by simp [Sk.places, Sk.plN, Nat.mod_one]; decide
theorem Sk.one_p (s a x : Int) (key : List UInt8) : (Sk.one s a x).p key = [0, 1, 2, 3] := Sk.places_one key
theorem Sk.one_count (s a x : Int) (key : List UInt8) (hx : x ≤ 15) : (Sk.one s a x).count key = x := by
  unfold Sk.K.count
  rw [Sk.one_p]
  simp [Sk.one, Sk.cnt, Sk.at']
  omega
theorem Sk.one_add (s a x : Int) (key : List UInt8) (hx : x < 15) : Sk.add ((Sk.one s a x).p key) (Sk.one s a x).c = [x + 1, x + 1, x + 1, x + 1] := by
  have h := Sk.one_count s a x key (by omega)
  unfold Sk.K.count at h
  unfold Sk.add
  rw [h, if_pos hx, Sk.one_p]
  simp [Sk.inc, Sk.one, List.mapIdx_cons]
theorem Sk.one_more (s a x : Int) (key : List UInt8) (hx : x < 15) (ha : a + 1 ≠ s) : (Sk.one s a x).add key = Sk.one s (a + 1) (x + 1) := by
  unfold Sk.K.add
  rw [if_neg (show ¬ (Sk.one s a x).a + 1 = (Sk.one s a x).s from ha)]
  unfold Sk.K.add1
  rw [Sk.one_add s a x key hx]
  rfl
theorem Sk.one_half (s a x : Int) (key : List UInt8) (hx : x < 15) (ha : a + 1 = s) : (Sk.one s a x).add key = Sk.one s ((a + 1) / 2) ((x + 1) / 2) := by
  unfold Sk.K.add
  rw [if_pos (show (Sk.one s a x).a + 1 = (Sk.one s a x).s from ha)]
  unfold Sk.K.add1 Sk.K.half
  rw [Sk.one_add s a x key hx]
  rfl
theorem Sk.one_ok (s a x : Int) (h1 : 1 ≤ s) (h2 : s ≤ 1048576) (a1 : 0 ≤ a) (a2 : a < s) (x1 : 0 ≤ x) (x2 : x ≤ 15) (x3 : x ≤ a) : Sk.Ok (Sk.one s a x) := by
  refine ⟨by show isPow 1 = true; decide, by show (1 : Int) ≤ 4096; decide, h1, h2, a1, a2, rfl, fun y hy => ?_⟩
  have : y = x := by simpa [Sk.one] using hy
  subst this
  exact ⟨x1, x2, x3⟩
/-- New, its slice written out -/
theorem new_lit (n m : Nat) (N s : Int) (w : World) (hN : N = (n : Int)) (hm : m = 4 * n) (hp1 : isPow (n : Int) = true) (hs1 : 1 ≤ s) (hn : n ≤ 4096) (hs2 : s ≤ 1048576) :
    Calls Tryd.prog 23 #[.int .i64 N, .int .i64 s] w fun e w' => (∃ g cap, e = .returned (.tuple #[.agg #[.int .i64 N, .int .i64 s, .int .i64 0, .slice (some ⟨g, 0, none⟩) m cap], .int .i64 0]) ∧ OwnI w' w.heap.size (.slice (some ⟨g, 0, none⟩) m cap) (Sk.new n s).c) ∧ Below w.heap.size w w' := by
  subst hN
  refine (new_ok n s w hp1 hs1 hn hs2).mono ?_
  rintro e w' ⟨⟨v', rfl, hown⟩, hB⟩
  have hne := (Sk.new_ok n s hp1 hn hs1 hs2).ne
  obtain ⟨g, cap, rfl, _, _⟩ := ownOf_slice hown hne
  have hl : (Sk.new n s).c.length = m := by rw [hm]; simp [Sk.new]
  rw [hl] at hown ⊢
  exact ⟨⟨g, cap, rfl, hown⟩, hB⟩
/-- Add at a sketch of one column -/
theorem add_one (s a x a' x' : Int) (key : List UInt8) (base g cap : Nat) (w : World) (hok : Sk.Ok (Sk.one s a x)) (hx : x < 15) (hr : (a + 1 ≠ s ∧ a' = a + 1 ∧ x' = x + 1) ∨ (a + 1 = s ∧ a' = (a + 1) / 2 ∧ x' = (x + 1) / 2)) (hown : OwnI w base (.slice (some ⟨g, 0, none⟩) 4 cap) [x, x, x, x]) (hkey : key.length ≤ 10000) (hT : TabC w) :
    Calls Tryd.prog 20 #[.agg #[.int .i64 1, .int .i64 s, .int .i64 a, .slice (some ⟨g, 0, none⟩) 4 cap], .string ⟨key.toArray⟩] w fun e w' =>
      (∃ g' cap', e = .returned (.agg #[.int .i64 1, .int .i64 s, .int .i64 a', .slice (some ⟨g', 0, none⟩) 4 cap']) ∧ OwnI w' w.heap.size (.slice (some ⟨g', 0, none⟩) 4 cap') [x', x', x', x']) ∧ Below w.heap.size w w' := by
  refine (sadd2_any (Sk.one s a x) hok key (.slice (some ⟨g, 0, none⟩) 4 cap) w (ownOf_rd hown) hkey hT).mono ?_
  have hadd : (Sk.one s a x).add key = Sk.one s a' x' := by
    rcases hr with ⟨h1, rfl, rfl⟩ | ⟨h1, rfl, rfl⟩
    · exact Sk.one_more s a x key hx h1
    · exact Sk.one_half s a x key hx h1
  rw [hadd]
  rintro e w' ⟨⟨v', rfl, hown'⟩, hB⟩
  obtain ⟨g', cap', rfl, _, _⟩ := ownOf_slice hown' (by simp [Sk.one])
  exact ⟨⟨g', cap', rfl, hown'⟩, hB⟩
/-- Count at a sketch of one column -/
theorem count_one (s a x : Int) (key : List UInt8) (base g cap : Nat) (w : World) (hok : Sk.Ok (Sk.one s a x)) (hown : OwnI w base (.slice (some ⟨g, 0, none⟩) 4 cap) [x, x, x, x]) (hkey : key.length ≤ 10000) (hT : TabC w) :
    Calls Tryd.prog 25 #[.agg #[.int .i64 1, .int .i64 s, .int .i64 a, .slice (some ⟨g, 0, none⟩) 4 cap], .string ⟨key.toArray⟩] w fun e w' => e = .returned (.int .i64 x) ∧ Below w.heap.size w w' := by
  have h := count_any (Sk.one s a x) hok key (.slice (some ⟨g, 0, none⟩) 4 cap) w (ownOf_rd hown) hkey hT
  rw [Sk.one_count s a x key (hok.cells x (by simp [Sk.one])).2.1] at h
  exact h
/-- how often the few have been added -/
def fewX (k : Nat) : Int := if k = 4 then 2 else k
set_option maxRecDepth 100000 in
set_option maxHeartbeats 4000000 in
theorem ssane_any (w : World) (hT : TabC w) :
    Calls Tryd.prog 19 #[] w fun e w' => e = .returned (.bool true) ∧ Below w.heap.size w w' := by
  have hN8 := fun W => new_lit 8 32 8 100 W rfl rfl (by decide) (by decide) (by decide) (by decide)
  have hN6 := fun W => new_arg 6 100 W (by decide) (.inl (by decide))
  have hNb := fun W => new_limit 8192 100 W (by decide) (by decide) (by decide) (.inl (by decide))
  have hN0 := fun W => new_arg 8 0 W (by decide) (.inr (by decide))
  have hN1 := fun W => new_lit 1 4 1 100 W rfl rfl (by decide) (by decide) (by decide) (by decide)
  have hN4 := fun W => new_lit 1 4 1 4 W rfl rfl (by decide) (by decide) (by decide) (by decide)
  have ok8 := Sk.new_ok 8 100 (by decide) (by decide) (by decide) (by decide)
  have hC8 : ∀ (v : Value) (W : World), Rd mkI W v (Sk.new 8 100).c → TabC W → Calls Tryd.prog 25 #[.agg #[.int .i64 8, .int .i64 100, .int .i64 0, v], .string ⟨#[97]⟩] W fun e w' => e = .returned (.int .i64 0) ∧ Below W.heap.size W w' := fun v W h hT => by
    have h1 := count_any (Sk.new 8 100) ok8 [97] v W h (by decide) hT
    rw [Sk.new_count] at h1
    exact h1
  have hF8 : ∀ (v : Value) (W : World), Rd mkI W v (Sk.new 8 100).c → Calls Tryd.prog 31 #[.agg #[.int .i64 8, .int .i64 100, .int .i64 0, v]] W fun e w' => e = .returned (.int .i64 0) ∧ Below W.heap.size W w' := fun v W h => by
    have h1 := fill_any 8 100 0 (Sk.new 8 100).c v W h (by decide) ok8.ne
    rw [show Sk.fill (Sk.new 8 100).c = 0 from Sk.fill_rep 32] at h1
    exact h1
  have hz1 : (Sk.new 1 100).c = [0, 0, 0, 0] := rfl
  have hz4 : (Sk.new 1 4).c = [0, 0, 0, 0] := rfl
  rw [hz1] at hN1
  rw [hz4] at hN4
  have HN8 := Lib.hid hN8
  have HN6 := Lib.hid hN6
  have HNb := Lib.hid hNb
  have HN0 := Lib.hid hN0
  have HN1 := Lib.hid hN1
  have HN4 := Lib.hid hN4
  have HC8 := Lib.hid hC8
  have HF8 := Lib.hid hF8
  clear hN8 hN6 hNb hN0 hN1 hN4 ok8 hC8 hF8 hz1 hz4
  have HA0 := Lib.hid (fun (g cap base : Nat) (W : World) (ho : OwnI W base (.slice (some ⟨g, 0, none⟩) 4 cap) [0, 0, 0, 0]) (h : TabC W) => add_one 100 0 0 1 1 [97] base g cap W (Sk.one_ok 100 0 0 (by decide) (by decide) (by decide) (by decide) (by decide) (by decide) (by decide)) (by decide) (.inl (by decide)) ho (by decide) h)
  have HA1 := Lib.hid (fun (g cap base : Nat) (W : World) (ho : OwnI W base (.slice (some ⟨g, 0, none⟩) 4 cap) [1, 1, 1, 1]) (h : TabC W) => add_one 100 1 1 2 2 [98] base g cap W (Sk.one_ok 100 1 1 (by decide) (by decide) (by decide) (by decide) (by decide) (by decide) (by decide)) (by decide) (.inl (by decide)) ho (by decide) h)
  have HA2 := Lib.hid (fun (g cap base : Nat) (W : World) (ho : OwnI W base (.slice (some ⟨g, 0, none⟩) 4 cap) [2, 2, 2, 2]) (h : TabC W) => add_one 100 2 2 3 3 [97] base g cap W (Sk.one_ok 100 2 2 (by decide) (by decide) (by decide) (by decide) (by decide) (by decide) (by decide)) (by decide) (.inl (by decide)) ho (by decide) h)
  have HAs : ∀ k, k < 4 → Hid (∀ (g cap base : Nat) (W : World) (ho : OwnI W base (.slice (some ⟨g, 0, none⟩) 4 cap) [fewX k, fewX k, fewX k, fewX k]) (h : TabC W), Calls Tryd.prog 20 #[.agg #[.int .i64 1, .int .i64 4, .int .i64 (fewX k), .slice (some ⟨g, 0, none⟩) 4 cap], .string ⟨#[97]⟩] W fun e w' =>
      (∃ g' cap', e = .returned (.agg #[.int .i64 1, .int .i64 4, .int .i64 (fewX (k + 1)), .slice (some ⟨g', 0, none⟩) 4 cap']) ∧ OwnI w' W.heap.size (.slice (some ⟨g', 0, none⟩) 4 cap') [fewX (k + 1), fewX (k + 1), fewX (k + 1), fewX (k + 1)]) ∧ Below W.heap.size W w') := by
    intro k hk
    have h1 : ∀ k : Fin 4, (1 : Int) ≤ 4 ∧ 0 ≤ fewX k.1 ∧ fewX k.1 < 4 ∧ fewX k.1 ≤ 15 ∧ fewX k.1 < 15 ∧ ((fewX k.1 + 1 ≠ 4 ∧ fewX (k.1 + 1) = fewX k.1 + 1 ∧ fewX (k.1 + 1) = fewX k.1 + 1) ∨ (fewX k.1 + 1 = 4 ∧ fewX (k.1 + 1) = (fewX k.1 + 1) / 2 ∧ fewX (k.1 + 1) = (fewX k.1 + 1) / 2)) := by decide
    obtain ⟨a1, a2, a3, a4, a5, a6⟩ := h1 ⟨k, hk⟩
    exact Lib.hid (fun g cap base W ho h => add_one 4 (fewX k) (fewX k) (fewX (k + 1)) (fewX (k + 1)) [97] base g cap W (Sk.one_ok 4 (fewX k) (fewX k) (by decide) (by decide) a2 a3 a2 a4 (Int.le_refl _)) a5 a6 ho (by decide) h)
  have HAs2 := Lib.hid HAs
  have HCo := fun key (hkey : key.length ≤ 10000) => Lib.hid (fun (g cap base : Nat) (W : World) (ho : OwnI W base (.slice (some ⟨g, 0, none⟩) 4 cap) [3, 3, 3, 3]) (h : TabC W) => count_one 100 3 3 key base g cap W (Sk.one_ok 100 3 3 (by decide) (by decide) (by decide) (by decide) (by decide) (by decide) (by decide)) ho hkey h)
  have HCa := HCo [97] (by decide)
  have HCb := HCo [98] (by decide)
  have HCc := HCo [99] (by decide)
  have HCf := Lib.hid (fun (g cap base : Nat) (W : World) (ho : OwnI W base (.slice (some ⟨g, 0, none⟩) 4 cap) [2, 2, 2, 2]) (h : TabC W) => count_one 4 2 2 [122] base g cap W (Sk.one_ok 4 2 2 (by decide) (by decide) (by decide) (by decide) (by decide) (by decide) (by decide)) ho (by decide) h)
  clear HAs HCo
  go_enter Tryd.func19, Tryd.ntmps19
  go_wp2_with (first
    | (go_at_call 23; (with_reducible refine (HN8.out w).mono ?_); rintro e w1 ⟨⟨g1, c1, rfl, hown1⟩, hw1⟩)
    | (go_at_call 23; (with_reducible refine (HN6.out (w1.alloc (.cells #[.int .i64 8, .int .i64 100, .int .i64 0, .slice (some ⟨g1, 0, none⟩) 32 c1] 38))).mono ?_); rintro e w2 ⟨rfl, hw2⟩; have ha2 := after1 hw2; have hs2 := ha2.2.1; have hown2 := ownOf_kept hown1 ha2.1; have hB2 := hw1.trans (ha2.1.mono hw1.size))
    | (go_at_call 23; (with_reducible refine (HNb.out (w2.alloc (.cells #[.int .i64 0, .int .i64 0, .int .i64 0, .slice none 0 0] 38))).mono ?_); rintro e w3 ⟨rfl, hw3⟩; have ha3 := after1 hw3; have hs3 := blk_kept hs2 ha3.1; have hown3 := ownOf_kept hown2 ha3.1; have hB3 := hB2.trans (ha3.1.mono hB2.size))
    | (go_at_call 23; (with_reducible refine (HN0.out (w3.alloc (.cells #[.int .i64 0, .int .i64 0, .int .i64 0, .slice none 0 0] 38))).mono ?_); rintro e w4 ⟨rfl, hw4⟩; have ha4 := after1 hw4; have hs4 := blk_kept hs3 ha4.1; have hown4 := ownOf_kept hown3 ha4.1; have hB4 := hB3.trans (ha4.1.mono hB3.size); have hl4 := blk_lt hs4; have q0 := blk_cell hs4 0; have q1 := blk_cell hs4 1; have q2 := blk_cell hs4 2; have q3 := blk_cell hs4 3; simp only [List.getElem?_toArray, List.getElem?_cons_zero, List.getElem?_cons_succ] at q0 q1 q2 q3)
    | (go_at_call 25; (with_reducible refine (HC8.out _ (w4.alloc (.cells #[.int .i64 0, .int .i64 0, .int .i64 0, .slice none 0 0] 38)) (ownOf_rd (ownOf_kept hown4 (below_alloc1 w4 (.cells #[.int .i64 0, .int .i64 0, .int .i64 0, .slice none 0 0] 38)))) (hT.below (below_al hB4 (.cells #[.int .i64 0, .int .i64 0, .int .i64 0, .slice none 0 0] 38)))).mono ?_); rintro e w5 ⟨rfl, hw5⟩; have ha5 := after1 hw5; have hs5 := blk_kept hs4 ha5.1; have hown5 := ownOf_kept hown4 ha5.1; have hB5 := hB4.trans (ha5.1.mono hB4.size); have r0 := blk_cell hs5 0; have r1 := blk_cell hs5 1; have r2 := blk_cell hs5 2; have r3 := blk_cell hs5 3; simp only [List.getElem?_toArray, List.getElem?_cons_zero, List.getElem?_cons_succ] at r0 r1 r2 r3)
    | (go_at_call 31; (with_reducible refine (HF8.out _ w5 (ownOf_rd hown5)).mono ?_); rintro e w6 ⟨rfl, hw6⟩; have hB6 := hB5.trans (hw6.mono hB5.size); clear hs2 hown2 hs3 hown3 hs4 hown4 hs5 hown5 q0 q1 q2 q3 r0 r1 r2 r3 ha2 ha3 ha4 ha5 hB2 hB3 hB4 hB5 hw1 hw2 hw3 hw4 hw5 hw6)
    | (go_at_call 23; (with_reducible refine (HN1.out w6).mono ?_); rintro e w7 ⟨⟨g7, c7, rfl, hown7⟩, hw7⟩; have hB7 := hB6.trans (hw7.mono hB6.size))
    | (go_at_call 20; (with_reducible refine (HA0.out g7 c7 w6.heap.size (w7.alloc (.cells #[.int .i64 1, .int .i64 100, .int .i64 0, .slice (some ⟨g7, 0, none⟩) 4 c7] 38)) (ownOf_kept hown7 (below_alloc1 w7 _)) (hT.below (below_al hB7 _))).mono ?_); rintro e w8 ⟨⟨g8, c8, rfl, hown8⟩, hw8⟩; have ha8 := after1 hw8; have hn8 := ha8.2.1; have hB8 := hB7.trans (ha8.1.mono hB7.size))
    | (go_at_call 20; (with_reducible refine (HA1.out g8 c8 _ w8 hown8 (hT.below hB8)).mono ?_); rintro e w9 ⟨⟨g9, c9, rfl, hown9⟩, hw9⟩; have hn9 := blk_kept hn8 hw9; have hB9 := hB8.trans (hw9.mono hB8.size))
    | (go_at_call 20; (with_reducible refine (HA2.out g9 c9 _ w9 hown9 (hT.below hB9)).mono ?_); rintro e w10 ⟨⟨g10, c10, rfl, hown10⟩, hw10⟩; have hn10 := blk_kept hn9 hw10; have hB10 := hB9.trans (hw10.mono hB9.size); have hlt10 := Nat.lt_of_lt_of_le (Nat.lt_of_lt_of_le ha8.2.2 hw9.size) (Nat.le_refl _); have t0 := blk_cell hn10 0; have t1 := blk_cell hn10 1; have t2 := blk_cell hn10 2; have t3 := blk_cell hn10 3; have ft0 := blk_free hn10 0; have ft1 := blk_free hn10 1; have ft2 := blk_free hn10 2; have ft3 := blk_free hn10 3; simp only [List.getElem?_toArray, List.getElem?_cons_zero, List.getElem?_cons_succ] at t0 t1 t2 t3))
  have hs7 := hB7.size
  obtain ⟨W11, hW11⟩ : ∃ W11, W11 = (((w10.setCell ⟨w7.heap.size, 0, none⟩ (.int .i64 1)).setCell ⟨w7.heap.size, 1, none⟩ (.int .i64 100)).setCell ⟨w7.heap.size, 2, none⟩ (.int .i64 3)).setCell ⟨w7.heap.size, 3, none⟩ (.slice (some ⟨g10, 0, none⟩) 4 c10) := ⟨_, rfl⟩
  have hn11 : Blk W11 w7.heap.size #[.int .i64 1, .int .i64 100, .int .i64 3, .slice (some ⟨g10, 0, none⟩) 4 c10] 38 := by
    rw [hW11]
    have := blk_set (blk_set (blk_set (blk_set hn10 0 (.int .i64 1)) 1 (.int .i64 100)) 2 (.int .i64 3)) 3 (.slice (some ⟨g10, 0, none⟩) 4 c10)
    simpa using this
  have hown11 : OwnI W11 w9.heap.size (.slice (some ⟨g10, 0, none⟩) 4 c10) [3, 3, 3, 3] := by
    rw [hW11]
    exact ownOf_other (ownOf_other (ownOf_other (ownOf_other hown10 hn10 (by decide) _ _) (blk_set hn10 0 _) (by decide) _ _) (blk_set (blk_set hn10 0 _) 1 _) (by decide) _ _) (blk_set (blk_set (blk_set hn10 0 _) 1 _) 2 _) (by decide) _ _
  have hB11 : Below w.heap.size w W11 := by rw [hW11]; exact (Below.setCell (Below.setCell (Below.setCell (Below.setCell hB10 (p := ⟨w7.heap.size, 0, none⟩) (by show w.heap.size ≤ w7.heap.size; omega) _) (p := ⟨w7.heap.size, 1, none⟩) (by show w.heap.size ≤ w7.heap.size; omega) _) (p := ⟨w7.heap.size, 2, none⟩) (by show w.heap.size ≤ w7.heap.size; omega) _) (p := ⟨w7.heap.size, 3, none⟩) (by show w.heap.size ≤ w7.heap.size; omega) _)
  rw [← hW11]
  clear hW11 t0 t1 t2 t3 ft0 ft1 ft2 ft3 hn8 hn9 hn10 hown8 hown9 hown10 hB8 hB9 hB10
  with_reducible refine (HN4.out W11).mono ?_
  rintro e w12 ⟨⟨g12, c12, rfl, hown12⟩, hw12⟩
  have hn12 := blk_kept hn11 hw12
  have hone12 := ownOf_kept hown11 hw12
  have hB12 := hB11.trans (hw12.mono hB11.size)
  dsimp only
  go_wp2_with fail
  have hn13 : Blk (w12.alloc (.cells #[.int .i64 1, .int .i64 4, .int .i64 0, .slice (some ⟨g12, 0, none⟩) 4 c12] 38)) w7.heap.size #[.int .i64 1, .int .i64 100, .int .i64 3, .slice (some ⟨g10, 0, none⟩) 4 c10] 38 := blk_alloc hn12 _
  have hf13 : Blk (w12.alloc (.cells #[.int .i64 1, .int .i64 4, .int .i64 0, .slice (some ⟨g12, 0, none⟩) 4 c12] 38)) w12.heap.size #[.int .i64 1, .int .i64 4, .int .i64 (fewX 0), .slice (some ⟨g12, 0, none⟩) 4 c12] 38 := blk_new _ _ _
  have hone13 := ownOf_kept hone12 (below_alloc1 w12 (.cells #[.int .i64 1, .int .i64 4, .int .i64 0, .slice (some ⟨g12, 0, none⟩) 4 c12] 38))
  have hown13 : OwnI (w12.alloc (.cells #[.int .i64 1, .int .i64 4, .int .i64 0, .slice (some ⟨g12, 0, none⟩) 4 c12] 38)) 0 (.slice (some ⟨g12, 0, none⟩) 4 c12) [fewX 0, fewX 0, fewX 0, fewX 0] := ownOf_mono (ownOf_kept hown12 (below_alloc1 w12 _)) (Nat.zero_le _)
  have hB13 := below_al hB12 (.cells #[.int .i64 1, .int .i64 4, .int .i64 0, .slice (some ⟨g12, 0, none⟩) 4 c12] 38)
  have hlt12 : w.heap.size ≤ w12.heap.size := hB12.size
  have hne12 : w7.heap.size ≠ w12.heap.size := Nat.ne_of_lt (blk_lt hn12)
  generalize w12.alloc (.cells #[.int .i64 1, .int .i64 4, .int .i64 0, .slice (some ⟨g12, 0, none⟩) 4 c12] 38) = w13 at *
  clear hn11 hown11 hB11 hw12 hn12 hone12 hB12 hown12 hown1 hown7 hB6 hB7 hw7 hw8 hw9 hw10 ha8
  generalize w12.heap.size = NF at *
  generalize w9.heap.size = N9b at *
  generalize w7.heap.size = N7 at *
  go_loopw [13] (fun i wr => ∃ (k g cap : Nat), k ≤ 4 ∧ i = .int .i64 (k : Int) ∧ Blk wr NF #[.int .i64 1, .int .i64 4, .int .i64 (fewX k), .slice (some ⟨g, 0, none⟩) 4 cap] 38 ∧ OwnI wr 0 (.slice (some ⟨g, 0, none⟩) 4 cap) [fewX k, fewX k, fewX k, fewX k] ∧ Blk wr N7 #[.int .i64 1, .int .i64 100, .int .i64 3, .slice (some ⟨g10, 0, none⟩) 4 c10] 38 ∧ OwnI wr N9b (.slice (some ⟨g10, 0, none⟩) 4 c10) [3, 3, 3, 3] ∧ Below w.heap.size w wr) (fun i _ => 4 - (intOf i).toNat)
  case atStart => exact ⟨0, g12, c12, by omega, rfl, hf13, hown13, hn13, hone13, hB13⟩
  case round =>
    clear hf13 hown13 hn13 hone13 hB13
    obtain ⟨k, g, cap, hk, rfl, hf, hown, hn, hone, hB⟩ := hrel
    by_cases h4 : k < 4
    · have Ha := Lib.hid ((HAs2.out k h4).out g cap 0 wr hown (hT.below hB))
      generalize hx1 : fewX (k + 1) = x1 at *
      generalize fewX k = x0 at *
      have Hx1 := Lib.hid hx1
      clear hx1
      have e0 := blk_cell hf 0
      have e1 := blk_cell hf 1
      have e2 := blk_cell hf 2
      have e3 := blk_cell hf 3
      simp only [List.getElem?_toArray, List.getElem?_cons_zero, List.getElem?_cons_succ] at e0 e1 e2 e3
      clear hown
      go_wp2_with (go_at_call 20; (with_reducible refine Ha.out.mono ?_); rintro e w2 ⟨⟨g2, c2, rfl, hown2⟩, hw2⟩; have hf2 := blk_kept hf hw2; have hn2 := blk_kept hn hw2; have hone2 := ownOf_kept hone hw2; have hB2 := hB.trans (hw2.mono hB.size); have d0 := blk_cell hf2 0; have d1 := blk_cell hf2 1; have d2 := blk_cell hf2 2; have d3 := blk_cell hf2 3; have fd0 := blk_free hf2 0; have fd1 := blk_free hf2 1; have fd2 := blk_free hf2 2; have fd3 := blk_free hf2 3; simp only [List.getElem?_toArray, List.getElem?_cons_zero, List.getElem?_cons_succ] at d0 d1 d2 d3; have Hf2 := Lib.hid (blk_set (blk_set (blk_set (blk_set hf2 0 (.int .i64 1)) 1 (.int .i64 4)) 2 (.int .i64 x1)) 3 (.slice (some ⟨g2, 0, none⟩) 4 c2)); have Hown2 := Lib.hid (ownOf_other (ownOf_other (ownOf_other (ownOf_other hown2 hf2 (by decide) 0 (.int .i64 1)) (blk_set hf2 0 _) (by decide) 1 (.int .i64 4)) (blk_set (blk_set hf2 0 _) 1 _) (by decide) 2 (.int .i64 x1)) (blk_set (blk_set (blk_set hf2 0 _) 1 _) 2 _) (by decide) 3 (.slice (some ⟨g2, 0, none⟩) 4 c2)); have Hone2 := Lib.hid (ownOf_other (ownOf_other (ownOf_other (ownOf_other hone2 hf2 (by decide) 0 (.int .i64 1)) (blk_set hf2 0 _) (by decide) 1 (.int .i64 4)) (blk_set (blk_set hf2 0 _) 1 _) (by decide) 2 (.int .i64 x1)) (blk_set (blk_set (blk_set hf2 0 _) 1 _) 2 _) (by decide) 3 (.slice (some ⟨g2, 0, none⟩) 4 c2)); have Hn2 := Lib.hid (blk_far (blk_far (blk_far (blk_far hn2 (p := ⟨NF, 0, none⟩) hne12 (.int .i64 1)) (p := ⟨NF, 1, none⟩) hne12 (.int .i64 4)) (p := ⟨NF, 2, none⟩) hne12 (.int .i64 x1)) (p := ⟨NF, 3, none⟩) hne12 (.slice (some ⟨g2, 0, none⟩) 4 c2)); have HB2 := Lib.hid ((((hB2.setCell (p := ⟨NF, 0, none⟩) hlt12 (.int .i64 1)).setCell (p := ⟨NF, 1, none⟩) hlt12 (.int .i64 4)).setCell (p := ⟨NF, 2, none⟩) hlt12 (.int .i64 x1)).setCell (p := ⟨NF, 3, none⟩) hlt12 (.slice (some ⟨g2, 0, none⟩) 4 c2)); clear hown2 hf2 hn2 hone2 hB2 hw2)
      go_roundw
      case rel =>
        refine ⟨k + 1, g2, c2, by omega, by go_num, ?_, ?_, Hn2.out, Hone2.out, HB2.out⟩
        · rw [Hx1.out]
          have := Hf2.out
          simpa using this
        · rw [Hx1.out]
          exact ownOf_mono Hown2.out (Nat.zero_le _)
      case measure => simp [intOf]; omega
    · obtain rfl : k = 4 := by omega
      have hf' : Blk wr NF #[.int .i64 1, .int .i64 4, .int .i64 2, .slice (some ⟨g, 0, none⟩) 4 cap] 38 := hf
      have hown' : OwnI wr 0 (.slice (some ⟨g, 0, none⟩) 4 cap) [2, 2, 2, 2] := hown
      clear hf hown
      have m0 := blk_cell hn 0
      have m1 := blk_cell hn 1
      have m2 := blk_cell hn 2
      have m3 := blk_cell hn 3
      simp only [List.getElem?_toArray, List.getElem?_cons_zero, List.getElem?_cons_succ] at m0 m1 m2 m3
      go_wp2_with (first
        | (go_at_call 25; (with_reducible refine (HCa.out g10 c10 N9b wr hone (hT.below hB)).mono ?_); rintro e wa ⟨rfl, hwa⟩; have hna := blk_kept hn hwa; have hfa := blk_kept hf' hwa; have hoa := ownOf_kept hone hwa; have hua := ownOf_kept hown' hwa; have hBa := hB.trans (hwa.mono hB.size); have n0 := blk_cell hna 0; have n1 := blk_cell hna 1; have n2 := blk_cell hna 2; have n3 := blk_cell hna 3; simp only [List.getElem?_toArray, List.getElem?_cons_zero, List.getElem?_cons_succ] at n0 n1 n2 n3)
        | (go_at_call 25; (with_reducible refine (HCb.out g10 c10 N9b wa hoa (hT.below hBa)).mono ?_); rintro e wb ⟨rfl, hwb⟩; have hnb := blk_kept hna hwb; have hfb := blk_kept hfa hwb; have hob := ownOf_kept hoa hwb; have hub := ownOf_kept hua hwb; have hBb := hBa.trans (hwb.mono hBa.size); have o0 := blk_cell hnb 0; have o1 := blk_cell hnb 1; have o2 := blk_cell hnb 2; have o3 := blk_cell hnb 3; simp only [List.getElem?_toArray, List.getElem?_cons_zero, List.getElem?_cons_succ] at o0 o1 o2 o3)
        | (go_at_call 25; (with_reducible refine (HCc.out g10 c10 N9b wb hob (hT.below hBb)).mono ?_); rintro e wc ⟨rfl, hwc⟩; have hfc := blk_kept hfb hwc; have huc := ownOf_kept hub hwc; have hBc := hBb.trans (hwc.mono hBb.size); have y0 := blk_cell hfc 0; have y1 := blk_cell hfc 1; have y2 := blk_cell hfc 2; have y3 := blk_cell hfc 3; simp only [List.getElem?_toArray, List.getElem?_cons_zero, List.getElem?_cons_succ] at y0 y1 y2 y3)
        | (go_at_call 25; (with_reducible refine (HCf.out g cap 0 wc huc (hT.below hBc)).mono ?_); rintro e wd ⟨rfl, hwd⟩; have hBd := hBc.trans (hwd.mono hBc.size)))
      go_ret
      exact ⟨rfl, hBd⟩
end Go.Proofs.YtbgieephehfgpabDoor
