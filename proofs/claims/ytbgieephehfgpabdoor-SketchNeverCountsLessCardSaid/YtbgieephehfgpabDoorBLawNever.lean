/-
  The function of the law SketchNeverCountsLess returns true. Condition: the tables are as the program's and the reference's texts lay them.
-/
import Derived.Test.YtbgieephehfgpabDoorBPairs
namespace Go.Proofs.YtbgieephehfgpabDoor
open Go Go.RowKit
theorem pow8 : ∀ r : Fin 8, isPow ((2 ^ r.1 : Nat) : Int) = true ∧ 2 ^ r.1 ≤ 128 := by decide
theorem pow8w : ∀ r : Fin 8, wrap64 (2 ^ r.1) = ((2 ^ r.1 : Nat) : Int) := by decide +kernel
theorem more_pos (L : List (List UInt8 × Int)) (z : List UInt8) : 0 < (Sk.more L z).length := by
  cases L with
  | nil => simp [Sk.more]
  | cons e t => simp only [Sk.more]; split <;> simp
theorem more_len (L : List (List UInt8 × Int)) (z : List UInt8) : (Sk.more L z).length ≤ L.length + 1 := by
  induction L with
  | nil => simp [Sk.more]
  | cons e t ih => simp only [Sk.more]; split <;> simp <;> omega
theorem more_100 (L : List (List UInt8 × Int)) (z : List UInt8) (hz : z.length ≤ 100) (h : ∀ e ∈ L, e.1.length ≤ 100) : ∀ e ∈ Sk.more L z, e.1.length ≤ 100 := by
  intro e he
  rcases (Sk.keys_more L z e.1).1 ⟨e, he, rfl⟩ with h1 | ⟨e2, h2, h3⟩
  · rw [h1]; exact hz
  · rw [← h3]; exact h e2 h2
theorem halves_100 (L : List (List UInt8 × Int)) (h : ∀ e ∈ L, e.1.length ≤ 100) : ∀ e ∈ Sk.halves L, e.1.length ≤ 100 := by
  intro e he
  obtain ⟨e2, h2, rfl⟩ := List.mem_map.1 he
  exact h e2 h2
def aloneB (n : Nat) (L : List (List UInt8 × Int)) (x : List UInt8) (m t : Nat) : Bool := (List.range t).all fun r => r == m || !(Sk.sharedB x (L.getD r ([], 0)).1 n 4)
theorem aloneB_zero (n : Nat) (L : List (List UInt8 × Int)) (x : List UInt8) (m : Nat) : aloneB n L x m 0 = true := rfl
theorem aloneB_succ (n : Nat) (L : List (List UInt8 × Int)) (x : List UInt8) (m t : Nat) (e : List UInt8 × Int) (he : L[t]? = some e) : aloneB n L x m (t + 1) = (aloneB n L x m t && (t == m || !(Sk.sharedB x e.1 n 4))) := by
  unfold aloneB
  rw [List.range_succ, List.all_append]
  simp [List.getD, he]
set_option maxRecDepth 100000 in
set_option maxHeartbeats 16000000 in
theorem lawnever_any (wd sa : Nat) (vp : Value) (ps : List (List UInt8)) (w : World) (hwd : wd < 256) (hsa : sa < 65536) (hps : Rd mkS w vp ps) (hpl : ps.length ≤ maxLen) (hT : TabC w) (hR : TabR w) :
    Calls Tryd.prog 6 #[.int .u8 (wd : Int), .int .u16 (sa : Int), vp] w fun e w' => e = .returned (.bool true) ∧ Below w.heap.size w w' := by
  have hp8 := pow8 ⟨wd % 8, by omega⟩
  obtain ⟨n, hn⟩ : ∃ n : Nat, n = 2 ^ (wd % 8) := ⟨_, rfl⟩
  dsimp only at hp8
  rw [← hn] at hp8
  obtain ⟨hpow, hn128⟩ := hp8
  obtain ⟨s, hs⟩ : ∃ s : Int, s = 1 + (sa : Int) := ⟨_, rfl⟩
  have hwr : wrap64 (2 ^ (wd % 8)) = (n : Int) := by rw [hn]; exact pow8w ⟨wd % 8, by omega⟩
  have hnew : ∀ W : World, Calls Tryd.prog 23 #[.int .i64 (wrap64 (2 ^ (wd % 8))), .int .i64 s] W fun e w' => (∃ g cap, e = .returned (.tuple #[.agg #[.int .i64 (Sk.new n s).w, .int .i64 (Sk.new n s).s, .int .i64 (Sk.new n s).a, .slice (some ⟨g, 0, none⟩) (Sk.new n s).c.length cap], .int .i64 0]) ∧ OwnI w' W.heap.size (.slice (some ⟨g, 0, none⟩) (Sk.new n s).c.length cap) (Sk.new n s).c) ∧ Below W.heap.size W w' := fun W => by
    rw [hwr]
    refine (new_ok n s W hpow (by omega) (by omega) (by omega)).mono fun e w' ⟨⟨v', he, ho⟩, hB⟩ => ?_
    obtain ⟨g, cap, rfl, _, _⟩ := ownOf_slice ho (Sk.new_ok n s hpow (by omega) (by omega) (by omega)).ne
    exact ⟨⟨g, cap, he, ho⟩, hB⟩
  clear hwr
  have hinv : Sk.Inv (Sk.new n s) [] := Sk.inv_new (n : Int) s hpow (by omega) (by omega) (by omega)
  have r1 : (wd : Int).tmod 8 = ((wd % 8 : Nat) : Int) := by rw [Int.tmod_eq_emod_of_nonneg (by omega)]; omega
  have r2 : IntKind.u8.wrap (((wd % 8 : Nat) : Int)) = ((wd % 8 : Nat) : Int) := by rw [IntWalk.u8_in _ (by omega)]
  have r3 : IntKind.i64.wrap (sa : Int) = (sa : Int) := by rw [IntWalk.i64_in _ (by omega)]
  have r4 : IntKind.i64.wrap (1 + (sa : Int)) = s := by rw [IntWalk.i64_in _ (by omega), hs]
  have Hn := Lib.hid hn
  have Hps := Lib.hid hps
  have Hnew := Lib.hid hnew
  have Hinv := Lib.hid hinv
  have HT := Lib.hid (fun W (h : Below w.heap.size w W) => hT.below h)
  have HR := Lib.hid (fun W (h : Below w.heap.size w W) => hR.below h)
  obtain ⟨vpa, vpc, rfl, hvpc, hvcell⟩ := hps
  have Hkp := Lib.hid (show ∀ (j : Nat) (key : List UInt8), ps[j]? = some key → ∃ kb koff, vpa = some ⟨kb, koff, none⟩ ∧ ∀ W, Below w.heap.size w W → W.cell? ⟨kb, koff + j, none⟩ = some (.string ⟨key.toArray⟩) from by
    intro j key hj
    rcases hvcell with h | ⟨b, off, rfl, hbl, hcell⟩
    · rw [h] at hj; simp at hj
    · exact ⟨b, off, rfl, fun W h => (h.cell (p := ⟨b, off + j, none⟩) hbl).trans (hcell j key hj)⟩)
  clear hvcell hnew hinv hn hs hpow
  generalize Sk.new n s = k0 at *
  go_enter Tryd.func6, Tryd.ntmps6
  go_wp2_with fail
  with_reducible refine (short_any _ ps _ Hps.out hpl).mono ?_
  rintro e w1 ⟨⟨b, rfl, hb⟩, rfl⟩
  cases b with
  | false =>
    go_wp2_with (first
      | (go_at_call 23; (with_reducible refine (Hnew.out w).mono ?_); rintro e w1 ⟨⟨g0, cap0, rfl, hown0⟩, hw1⟩)
      | (go_at_call 19; (with_reducible refine (ssane_any _ (HT.out _ (below_al hw1 _))).mono ?_); rintro e w2 ⟨rfl, hw2⟩; have ha2 := after1 hw2; have hB2 := hw1.trans (ha2.1.mono hw1.size)))
    go_ret
    exact ⟨rfl, hB2⟩
  | true =>
    obtain ⟨h60, h100⟩ := hb rfl
    clear hb
    go_wp2_with (go_at_call 23; (with_reducible refine (Hnew.out w).mono ?_); rintro e w1 ⟨⟨g0, cap0, rfl, hown0⟩, hw1⟩)
    have hS0 : NS w (w1.heap.size + 1) w1.heap.size k0 g0 cap0 w.heap.size [] (.slice none 0 0) (w1.alloc (.cells #[.int .i64 k0.w, .int .i64 k0.s, .int .i64 k0.a, .slice (some ⟨g0, 0, none⟩) k0.c.length cap0] 38)) := ⟨blk_new w1 _ _, ownOf_kept hown0 (below_alloc1 _ _), ownP_nil _ _, below_al hw1 _⟩
    have hBs0 : w1.heap.size + 1 ≤ (w1.alloc (.cells #[.int .i64 k0.w, .int .i64 k0.s, .int .i64 k0.a, .slice (some ⟨g0, 0, none⟩) k0.c.length cap0] 38)).heap.size := by rw [World.size_alloc]; omega
    have hNw : w.heap.size ≤ w1.heap.size := hw1.size
    clear hown0 hw1
    generalize hN : w1.heap.size = N at *
    go_loopw [11, 10] (fun i lv wr => ∃ (j : Nat) (k : Sk.K) (L : List (List UInt8 × Int)) (g cap bs : Nat), j ≤ ps.length ∧ i = .int .i64 (j : Int) ∧ Sk.Inv k L ∧ L.length ≤ j ∧ (∀ e ∈ L, e.1.length ≤ 100) ∧ NS w (N + 1) N k g cap bs L lv wr ∧ N + 1 ≤ wr.heap.size) (fun i _ _ => ps.length - (intOf i).toNat)
    case atStart => exact ⟨0, k0, [], g0, cap0, w.heap.size, by omega, rfl, Hinv.out, by simp, by simp, hS0, hBs0⟩
    case round =>
      clear hS0 hBs0 Hinv Hnew
      obtain ⟨j, k, L, g, cap, bs, hj, rfl, hI, hLj, hL100, hS, hBs⟩ := hrel
      by_cases hlt : j < ps.length
      · obtain ⟨key, hkey⟩ : ∃ key, ps[j]? = some key := ⟨_, List.getElem?_eq_getElem hlt⟩
        have hkl := h100 key (List.mem_of_getElem? hkey)
        obtain ⟨kb, koff, rfl, hkc⟩ := Hkp.out j key hkey
        have hok := hI.ok
        have hnext := hI.next key
        have hadd := fun v W (h : Rd mkI W v k.c) (hT : TabC W) => sadd_lit k hok key v W h (by omega) hT
        have hmore := fun v W (h : OwnP W (N + 1) v L) (hb : N + 1 ≤ W.heap.size) => more_any L key v (N + 1) W h hb (fun e he => by rw [← Sk.nOf_mem hI.once e he]; exact hI.few e.1) (by omega)
        have hhv := Sk.halved_iff hok key
        have Hhv := Lib.hid hhv
        clear hhv
        have hM0 := more_pos L key
        have hM1 := more_len L key
        have hM2 := more_100 L key hkl hL100
        have hMf : ∀ e ∈ Sk.more L key, 0 ≤ e.2 ∧ e.2 ≤ 15 := by
          have ho := Sk.once_more key hI.once
          intro e he
          rw [← Sk.nOf_mem ho e he, Sk.nOf_more]
          have h1 := hI.few key
          have h2 := hI.few e.1
          split <;> omega
        have ha1 := hok.a1
        have ha2 := hok.a2
        have hs2 := hok.s2
        have hL2 : Sk.next k L key = if (k.add key).a = k.a + 1 then Sk.more L key else Sk.halves (Sk.more L key) := rfl
        rw [hL2] at hnext
        clear hL2 hI hok
        generalize k.add key = k2 at *
        generalize Sk.more L key = M at *
        have hcnt := fun e (he : e ∈ (if k2.a = k.a + 1 then M else Sk.halves M)) => hnext.count e he
        have hcc := fun (e : List UInt8) v W (hl : e.length ≤ 100) (h : Rd mkI W v k2.c) (hT : TabC W) => count_any k2 hnext.ok e v W h (by omega) hT
        have Hadd := Lib.hid hadd
        have Hmore := Lib.hid hmore
        have Hcc := Lib.hid hcc
        have Hkc := Lib.hid hkc
        have hbox := hS.box
        have hown := hS.own
        have hlst := hS.lst
        have hBw := hS.bel
        have hNl := blk_lt hbox
        obtain ⟨x0, cp0, rfl, _⟩ := ownP_slice hlst
        have p0 := blk_cell hbox 0
        have p1 := blk_cell hbox 1
        have p2 := blk_cell hbox 2
        have p3 := blk_cell hbox 3
        simp only [List.getElem?_toArray, List.getElem?_cons_zero, List.getElem?_cons_succ] at p0 p1 p2 p3
        have hBd := hBw.drew
        have hk0 := Hkc.out _ hBw
        have Hset := Lib.hid (fun (W : World) (h : Below w.heap.size w W) (i : Nat) (u : Value) => h.setCell (p := ⟨N, i, none⟩) hNw u)
        have Hbox := Lib.hid hbox
        have Hown := Lib.hid hown
        have Hlst := Lib.hid hlst
        have Hnext := Lib.hid hnext
        have Hcnt := Lib.hid hcnt
        have HM2 := Lib.hid hM2
        have HMf := Lib.hid hMf
        have HS := Lib.hid hS
        clear hadd hmore hcc hkc hbox hown hlst hnext hcnt hM2 hMf hS
        have hwr : IntKind.i64.wrap (k.a + 1) = k.a + 1 := by rw [IntWalk.i64_in _ (by omega)]
        go_wp2
        go_cut [12] (fun s12 wx => s12 = .int .i64 k.a ∧ ∃ g2 cap2 bs2, NS w (N + 1) N k2 g2 cap2 bs2 L (.slice x0 L.length cp0) wx ∧ N + 1 ≤ wx.heap.size)
        case first =>
          go_region_with (go_at_call 20; ((with_reducible refine (Hadd.out _ wr.drew (ownOf_rd (ownOf_drew Hown.out)) (HT.out _ hBd)).mono ?_); rintro e w2 ⟨g2, cap2, rfl, hown2, hw2⟩; have hB2 : Below w.heap.size w w2 := hBd.trans (hw2.mono hBw.size); have hbox2 := blk_kept (w := wr.drew) Hbox.out hw2; have hlst2 := ownP_kept (w := wr.drew) Hlst.out hw2; have t0 := blk_cell hbox2 0; have t1 := blk_cell hbox2 1; have t2 := blk_cell hbox2 2; have t3 := blk_cell hbox2 3; simp only [List.getElem?_toArray, List.getElem?_cons_zero, List.getElem?_cons_succ] at t0 t1 t2 t3; have u0 := blk_free hbox2 0; have u1 := blk_free hbox2 1; have u2 := blk_free hbox2 2; have u3 := blk_free hbox2 3))
          all_goals go_wp2_with fail
          all_goals go_meet
          all_goals
            have hS3 : NS w (N + 1) N k2 g2 cap2 wr.heap.size L (.slice x0 L.length cp0) ((((w2.setCell ⟨N, 0, none⟩ (.int .i64 k2.w)).setCell ⟨N, 1, none⟩ (.int .i64 k2.s)).setCell ⟨N, 2, none⟩ (.int .i64 k2.a)).setCell ⟨N, 3, none⟩ (.slice (some ⟨g2, 0, none⟩) k2.c.length cap2)) := by
              have hu := blk_set (blk_set (blk_set (blk_set hbox2 0 (.int .i64 k2.w)) 1 (.int .i64 k2.s)) 2 (.int .i64 k2.a)) 3 (.slice (some ⟨g2, 0, none⟩) k2.c.length cap2)
              simp only [List.setIfInBounds_toArray, List.set_cons_zero, List.set_cons_succ] at hu
              exact ⟨hu, ownOf_far (ownOf_far (ownOf_far (ownOf_far hown2 (p := ⟨N, 0, none⟩) hNl _) (p := ⟨N, 1, none⟩) hNl _) (p := ⟨N, 2, none⟩) hNl _) (p := ⟨N, 3, none⟩) hNl _,
                ownsRow_setCell_below (a := ⟨N, 3, none⟩) (ownsRow_setCell_below (a := ⟨N, 2, none⟩) (ownsRow_setCell_below (a := ⟨N, 1, none⟩) (ownsRow_setCell_below (a := ⟨N, 0, none⟩) hlst2 (Nat.lt_succ_self _) _) (Nat.lt_succ_self _) _) (Nat.lt_succ_self _) _) (Nat.lt_succ_self _) _,
                Hset.out _ (Hset.out _ (Hset.out _ (Hset.out _ hB2 0 _) 1 _) 2 _) 3 _⟩
            exact ⟨rfl, g2, cap2, _, hS3, blk_lt hS3.box⟩
        case rest =>
        obtain ⟨rfl, g2, cap2, bs2, hS3, hBs3⟩ := hcut
        clear p0 p1 p2 p3 hk0 hBd
        have hk3 := Hkc.out _ hS3.bel
        by_cases hh : k.a + 1 = k.s
        · have hka2 : k2.a ≠ k.a + 1 := fun h => Hhv.out.1 h hh
          rw [if_neg hka2] at Hnext Hcnt
          have n1 : (k2.a != k.a + 1) = true := by simpa using hka2
          clear hka2 hh
          go_wp2_with (go_at_call 24; (with_reducible refine (Hmore.out _ _ hS3.lst hBs3).mono ?_); rintro e w4 ⟨lv2, rfl, hl4, hg4⟩; have hS4 := hS3.grown (Nat.lt_succ_self _) (by omega) hl4 hg4; obtain ⟨xl, capl, rfl, hcl⟩ := ownP_slice hl4; obtain ⟨gl, rfl, hgl1, hgl2⟩ := ownP_form hl4 hM0; have a0 := blk_cell hS4.box 0; have a1 := blk_cell hS4.box 1; have a2 := blk_cell hS4.box 2; have a3 := blk_cell hS4.box 3; simp only [List.getElem?_toArray, List.getElem?_cons_zero, List.getElem?_cons_succ] at a0 a1 a2 a3)
          clear hS3 hg4 hl4 hBs3 a0 a1 a2 a3
          have hS5 : NS w (N + 1) N k2 g2 cap2 bs2 (halvesUp M 0) (.slice (some ⟨gl, 0, none⟩) M.length capl) w4 := by rw [halvesUp_zero]; exact hS4
          clear hS4
          go_loopw [13] (fun i wr => ∃ m : Nat, m ≤ M.length ∧ i = .int .i64 (m : Int) ∧ NS w (N + 1) N k2 g2 cap2 bs2 (halvesUp M m) (.slice (some ⟨gl, 0, none⟩) M.length capl) wr) (fun i _ => M.length - (intOf i).toNat)
          case atStart => exact ⟨0, by omega, rfl, hS5⟩
          case round =>
            clear hS5
            obtain ⟨m, hm, rfl, hS5⟩ := hrel
            by_cases hml : m < M.length
            · obtain ⟨e, he⟩ : ∃ e, M[m]? = some e := ⟨_, List.getElem?_eq_getElem hml⟩
              have hat := halvesUp_at M m e he
              have hln := halvesUp_len M m
              have hl := hS5.lst
              rw [← hln] at hl
              have hnum := ownP_num hl m e hat
              have hfr := hl.frozenAt (m * 2 + 1)
              have h1 := ownP_set hl m e hat (e.2 / 2)
              rw [halvesUp_set M m e he, hln] at h1
              have hS6 := hS5.grown (Nat.lt_succ_self _) (by omega) h1.1 h1.2
              have hq := HMf.out e (List.mem_of_getElem? he)
              clear h1 hl hat he hln hS5
              obtain ⟨ek, en⟩ := e
              dsimp only at hnum hS6 hq
              have hq1 : en.tdiv 2 = en / 2 := by rw [Int.tdiv_eq_ediv_of_nonneg (by omega)]
              have hq2 : IntKind.i64.wrap (en / 2) = en / 2 := by rw [IntWalk.i64_in _ (by omega)]
              have HS6 := Lib.hid hS6
              clear hS6
              go_wp2
              go_roundw
              case rel => exact ⟨m + 1, by omega, by go_num, HS6.out⟩
              case measure => simp [intOf]; omega
            · have hmm : m = M.length := by omega
              subst hmm
              rw [halvesUp_all] at hS5
              have hRl : (Sk.halves M).length = M.length := by simp [Sk.halves]
              have hR100 := halves_100 M HM2.out
              generalize Sk.halves M = R at *
              have HR100 := Lib.hid hR100
              have HRl := Lib.hid hRl
              clear hR100 hRl
              go_wp2
              go_loopw [14] (fun i wr => ∃ m : Nat, m ≤ M.length ∧ i = .int .i64 (m : Int) ∧ NS w (N + 1) N k2 g2 cap2 bs2 R (.slice (some ⟨gl, 0, none⟩) M.length capl) wr) (fun i _ => M.length - (intOf i).toNat)
              case atStart => exact ⟨0, by omega, rfl, hS5⟩
              case round =>
                clear hS5
                obtain ⟨m, hm, rfl, hS5⟩ := hrel
                by_cases hml : m < M.length
                · obtain ⟨⟨ek, en⟩, he⟩ : ∃ e, R[m]? = some e := ⟨_, List.getElem?_eq_getElem (by have := HRl.out; omega)⟩
                  have hek := HR100.out _ (List.mem_of_getElem? he)
                  have hle := Hcnt.out _ (List.mem_of_getElem? he)
                  dsimp only at hek hle
                  have hld : decide (k2.count ek < en) = false := by simpa using hle
                  have He := Lib.hid he
                  clear he hle
                  have hc1 := ownP_key' hS5.lst HRl.out m ek en He.out
                  have hc2 := ownP_num' hS5.lst HRl.out m ek en He.out
                  have c0 := blk_cell hS5.box 0; have c1 := blk_cell hS5.box 1; have c2 := blk_cell hS5.box 2; have c3 := blk_cell hS5.box 3; simp only [List.getElem?_toArray, List.getElem?_cons_zero, List.getElem?_cons_succ] at c0 c1 c2 c3
                  go_wp2
                  have hS5 := hS5.kept (Below.refl _ _).drew
                  go_region_held3 (fun W => W.cell? ⟨N, 0, none⟩ = some (.int .i64 k2.w) ∧ W.cell? ⟨N, 1, none⟩ = some (.int .i64 k2.s) ∧ W.cell? ⟨N, 2, none⟩ = some (.int .i64 k2.a) ∧ W.cell? ⟨N, 3, none⟩ = some (.slice (some ⟨g2, 0, none⟩) k2.c.length cap2) ∧ W.cell? ⟨gl, m * 2, none⟩ = some (.string ⟨ek.toArray⟩) ∧ W.cell? ⟨gl, m * 2 + 1, none⟩ = some (.int .i64 en)) (exact ⟨blk_cell hS5.box 0, blk_cell hS5.box 1, blk_cell hS5.box 2, blk_cell hS5.box 3, ownP_key' hS5.lst HRl.out m ek en He.out, ownP_num' hS5.lst HRl.out m ek en He.out⟩) (first
                    | (go_at_call 25; ((with_reducible refine (Hcc.out ek _ _ hek (ownOf_rd hS5.own) (HT.out _ hS5.bel)).mono ?_); rintro e wq ⟨rfl, hwq⟩; have hS5 := hS5.kept hwq)))
                  go_wp2
                  go_roundw
                  case rel => exact ⟨m + 1, by omega, by go_num, hS5⟩
                  case measure => simp [intOf]; omega
                · have hmm : m = M.length := by omega
                  subst hmm
                  go_wp2
                  go_roundw
                  case rel => exact ⟨j + 1, k2, R, g2, cap2, bs2, by omega, by go_num, Hnext.out, by have := HRl.out; omega, HR100.out, hS5, blk_lt hS5.box⟩
                  case measure => simp [intOf]; omega
        · have hka2 : k2.a = k.a + 1 := Hhv.out.2 hh
          rw [if_pos hka2] at Hnext Hcnt
          have n1 : (k2.a != k.a + 1) = false := by simpa using hka2
          clear hka2 hh
          go_wp2_with (go_at_call 24; (with_reducible refine (Hmore.out _ _ hS3.lst hBs3).mono ?_); rintro e w4 ⟨lv2, rfl, hl4, hg4⟩; have hS5 := hS3.grown (Nat.lt_succ_self _) (by omega) hl4 hg4; obtain ⟨xl, capl, rfl, hcl⟩ := ownP_slice hl4; obtain ⟨gl, rfl, hgl1, hgl2⟩ := ownP_form hl4 hM0; have a0 := blk_cell hS5.box 0; have a1 := blk_cell hS5.box 1; have a2 := blk_cell hS5.box 2; have a3 := blk_cell hS5.box 3; simp only [List.getElem?_toArray, List.getElem?_cons_zero, List.getElem?_cons_succ] at a0 a1 a2 a3)
          clear hS3 hg4 hl4 hBs3 a0 a1 a2 a3
          have hR100 := HM2.out
          have HR100 := Lib.hid hR100
          clear hR100
          go_wp2
          go_loopw [14] (fun i wr => ∃ m : Nat, m ≤ M.length ∧ i = .int .i64 (m : Int) ∧ NS w (N + 1) N k2 g2 cap2 bs2 M (.slice (some ⟨gl, 0, none⟩) M.length capl) wr) (fun i _ => M.length - (intOf i).toNat)
          case atStart => exact ⟨0, by omega, rfl, hS5⟩
          case round =>
            clear hS5
            obtain ⟨m, hm, rfl, hS5⟩ := hrel
            by_cases hml : m < M.length
            · obtain ⟨⟨ek, en⟩, he⟩ : ∃ e, M[m]? = some e := ⟨_, List.getElem?_eq_getElem (by have := (Eq.refl M.length); omega)⟩
              have hek := HR100.out _ (List.mem_of_getElem? he)
              have hle := Hcnt.out _ (List.mem_of_getElem? he)
              dsimp only at hek hle
              have hld : decide (k2.count ek < en) = false := by simpa using hle
              have He := Lib.hid he
              clear he hle
              have hc1 := ownP_key' hS5.lst (Eq.refl M.length) m ek en He.out
              have hc2 := ownP_num' hS5.lst (Eq.refl M.length) m ek en He.out
              have c0 := blk_cell hS5.box 0; have c1 := blk_cell hS5.box 1; have c2 := blk_cell hS5.box 2; have c3 := blk_cell hS5.box 3; simp only [List.getElem?_toArray, List.getElem?_cons_zero, List.getElem?_cons_succ] at c0 c1 c2 c3
              go_wp2
              have hS5 := hS5.kept (Below.refl _ _).drew
              go_region_held3 (fun W => W.cell? ⟨N, 0, none⟩ = some (.int .i64 k2.w) ∧ W.cell? ⟨N, 1, none⟩ = some (.int .i64 k2.s) ∧ W.cell? ⟨N, 2, none⟩ = some (.int .i64 k2.a) ∧ W.cell? ⟨N, 3, none⟩ = some (.slice (some ⟨g2, 0, none⟩) k2.c.length cap2) ∧ W.cell? ⟨gl, m * 2, none⟩ = some (.string ⟨ek.toArray⟩) ∧ W.cell? ⟨gl, m * 2 + 1, none⟩ = some (.int .i64 en)) (exact ⟨blk_cell hS5.box 0, blk_cell hS5.box 1, blk_cell hS5.box 2, blk_cell hS5.box 3, ownP_key' hS5.lst (Eq.refl M.length) m ek en He.out, ownP_num' hS5.lst (Eq.refl M.length) m ek en He.out⟩) (first
                | (go_at_call 25; ((with_reducible refine (Hcc.out ek _ _ hek (ownOf_rd hS5.own) (HT.out _ hS5.bel)).mono ?_); rintro e wq ⟨rfl, hwq⟩; have hS5 := hS5.kept hwq)))
              go_wp2
              go_roundw
              case rel => exact ⟨m + 1, by omega, by go_num, hS5⟩
              case measure => simp [intOf]; omega
            · have hmm : m = M.length := by omega
              subst hmm
              go_wp2
              go_roundw
              case rel => exact ⟨j + 1, k2, M, g2, cap2, bs2, by omega, by go_num, Hnext.out, by have := (Eq.refl M.length); omega, HR100.out, hS5, blk_lt hS5.box⟩
              case measure => simp [intOf]; omega
      · have hjj : j = ps.length := by omega
        subst hjj
        obtain ⟨x0, cp0, rfl, _⟩ := ownP_slice hS.lst
        have hok := hI.ok
        have hcc := fun (e : List UInt8) v W (hl : e.length ≤ 100) (h : Rd mkI W v k.c) (hT : TabC W) => count_any k hok e v W h (by omega) hT
        have hwn := hok.wn
        have hn2 : k.n ≤ 4096 := by have := hok.wide; omega
        have hsh : ∀ (x y : List UInt8) (W : World), x.length ≤ 100 → y.length ≤ 100 → TabR W → Calls Tryd.prog 26 #[.string ⟨x.toArray⟩, .string ⟨y.toArray⟩, .int .i64 k.w] W fun e w' => e = .returned (.bool (Sk.sharedB x y k.n 4)) ∧ Below W.heap.size W w' := fun x y W hx hy hR => by
          have := shared_any x y k.n W (by omega) (by omega) hok.n1 hn2 hR
          rw [hwn] at this
          exact this
        have hex : ∀ (m : Nat) (ek : List UInt8) (en : Int), L[m]? = some (ek, en) → aloneB k.n L ek m L.length = true → k.count ek = en := by
          intro m ek en he hal
          refine hI.exact (ek, en) (List.mem_of_getElem? he) fun e' he' hne => ?_
          obtain ⟨r, hr⟩ := List.mem_iff_getElem?.1 he'
          have hrl := (List.getElem?_eq_some_iff.1 hr).1
          have h1 := List.all_eq_true.1 hal r (List.mem_range.2 hrl)
          have hrm : r ≠ m := by rintro rfl; rw [he] at hr; cases hr; exact hne rfl
          simp only [List.getD, hr, Option.getD_some, Bool.or_eq_true, beq_iff_eq, Bool.not_eq_true'] at h1
          rcases h1 with h1 | h1
          · exact absurd h1 hrm
          · exact (Sk.sharedB_iff ek e'.1 k.n).1 h1
        have Hcc := Lib.hid hcc
        have Hsh := Lib.hid hsh
        have Hex := Lib.hid hex
        have HL100 := Lib.hid hL100
        have HI := Lib.hid hI
        clear hok hcc hwn hn2 hsh hex hL100 hI
        go_wp2
        go_loopw [15] (fun i wr => ∃ m : Nat, m ≤ L.length ∧ i = .int .i64 (m : Int) ∧ NS w (N + 1) N k g cap bs L (.slice x0 L.length cp0) wr) (fun i _ => L.length - (intOf i).toNat)
        case atStart => exact ⟨0, by omega, rfl, hS⟩
        case round =>
          clear hS hBs
          obtain ⟨m, hm, rfl, hS⟩ := hrel
          by_cases hml : m < L.length
          · obtain ⟨⟨ek, en⟩, he⟩ : ∃ e, L[m]? = some e := ⟨_, List.getElem?_eq_getElem (by omega)⟩
            have hek := HL100.out _ (List.mem_of_getElem? he)
            dsimp only at hek
            have He := Lib.hid he
            clear he
            obtain ⟨gl, rfl, _, _⟩ := ownP_form hS.lst (by omega)
            go_wp2
            go_loopw [17, 16] (fun q al wr => ∃ t : Nat, t ≤ L.length ∧ q = .int .i64 (t : Int) ∧ al = .bool (aloneB k.n L ek m t) ∧ NS w (N + 1) N k g cap bs L (.slice (some ⟨gl, 0, none⟩) L.length cp0) wr) (fun q _ _ => L.length - (intOf q).toNat)
            case atStart => exact ⟨0, by omega, rfl, rfl, hS⟩
            case round =>
              clear hS
              obtain ⟨t, ht, rfl, rfl, hS⟩ := hrel
              by_cases htl : t < L.length
              · obtain ⟨⟨fk, fn⟩, hf⟩ : ∃ e, L[t]? = some e := ⟨_, List.getElem?_eq_getElem (by omega)⟩
                have hfk := HL100.out _ (List.mem_of_getElem? hf)
                have hsu := aloneB_succ k.n L ek m t _ hf
                dsimp only at hfk hsu
                have Hf := Lib.hid hf
                have Hsu := Lib.hid hsu
                clear hf hsu
                generalize aloneB k.n L ek m t = al at *
                cases al with
                | false =>
                  have HS := Lib.hid hS
                  clear hS
                  go_wp2
                  go_quiet (fail)
                  have hS := HS.out.kept (w' := wr.drewN nq) ⟨rfl, rfl, rfl, Nat.le_refl _, fun _ _ => rfl⟩
                  generalize wr.drewN nq = wq at *
                  go_wp2
                  go_roundw
                  case rel => exact ⟨t + 1, by omega, by go_num, by rw [Hsu.out]; rfl, hS⟩
                  case measure => simp [intOf]; omega
                | true =>
                  by_cases htm : t = m
                  · have hd : ((t : Int) == (m : Int)) = true := by simp [htm]
                    have HS := Lib.hid hS
                    clear hS
                    go_wp2
                    go_quiet (fail)
                    have hS := HS.out.kept (w' := wr.drewN nq) ⟨rfl, rfl, rfl, Nat.le_refl _, fun _ _ => rfl⟩
                    generalize wr.drewN nq = wq at *
                    go_wp2
                    go_roundw
                    case rel => exact ⟨t + 1, by omega, by go_num, by rw [Hsu.out]; simp [htm], hS⟩
                    case measure => simp [intOf]; omega
                  · have hd : ((t : Int) == (m : Int)) = false := by simp; omega
                    have c0 := blk_cell hS.box 0; have c1 := blk_cell hS.box 1; have c2 := blk_cell hS.box 2; have c3 := blk_cell hS.box 3; simp only [List.getElem?_toArray, List.getElem?_cons_zero, List.getElem?_cons_succ] at c0 c1 c2 c3
                    have hc1 := ownP_key' hS.lst rfl m ek en He.out
                    have hc2 := ownP_key' hS.lst rfl t fk fn Hf.out
                    go_wp2
                    have hS := hS.kept (Below.refl _ _).drew
                    go_region_held3 (fun W => W.cell? ⟨N, 0, none⟩ = some (.int .i64 k.w) ∧ W.cell? ⟨gl, m * 2, none⟩ = some (.string ⟨ek.toArray⟩) ∧ W.cell? ⟨gl, t * 2, none⟩ = some (.string ⟨fk.toArray⟩)) (exact ⟨blk_cell hS.box 0, ownP_key' hS.lst rfl m ek en He.out, ownP_key' hS.lst rfl t fk fn Hf.out⟩) (first
                      | (go_at_call 26; ((with_reducible refine (Hsh.out ek fk _ hek hfk (HR.out _ hS.bel)).mono ?_); rintro e wq ⟨rfl, hwq⟩; have hS := hS.kept hwq)))
                    go_wp2
                    go_roundw
                    case rel => exact ⟨t + 1, by omega, by go_num, by rw [Hsu.out]; simp [htm], hS⟩
                    case measure => simp [intOf]; omega
              · have htt : t = L.length := by omega
                subst htt
                cases hal : aloneB k.n L ek m L.length with
                | false =>
                  have HS := Lib.hid hS
                  clear hS
                  go_wp2
                  go_quiet (fail)
                  have hS := HS.out.kept (w' := wr.drewN nq) ⟨rfl, rfl, rfl, Nat.le_refl _, fun _ _ => rfl⟩
                  generalize wr.drewN nq = wq at *
                  go_wp2
                  go_roundw
                  case rel => exact ⟨m + 1, by omega, by go_num, hS⟩
                  case measure => simp [intOf]; omega
                | true =>
                  have hce := Hex.out m ek en He.out hal
                  have hne : (k.count ek != en) = false := by simpa using hce
                  have c0 := blk_cell hS.box 0; have c1 := blk_cell hS.box 1; have c2 := blk_cell hS.box 2; have c3 := blk_cell hS.box 3; simp only [List.getElem?_toArray, List.getElem?_cons_zero, List.getElem?_cons_succ] at c0 c1 c2 c3
                  have hc1 := ownP_key' hS.lst rfl m ek en He.out
                  have hc2 := ownP_num' hS.lst rfl m ek en He.out
                  have Hce := Lib.hid hce
                  clear hce
                  go_wp2
                  have hS := hS.kept (Below.refl _ _).drew
                  go_region_held3 (fun W => W.cell? ⟨N, 0, none⟩ = some (.int .i64 k.w) ∧ W.cell? ⟨N, 1, none⟩ = some (.int .i64 k.s) ∧ W.cell? ⟨N, 2, none⟩ = some (.int .i64 k.a) ∧ W.cell? ⟨N, 3, none⟩ = some (.slice (some ⟨g, 0, none⟩) k.c.length cap) ∧ W.cell? ⟨gl, m * 2, none⟩ = some (.string ⟨ek.toArray⟩) ∧ W.cell? ⟨gl, m * 2 + 1, none⟩ = some (.int .i64 en)) (exact ⟨blk_cell hS.box 0, blk_cell hS.box 1, blk_cell hS.box 2, blk_cell hS.box 3, ownP_key' hS.lst rfl m ek en He.out, ownP_num' hS.lst rfl m ek en He.out⟩) (first
                    | (go_at_call 25; ((with_reducible refine (Hcc.out ek _ _ hek (ownOf_rd hS.own) (HT.out _ hS.bel)).mono ?_); rintro e wq ⟨rfl, hwq⟩; have hS := hS.kept hwq)))
                  go_wp2
                  go_roundw
                  case rel => exact ⟨m + 1, by omega, by go_num, hS⟩
                  case measure => simp [intOf]; omega
          · have hmm : m = L.length := by omega
            subst hmm
            go_wp2_with (go_at_call 19; (with_reducible refine (ssane_any _ (HT.out _ hS.bel)).mono ?_); rintro e w2 ⟨rfl, hw2⟩; have hB2 := hS.bel.trans (hw2.mono hS.bel.size))
            go_ret
            exact ⟨rfl, hB2⟩
end Go.Proofs.YtbgieephehfgpabDoor
