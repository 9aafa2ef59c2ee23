/-
  The function of the law SketchAddsAsSpecified returns true. Condition: the tables are as the program's and the reference's texts lay them.
-/
import Derived.Test.YtbgieephehfgpabDoorJB8
namespace Go.Proofs.YtbgieephehfgpabDoor
open Go Go.RowKit
set_option maxRecDepth 100000 in
set_option maxHeartbeats 16000000 in
theorem lawadds_any (k0 : Sk.K) (v vp : Value) (ps : List (List UInt8)) (w : World) (hr : Rd mkI w v k0.c) (hlen : k0.c.length ≤ maxLen) (hps : Rd mkS w vp ps) (hpl : ps.length ≤ maxLen) (hT : TabC w) (hR : TabR w) :
    Calls Tryd.prog 5 #[skV k0 v, vp] w fun e w' => e = .returned (.bool true) ∧ Below w.heap.size w w' := by
  have hval := fun W (h : Rd mkI W v k0.c) => rvalid_any k0 v W h hlen
  unfold maxLen at hlen
  have Hval := Lib.hid hval
  have Hr := Lib.hid hr
  have Hps := Lib.hid hps
  have HT := Lib.hid (fun W (h : Below w.heap.size w W) => hT.below h)
  have HR := Lib.hid (fun W (h : Below w.heap.size w W) => hR.below h)
  obtain ⟨x0, cap0, rfl, hcap, hcase⟩ := hr
  obtain ⟨vpa, vpc, rfl, hvpc, hvcell⟩ := hps
  have Hvcell := Lib.hid hvcell
  have Hrd := Lib.hid (fun W (h : Below w.heap.size w W) => Rd.below Hr.out h)
  have Hkp := Lib.hid (show ∀ (j : Nat) (key : List UInt8), ps[j]? = some key → ∃ kb koff, vpa = some ⟨kb, koff, none⟩ ∧ ∀ W, Below w.heap.size w W → W.cell? ⟨kb, koff + j, none⟩ = some (.string ⟨key.toArray⟩) from by
    intro j key hj
    rcases hvcell with h | ⟨b, off, rfl, hbl, hcell⟩
    · rw [h] at hj; simp at hj
    · exact ⟨b, off, rfl, fun W h => (h.cell (p := ⟨b, off + j, none⟩) hbl).trans (hcell j key hj)⟩)
  clear hcase hvcell hval Hvcell
  have hB0 := below_alloc1 w (.cells #[.int .i64 k0.w, .int .i64 k0.s, .int .i64 k0.a, .slice x0 k0.c.length cap0] 38)
  have hb0 := blk_new w #[.int .i64 k0.w, .int .i64 k0.s, .int .i64 k0.a, .slice x0 k0.c.length cap0] 38
  go_enter Tryd.func5, Tryd.ntmps5
  go_wp2_with fail
  with_reducible refine (short_any _ ps _ (Rd.below Hps.out hB0) hpl).mono ?_
  rintro e w1 ⟨⟨b, rfl, hb⟩, rfl⟩
  cases b with
  | false =>
    go_wp2_with (go_at_call 19; (with_reducible refine (ssane_any _ (HT.out _ hB0)).mono ?_); rintro e w1 ⟨rfl, hw1⟩; have hB1 := hB0.trans (hw1.mono hB0.size))
    go_ret
    exact ⟨rfl, hB1⟩
  | true =>
  obtain ⟨h60, h100⟩ := hb rfl
  clear hb
  by_cases hbig : 300 < k0.c.length
  · have d0 : decide ((300 : Int) < (k0.c.length : Int)) = true := by simp; omega
    go_wp2_with (go_at_call 19; (with_reducible refine (ssane_any _ (HT.out _ hB0)).mono ?_); rintro e w1 ⟨rfl, hw1⟩; have hB1 := hB0.trans (hw1.mono hB0.size))
    go_ret
    exact ⟨rfl, hB1⟩
  have d0 : decide ((300 : Int) < (k0.c.length : Int)) = false := by simp; omega
  cases hk : Sk.okB k0 with
  | false =>
    rw [hk] at Hval
    go_wp2_with (first
      | (go_at_call 18; (with_reducible refine (Hval.out _ (Hrd.out _ hB0)).mono ?_); rintro e w1 ⟨rfl, hw1⟩; have hB1 := hB0.trans (hw1.mono hB0.size))
      | (go_at_call 19; (with_reducible refine (ssane_any _ (HT.out _ hB1)).mono ?_); rintro e w2 ⟨rfl, hw2⟩; have hB2 := hB1.trans (hw2.mono hB1.size)))
    go_ret
    exact ⟨rfl, hB2⟩
  | true =>
  rw [hk] at Hval
  have hok := (Sk.okB_iff k0).1 hk
  clear hk
  go_wp2_with (go_at_call 18; (with_reducible refine (Hval.out _ (Hrd.out _ hB0)).mono ?_); rintro e w1 ⟨rfl, hw1⟩; have hB1 := hB0.trans (hw1.mono hB0.size); have hb1 := blk_kept hb0 hw1)
  go_loopw [6] (fun i wr => ∃ (j : Nat) (k : Sk.K) (x : Option Addr) (cap : Nat), j ≤ ps.length ∧ i = .int .i64 (j : Int) ∧ Sk.Ok k ∧ Blk wr w.heap.size #[.int .i64 k.w, .int .i64 k.s, .int .i64 k.a, .slice x k.c.length cap] 38 ∧ Rd mkI wr (.slice x k.c.length cap) k.c ∧ Below w.heap.size w wr) (fun i _ => ps.length - (intOf i).toNat)
  case atStart => exact ⟨0, k0, x0, cap0, by omega, rfl, hok, hb1, Hrd.out _ hB1, hB1⟩
  case round =>
    clear hb1 hB1 hb0 hB0 hw1 hok Hval Hrd Hr d0 hbig hcap hlen
    obtain ⟨j, k, x, cap, hj, rfl, hK, hb, hrd, hB⟩ := hrel
    by_cases hlt : j < ps.length
    · obtain ⟨key, hkey⟩ : ∃ key, ps[j]? = some key := ⟨_, List.getElem?_eq_getElem hlt⟩
      have hkl := h100 key (List.mem_of_getElem? hkey)
      obtain ⟨kb, koff, rfl, hkc⟩ := Hkp.out j key hkey
      have hKa := hK.add key
      have hadd := fun W (h : Rd mkI W (.slice x k.c.length cap) k.c) (hT : TabC W) => sadd_lit k hK key _ W h (by omega) hT
      have hradd := fun W (h : Rd mkI W (.slice x k.c.length cap) k.c) (hT : TabR W) => radd_lit k hK key _ W h (by omega) hT
      have hsame := fun va vb W h1 h2 => same_true (k.add key) va vb W h1 h2 hKa.len9
      have hvalid := fun v W h => rvalid_any (k.add key) v W h (by have := hKa.len9; unfold maxLen; omega)
      rw [(Sk.okB_iff _).2 hKa] at hvalid
      have hne := hK.ne
      have hlen9 := hK.len9
      clear hK
      generalize k.add key = n at *
      obtain ⟨nw, ns, na, nc⟩ := n
      obtain ⟨kw, ks, ka, kc⟩ := k
      dsimp only at *
      have Hadd := Lib.hid hadd
      have Hradd := Lib.hid hradd
      have Hsame := Lib.hid hsame
      have Hvalid := Lib.hid hvalid
      have Hkc := Lib.hid hkc
      have Hrw := Lib.hid (Rd.below hrd (below_alloc1 wr (.cells #[] 3)))
      have E1 : Hid (([] : List Int).length + kc.length < 1000000000000) := Lib.hid (by simp; omega)
      clear hadd hradd hsame hvalid hkc
      have p0 := blk_cell hb 0
      have p1 := blk_cell hb 1
      have p2 := blk_cell hb 2
      have p3 := blk_cell hb 3
      simp only [List.getElem?_toArray, List.getElem?_cons_zero, List.getElem?_cons_succ] at p0 p1 p2 p3
      have hN1 := blk_lt hb
      go_wp2_with (at_builtin; refine wp_appR mkI_one Tryd.underlying36 info_int rfl (by decide) rfl (.tmp 32) (.tmp 34) rfl wr.heap.size _ [] rfl (ownOf_lit wr wr.heap.size [] #[] 0 rfl rfl (Nat.le_refl _) (Nat.zero_le _)) _ kc rfl Hrw.out E1.out (by rw [World.size_alloc]; omega) ?_; intro v1 w1 hown1 hg1; have hgB := hg1.below _ _ (below_alloc1 _ _) (Nat.le_refl _); have hown1 : OwnI w1 wr.heap.size v1 kc := (by simpa using hown1); obtain ⟨g1, cap1, rfl, hgb1, hgl1⟩ := ownOf_slice hown1 hne)
      have hb1 := blk_kept hb hgB
      have hrd1 := Rd.below hrd hgB
      have hB1 := hB.trans (hgB.mono hB.size)
      have hN2 := blk_lt hb1
      have hk1 := Hkc.out _ hB1
      have r0 := blk_cell hb1 0
      have r1 := blk_cell hb1 1
      have r2 := blk_cell hb1 2
      have r3 := blk_cell hb1 3
      simp only [List.getElem?_toArray, List.getElem?_cons_zero, List.getElem?_cons_succ] at r0 r1 r2 r3
      have HB1 := Lib.hid hB1
      have Hb1 := Lib.hid hb1
      have Hrd1 := Lib.hid hrd1
      have Hown1 := Lib.hid hown1
      clear hb hrd hB hgB hg1 hb1 hrd1 hB1 hown1 Hrw p0 p1 p2 p3
      have hBd : Below w1.heap.size w1 w1.drew := (Below.refl _ _).drew
      have hBe : Below w1.heap.size w1 (w1.alloc (.cells #[.int .i64 0, .int .i64 0, .int .i64 0, .slice none 0 0] 38)).drew := (below_alloc1 w1 _).drew
      have Hkeep := Lib.hid (show ∀ W, Below w1.heap.size w1 W → W.cell? ⟨w.heap.size, 0, none⟩ = some (.int .i64 kw) ∧ W.cell? ⟨w.heap.size, 1, none⟩ = some (.int .i64 ks) ∧ W.cell? ⟨w.heap.size, 2, none⟩ = some (.int .i64 ka) ∧ W.cell? ⟨w.heap.size, 3, none⟩ = some (.slice x kc.length cap) ∧ W.cell? ⟨kb, koff + j, none⟩ = some (.string ⟨key.toArray⟩) from fun W h => by
        have hbW := blk_kept Hb1.out h
        exact ⟨blk_cell hbW 0, blk_cell hbW 1, blk_cell hbW 2, blk_cell hbW 3, Hkc.out _ (HB1.out.trans (h.mono HB1.out.size))⟩)
      have Hset := Lib.hid (fun (W : World) (h : Below w1.heap.size w1 W) (i : Nat) (u : Value) => h.setCell (p := ⟨w1.heap.size, i, none⟩) (Nat.le_refl _) u)
      go_cut [8] (fun s8 wx => ∃ (T g2 cap2 bs : Nat), s8 = .pointer (some ⟨T, 0, none⟩) ∧ w1.heap.size ≤ T ∧ w1.heap.size ≤ bs ∧ Blk wx T #[.int .i64 nw, .int .i64 ns, .int .i64 na, .slice (some ⟨g2, 0, none⟩) nc.length cap2] 38 ∧ OwnI wx bs (.slice (some ⟨g2, 0, none⟩) nc.length cap2) nc ∧ Below w1.heap.size w1 wx)
      case first =>
        go_region_held3 (fun W => W.cell? ⟨w.heap.size, 0, none⟩ = some (.int .i64 kw) ∧ W.cell? ⟨w.heap.size, 1, none⟩ = some (.int .i64 ks) ∧ W.cell? ⟨w.heap.size, 2, none⟩ = some (.int .i64 ka) ∧ W.cell? ⟨w.heap.size, 3, none⟩ = some (.slice x kc.length cap) ∧ W.cell? ⟨kb, koff + j, none⟩ = some (.string ⟨key.toArray⟩)) ((refine Hkeep.out _ ?_; (with_reducible repeat (first | exact hB2 | exact hBd | exact hBe | (refine below_al ?_ _) | (refine Hset.out _ ?_ _ _))))) (first
          | (go_at_call 20; (with_reducible refine (Hadd.out w1.drew (Rd.below Hrd1.out hBd) (HT.out _ HB1.out.drew)).mono ?_); rintro e w2 ⟨g2, cap2, rfl, hown2, hw2⟩; have hB2 : Below w1.heap.size w1 w2 := hBd.trans hw2)
          | (go_at_call 20; (with_reducible refine (Hadd.out (w1.alloc (.cells #[.int .i64 0, .int .i64 0, .int .i64 0, .slice none 0 0] 38)).drew (Rd.below Hrd1.out hBe) (HT.out _ (HB1.out.trans (hBe.mono HB1.out.size)))).mono ?_); rintro e w2 ⟨g2, cap2, rfl, hown2, hw2⟩; have hT2 := blk_kept (show Blk (w1.alloc (.cells #[.int .i64 0, .int .i64 0, .int .i64 0, .slice none 0 0] 38)).drew w1.heap.size _ _ from blk_new w1 _ _) hw2; have hB2 : Below w1.heap.size w1 w2 := hBe.trans (hw2.mono hBe.size); have t0 := blk_cell hT2 0; have t1 := blk_cell hT2 1; have t2 := blk_cell hT2 2; have t3 := blk_cell hT2 3; have u0 := blk_free hT2 0; have u1 := blk_free hT2 1; have u2 := blk_free hT2 2; have u3 := blk_free hT2 3; simp only [List.getElem?_toArray, List.getElem?_cons_zero, List.getElem?_cons_succ] at t0 t1 t2 t3))
        · go_wp2_with fail
          go_meet
          exact ⟨w2.heap.size, g2, cap2, w1.heap.size, rfl, hB2.size, Nat.le_refl _, blk_new w2 _ _, ownOf_kept hown2 (below_alloc1 _ _), below_al hB2 _⟩
        · go_wp2_with fail
          go_meet
          have hu := blk_set (blk_set (blk_set (blk_set hT2 0 (.int .i64 nw)) 1 (.int .i64 ns)) 2 (.int .i64 na)) 3 (.slice (some ⟨g2, 0, none⟩) nc.length cap2)
          simp only [List.setIfInBounds_toArray, List.set_cons_zero, List.set_cons_succ] at hu
          have hsz : (w1.alloc (.cells #[.int .i64 0, .int .i64 0, .int .i64 0, .slice none 0 0] 38)).drew.heap.size = w1.heap.size + 1 := World.size_alloc _ _
          refine ⟨w1.heap.size, g2, cap2, (w1.alloc (.cells #[.int .i64 0, .int .i64 0, .int .i64 0, .slice none 0 0] 38)).drew.heap.size, rfl, Nat.le_refl _, by omega, hu, ?_, ?_⟩
          · exact ownOf_far (ownOf_far (ownOf_far (ownOf_far hown2 (p := ⟨w1.heap.size, 0, none⟩) (by show w1.heap.size < _; omega) _) (p := ⟨w1.heap.size, 1, none⟩) (by show w1.heap.size < _; omega) _) (p := ⟨w1.heap.size, 2, none⟩) (by show w1.heap.size < _; omega) _) (p := ⟨w1.heap.size, 3, none⟩) (by show w1.heap.size < _; omega) _
          · exact (((hB2.setCell (p := ⟨w1.heap.size, 0, none⟩) (Nat.le_refl _) _).setCell (p := ⟨w1.heap.size, 1, none⟩) (Nat.le_refl _) _).setCell (p := ⟨w1.heap.size, 2, none⟩) (Nat.le_refl _) _).setCell (p := ⟨w1.heap.size, 3, none⟩) (Nat.le_refl _) _
      case rest =>
        obtain ⟨T, g2, cap2, bs, rfl, hTl, hbs, hTb, hown2, hB2⟩ := hcut
        have hBw := HB1.out.trans (hB2.mono HB1.out.size)
        have hbN := blk_kept Hb1.out hB2
        have hrdN := Rd.below Hrd1.out hB2
        have hold := ownOf_kept Hown1.out hB2
        generalize wr.heap.size = B1 at hold
        clear hB2 hBd hBe r0 r1 r2 r3 hk1
        go_wp2
        have hTb := blk_drew hTb
        have hbN := blk_drew hbN
        have hown2 := ownOf_drew hown2
        have hold := ownOf_drew hold
        have hrdN := Rd.below hrdN (Below.refl _ _).drew
        have hBw := hBw.drew
        go_region_held3 (fun W => W.cell? ⟨w.heap.size, 0, none⟩ = some (.int .i64 kw) ∧ W.cell? ⟨w.heap.size, 1, none⟩ = some (.int .i64 ks) ∧ W.cell? ⟨w.heap.size, 2, none⟩ = some (.int .i64 ka) ∧ W.cell? ⟨w.heap.size, 3, none⟩ = some (.slice x kc.length cap) ∧ W.cell? ⟨T, 0, none⟩ = some (.int .i64 nw) ∧ W.cell? ⟨T, 1, none⟩ = some (.int .i64 ns) ∧ W.cell? ⟨T, 2, none⟩ = some (.int .i64 na) ∧ W.cell? ⟨T, 3, none⟩ = some (.slice (some ⟨g2, 0, none⟩) nc.length cap2) ∧ W.cell? ⟨kb, koff + j, none⟩ = some (.string ⟨key.toArray⟩)) (exact ⟨blk_cell hbN 0, blk_cell hbN 1, blk_cell hbN 2, blk_cell hbN 3, blk_cell hTb 0, blk_cell hTb 1, blk_cell hTb 2, blk_cell hTb 3, Hkc.out _ hBw⟩) (first
          | (go_at_call 22; (with_reducible refine (Hradd.out _ hrdN (HR.out _ hBw)).mono ?_); rintro e wq ⟨g3, cap3, rfl, hown3, hwq⟩; have hbN := blk_kept hbN hwq; have hTb := blk_kept hTb hwq; have hown2 := ownOf_kept hown2 hwq; have hold := ownOf_kept hold hwq; have hrdN := Rd.below hrdN hwq; have hBw := hBw.trans (hwq.mono hBw.size); (try have hown3 := ownOf_kept hown3 hwq))
          | (go_at_call 21; (with_reducible refine (Hsame.out _ _ _ (ownOf_rd hown2) (ownOf_rd hown3)).mono ?_); rintro e wq ⟨rfl, hwq⟩; have hbN := blk_kept hbN hwq; have hTb := blk_kept hTb hwq; have hown2 := ownOf_kept hown2 hwq; have hold := ownOf_kept hold hwq; have hrdN := Rd.below hrdN hwq; have hBw := hBw.trans (hwq.mono hBw.size); (try have hown3 := ownOf_kept hown3 hwq))
          | (go_at_call 18; (with_reducible refine (Hvalid.out _ _ (ownOf_rd hown2)).mono ?_); rintro e wq ⟨rfl, hwq⟩; have hbN := blk_kept hbN hwq; have hTb := blk_kept hTb hwq; have hown2 := ownOf_kept hown2 hwq; have hold := ownOf_kept hold hwq; have hrdN := Rd.below hrdN hwq; have hBw := hBw.trans (hwq.mono hBw.size); (try have hown3 := ownOf_kept hown3 hwq)))
        clear hown3 hwq
        go_wp2
        go_loopw [9] (fun i wr => ∃ m : Nat, m ≤ kc.length ∧ i = .int .i64 (m : Int) ∧ Blk wr w.heap.size #[.int .i64 kw, .int .i64 ks, .int .i64 ka, .slice x kc.length cap] 38 ∧ Blk wr T #[.int .i64 nw, .int .i64 ns, .int .i64 na, .slice (some ⟨g2, 0, none⟩) nc.length cap2] 38 ∧ OwnI wr bs (.slice (some ⟨g2, 0, none⟩) nc.length cap2) nc ∧ OwnI wr B1 (.slice (some ⟨g1, 0, none⟩) kc.length cap1) kc ∧ Rd mkI wr (.slice x kc.length cap) kc ∧ Below w.heap.size w wr) (fun i _ => kc.length - (intOf i).toNat)
        case atStart => exact ⟨0, by omega, rfl, hbN, hTb, hown2, hold, hrdN, hBw⟩
        case round =>
          clear hbN hTb hown2 hold hrdN hBw
          obtain ⟨m, hm, rfl, hbN, hTb, hown2, hold, hrdN, hBw⟩ := hrel
          by_cases hml : m < kc.length
          · obtain ⟨y, hy⟩ : ∃ y, kc[m]? = some y := ⟨_, List.getElem?_eq_getElem hml⟩
            obtain ⟨gk, offk, ck, hxe, hck, hgk, hcell⟩ := rd_parts hrdN hne
            obtain ⟨rfl, rfl⟩ : x = some ⟨gk, offk, none⟩ ∧ cap = ck := by cases hxe; exact ⟨rfl, rfl⟩
            have hcx := hcell m y hy
            have hco : wr.cell? ⟨g1, m, none⟩ = some (.int .i64 y) := ownOf_cell hold m y hy
            have p0 := blk_cell hbN 0
            have p1 := blk_cell hbN 1
            have p2 := blk_cell hbN 2
            have p3 := blk_cell hbN 3
            simp only [List.getElem?_toArray, List.getElem?_cons_zero, List.getElem?_cons_succ] at p0 p1 p2 p3
            have hD : ∀ z, Below wr.heap.size wr (wr.drewN z) := fun z => ⟨rfl, rfl, rfl, Nat.le_refl _, fun _ _ => rfl⟩
            have HbN := Lib.hid hbN
            have HTb := Lib.hid hTb
            have Hown2 := Lib.hid hown2
            have Hold := Lib.hid hold
            have HrdN := Lib.hid hrdN
            have HBw := Lib.hid hBw
            have HD := Lib.hid hD
            clear hbN hTb hown2 hold hrdN hBw hD hcell
            go_wp2
            go_quiet (fail)
            have hbN := blk_kept HbN.out (HD.out nq)
            have hTb := blk_kept HTb.out (HD.out nq)
            have hown2 := ownOf_kept Hown2.out (HD.out nq)
            have hold := ownOf_kept Hold.out (HD.out nq)
            have hrdN := Rd.below HrdN.out (HD.out nq)
            have hBw := HBw.out.trans ((HD.out nq).mono HBw.out.size)
            generalize wr.drewN nq = wq at *
            go_wp2
            go_roundw
            case rel => exact ⟨m + 1, by omega, by go_num, hbN, hTb, hown2, hold, hrdN, hBw⟩
            case measure => simp [intOf]; omega
          · have hmm : m = kc.length := by omega
            subst hmm
            have t0 := blk_cell hTb 0
            have t1 := blk_cell hTb 1
            have t2 := blk_cell hTb 2
            have t3 := blk_cell hTb 3
            simp only [List.getElem?_toArray, List.getElem?_cons_zero, List.getElem?_cons_succ] at t0 t1 t2 t3
            have f0 := blk_free hbN 0
            have f1 := blk_free hbN 1
            have f2 := blk_free hbN 2
            have f3 := blk_free hbN 3
            have p0 := blk_cell hbN 0
            have p1 := blk_cell hbN 1
            have p2 := blk_cell hbN 2
            have p3 := blk_cell hbN 3
            simp only [List.getElem?_toArray, List.getElem?_cons_zero, List.getElem?_cons_succ] at p0 p1 p2 p3
            have hu := blk_set (blk_set (blk_set (blk_set hbN 0 (.int .i64 nw)) 1 (.int .i64 ns)) 2 (.int .i64 na)) 3 (.slice (some ⟨g2, 0, none⟩) nc.length cap2)
            simp only [List.setIfInBounds_toArray, List.set_cons_zero, List.set_cons_succ] at hu
            have hlo := ownOf_far (ownOf_far (ownOf_far (ownOf_far hown2 (p := ⟨w.heap.size, 0, none⟩) (by show w.heap.size < _; omega) (.int .i64 nw)) (p := ⟨w.heap.size, 1, none⟩) (by show w.heap.size < _; omega) (.int .i64 ns)) (p := ⟨w.heap.size, 2, none⟩) (by show w.heap.size < _; omega) (.int .i64 na)) (p := ⟨w.heap.size, 3, none⟩) (by show w.heap.size < _; omega) (.slice (some ⟨g2, 0, none⟩) nc.length cap2)
            have hBu := (((hBw.setCell (p := ⟨w.heap.size, 0, none⟩) (Nat.le_refl _) (.int .i64 nw)).setCell (p := ⟨w.heap.size, 1, none⟩) (Nat.le_refl _) (.int .i64 ns)).setCell (p := ⟨w.heap.size, 2, none⟩) (Nat.le_refl _) (.int .i64 na)).setCell (p := ⟨w.heap.size, 3, none⟩) (Nat.le_refl _) (.slice (some ⟨g2, 0, none⟩) nc.length cap2)
            have Hu := Lib.hid hu
            have Hlo := Lib.hid hlo
            have HBu := Lib.hid hBu
            clear hu hlo hBu hbN hTb hown2 hold hrdN hBw
            go_wp2
            go_roundw
            case rel => exact ⟨j + 1, ⟨nw, ns, na, nc⟩, some ⟨g2, 0, none⟩, cap2, by omega, by go_num, hKa, Hu.out, ownOf_rd Hlo.out, HBu.out⟩
            case measure => simp [intOf]; omega
    · have hjj : j = ps.length := by omega
      subst hjj
      have hBw := HT.out _ hB
      go_wp2_with (go_at_call 19; (with_reducible refine (ssane_any _ (HT.out _ hB)).mono ?_); rintro e w2 ⟨rfl, hw2⟩; have hB2 := hB.trans (hw2.mono hB.size))
      go_ret
      exact ⟨rfl, hB2⟩
end Go.Proofs.YtbgieephehfgpabDoor
