/-
  What the program's compress returns: the hash value after a block. Conditions: the block has 64 bytes, the tables are as the program's text lays them.
-/
import Derived.Test.YtbgieephehfgpabDoorArrays
import Derived.Deep.WholeRow
namespace Go.Proofs.YtbgieephehfgpabDoor
open Go Go.RowKit Sha
namespace Sha
def arr8 (s : S8) : Array Value := #[vW s.a, vW s.b, vW s.c, vW s.d, vW s.e, vW s.f, vW s.g, vW s.h]
theorem kons_kon : ∀ t : Fin 64, kons.getD t.1 0 = tI (kon t.1) := by decide
def arrV (s : S8) : Array Value := #[vW s.a, vW s.b, vW s.c, vW s.d]
def arrE (s : S8) : Array Value := #[vW s.e, vW s.f, vW s.g, vW s.h]
def konsV : List Value := kons.map (Value.int .u32)
theorem konsV_get (t : Nat) (h : t < 64) : konsV.toArray[t]? = some (.int .u32 (tI (kon t))) := by
  have e := kons_kon ⟨t, h⟩
  simp only at e
  rw [← e]
  have hl : kons.length = 64 := rfl
  unfold konsV
  simp [List.getD, hl, h]
theorem konsV_range (w : World) (hT : TabC w) : w.rangeAt 0 0 konsV := by
  intro j v hv
  have hl : kons.length = 64 := rfl
  have hj : j < 64 := by
    have h := (List.getElem?_eq_some_iff.1 hv).1
    unfold konsV at h
    rw [List.length_map, hl] at h
    exact h
  have h := hT.con j hj
  rw [Nat.zero_add, h, ← hv]
  unfold konsV
  simp [List.getD, hl, hj]
theorem ch_go (e f g : W) : bits .xor .u32 (tI (wand e f)) (tI (wand (wnot e) g)) = tI (ch e f g) := xor_go _ _
theorem maj_go (a b c : W) : bits .xor .u32 (tI (wxor (wand a b) (wand a c))) (tI (wand b c)) = tI (maj a b c) := xor_go _ _
theorem x_go (k w : W) (s : S8) : (tI s.h + tI (mix s.e 6 11 25) + tI (ch s.e s.f s.g) + tI k + tI w) % 4294967296 = tI (xOf k w s) := by
  unfold xOf
  rw [← add_go, ← add_go, ← add_go, ← add_go]
  omega
theorem y_go (s : S8) : (tI (mix s.a 2 13 22) + tI (maj s.a s.b s.c)) % 4294967296 = tI (yOf s) := add_go _ _
/-- the hash value when n words of each half have been added -/
def addP (n : Nat) (s r : S8) : S8 := ⟨if 0 < n then wadd s.a r.a else s.a, if 1 < n then wadd s.b r.b else s.b, if 2 < n then wadd s.c r.c else s.c, if 3 < n then wadd s.d r.d else s.d, if 0 < n then wadd s.e r.e else s.e, if 1 < n then wadd s.f r.f else s.f, if 2 < n then wadd s.g r.g else s.g, if 3 < n then wadd s.h r.h else s.h⟩
theorem arr8_one (s : S8) : (arr8 s).all (·.oneCell') = true := by
  obtain ⟨a, b, c, d, e, f, g, h⟩ := s
  rw [show arr8 ⟨a, b, c, d, e, f, g, h⟩ = [vW a, vW b, vW c, vW d, vW e, vW f, vW g, vW h].toArray from rfl, List.all_toArray]
  rfl
theorem konsV_len : konsV.length = 64 := rfl
end Sha
set_option maxRecDepth 100000 in
set_option maxHeartbeats 4000000 in
theorem comp_any (s : S8) (b off cap : Nat) (l : List UInt8) (w : World) (hc : 64 ≤ cap) (hb : b < w.heap.size) (hcell : ∀ i, i < 64 → w.cell? ⟨b, off + i, none⟩ = some (mkB (l.getD i 0))) (hT : TabC w) :
    Calls Tryd.prog 64 #[.agg (arr8 s), .slice (some ⟨b, off, none⟩) 64 cap] w fun e w' => e = .returned (.agg (arr8 (comp s l))) ∧ Below w.heap.size w w' := by
  obtain ⟨sa, sb, sc, sd, se, sf, sg, sh⟩ := s
  obtain ⟨ws, hws⟩ : ∃ ws, ws = sched l 64 := ⟨_, rfl⟩
  have hwl : ws.length = 64 := by rw [hws, sched_len]
  have Hws := Lib.hid hws
  have Hwl := Lib.hid hwl
  clear hws hwl
  go_enter Tryd.func64, Tryd.ntmps64
  go_wp2_with fail
  with_reducible refine (sched_as ws b off cap l _ Hws hc ?hb ?hcell).mono ?_
  case hb => simp; omega
  case hcell =>
    intro i hi
    rw [World.cell?_alloc_lt _ _ ⟨b, off + i, none⟩ (by simp; omega), World.cell?_alloc_lt _ _ ⟨b, off + i, none⟩ hb]
    exact hcell i hi
  rintro e w1 ⟨rfl, hw1⟩
  obtain ⟨hB0, hs1, hr1, hz1⟩ := after2 hw1
  have hT1 := hT.below hB0
  clear hw1 hcell hc hb hT
  have hi : (Tryd.prog.info? 107).map (·.size) = some (Arr ws).size := by rw [info64, Arr_size _ (by rw [Hwl.out]; omega)]
  have hsz : Hid (64 = (Arr ws).size) := (Arr_size ws (by rw [Hwl.out]; omega)).symm
  go_wp2_with ((with_reducible refine wpList_store_row rfl 107 (.tmp 5) (.tmp 14) rfl w1.heap.size (Arr ws) rfl rfl 107 _ (heap_alloc_new _ _) hi ?_ (Arr_one _) ?_); exact hsz.out; rw [World.setRow_alloc_new]; simp only [Act.put])
  have hw2 := blk_new w1 (Arr ws) 107
  have hs2 := blk_alloc hs1 (.cells (Arr ws) 107)
  have hr2 := blk_alloc hr1 (.cells (Arr ws) 107)
  have hB2 : Below w.heap.size w (w1.alloc (.cells (Arr ws) 107)) := hB0.alloc (by omega) _
  have hT2 := hT1.alloc (.cells (Arr ws) 107)
  generalize w1.alloc (.cells (Arr ws) 107) = w2 at *
  clear hs1 hr1 hB0 hT1
  have hN2 : w1.heap.size < w2.heap.size := blk_lt hw2
  generalize w1.heap.size = N at *
  have hz2 : w.heap.size < w2.heap.size := blk_lt hs2
  have harr : ∀ W a c, (Instr.arrayAt 109 (.slice a 4 c)).run Tryd.prog W = .ok (.pointer a) W := fun W a c => run_arrayAt W _ _ 4 4 c a Tryd.underlying109 (Nat.le_refl _)
  go_cut [6, 7] (fun s6 s7 wx => ∃ b6 b7 : Nat, s6 = .pointer (some ⟨b6, 0, none⟩) ∧ s7 = .pointer (some ⟨b7, 0, none⟩) ∧ b6 ≠ b7 ∧ w2.heap.size ≤ b6 ∧ w2.heap.size ≤ b7 ∧ Blk wx b6 (arrV ⟨sa, sb, sc, sd, se, sf, sg, sh⟩) 109 ∧ Blk wx b7 (arrE ⟨sa, sb, sc, sd, se, sf, sg, sh⟩) 109 ∧ Below w2.heap.size w2 wx)
  case first =>
    have c0 := blk_cell hs2 0
    have c1 := blk_cell hs2 1
    have c2 := blk_cell hs2 2
    have c3 := blk_cell hs2 3
    have c4 := blk_cell hs2 4
    have c5 := blk_cell hs2 5
    have c6 := blk_cell hs2 6
    have c7 := blk_cell hs2 7
    simp [arr8, vW] at c0 c1 c2 c3 c4 c5 c6 c7
    go_region
    all_goals
      go_wp2_with fail
      go_meet
      first | exact ⟨w2.heap.size, w2.heap.size + 1, rfl, rfl, by omega, by omega, by omega, blk_drew (blk_alloc (blk_new w2 _ _) _), blk_drew (blk_new2 w2 _ _ _), (((Below.refl _ _).alloc (Nat.le_refl _) _).alloc (by simp) _).drew⟩ | exact ⟨w2.heap.size + 1, w2.heap.size, rfl, rfl, by omega, by omega, by omega, blk_drew (blk_new2 w2 _ _ _), blk_drew (blk_alloc (blk_new w2 _ _) _), (((Below.refl _ _).alloc (Nat.le_refl _) _).alloc (by simp) _).drew⟩
  case rest =>
    obtain ⟨b6, b7, rfl, rfl, hne, hl6, hl7, hv, he, hB3⟩ := hcut
    have hs3 := blk_kept hs2 hB3
    have hr3 := blk_kept hr2 hB3
    have hw3 := blk_kept hw2 hB3
    have hT3 := hT2.below hB3
    have hB4 := hB2.trans (hB3.mono (by omega))
    have hrg := konsV_range wc hT3
    have hki : (Tryd.prog.info? 107).map (·.size) = some konsV.length := info64
    clear hs2 hr2 hw2 hT2 hB2 hB3 hsz hi harr
    go_wp2_with (with_reducible refine wpList_load_mid rfl 107 (.global 0) rfl 0 0 rfl konsV _ hrg Tryd.underlying107 rfl hki ?_)
    go_loopw [22] (fun i wr => ∃ t : Nat, t ≤ 64 ∧ i = .int .i64 (t : Int) ∧ Blk wr b6 (arrV (rounds ws ⟨sa, sb, sc, sd, se, sf, sg, sh⟩ t)) 109 ∧ Blk wr b7 (arrE (rounds ws ⟨sa, sb, sc, sd, se, sf, sg, sh⟩ t)) 109 ∧ Blk wr N (Arr ws) 107 ∧ Blk wr w.heap.size (arr8 ⟨sa, sb, sc, sd, se, sf, sg, sh⟩) 66 ∧ Blk wr (w.heap.size + 1) (List.replicate 8 (Value.int .u32 0)).toArray 66 ∧ Below w.heap.size w wr) (fun i _ => 64 - (intOf i).toNat)
    case atStart => exact ⟨0, by omega, rfl, hv, he, hw3, hs3, hr3, hB4⟩
    case round =>
      obtain ⟨t, ht, rfl, hv', he', hw', hs', hr', hB'⟩ := hrel
      clear hv he hs3 hr3 hw3 hB4 hT3 hrg
      by_cases h64 : t < 64
      · have d64 : decide ((t : Int) < 64) = true := by simp; omega
        have hk := fun W => run_index_arr (P := Tryd.prog) W 107 65 64 konsV.toArray .i64 t _ _ Tryd.underlying107 h64 Tryd.underlying65 rfl (by kernel_rfl) (konsV_get t h64)
        have hrs : rounds ws ⟨sa, sb, sc, sd, se, sf, sg, sh⟩ (t + 1) = rnd (kon t) (ws.getD t 0#32) (rounds ws ⟨sa, sb, sc, sd, se, sf, sg, sh⟩ t) := rfl
        have cw : wr.cell? ⟨N, t, none⟩ = some (.int .u32 (tI (ws.getD t 0#32))) := (blk_cell hw' t).trans (Arr_get _ _ (by rw [Hwl.out]; omega))
        generalize rounds ws ⟨sa, sb, sc, sd, se, sf, sg, sh⟩ t = r at *
        obtain ⟨ra, rb, rc, rd, re, rf, rg, rh⟩ := r
        generalize ws.getD t 0#32 = wt at *
        generalize kon t = kt at *
        have ca := blk_cell hv' 0
        have cb := blk_cell hv' 1
        have cc := blk_cell hv' 2
        have cd := blk_cell hv' 3
        have ce := blk_cell he' 0
        have cf := blk_cell he' 1
        have cg := blk_cell he' 2
        have cx := blk_cell he' 3
        simp [arrV, arrE, vW] at ca cb cc cd ce cf cg cx
        have n1 := and_go re rf
        have n2 := not_go re
        have n3 := and_go (wnot re) rg
        have n4 := ch_go re rf rg
        have n5 : (tI rh + tI (mix re 6 11 25) + tI (ch re rf rg) + tI kt + tI wt) % 4294967296 = tI (xOf kt wt ⟨ra, rb, rc, rd, re, rf, rg, rh⟩) := x_go kt wt ⟨ra, rb, rc, rd, re, rf, rg, rh⟩
        have m1 := and_go ra rb
        have m2 := and_go ra rc
        have m3 := and_go rb rc
        have m4 := xor_go (wand ra rb) (wand ra rc)
        have m5 := maj_go ra rb rc
        have m6 : (tI (mix ra 2 13 22) + tI (maj ra rb rc)) % 4294967296 = tI (yOf ⟨ra, rb, rc, rd, re, rf, rg, rh⟩) := y_go ⟨ra, rb, rc, rd, re, rf, rg, rh⟩
        rw [rnd] at hrs
        generalize xOf kt wt ⟨ra, rb, rc, rd, re, rf, rg, rh⟩ = X at *
        generalize yOf ⟨ra, rb, rc, rd, re, rf, rg, rh⟩ = Y at *
        have p1 := add_go rd X
        have p2 := add_go X Y
        have Hrs := Lib.hid hrs
        clear hrs
        go_wp2
        go_quiet ((go_at_call 74; exact Calls.quiet_of_same ((mix_any re 6 11 25 _ (by omega) (by omega) (by omega) (by omega) (by omega) (by omega)).mono fun _ _ ⟨h1, h2⟩ => ⟨h1, h2.symm⟩)))
        go_wp2
        generalize hq : wr.drewN nq = wq
        have hv2 : Blk wq b6 (arrV ⟨ra, rb, rc, rd, re, rf, rg, rh⟩) 109 := by rw [← hq]; exact hv'
        have he2 : Blk wq b7 (arrE ⟨ra, rb, rc, rd, re, rf, rg, rh⟩) 109 := by rw [← hq]; exact he'
        have hw2 : Blk wq N (Arr ws) 107 := by rw [← hq]; exact hw'
        have hs2 : Blk wq w.heap.size (arr8 ⟨sa, sb, sc, sd, se, sf, sg, sh⟩) 66 := by rw [← hq]; exact hs'
        have hr2 : Blk wq (w.heap.size + 1) (List.replicate 8 (Value.int .u32 0)).toArray 66 := by rw [← hq]; exact hr'
        have hB2 : Below w.heap.size w wq := by rw [← hq]; exact hB'.trans ⟨rfl, rfl, rfl, Nat.le_refl _, fun _ _ => rfl⟩
        clear hq hv' he' hw' hs' hr' hB' ca cb cc cd ce cf cg cx cw n1 n2 n3 n4 n5
        have ca := blk_cell hv2 0
        have cb := blk_cell hv2 1
        have cc := blk_cell hv2 2
        have cd := blk_cell hv2 3
        have ce := blk_cell he2 0
        have cf := blk_cell he2 1
        have cg := blk_cell he2 2
        simp [arrV, arrE, vW] at ca cb cc cd ce cf cg
        go_quiet ((go_at_call 74; exact Calls.quiet_of_same ((mix_any ra 2 13 22 _ (by omega) (by omega) (by omega) (by omega) (by omega) (by omega)).mono fun _ _ ⟨h1, h2⟩ => ⟨h1, h2.symm⟩)))
        simp only [m6]
        have hv3 : Blk (wq.drewN nq) b6 (arrV ⟨ra, rb, rc, rd, re, rf, rg, rh⟩) 109 := hv2
        have he3 : Blk (wq.drewN nq) b7 (arrE ⟨ra, rb, rc, rd, re, rf, rg, rh⟩) 109 := he2
        have hw3 : Blk (wq.drewN nq) N (Arr ws) 107 := hw2
        have hs3 : Blk (wq.drewN nq) w.heap.size (arr8 ⟨sa, sb, sc, sd, se, sf, sg, sh⟩) 66 := hs2
        have hr3 : Blk (wq.drewN nq) (w.heap.size + 1) (List.replicate 8 (Value.int .u32 0)).toArray 66 := hr2
        have hB3 : Below w.heap.size w (wq.drewN nq) := hB2.trans ⟨rfl, rfl, rfl, Nat.le_refl _, fun _ _ => rfl⟩
        generalize wq.drewN nq = wz at *
        clear hv2 he2 hw2 hs2 hr2 hB2 ca cb cc cd ce cf cg m1 m2 m3 m4 m5 m6
        have ca := blk_cell hv3 0
        have cb := blk_cell hv3 1
        have cc := blk_cell hv3 2
        have cd := blk_cell hv3 3
        have ce := blk_cell he3 0
        have cf := blk_cell he3 1
        have cg := blk_cell he3 2
        simp [arrV, arrE, vW] at ca cb cc cd ce cf cg
        have i4 : (Tryd.prog.info? 109).map (·.size) = some 4 := by kernel_rfl
        have hne' : ¬ b6 = b7 := hne
        have hv4 := blk_setRow_far hv3 b7 hne #[.int .u32 (tI (wadd rd X)), .int .u32 (tI re), .int .u32 (tI rf), .int .u32 (tI rg)]
        have da := (blk_cell hv4 0).trans (show _ = some (.int .u32 (tI ra)) from rfl)
        have db := (blk_cell hv4 1).trans (show _ = some (.int .u32 (tI rb)) from rfl)
        have dc := (blk_cell hv4 2).trans (show _ = some (.int .u32 (tI rc)) from rfl)
        have i4e : Hid ((Tryd.prog.info? 109).map (·.size) = some (#[.int .u32 (tI (wadd rd X)), .int .u32 (tI re), .int .u32 (tI rf), .int .u32 (tI rg)] : Array Value).size) := i4
        have i4v : Hid ((Tryd.prog.info? 109).map (·.size) = some (#[.int .u32 (tI (wadd X Y)), .int .u32 (tI ra), .int .u32 (tI rb), .int .u32 (tI rc)] : Array Value).size) := i4
        have z1 : Hid ((arrE ⟨ra, rb, rc, rd, re, rf, rg, rh⟩).size = (#[.int .u32 (tI (wadd rd X)), .int .u32 (tI re), .int .u32 (tI rf), .int .u32 (tI rg)] : Array Value).size) := rfl
        have z2 : Hid ((arrV ⟨ra, rb, rc, rd, re, rf, rg, rh⟩).size = (#[.int .u32 (tI (wadd X Y)), .int .u32 (tI ra), .int .u32 (tI rb), .int .u32 (tI rc)] : Array Value).size) := rfl
        have o1 : Hid ((#[.int .u32 (tI (wadd rd X)), .int .u32 (tI re), .int .u32 (tI rf), .int .u32 (tI rg)] : Array Value).all (·.oneCell') = true) := all4 _ _ _ _ _
        have o2 : Hid ((#[.int .u32 (tI (wadd X Y)), .int .u32 (tI ra), .int .u32 (tI rb), .int .u32 (tI rc)] : Array Value).all (·.oneCell') = true) := all4 _ _ _ _ _
        go_wp2_with (first | (with_reducible refine wpList_store_row rfl 109 (.tmp 7) (.tmp 82) rfl b7 #[.int .u32 (tI (wadd rd X)), .int .u32 (tI re), .int .u32 (tI rf), .int .u32 (tI rg)] rfl rfl 109 _ he3 i4e.out z1.out o1.out ?_) | (with_reducible refine wpList_store_row rfl 109 (.tmp 6) (.tmp 92) rfl b6 #[.int .u32 (tI (wadd X Y)), .int .u32 (tI ra), .int .u32 (tI rb), .int .u32 (tI rc)] rfl rfl 109 _ hv4 i4v.out z2.out o2.out ?_))
        go_roundw
        case rel => exact ⟨t + 1, by omega, by go_num, by rw [Hrs.out]; exact blk_setRow hv4 _, by rw [Hrs.out]; exact blk_setRow_far (blk_setRow he3 _) b6 (Ne.symm hne) _, blk_setRow_far (blk_setRow_far hw3 b7 (by omega) _) b6 (by omega) _, blk_setRow_far (blk_setRow_far hs3 b7 (by omega) _) b6 (by omega) _, blk_setRow_far (blk_setRow_far hr3 b7 (by omega) _) b6 (by omega) _, below_setRow (below_setRow hB3 (by omega) _) (by omega) _⟩
        case measure => simp [intOf]; omega
      · obtain rfl : t = 64 := by omega
        have hcomp : comp ⟨sa, sb, sc, sd, se, sf, sg, sh⟩ l = add8 ⟨sa, sb, sc, sd, se, sf, sg, sh⟩ (rounds ws ⟨sa, sb, sc, sd, se, sf, sg, sh⟩ 64) := by rw [comp, Hws.out]
        generalize rounds ws ⟨sa, sb, sc, sd, se, sf, sg, sh⟩ 64 = r at *
        have Hcomp := Lib.hid hcomp
        clear hcomp hw' h64 hki
        go_wp2
        go_loopw [94] (fun i wx => ∃ n : Nat, n ≤ 4 ∧ i = .int .i64 (n : Int) ∧ Blk wx b6 (arrV r) 109 ∧ Blk wx b7 (arrE r) 109 ∧ Blk wx w.heap.size (arr8 (addP n ⟨sa, sb, sc, sd, se, sf, sg, sh⟩ r)) 66 ∧ Blk wx (w.heap.size + 1) (List.replicate 8 (Value.int .u32 0)).toArray 66 ∧ Below w.heap.size w wx) (fun i _ => 4 - (intOf i).toNat)
        case atStart => exact ⟨0, by omega, rfl, hv', he', hs', hr', hB'⟩
        case round =>
          obtain ⟨n, hn, rfl, gv, ge, gs, gr, gB⟩ := hrel
          obtain ⟨ra, rb, rc, rd, re, rf, rg, rh⟩ := r
          by_cases h4 : n < 4
          · have hor : n = 0 ∨ n = 1 ∨ n = 2 ∨ n = 3 := by omega
            clear h4 hn
            rcases hor with rfl | rfl | rfl | rfl
            · have k1 := blk_cell gs 0
              have k2 := blk_cell gs 4
              have k3 := blk_cell gv 0
              have k4 := blk_cell ge 0
              have f1 := blk_free gs 0
              have f2 := blk_free gs 4
              simp [arr8, addP, arrV, arrE, vW] at k1 k2 k3 k4
              have q1 := add_go sa ra
              have q2 := add_go se re
              have n6 : ¬ b6 = w.heap.size := by omega
              have n7 : ¬ b7 = w.heap.size := by omega
              have hset : Blk ((wr.setCell ⟨w.heap.size, 0, none⟩ (vW (wadd sa ra))).setCell ⟨w.heap.size, 4, none⟩ (vW (wadd se re))) w.heap.size (arr8 (addP 1 ⟨sa, sb, sc, sd, se, sf, sg, sh⟩ ⟨ra, rb, rc, rd, re, rf, rg, rh⟩)) 66 := blk_set (blk_set gs 0 _) 4 _
              have hfar6 := blk_far (blk_far gv (p := ⟨w.heap.size, 0, none⟩) n6 (vW (wadd sa ra))) (p := ⟨w.heap.size, 4, none⟩) n6 (vW (wadd se re))
              have hfar7 := blk_far (blk_far ge (p := ⟨w.heap.size, 0, none⟩) n7 (vW (wadd sa ra))) (p := ⟨w.heap.size, 4, none⟩) n7 (vW (wadd se re))
              have hfarr := blk_far (blk_far gr (p := ⟨w.heap.size, 0, none⟩) (by simp) (vW (wadd sa ra))) (p := ⟨w.heap.size, 4, none⟩) (by simp) (vW (wadd se re))
              have hBf := (gB.setCell (p := ⟨w.heap.size, 0, none⟩) (Nat.le_refl _) (vW (wadd sa ra))).setCell (p := ⟨w.heap.size, 4, none⟩) (Nat.le_refl _) (vW (wadd se re))
              have Hset := Lib.hid hset
              have Hf6 := Lib.hid hfar6
              have Hf7 := Lib.hid hfar7
              have Hfr := Lib.hid hfarr
              clear hset hfar6 hfar7 hfarr
              go_wp2
              go_region
              go_wp2
              go_region
              go_wp2
              go_roundw
              case rel => exact ⟨1, by omega, by go_num, Hf6.out, Hf7.out, Hset.out, Hfr.out, hBf.trans ⟨rfl, rfl, rfl, Nat.le_refl _, fun _ _ => rfl⟩⟩
              case measure => simp [intOf]
            · have k1 := blk_cell gs 1
              have k2 := blk_cell gs 5
              have k3 := blk_cell gv 1
              have k4 := blk_cell ge 1
              have f1 := blk_free gs 1
              have f2 := blk_free gs 5
              simp [arr8, addP, arrV, arrE, vW] at k1 k2 k3 k4
              have q1 := add_go sb rb
              have q2 := add_go sf rf
              have n6 : ¬ b6 = w.heap.size := by omega
              have n7 : ¬ b7 = w.heap.size := by omega
              have hset : Blk ((wr.setCell ⟨w.heap.size, 1, none⟩ (vW (wadd sb rb))).setCell ⟨w.heap.size, 5, none⟩ (vW (wadd sf rf))) w.heap.size (arr8 (addP 2 ⟨sa, sb, sc, sd, se, sf, sg, sh⟩ ⟨ra, rb, rc, rd, re, rf, rg, rh⟩)) 66 := blk_set (blk_set gs 1 _) 5 _
              have hfar6 := blk_far (blk_far gv (p := ⟨w.heap.size, 1, none⟩) n6 (vW (wadd sb rb))) (p := ⟨w.heap.size, 5, none⟩) n6 (vW (wadd sf rf))
              have hfar7 := blk_far (blk_far ge (p := ⟨w.heap.size, 1, none⟩) n7 (vW (wadd sb rb))) (p := ⟨w.heap.size, 5, none⟩) n7 (vW (wadd sf rf))
              have hfarr := blk_far (blk_far gr (p := ⟨w.heap.size, 1, none⟩) (by simp) (vW (wadd sb rb))) (p := ⟨w.heap.size, 5, none⟩) (by simp) (vW (wadd sf rf))
              have hBf := (gB.setCell (p := ⟨w.heap.size, 1, none⟩) (Nat.le_refl _) (vW (wadd sb rb))).setCell (p := ⟨w.heap.size, 5, none⟩) (Nat.le_refl _) (vW (wadd sf rf))
              have Hset := Lib.hid hset
              have Hf6 := Lib.hid hfar6
              have Hf7 := Lib.hid hfar7
              have Hfr := Lib.hid hfarr
              clear hset hfar6 hfar7 hfarr
              go_wp2
              go_region
              go_wp2
              go_region
              go_wp2
              go_roundw
              case rel => exact ⟨2, by omega, by go_num, Hf6.out, Hf7.out, Hset.out, Hfr.out, hBf.trans ⟨rfl, rfl, rfl, Nat.le_refl _, fun _ _ => rfl⟩⟩
              case measure => simp [intOf]
            · have k1 := blk_cell gs 2
              have k2 := blk_cell gs 6
              have k3 := blk_cell gv 2
              have k4 := blk_cell ge 2
              have f1 := blk_free gs 2
              have f2 := blk_free gs 6
              simp [arr8, addP, arrV, arrE, vW] at k1 k2 k3 k4
              have q1 := add_go sc rc
              have q2 := add_go sg rg
              have n6 : ¬ b6 = w.heap.size := by omega
              have n7 : ¬ b7 = w.heap.size := by omega
              have hset : Blk ((wr.setCell ⟨w.heap.size, 2, none⟩ (vW (wadd sc rc))).setCell ⟨w.heap.size, 6, none⟩ (vW (wadd sg rg))) w.heap.size (arr8 (addP 3 ⟨sa, sb, sc, sd, se, sf, sg, sh⟩ ⟨ra, rb, rc, rd, re, rf, rg, rh⟩)) 66 := blk_set (blk_set gs 2 _) 6 _
              have hfar6 := blk_far (blk_far gv (p := ⟨w.heap.size, 2, none⟩) n6 (vW (wadd sc rc))) (p := ⟨w.heap.size, 6, none⟩) n6 (vW (wadd sg rg))
              have hfar7 := blk_far (blk_far ge (p := ⟨w.heap.size, 2, none⟩) n7 (vW (wadd sc rc))) (p := ⟨w.heap.size, 6, none⟩) n7 (vW (wadd sg rg))
              have hfarr := blk_far (blk_far gr (p := ⟨w.heap.size, 2, none⟩) (by simp) (vW (wadd sc rc))) (p := ⟨w.heap.size, 6, none⟩) (by simp) (vW (wadd sg rg))
              have hBf := (gB.setCell (p := ⟨w.heap.size, 2, none⟩) (Nat.le_refl _) (vW (wadd sc rc))).setCell (p := ⟨w.heap.size, 6, none⟩) (Nat.le_refl _) (vW (wadd sg rg))
              have Hset := Lib.hid hset
              have Hf6 := Lib.hid hfar6
              have Hf7 := Lib.hid hfar7
              have Hfr := Lib.hid hfarr
              clear hset hfar6 hfar7 hfarr
              go_wp2
              go_region
              go_wp2
              go_region
              go_wp2
              go_roundw
              case rel => exact ⟨3, by omega, by go_num, Hf6.out, Hf7.out, Hset.out, Hfr.out, hBf.trans ⟨rfl, rfl, rfl, Nat.le_refl _, fun _ _ => rfl⟩⟩
              case measure => simp [intOf]
            · have k1 := blk_cell gs 3
              have k2 := blk_cell gs 7
              have k3 := blk_cell gv 3
              have k4 := blk_cell ge 3
              have f1 := blk_free gs 3
              have f2 := blk_free gs 7
              simp [arr8, addP, arrV, arrE, vW] at k1 k2 k3 k4
              have q1 := add_go sd rd
              have q2 := add_go sh rh
              have n6 : ¬ b6 = w.heap.size := by omega
              have n7 : ¬ b7 = w.heap.size := by omega
              have hset : Blk ((wr.setCell ⟨w.heap.size, 3, none⟩ (vW (wadd sd rd))).setCell ⟨w.heap.size, 7, none⟩ (vW (wadd sh rh))) w.heap.size (arr8 (addP 4 ⟨sa, sb, sc, sd, se, sf, sg, sh⟩ ⟨ra, rb, rc, rd, re, rf, rg, rh⟩)) 66 := blk_set (blk_set gs 3 _) 7 _
              have hfar6 := blk_far (blk_far gv (p := ⟨w.heap.size, 3, none⟩) n6 (vW (wadd sd rd))) (p := ⟨w.heap.size, 7, none⟩) n6 (vW (wadd sh rh))
              have hfar7 := blk_far (blk_far ge (p := ⟨w.heap.size, 3, none⟩) n7 (vW (wadd sd rd))) (p := ⟨w.heap.size, 7, none⟩) n7 (vW (wadd sh rh))
              have hfarr := blk_far (blk_far gr (p := ⟨w.heap.size, 3, none⟩) (by simp) (vW (wadd sd rd))) (p := ⟨w.heap.size, 7, none⟩) (by simp) (vW (wadd sh rh))
              have hBf := (gB.setCell (p := ⟨w.heap.size, 3, none⟩) (Nat.le_refl _) (vW (wadd sd rd))).setCell (p := ⟨w.heap.size, 7, none⟩) (Nat.le_refl _) (vW (wadd sh rh))
              have Hset := Lib.hid hset
              have Hf6 := Lib.hid hfar6
              have Hf7 := Lib.hid hfar7
              have Hfr := Lib.hid hfarr
              clear hset hfar6 hfar7 hfarr
              go_wp2
              go_region
              go_wp2
              go_region
              go_wp2
              go_roundw
              case rel => exact ⟨4, by omega, by go_num, Hf6.out, Hf7.out, Hset.out, Hfr.out, hBf.trans ⟨rfl, rfl, rfl, Nat.le_refl _, fun _ _ => rfl⟩⟩
              case measure => simp [intOf]
          · obtain rfl : n = 4 := by omega
            have i8 : Hid ((Tryd.prog.info? 66).map (·.size) = some (arr8 (addP 4 ⟨sa, sb, sc, sd, se, sf, sg, sh⟩ ⟨ra, rb, rc, rd, re, rf, rg, rh⟩)).size) := show (Tryd.prog.info? 66).map (·.size) = some 8 by kernel_rfl
            have z8 : Hid ((List.replicate 8 (Value.int .u32 0)).toArray.size = (arr8 (addP 4 ⟨sa, sb, sc, sd, se, sf, sg, sh⟩ ⟨ra, rb, rc, rd, re, rf, rg, rh⟩)).size) := rfl
            have o8 : Hid ((arr8 (addP 4 ⟨sa, sb, sc, sd, se, sf, sg, sh⟩ ⟨ra, rb, rc, rd, re, rf, rg, rh⟩)).all (·.oneCell') = true) := arr8_one _
            go_wp2_with (first | (with_reducible refine wpList_load_row rfl 66 (.tmp 2) rfl w.heap.size rfl 66 _ _ _ gs Tryd.underlying66 rfl i8.out ?_) | (with_reducible refine wpList_store_row rfl 66 (.tmp 4) (.tmp 115) rfl (w.heap.size + 1) (arr8 (addP 4 ⟨sa, sb, sc, sd, se, sf, sg, sh⟩ ⟨ra, rb, rc, rd, re, rf, rg, rh⟩)) rfl rfl 66 _ gr i8.out z8.out o8.out ?_))
            exact bodyPost_ret (v := .agg (arr8 (addP 4 ⟨sa, sb, sc, sd, se, sf, sg, sh⟩ ⟨ra, rb, rc, rd, re, rf, rg, rh⟩))) (results_cell_row Tryd.results64 _ _ (w.heap.size + 1) 66 _ _ _ rfl (blk_setRow gr _) Tryd.underlying66 rfl i8.out) rfl ⟨by rw [Hcomp.out]; rfl, below_setRow gB (by omega) _⟩
end Go.Proofs.YtbgieephehfgpabDoor
