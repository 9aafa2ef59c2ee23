/-
  Several texts of this proof in one: ShaComp, Stream, StreamAdd, Begin, Own, Pad, StreamSum, HashSum, PlainWire, Wire. Each states its own conditions.
-/
import Derived.Test.YtbgieephehfgpabDoorJB1
import Derived.Deep.WholeRow
import Derived.Lib.AppendStr
/-
  What the program's compress returns: the hash value after a block. Conditions: the block has 64 bytes, the tables are as the program's text lays them.
-/
namespace Go.Proofs.YtbgieephehfgpabDoor
open Go Go.RowKit Sha
namespace Sha
def arr8 (s : S8) : Array Value := #[vW s.a, vW s.b, vW s.c, vW s.d, vW s.e, vW s.f, vW s.g, vW s.h]
theorem kons_kon : ∀ t : Fin 64, kons.getD t.1 0 = tI (kon t.1) := by decide
def arrV (s : S8) : Array Value := #[vW s.a, vW s.b, vW s.c, vW s.d]
def arrE (s : S8) : Array Value := #[vW s.e, vW s.f, vW s.g, vW s.h]
def konsV : List Value := kons.map (Value.int .u32)
theorem konsV_get (t : Nat) (h : t < 64) : konsV.toArray[t]? = some (.int .u32 (tI (kon t))) := by
  have e := kons_kon ⟨t, h⟩
  simp only at e
  rw [← e]
  have hl : kons.length = 64 := rfl
  unfold konsV
  simp [List.getD, hl, h]
theorem konsV_range (w : World) (hT : TabC w) : w.rangeAt 0 0 konsV := by
  intro j v hv
  have hl : kons.length = 64 := rfl
  have hj : j < 64 := by
    have h := (List.getElem?_eq_some_iff.1 hv).1
    unfold konsV at h
    rw [List.length_map, hl] at h
    exact h
  have h := hT.con j hj
  rw [Nat.zero_add, h, ← hv]
  unfold konsV
  simp [List.getD, hl, hj]
theorem ch_go (e f g : W) : bits .xor .u32 (tI (wand e f)) (tI (wand (wnot e) g)) = tI (ch e f g) := xor_go _ _
theorem maj_go (a b c : W) : bits .xor .u32 (tI (wxor (wand a b) (wand a c))) (tI (wand b c)) = tI (maj a b c) := xor_go _ _
theorem x_go (k w : W) (s : S8) : (tI s.h + tI (mix s.e 6 11 25) + tI (ch s.e s.f s.g) + tI k + tI w) % 4294967296 = tI (xOf k w s) := by
  unfold xOf
  rw [← add_go, ← add_go, ← add_go, ← add_go]
  omega
theorem y_go (s : S8) : (tI (mix s.a 2 13 22) + tI (maj s.a s.b s.c)) % 4294967296 = tI (yOf s) := add_go _ _
/-- the hash value when n words of each half have been added -/
def addP (n : Nat) (s r : S8) : S8 := ⟨if 0 < n then wadd s.a r.a else s.a, if 1 < n then wadd s.b r.b else s.b, if 2 < n then wadd s.c r.c else s.c, if 3 < n then wadd s.d r.d else s.d, if 0 < n then wadd s.e r.e else s.e, if 1 < n then wadd s.f r.f else s.f, if 2 < n then wadd s.g r.g else s.g, if 3 < n then wadd s.h r.h else s.h⟩
theorem arr8_one (s : S8) : (arr8 s).all (·.oneCell') = true := by
  obtain ⟨a, b, c, d, e, f, g, h⟩ := s
  rw [show arr8 ⟨a, b, c, d, e, f, g, h⟩ = [vW a, vW b, vW c, vW d, vW e, vW f, vW g, vW h].toArray from rfl, List.all_toArray]
  rfl
theorem konsV_len : konsV.length = 64 := rfl
end Sha
set_option maxRecDepth 100000 in
set_option maxHeartbeats 4000000 in
theorem comp_any (s : S8) (b off cap : Nat) (l : List UInt8) (w : World) (hc : 64 ≤ cap) (hb : b < w.heap.size) (hcell : ∀ i, i < 64 → w.cell? ⟨b, off + i, none⟩ = some (mkB (l.getD i 0))) (hT : TabC w) :
    Calls Tryd.prog 64 #[.agg (arr8 s), .slice (some ⟨b, off, none⟩) 64 cap] w fun e w' => e = .returned (.agg (arr8 (comp s l))) ∧ Below w.heap.size w w' := by
  obtain ⟨sa, sb, sc, sd, se, sf, sg, sh⟩ := s
  obtain ⟨ws, hws⟩ : ∃ ws, ws = sched l 64 := ⟨_, rfl⟩
  have hwl : ws.length = 64 := by rw [hws, sched_len]
  have Hws := Lib.hid hws
  have Hwl := Lib.hid hwl
  clear hws hwl
  go_enter Tryd.func64, Tryd.ntmps64
  go_wp2_with fail
  with_reducible refine (sched_as ws b off cap l _ Hws hc ?hb ?hcell).mono ?_
  case hb => simp; omega
  case hcell =>
    intro i hi
    rw [World.cell?_alloc_lt _ _ ⟨b, off + i, none⟩ (by simp; omega), World.cell?_alloc_lt _ _ ⟨b, off + i, none⟩ hb]
    exact hcell i hi
  rintro e w1 ⟨rfl, hw1⟩
  obtain ⟨hB0, hs1, hr1, hz1⟩ := after2 hw1
  have hT1 := hT.below hB0
  clear hw1 hcell hc hb hT
  have hi : (Tryd.prog.info? 107).map (·.size) = some (Arr ws).size := by rw [info64, Arr_size _ (by rw [Hwl.out]; omega)]
  have hsz : Hid (64 = (Arr ws).size) := (Arr_size ws (by rw [Hwl.out]; omega)).symm
  go_wp2_with ((with_reducible refine wpList_store_row rfl 107 (.tmp 5) (.tmp 14) rfl w1.heap.size (Arr ws) rfl rfl 107 _ (heap_alloc_new _ _) hi ?_ (Arr_one _) ?_); exact hsz.out; rw [World.setRow_alloc_new]; simp only [Act.put])
  have hw2 := blk_new w1 (Arr ws) 107
  have hs2 := blk_alloc hs1 (.cells (Arr ws) 107)
  have hr2 := blk_alloc hr1 (.cells (Arr ws) 107)
  have hB2 : Below w.heap.size w (w1.alloc (.cells (Arr ws) 107)) := hB0.alloc (by omega) _
  have hT2 := hT1.alloc (.cells (Arr ws) 107)
  generalize w1.alloc (.cells (Arr ws) 107) = w2 at *
  clear hs1 hr1 hB0 hT1
  have hN2 : w1.heap.size < w2.heap.size := blk_lt hw2
  generalize w1.heap.size = N at *
  have hz2 : w.heap.size < w2.heap.size := blk_lt hs2
  have harr : ∀ W a c, (Instr.arrayAt 109 (.slice a 4 c)).run Tryd.prog W = .ok (.pointer a) W := fun W a c => run_arrayAt W _ _ 4 4 c a Tryd.underlying109 (Nat.le_refl _)
  go_cut [6, 7] (fun s6 s7 wx => ∃ b6 b7 : Nat, s6 = .pointer (some ⟨b6, 0, none⟩) ∧ s7 = .pointer (some ⟨b7, 0, none⟩) ∧ b6 ≠ b7 ∧ w2.heap.size ≤ b6 ∧ w2.heap.size ≤ b7 ∧ Blk wx b6 (arrV ⟨sa, sb, sc, sd, se, sf, sg, sh⟩) 109 ∧ Blk wx b7 (arrE ⟨sa, sb, sc, sd, se, sf, sg, sh⟩) 109 ∧ Below w2.heap.size w2 wx)
  case first =>
    have c0 := blk_cell hs2 0
    have c1 := blk_cell hs2 1
    have c2 := blk_cell hs2 2
    have c3 := blk_cell hs2 3
    have c4 := blk_cell hs2 4
    have c5 := blk_cell hs2 5
    have c6 := blk_cell hs2 6
    have c7 := blk_cell hs2 7
    simp [arr8, vW] at c0 c1 c2 c3 c4 c5 c6 c7
    go_region
    all_goals
      go_wp2_with fail
      go_meet
      first | exact ⟨w2.heap.size, w2.heap.size + 1, rfl, rfl, by omega, by omega, by omega, blk_drew (blk_alloc (blk_new w2 _ _) _), blk_drew (blk_new2 w2 _ _ _), (((Below.refl _ _).alloc (Nat.le_refl _) _).alloc (by simp) _).drew⟩ | exact ⟨w2.heap.size + 1, w2.heap.size, rfl, rfl, by omega, by omega, by omega, blk_drew (blk_new2 w2 _ _ _), blk_drew (blk_alloc (blk_new w2 _ _) _), (((Below.refl _ _).alloc (Nat.le_refl _) _).alloc (by simp) _).drew⟩
  case rest =>
    obtain ⟨b6, b7, rfl, rfl, hne, hl6, hl7, hv, he, hB3⟩ := hcut
    have hs3 := blk_kept hs2 hB3
    have hr3 := blk_kept hr2 hB3
    have hw3 := blk_kept hw2 hB3
    have hT3 := hT2.below hB3
    have hB4 := hB2.trans (hB3.mono (by omega))
    have hrg := konsV_range wc hT3
    have hki : (Tryd.prog.info? 107).map (·.size) = some konsV.length := info64
    clear hs2 hr2 hw2 hT2 hB2 hB3 hsz hi harr
    go_wp2_with (with_reducible refine wpList_load_mid rfl 107 (.global 0) rfl 0 0 rfl konsV _ hrg Tryd.underlying107 rfl hki ?_)
    go_loopw [22] (fun i wr => ∃ t : Nat, t ≤ 64 ∧ i = .int .i64 (t : Int) ∧ Blk wr b6 (arrV (rounds ws ⟨sa, sb, sc, sd, se, sf, sg, sh⟩ t)) 109 ∧ Blk wr b7 (arrE (rounds ws ⟨sa, sb, sc, sd, se, sf, sg, sh⟩ t)) 109 ∧ Blk wr N (Arr ws) 107 ∧ Blk wr w.heap.size (arr8 ⟨sa, sb, sc, sd, se, sf, sg, sh⟩) 66 ∧ Blk wr (w.heap.size + 1) (List.replicate 8 (Value.int .u32 0)).toArray 66 ∧ Below w.heap.size w wr) (fun i _ => 64 - (intOf i).toNat)
    case atStart => exact ⟨0, by omega, rfl, hv, he, hw3, hs3, hr3, hB4⟩
    case round =>
      obtain ⟨t, ht, rfl, hv', he', hw', hs', hr', hB'⟩ := hrel
      clear hv he hs3 hr3 hw3 hB4 hT3 hrg
      by_cases h64 : t < 64
      · have d64 : decide ((t : Int) < 64) = true := by simp; omega
        have hk := fun W => run_index_arr (P := Tryd.prog) W 107 65 64 konsV.toArray .i64 t _ _ Tryd.underlying107 h64 Tryd.underlying65 rfl (by kernel_rfl) (konsV_get t h64)
        have hrs : rounds ws ⟨sa, sb, sc, sd, se, sf, sg, sh⟩ (t + 1) = rnd (kon t) (ws.getD t 0#32) (rounds ws ⟨sa, sb, sc, sd, se, sf, sg, sh⟩ t) := rfl
        have cw : wr.cell? ⟨N, t, none⟩ = some (.int .u32 (tI (ws.getD t 0#32))) := (blk_cell hw' t).trans (Arr_get _ _ (by rw [Hwl.out]; omega))
        generalize rounds ws ⟨sa, sb, sc, sd, se, sf, sg, sh⟩ t = r at *
        obtain ⟨ra, rb, rc, rd, re, rf, rg, rh⟩ := r
        generalize ws.getD t 0#32 = wt at *
        generalize kon t = kt at *
        have ca := blk_cell hv' 0
        have cb := blk_cell hv' 1
        have cc := blk_cell hv' 2
        have cd := blk_cell hv' 3
        have ce := blk_cell he' 0
        have cf := blk_cell he' 1
        have cg := blk_cell he' 2
        have cx := blk_cell he' 3
        simp [arrV, arrE, vW] at ca cb cc cd ce cf cg cx
        have n1 := and_go re rf
        have n2 := not_go re
        have n3 := and_go (wnot re) rg
        have n4 := ch_go re rf rg
        have n5 : (tI rh + tI (mix re 6 11 25) + tI (ch re rf rg) + tI kt + tI wt) % 4294967296 = tI (xOf kt wt ⟨ra, rb, rc, rd, re, rf, rg, rh⟩) := x_go kt wt ⟨ra, rb, rc, rd, re, rf, rg, rh⟩
        have m1 := and_go ra rb
        have m2 := and_go ra rc
        have m3 := and_go rb rc
        have m4 := xor_go (wand ra rb) (wand ra rc)
        have m5 := maj_go ra rb rc
        have m6 : (tI (mix ra 2 13 22) + tI (maj ra rb rc)) % 4294967296 = tI (yOf ⟨ra, rb, rc, rd, re, rf, rg, rh⟩) := y_go ⟨ra, rb, rc, rd, re, rf, rg, rh⟩
        rw [rnd] at hrs
        generalize xOf kt wt ⟨ra, rb, rc, rd, re, rf, rg, rh⟩ = X at *
        generalize yOf ⟨ra, rb, rc, rd, re, rf, rg, rh⟩ = Y at *
        have p1 := add_go rd X
        have p2 := add_go X Y
        have Hrs := Lib.hid hrs
        clear hrs
        go_wp2
        go_quiet ((go_at_call 74; exact Calls.quiet_of_same ((mix_any re 6 11 25 _ (by omega) (by omega) (by omega) (by omega) (by omega) (by omega)).mono fun _ _ ⟨h1, h2⟩ => ⟨h1, h2.symm⟩)))
        go_wp2
        generalize hq : wr.drewN nq = wq
        have hv2 : Blk wq b6 (arrV ⟨ra, rb, rc, rd, re, rf, rg, rh⟩) 109 := by rw [← hq]; exact hv'
        have he2 : Blk wq b7 (arrE ⟨ra, rb, rc, rd, re, rf, rg, rh⟩) 109 := by rw [← hq]; exact he'
        have hw2 : Blk wq N (Arr ws) 107 := by rw [← hq]; exact hw'
        have hs2 : Blk wq w.heap.size (arr8 ⟨sa, sb, sc, sd, se, sf, sg, sh⟩) 66 := by rw [← hq]; exact hs'
        have hr2 : Blk wq (w.heap.size + 1) (List.replicate 8 (Value.int .u32 0)).toArray 66 := by rw [← hq]; exact hr'
        have hB2 : Below w.heap.size w wq := by rw [← hq]; exact hB'.trans ⟨rfl, rfl, rfl, Nat.le_refl _, fun _ _ => rfl⟩
        clear hq hv' he' hw' hs' hr' hB' ca cb cc cd ce cf cg cx cw n1 n2 n3 n4 n5
        have ca := blk_cell hv2 0
        have cb := blk_cell hv2 1
        have cc := blk_cell hv2 2
        have cd := blk_cell hv2 3
        have ce := blk_cell he2 0
        have cf := blk_cell he2 1
        have cg := blk_cell he2 2
        simp [arrV, arrE, vW] at ca cb cc cd ce cf cg
        go_quiet ((go_at_call 74; exact Calls.quiet_of_same ((mix_any ra 2 13 22 _ (by omega) (by omega) (by omega) (by omega) (by omega) (by omega)).mono fun _ _ ⟨h1, h2⟩ => ⟨h1, h2.symm⟩)))
        simp only [m6]
        have hv3 : Blk (wq.drewN nq) b6 (arrV ⟨ra, rb, rc, rd, re, rf, rg, rh⟩) 109 := hv2
        have he3 : Blk (wq.drewN nq) b7 (arrE ⟨ra, rb, rc, rd, re, rf, rg, rh⟩) 109 := he2
        have hw3 : Blk (wq.drewN nq) N (Arr ws) 107 := hw2
        have hs3 : Blk (wq.drewN nq) w.heap.size (arr8 ⟨sa, sb, sc, sd, se, sf, sg, sh⟩) 66 := hs2
        have hr3 : Blk (wq.drewN nq) (w.heap.size + 1) (List.replicate 8 (Value.int .u32 0)).toArray 66 := hr2
        have hB3 : Below w.heap.size w (wq.drewN nq) := hB2.trans ⟨rfl, rfl, rfl, Nat.le_refl _, fun _ _ => rfl⟩
        generalize wq.drewN nq = wz at *
        clear hv2 he2 hw2 hs2 hr2 hB2 ca cb cc cd ce cf cg m1 m2 m3 m4 m5 m6
        have ca := blk_cell hv3 0
        have cb := blk_cell hv3 1
        have cc := blk_cell hv3 2
        have cd := blk_cell hv3 3
        have ce := blk_cell he3 0
        have cf := blk_cell he3 1
        have cg := blk_cell he3 2
        simp [arrV, arrE, vW] at ca cb cc cd ce cf cg
        have i4 : (Tryd.prog.info? 109).map (·.size) = some 4 := by kernel_rfl
        have hne' : ¬ b6 = b7 := hne
        have hv4 := blk_setRow_far hv3 b7 hne #[.int .u32 (tI (wadd rd X)), .int .u32 (tI re), .int .u32 (tI rf), .int .u32 (tI rg)]
        have da := (blk_cell hv4 0).trans (show _ = some (.int .u32 (tI ra)) from rfl)
        have db := (blk_cell hv4 1).trans (show _ = some (.int .u32 (tI rb)) from rfl)
        have dc := (blk_cell hv4 2).trans (show _ = some (.int .u32 (tI rc)) from rfl)
        have i4e : Hid ((Tryd.prog.info? 109).map (·.size) = some (#[.int .u32 (tI (wadd rd X)), .int .u32 (tI re), .int .u32 (tI rf), .int .u32 (tI rg)] : Array Value).size) := i4
        have i4v : Hid ((Tryd.prog.info? 109).map (·.size) = some (#[.int .u32 (tI (wadd X Y)), .int .u32 (tI ra), .int .u32 (tI rb), .int .u32 (tI rc)] : Array Value).size) := i4
        have z1 : Hid ((arrE ⟨ra, rb, rc, rd, re, rf, rg, rh⟩).size = (#[.int .u32 (tI (wadd rd X)), .int .u32 (tI re), .int .u32 (tI rf), .int .u32 (tI rg)] : Array Value).size) := rfl
        have z2 : Hid ((arrV ⟨ra, rb, rc, rd, re, rf, rg, rh⟩).size = (#[.int .u32 (tI (wadd X Y)), .int .u32 (tI ra), .int .u32 (tI rb), .int .u32 (tI rc)] : Array Value).size) := rfl
        have o1 : Hid ((#[.int .u32 (tI (wadd rd X)), .int .u32 (tI re), .int .u32 (tI rf), .int .u32 (tI rg)] : Array Value).all (·.oneCell') = true) := all4 _ _ _ _ _
        have o2 : Hid ((#[.int .u32 (tI (wadd X Y)), .int .u32 (tI ra), .int .u32 (tI rb), .int .u32 (tI rc)] : Array Value).all (·.oneCell') = true) := all4 _ _ _ _ _
        go_wp2_with (first | (with_reducible refine wpList_store_row rfl 109 (.tmp 7) (.tmp 82) rfl b7 #[.int .u32 (tI (wadd rd X)), .int .u32 (tI re), .int .u32 (tI rf), .int .u32 (tI rg)] rfl rfl 109 _ he3 i4e.out z1.out o1.out ?_) | (with_reducible refine wpList_store_row rfl 109 (.tmp 6) (.tmp 92) rfl b6 #[.int .u32 (tI (wadd X Y)), .int .u32 (tI ra), .int .u32 (tI rb), .int .u32 (tI rc)] rfl rfl 109 _ hv4 i4v.out z2.out o2.out ?_))
        go_roundw
        case rel => exact ⟨t + 1, by omega, by go_num, by rw [Hrs.out]; exact blk_setRow hv4 _, by rw [Hrs.out]; exact blk_setRow_far (blk_setRow he3 _) b6 (Ne.symm hne) _, blk_setRow_far (blk_setRow_far hw3 b7 (by omega) _) b6 (by omega) _, blk_setRow_far (blk_setRow_far hs3 b7 (by omega) _) b6 (by omega) _, blk_setRow_far (blk_setRow_far hr3 b7 (by omega) _) b6 (by omega) _, below_setRow (below_setRow hB3 (by omega) _) (by omega) _⟩
        case measure => simp [intOf]; omega
      · obtain rfl : t = 64 := by omega
        have hcomp : comp ⟨sa, sb, sc, sd, se, sf, sg, sh⟩ l = add8 ⟨sa, sb, sc, sd, se, sf, sg, sh⟩ (rounds ws ⟨sa, sb, sc, sd, se, sf, sg, sh⟩ 64) := by rw [comp, Hws.out]
        generalize rounds ws ⟨sa, sb, sc, sd, se, sf, sg, sh⟩ 64 = r at *
        have Hcomp := Lib.hid hcomp
        clear hcomp hw' h64 hki
        go_wp2
        go_loopw [94] (fun i wx => ∃ n : Nat, n ≤ 4 ∧ i = .int .i64 (n : Int) ∧ Blk wx b6 (arrV r) 109 ∧ Blk wx b7 (arrE r) 109 ∧ Blk wx w.heap.size (arr8 (addP n ⟨sa, sb, sc, sd, se, sf, sg, sh⟩ r)) 66 ∧ Blk wx (w.heap.size + 1) (List.replicate 8 (Value.int .u32 0)).toArray 66 ∧ Below w.heap.size w wx) (fun i _ => 4 - (intOf i).toNat)
        case atStart => exact ⟨0, by omega, rfl, hv', he', hs', hr', hB'⟩
        case round =>
          obtain ⟨n, hn, rfl, gv, ge, gs, gr, gB⟩ := hrel
          obtain ⟨ra, rb, rc, rd, re, rf, rg, rh⟩ := r
          by_cases h4 : n < 4
          · have hor : n = 0 ∨ n = 1 ∨ n = 2 ∨ n = 3 := by omega
            clear h4 hn
            rcases hor with rfl | rfl | rfl | rfl
            · have k1 := blk_cell gs 0
              have k2 := blk_cell gs 4
              have k3 := blk_cell gv 0
              have k4 := blk_cell ge 0
              have f1 := blk_free gs 0
              have f2 := blk_free gs 4
              simp [arr8, addP, arrV, arrE, vW] at k1 k2 k3 k4
              have q1 := add_go sa ra
              have q2 := add_go se re
              have n6 : ¬ b6 = w.heap.size := by omega
              have n7 : ¬ b7 = w.heap.size := by omega
              have hset : Blk ((wr.setCell ⟨w.heap.size, 0, none⟩ (vW (wadd sa ra))).setCell ⟨w.heap.size, 4, none⟩ (vW (wadd se re))) w.heap.size (arr8 (addP 1 ⟨sa, sb, sc, sd, se, sf, sg, sh⟩ ⟨ra, rb, rc, rd, re, rf, rg, rh⟩)) 66 := blk_set (blk_set gs 0 _) 4 _
              have hfar6 := blk_far (blk_far gv (p := ⟨w.heap.size, 0, none⟩) n6 (vW (wadd sa ra))) (p := ⟨w.heap.size, 4, none⟩) n6 (vW (wadd se re))
              have hfar7 := blk_far (blk_far ge (p := ⟨w.heap.size, 0, none⟩) n7 (vW (wadd sa ra))) (p := ⟨w.heap.size, 4, none⟩) n7 (vW (wadd se re))
              have hfarr := blk_far (blk_far gr (p := ⟨w.heap.size, 0, none⟩) (by simp) (vW (wadd sa ra))) (p := ⟨w.heap.size, 4, none⟩) (by simp) (vW (wadd se re))
              have hBf := (gB.setCell (p := ⟨w.heap.size, 0, none⟩) (Nat.le_refl _) (vW (wadd sa ra))).setCell (p := ⟨w.heap.size, 4, none⟩) (Nat.le_refl _) (vW (wadd se re))
              have Hset := Lib.hid hset
              have Hf6 := Lib.hid hfar6
              have Hf7 := Lib.hid hfar7
              have Hfr := Lib.hid hfarr
              clear hset hfar6 hfar7 hfarr
              go_wp2
              go_region
              go_wp2
              go_region
              go_wp2
              go_roundw
              case rel => exact ⟨1, by omega, by go_num, Hf6.out, Hf7.out, Hset.out, Hfr.out, hBf.trans ⟨rfl, rfl, rfl, Nat.le_refl _, fun _ _ => rfl⟩⟩
              case measure => simp [intOf]
            · have k1 := blk_cell gs 1
              have k2 := blk_cell gs 5
              have k3 := blk_cell gv 1
              have k4 := blk_cell ge 1
              have f1 := blk_free gs 1
              have f2 := blk_free gs 5
              simp [arr8, addP, arrV, arrE, vW] at k1 k2 k3 k4
              have q1 := add_go sb rb
              have q2 := add_go sf rf
              have n6 : ¬ b6 = w.heap.size := by omega
              have n7 : ¬ b7 = w.heap.size := by omega
              have hset : Blk ((wr.setCell ⟨w.heap.size, 1, none⟩ (vW (wadd sb rb))).setCell ⟨w.heap.size, 5, none⟩ (vW (wadd sf rf))) w.heap.size (arr8 (addP 2 ⟨sa, sb, sc, sd, se, sf, sg, sh⟩ ⟨ra, rb, rc, rd, re, rf, rg, rh⟩)) 66 := blk_set (blk_set gs 1 _) 5 _
              have hfar6 := blk_far (blk_far gv (p := ⟨w.heap.size, 1, none⟩) n6 (vW (wadd sb rb))) (p := ⟨w.heap.size, 5, none⟩) n6 (vW (wadd sf rf))
              have hfar7 := blk_far (blk_far ge (p := ⟨w.heap.size, 1, none⟩) n7 (vW (wadd sb rb))) (p := ⟨w.heap.size, 5, none⟩) n7 (vW (wadd sf rf))
              have hfarr := blk_far (blk_far gr (p := ⟨w.heap.size, 1, none⟩) (by simp) (vW (wadd sb rb))) (p := ⟨w.heap.size, 5, none⟩) (by simp) (vW (wadd sf rf))
              have hBf := (gB.setCell (p := ⟨w.heap.size, 1, none⟩) (Nat.le_refl _) (vW (wadd sb rb))).setCell (p := ⟨w.heap.size, 5, none⟩) (Nat.le_refl _) (vW (wadd sf rf))
              have Hset := Lib.hid hset
              have Hf6 := Lib.hid hfar6
              have Hf7 := Lib.hid hfar7
              have Hfr := Lib.hid hfarr
              clear hset hfar6 hfar7 hfarr
              go_wp2
              go_region
              go_wp2
              go_region
              go_wp2
              go_roundw
              case rel => exact ⟨2, by omega, by go_num, Hf6.out, Hf7.out, Hset.out, Hfr.out, hBf.trans ⟨rfl, rfl, rfl, Nat.le_refl _, fun _ _ => rfl⟩⟩
              case measure => simp [intOf]
            · have k1 := blk_cell gs 2
              have k2 := blk_cell gs 6
              have k3 := blk_cell gv 2
              have k4 := blk_cell ge 2
              have f1 := blk_free gs 2
              have f2 := blk_free gs 6
              simp [arr8, addP, arrV, arrE, vW] at k1 k2 k3 k4
              have q1 := add_go sc rc
              have q2 := add_go sg rg
              have n6 : ¬ b6 = w.heap.size := by omega
              have n7 : ¬ b7 = w.heap.size := by omega
              have hset : Blk ((wr.setCell ⟨w.heap.size, 2, none⟩ (vW (wadd sc rc))).setCell ⟨w.heap.size, 6, none⟩ (vW (wadd sg rg))) w.heap.size (arr8 (addP 3 ⟨sa, sb, sc, sd, se, sf, sg, sh⟩ ⟨ra, rb, rc, rd, re, rf, rg, rh⟩)) 66 := blk_set (blk_set gs 2 _) 6 _
              have hfar6 := blk_far (blk_far gv (p := ⟨w.heap.size, 2, none⟩) n6 (vW (wadd sc rc))) (p := ⟨w.heap.size, 6, none⟩) n6 (vW (wadd sg rg))
              have hfar7 := blk_far (blk_far ge (p := ⟨w.heap.size, 2, none⟩) n7 (vW (wadd sc rc))) (p := ⟨w.heap.size, 6, none⟩) n7 (vW (wadd sg rg))
              have hfarr := blk_far (blk_far gr (p := ⟨w.heap.size, 2, none⟩) (by simp) (vW (wadd sc rc))) (p := ⟨w.heap.size, 6, none⟩) (by simp) (vW (wadd sg rg))
              have hBf := (gB.setCell (p := ⟨w.heap.size, 2, none⟩) (Nat.le_refl _) (vW (wadd sc rc))).setCell (p := ⟨w.heap.size, 6, none⟩) (Nat.le_refl _) (vW (wadd sg rg))
              have Hset := Lib.hid hset
              have Hf6 := Lib.hid hfar6
              have Hf7 := Lib.hid hfar7
              have Hfr := Lib.hid hfarr
              clear hset hfar6 hfar7 hfarr
              go_wp2
              go_region
              go_wp2
              go_region
              go_wp2
              go_roundw
              case rel => exact ⟨3, by omega, by go_num, Hf6.out, Hf7.out, Hset.out, Hfr.out, hBf.trans ⟨rfl, rfl, rfl, Nat.le_refl _, fun _ _ => rfl⟩⟩
              case measure => simp [intOf]
            · have k1 := blk_cell gs 3
              have k2 := blk_cell gs 7
              have k3 := blk_cell gv 3
              have k4 := blk_cell ge 3
              have f1 := blk_free gs 3
              have f2 := blk_free gs 7
              simp [arr8, addP, arrV, arrE, vW] at k1 k2 k3 k4
              have q1 := add_go sd rd
              have q2 := add_go sh rh
              have n6 : ¬ b6 = w.heap.size := by omega
              have n7 : ¬ b7 = w.heap.size := by omega
              have hset : Blk ((wr.setCell ⟨w.heap.size, 3, none⟩ (vW (wadd sd rd))).setCell ⟨w.heap.size, 7, none⟩ (vW (wadd sh rh))) w.heap.size (arr8 (addP 4 ⟨sa, sb, sc, sd, se, sf, sg, sh⟩ ⟨ra, rb, rc, rd, re, rf, rg, rh⟩)) 66 := blk_set (blk_set gs 3 _) 7 _
              have hfar6 := blk_far (blk_far gv (p := ⟨w.heap.size, 3, none⟩) n6 (vW (wadd sd rd))) (p := ⟨w.heap.size, 7, none⟩) n6 (vW (wadd sh rh))
              have hfar7 := blk_far (blk_far ge (p := ⟨w.heap.size, 3, none⟩) n7 (vW (wadd sd rd))) (p := ⟨w.heap.size, 7, none⟩) n7 (vW (wadd sh rh))
              have hfarr := blk_far (blk_far gr (p := ⟨w.heap.size, 3, none⟩) (by simp) (vW (wadd sd rd))) (p := ⟨w.heap.size, 7, none⟩) (by simp) (vW (wadd sh rh))
              have hBf := (gB.setCell (p := ⟨w.heap.size, 3, none⟩) (Nat.le_refl _) (vW (wadd sd rd))).setCell (p := ⟨w.heap.size, 7, none⟩) (Nat.le_refl _) (vW (wadd sh rh))
              have Hset := Lib.hid hset
              have Hf6 := Lib.hid hfar6
              have Hf7 := Lib.hid hfar7
              have Hfr := Lib.hid hfarr
              clear hset hfar6 hfar7 hfarr
              go_wp2
              go_region
              go_wp2
              go_region
              go_wp2
              go_roundw
              case rel => exact ⟨4, by omega, by go_num, Hf6.out, Hf7.out, Hset.out, Hfr.out, hBf.trans ⟨rfl, rfl, rfl, Nat.le_refl _, fun _ _ => rfl⟩⟩
              case measure => simp [intOf]
          · obtain rfl : n = 4 := by omega
            have i8 : Hid ((Tryd.prog.info? 66).map (·.size) = some (arr8 (addP 4 ⟨sa, sb, sc, sd, se, sf, sg, sh⟩ ⟨ra, rb, rc, rd, re, rf, rg, rh⟩)).size) := show (Tryd.prog.info? 66).map (·.size) = some 8 by kernel_rfl
            have z8 : Hid ((List.replicate 8 (Value.int .u32 0)).toArray.size = (arr8 (addP 4 ⟨sa, sb, sc, sd, se, sf, sg, sh⟩ ⟨ra, rb, rc, rd, re, rf, rg, rh⟩)).size) := rfl
            have o8 : Hid ((arr8 (addP 4 ⟨sa, sb, sc, sd, se, sf, sg, sh⟩ ⟨ra, rb, rc, rd, re, rf, rg, rh⟩)).all (·.oneCell') = true) := arr8_one _
            go_wp2_with (first | (with_reducible refine wpList_load_row rfl 66 (.tmp 2) rfl w.heap.size rfl 66 _ _ _ gs Tryd.underlying66 rfl i8.out ?_) | (with_reducible refine wpList_store_row rfl 66 (.tmp 4) (.tmp 115) rfl (w.heap.size + 1) (arr8 (addP 4 ⟨sa, sb, sc, sd, se, sf, sg, sh⟩ ⟨ra, rb, rc, rd, re, rf, rg, rh⟩)) rfl rfl 66 _ gr i8.out z8.out o8.out ?_))
            exact bodyPost_ret (v := .agg (arr8 (addP 4 ⟨sa, sb, sc, sd, se, sf, sg, sh⟩ ⟨ra, rb, rc, rd, re, rf, rg, rh⟩))) (results_cell_row Tryd.results64 _ _ (w.heap.size + 1) 66 _ _ _ rfl (blk_setRow gr _) Tryd.underlying66 rfl i8.out) rfl ⟨by rw [Hcomp.out]; rfl, below_setRow gB (by omega) _⟩
end Go.Proofs.YtbgieephehfgpabDoor
/-
  A stream of SHA-256 in memory, and Go's copy of a string into a part of it. No conditions.
-/
namespace Go.Proofs.YtbgieephehfgpabDoor
open Go Go.RowKit Sha
namespace Sha
/-- a stream's cells -/
def sL (st : S8) (blk : List UInt8) (n : Nat) : List Value := (arr8 st).toList ++ blk.map mkB ++ [.int .u64 (n : Int)]
/-- a stream's value whose message is m -/
def Rep (m : List UInt8) (v : Value) : Prop := ∃ blk : List UInt8, blk.length = 64 ∧ v = .agg (sL (hb m (m.length / 64)) blk m.length).toArray ∧ blk.take (m.length % 64) = m.drop (64 * (m.length / 64))
theorem sL_len (st : S8) (blk : List UInt8) (n : Nat) (h : blk.length = 64) : (sL st blk n).length = 73 := by simp [sL, arr8, h]
theorem sL_n (st : S8) (blk : List UInt8) (n : Nat) (h : blk.length = 64) : (sL st blk n)[72]? = some (.int .u64 (n : Int)) := by
  unfold sL
  rw [List.getElem?_append_right (by simp [arr8, h])]
  simp [arr8, h]
theorem sL_blk (st : S8) (blk : List UInt8) (n i : Nat) (h : blk.length = 64) (hi : i < 64) : (sL st blk n)[8 + i]? = some (mkB (blk.getD i 0)) := by
  unfold sL
  rw [List.append_assoc, List.getElem?_append_right (by simp [arr8]), List.getElem?_append_left (by simp [arr8, h]; omega)]
  simp [arr8, List.getD, h, hi]
theorem sL_st (st : S8) (blk : List UInt8) (n i : Nat) (hi : i < 8) : (sL st blk n)[i]? = (arr8 st)[i]? := by
  unfold sL
  rw [List.append_assoc, List.getElem?_append_left (by simp [arr8]; omega), Array.getElem?_toList]
/-- bytes put in from place p on -/
theorem sL_splice (st : S8) (blk : List UInt8) (n p : Nat) (cs : List UInt8) (h : blk.length = 64) (hp : p + cs.length ≤ 64) :
    (sL st blk n).take (8 + p) ++ cs.map mkB ++ (sL st blk n).drop (8 + p + cs.length) = sL st (blk.take p ++ cs ++ blk.drop (p + cs.length)) n := by
  have h8 : (arr8 st).toList.length = 8 := rfl
  have hb : (blk.map mkB).length = 64 := by simp [h]
  unfold sL
  rw [List.append_assoc (arr8 st).toList, List.take_append, List.drop_append]
  rw [List.take_of_length_le (by omega), h8, show 8 + p - 8 = p by omega, show 8 + p + cs.length - 8 = p + cs.length by omega, List.drop_of_length_le (by rw [h8]; omega)]
  rw [List.take_append_of_le_length (by omega), List.drop_append_of_le_length (by omega)]
  simp [List.map_take, List.map_drop]
theorem sL_setn (st : S8) (blk : List UInt8) (n n' : Nat) (h : blk.length = 64) : (sL st blk n).toArray.setIfInBounds 72 (.int .u64 (n' : Int)) = (sL st blk n').toArray := by
  apply Array.ext'
  rw [Array.toList_setIfInBounds]
  unfold sL
  rw [List.set_append_right _ _ (by simp [arr8, h])]
  simp [arr8, h]
theorem sL_one (st : S8) (blk : List UInt8) (n : Nat) : ((sL st blk n).toArray).all (·.oneCell') = true := by
  rw [List.all_toArray]
  unfold sL
  rw [List.all_append, List.all_append]
  have h1 : (blk.map mkB).all (·.oneCell') = true := by
    rw [List.all_eq_true]
    intro v hv
    obtain ⟨b, _, rfl⟩ := List.mem_map.1 hv
    rfl
  have h2 := arr8_one st
  rw [← Array.toArray_toList (xs := arr8 st), List.all_toArray] at h2
  rw [h1, h2]
  rfl
theorem sL_set8 (s t : S8) (blk : List UInt8) (n : Nat) : ((((((((sL s blk n).toArray.setIfInBounds 0 (.int .u32 (tI t.a))).setIfInBounds 1 (.int .u32 (tI t.b))).setIfInBounds 2 (.int .u32 (tI t.c))).setIfInBounds 3 (.int .u32 (tI t.d))).setIfInBounds 4 (.int .u32 (tI t.e))).setIfInBounds 5 (.int .u32 (tI t.f))).setIfInBounds 6 (.int .u32 (tI t.g))).setIfInBounds 7 (.int .u32 (tI t.h)) = (sL t blk n).toArray := by
  apply Array.ext'
  simp [sL, arr8, vW]
/-- the block after some bytes -/
def blkN (blk rest : List UInt8) (p k : Nat) : List UInt8 := blk.take p ++ rest.take k ++ blk.drop (p + k)
theorem blkN_len (blk rest : List UInt8) (p k : Nat) (h : blk.length = 64) (hk : k ≤ rest.length) (hp : p + k ≤ 64) : (blkN blk rest p k).length = 64 := by
  unfold blkN
  simp [h]; omega
theorem blkN_sL (st : S8) (blk : List UInt8) (n p k : Nat) (rest : List UInt8) (h : blk.length = 64) (hk : k ≤ rest.length) (hp : p + k ≤ 64) :
    ((sL st blk n).toArray.toList.take (8 + p) ++ (rest.take k).map mkB ++ (sL st blk n).toArray.toList.drop (8 + p + k)).toArray = (sL st (blkN blk rest p k) n).toArray := by
  have hl : (rest.take k).length = k := by simp; omega
  have := sL_splice st blk n p (rest.take k) h (by omega)
  rw [hl] at this
  unfold blkN
  rw [← this]
theorem blkN_short (M rest blk : List UInt8) (N p k : Nat) (hN : M.length = N) (hp : p = N % 64) (hl : blk.length = 64) (hpart : blk.take (N % 64) = M.drop (64 * (N / 64))) (hk : k ≤ rest.length) (h : p + k < 64) :
    hb (M ++ rest.take k) ((N + k) / 64) = hb M (N / 64) ∧ (blkN blk rest p k).take ((N + k) % 64) = (M ++ rest.take k).drop (64 * ((N + k) / 64)) := by
  have e1 : (N + k) / 64 = N / 64 := by omega
  have e2 : (N + k) % 64 = p + k := by omega
  rw [e1, e2, hb_append _ _ _ (by omega)]
  refine ⟨rfl, ?_⟩
  rw [List.drop_append_of_le_length (by omega), ← hpart, ← hp]
  unfold blkN
  rw [List.take_append_of_le_length (by simp; omega), List.take_of_length_le (by simp; omega)]
theorem blkN_full (M rest blk : List UInt8) (N p k : Nat) (hN : M.length = N) (hp : p = N % 64) (hl : blk.length = 64) (hpart : blk.take (N % 64) = M.drop (64 * (N / 64))) (hk : k ≤ rest.length) (h : p + k = 64) :
    hb (M ++ rest.take k) ((N + k) / 64) = comp (hb M (N / 64)) (blkN blk rest p k) ∧ (blkN blk rest p k).take ((N + k) % 64) = (M ++ rest.take k).drop (64 * ((N + k) / 64)) := by
  have e1 : (N + k) / 64 = N / 64 + 1 := by omega
  have e2 : (N + k) % 64 = 0 := by omega
  rw [e1, e2]
  constructor
  · rw [hb, hb_append _ _ _ (by omega)]
    congr 1
    rw [List.drop_append_of_le_length (by omega), ← hpart, ← hp]
    unfold blkN
    rw [List.drop_of_length_le (by omega), List.append_nil, List.take_of_length_le (by simp; omega)]
  · rw [List.take_zero, List.drop_of_length_le (by simp; omega)]
end Sha
theorem run_sliceAt_arr64 {P : Program} (W : World) (b at_ : Nat) (t : TypeId) (ht : P.underlying t = some (.array (P.arrayLen t) (P.elem t))) (h64 : P.arrayLen t = 64) (hs : (P.info? (P.elem t)).map (·.size) = some 1) (h : at_ < 64) :
    (Instr.sliceAt t (.pointer (some ⟨b, 8, none⟩)) (some (.int .i64 (at_ : Int))) none none).run P W = .ok (.slice (some ⟨b, 8 + at_, none⟩) (64 - at_) (64 - at_)) W := by
  rw [run_sliceAt_array_l W t ⟨b, 8, none⟩ ht .i64 (at_ : Int) (by omega) (by rw [h64]; omega)]
  cases hq : P.info? (P.elem t) with
  | none => simp [hq] at hs
  | some i =>
    have hi : i.size = 1 := by simpa [hq] using hs
    simp [sizeOf, typeInfo, hq, hi, slicedAt, h64, Addr.add_mid]
    omega
theorem run_sliceAt_str {P : Program} (W : World) (l : List UInt8) (k : Nat) (t : TypeId) (hu : P.underlying t = some .string) (h : k ≤ l.length) :
    (Instr.sliceAt t (.string ⟨l.toArray⟩) (some (.int .i64 (k : Int))) none none).run P W = .ok (.string ⟨(l.drop k).toArray⟩) W := by
  have hsz : (⟨l.toArray⟩ : ByteArray).size = l.length := by simp [ByteArray.size]
  have h0 : (0 : Int) ≤ (k : Int) := by omega
  have h1 : (k : Int) ≤ (l.length : Int) := by omega
  rw [run_sliceAt_string W t _ _ _ _ hu]
  simp [Instr.slice, Instr.sliceBounds, Instr.sliceBound, asIntOf, run_underlying hu]
  rw [if_pos (by rw [hsz]; exact h)]
  congr 2
  apply ByteArray.ext
  apply Array.ext'
  simp [ByteArray.size]
  exact List.take_of_length_le (by simp)
theorem run_copy_str {P : Program} (w : World) (dT sT ty elem : TypeId) (g o dLen dCap : Nat) (s : ByteArray) (cur : Array Value) (t : TypeId) (cs : List Value)
    (hu : P.underlying dT = some (.slice elem)) (hs : (P.info? elem).map (·.size) = some 1)
    (hg : w.heap[g]? = some (.cells cur t (0, 0))) (hn : (s.data.toList.map fun b => Value.int .u8 (b.toNat : Int)).take (Nat.min s.size dLen) = cs) (hfit : o + cs.length ≤ cur.size) (hl : cs.length = Nat.min s.size dLen) :
    (Builtin.copy_ #[dT, sT] ty #[.slice (some ⟨g, o, none⟩) dLen dCap, .string s]).run P w =
      .ok (goInt cs.length) (w.setRow g (cur.toList.take o ++ cs ++ cur.toList.drop (o + cs.length)).toArray) := by
  have h1 : ∀ v ∈ cs, v.oneCell' = true := by
    intro v hv
    rw [← hn] at hv
    obtain ⟨b, _, rfl⟩ := List.mem_map.1 (List.mem_of_mem_take hv)
    rfl
  have hst := run_storeCells_at P g o t cs 0 cur w hg (by simpa using hfit) h1
  cases hq : P.info? elem with
  | none => simp [hq] at hs
  | some i =>
    simp [Builtin.copy_, run_underlying hu, Builtin.lenOf, Builtin.firstCells, sizeOf, typeInfo, hq]
    rw [hn, hst, ← hl]
    simp
/-- Go's copy of a string, as an operation of a plain region -/
theorem wpList_copy_str {P : Program} {w : World} {ops : Array Oper} {rest : List Oper} {o : Oper} {a : Act} {Q : Exit → Act → World → Prop} (hgd : o.guard = none) (d s : Operand) (dT sT : TypeId)
    (ho : o.op = .call { callee := .builtin .copy, args := #[d, s], argTypes := #[dT, sT] }) (elem : TypeId) (hu : P.underlying dT = some (.slice elem)) (hsz : (P.info? elem).map (·.size) = some 1)
    (g off dLen dCap : Nat) (str : ByteArray) (hd : a.eval d = .slice (some ⟨g, off, none⟩) dLen dCap) (hs : a.eval s = .string str)
    (cur : Array Value) (t : TypeId) (hg : w.heap[g]? = some (.cells cur t (0, 0))) (cs : List Value) (hn : (str.data.toList.map fun b => Value.int .u8 (b.toNat : Int)).take (Nat.min str.size dLen) = cs) (k : Nat) (hfit : off + k ≤ cur.size) (hl : cs.length = Nat.min str.size dLen) (hk : cs.length = k)
    (new : Array Value) (hnew : (cur.toList.take off ++ cs ++ cur.toList.drop (off + k)).toArray = new) (h : wpList P ops Q rest (a.put o.dst (.int .i64 (k : Int))) (w.setRow g new)) :
    wpList P ops Q (o :: rest) a w := by
  subst hnew hk
  refine wpList_plain hgd fun K hK => ?_
  unfold Oper.wp execOp
  simp only [ho, resolve, invoke, builtin, Sem.run_bind, Sem.run_pure, Result.andThen_ok, List.map_toArray, List.map_cons, List.map_nil, hd, hs, run_copy_str w dT sT o.type elem g off dLen dCap str cur t cs hu hsz hg hn hfit hl]
  exact hK _ _ h
end Go.Proofs.YtbgieephehfgpabDoor
/-
  What the program's (hash.Stream).Add returns: a stream whose message is longer by the text. Conditions: messages of at most 10^12 bytes, the tables are as the program's text lays them.
-/
namespace Go.Proofs.YtbgieephehfgpabDoor
open Go Go.RowKit Sha
namespace Sha
/-- a stream whose message is m is returned -/
def RepE (m : List UInt8) (e : Ending) : Prop := ∃ v, Rep m v ∧ e = .returned v
def strLen : Value → Nat | .string s => s.size | _ => 0
end Sha
theorem stream_cells {w : World} {b n : Nat} {st : S8} {bl : List UInt8} {t : TypeId} (h : Blk w b (sL st bl n).toArray t) :
    w.cell? ⟨b, 0, none⟩ = some (.int .u32 (tI st.a)) ∧ w.cell? ⟨b, 1, none⟩ = some (.int .u32 (tI st.b)) ∧ w.cell? ⟨b, 2, none⟩ = some (.int .u32 (tI st.c)) ∧ w.cell? ⟨b, 3, none⟩ = some (.int .u32 (tI st.d)) ∧ w.cell? ⟨b, 4, none⟩ = some (.int .u32 (tI st.e)) ∧ w.cell? ⟨b, 5, none⟩ = some (.int .u32 (tI st.f)) ∧ w.cell? ⟨b, 6, none⟩ = some (.int .u32 (tI st.g)) ∧ w.cell? ⟨b, 7, none⟩ = some (.int .u32 (tI st.h)) := by
  have hld : ∀ i, i < 8 → w.cell? ⟨b, i, none⟩ = (arr8 st)[i]? := fun i hi => (blk_cell h i).trans ((List.getElem?_toArray ..).trans (sL_st _ _ _ _ hi))
  exact ⟨hld 0 (by omega), hld 1 (by omega), hld 2 (by omega), hld 3 (by omega), hld 4 (by omega), hld 5 (by omega), hld 6 (by omega), hld 7 (by omega)⟩
theorem stream_free {w : World} {b n : Nat} {st : S8} {bl : List UInt8} {t : TypeId} (h : Blk w b (sL st bl n).toArray t) :
    w.frozen? ⟨b, 0, none⟩ = false ∧ w.frozen? ⟨b, 1, none⟩ = false ∧ w.frozen? ⟨b, 2, none⟩ = false ∧ w.frozen? ⟨b, 3, none⟩ = false ∧ w.frozen? ⟨b, 4, none⟩ = false ∧ w.frozen? ⟨b, 5, none⟩ = false ∧ w.frozen? ⟨b, 6, none⟩ = false ∧ w.frozen? ⟨b, 7, none⟩ = false := ⟨blk_free h _, blk_free h _, blk_free h _, blk_free h _, blk_free h _, blk_free h _, blk_free h _, blk_free h _⟩
theorem stream_set8 {w : World} {b n : Nat} {st : S8} {bl : List UInt8} {t : TypeId} (h : Blk w b (sL st bl n).toArray t) (sn : S8) :
    Blk (((((((((w.setCell ⟨b, 0, none⟩ (.int .u32 (tI sn.a))).setCell ⟨b, 1, none⟩ (.int .u32 (tI sn.b))).setCell ⟨b, 2, none⟩ (.int .u32 (tI sn.c))).setCell ⟨b, 3, none⟩ (.int .u32 (tI sn.d))).setCell ⟨b, 4, none⟩ (.int .u32 (tI sn.e))).setCell ⟨b, 5, none⟩ (.int .u32 (tI sn.f))).setCell ⟨b, 6, none⟩ (.int .u32 (tI sn.g))).setCell ⟨b, 7, none⟩ (.int .u32 (tI sn.h)))) b (sL sn bl n).toArray t := by
  have k := blk_set (blk_set (blk_set (blk_set (blk_set (blk_set (blk_set (blk_set h 0 (.int .u32 (tI sn.a))) 1 (.int .u32 (tI sn.b))) 2 (.int .u32 (tI sn.c))) 3 (.int .u32 (tI sn.d))) 4 (.int .u32 (tI sn.e))) 5 (.int .u32 (tI sn.f))) 6 (.int .u32 (tI sn.g))) 7 (.int .u32 (tI sn.h))
  rw [sL_set8] at k
  exact k
set_option maxRecDepth 100000 in
set_option maxHeartbeats 4000000 in
theorem sadd_any (m : List UInt8) (v : Value) (s : ByteArray) (w : World) (hv : Rep m v) (hs : m.length + s.size ≤ 1000000000000) (hT : TabC w) :
    Calls Tryd.prog 39 #[v, .string s] w fun e w' => RepE (m ++ s.data.toList) e ∧ Below w.heap.size w w' := by
  obtain ⟨blk0, hbl0, rfl, hpart0⟩ := hv
  go_enter Tryd.func39, Tryd.ntmps39
  go_wp2
  go_loopw [1] (fun t wr => ∃ (don rest blk : List UInt8) (Z : Array Value), s.data.toList = don ++ rest ∧ t = .string ⟨rest.toArray⟩ ∧ blk.length = 64 ∧ Blk wr w.heap.size (sL (hb (m ++ don) ((m ++ don).length / 64)) blk (m ++ don).length).toArray 70 ∧ blk.take ((m ++ don).length % 64) = (m ++ don).drop (64 * ((m ++ don).length / 64)) ∧ Z.size = 73 ∧ Blk wr (w.heap.size + 1) Z 70 ∧ Below w.heap.size w wr) (fun t _ => strLen t)
  case atStart => exact ⟨[], s.data.toList, blk0, _, rfl, rfl, hbl0, by simpa using blk_alloc (blk_new _ _ _) _, by simpa using hpart0, rfl, blk_new2 _ _ _ _, ((Below.refl _ _).alloc (Nat.le_refl _) _).alloc (by simp) _⟩
  case round =>
    obtain ⟨don, rest, blk, Z, hl, rfl, hbl, hb0, hpart, hZ, hb1, hB⟩ := hrel
    have hone : ∀ (st : S8) (bl : List UInt8) (n : Nat), ((sL st bl n).toArray).all (·.oneCell') = true := fun st bl n => sL_one st bl n
    have hTr := hT.below hB
    cases rest with
    | nil =>
      have hi73 : ∀ (st : S8) (bl : List UInt8) (n : Nat), bl.length = 64 → (Tryd.prog.info? 70).map (·.size) = some ((sL st bl n).toArray).size := fun st bl n h => by rw [List.size_toArray, sL_len _ _ _ h]; kernel_rfl
      have Hi := Lib.hid (hi73 (hb (m ++ don) ((m ++ don).length / 64)) blk (m ++ don).length hbl)
      have Hz : Hid (Z.size = ((sL (hb (m ++ don) ((m ++ don).length / 64)) blk (m ++ don).length).toArray).size) := Lib.hid (hZ.trans (by rw [List.size_toArray, sL_len _ _ _ hbl]))
      clear hi73
      go_wp2_with (first | (with_reducible refine wpList_load_row rfl 70 (.tmp 2) rfl w.heap.size rfl 70 _ _ _ hb0 Tryd.underlying70 rfl Hi.out ?_) | (with_reducible refine wpList_store_row rfl 70 (.tmp 4) (.tmp 37) rfl (w.heap.size + 1) (sL (hb (m ++ don) ((m ++ don).length / 64)) blk (m ++ don).length).toArray rfl rfl 70 _ hb1 Hi.out Hz.out (hone _ _ _) ?_))
      exact bodyPost_ret (v := .agg (sL (hb (m ++ don) ((m ++ don).length / 64)) blk (m ++ don).length).toArray) (results_cell_row Tryd.results39 _ _ (w.heap.size + 1) 70 _ _ _ rfl (blk_setRow hb1 _) Tryd.underlying70 rfl Hi.out) rfl ⟨⟨_, by rw [hl, List.append_nil]; exact ⟨blk, hbl, rfl, hpart⟩, rfl⟩, below_setRow hB (by omega) _⟩
    | cons c cs =>
      have hlen : s.data.toList.length = don.length + (cs.length + 1) := by rw [hl]; simp
      have hss : s.data.toList.length = s.size := Array.length_toList
      generalize hM : m ++ don = M at *
      have hMl : M.length = m.length + don.length := by rw [← hM]; simp
      have hMb : M.length ≤ 1000000000000 := by omega
      have h72 : wr.cell? ⟨w.heap.size, 72, none⟩ = some (.int .u64 (M.length : Int)) := (blk_cell hb0 72).trans ((List.getElem?_toArray ..).trans (sL_n _ _ _ hbl))
      have hfr := blk_free hb0 72
      generalize hN : M.length = N at *
      obtain ⟨at_, hat⟩ : ∃ a, a = N % 64 := ⟨_, rfl⟩
      have e1 : (N : Int) % 64 = (at_ : Int) := by omega
      have hat64 : at_ < 64 := by omega
      have Hat := Lib.hid hat
      have HMl := Lib.hid hMl
      clear hat hbl0 hpart0 hMl
      have hrl : (c :: cs).length = cs.length + 1 := rfl
      obtain ⟨k, hk⟩ : ∃ k, k = Nat.min (cs.length + 1) (64 - at_) := ⟨_, rfl⟩
      have hk1 : k ≤ cs.length + 1 := by rw [hk]; exact Nat.min_le_left _ _
      have hk2 : at_ + k ≤ 64 := by have : k ≤ 64 - at_ := by { rw [hk]; exact Nat.min_le_right _ _ }
                                    omega
      have hk3 : at_ + k < 64 → k = cs.length + 1 := fun h => by
        rcases Nat.le_total (cs.length + 1) (64 - at_) with h1 | h1
        · rw [hk]; exact Nat.min_eq_left h1
        · have : k = 64 - at_ := by rw [hk]; exact Nat.min_eq_right h1
          omega
      have hk0 : 0 < k := by
        rcases Nat.le_total (cs.length + 1) (64 - at_) with h1 | h1
        · have : k = cs.length + 1 := by rw [hk]; exact Nat.min_eq_left h1
          omega
        · have : k = 64 - at_ := by rw [hk]; exact Nat.min_eq_right h1
          omega
      have Hk := Lib.hid hk
      clear hk
      have hnl := blkN_len blk (c :: cs) at_ k hbl (by rw [hrl]; exact hk1) hk2
      have hsL := blkN_sL (hb M (N / 64)) blk N at_ k (c :: cs) hbl (by rw [hrl]; exact hk1) hk2
      have hshort := blkN_short M (c :: cs) blk N at_ k hN Hat.out hbl hpart (by rw [hrl]; exact hk1)
      have hfull := blkN_full M (c :: cs) blk N at_ k hN Hat.out hbl hpart (by rw [hrl]; exact hk1)
      have hrest : s.data.toList = (don ++ (c :: cs).take k) ++ (c :: cs).drop k := by rw [List.append_assoc, List.take_append_drop]; exact hl
      have hM' : m ++ (don ++ (c :: cs).take k) = M ++ (c :: cs).take k := by rw [← List.append_assoc, hM]
      have hN' : (M ++ (c :: cs).take k).length = N + k := by rw [List.length_append, hN, List.length_take, hrl, Nat.min_eq_left hk1]
      have hms : strLen (.string ⟨((c :: cs).drop k).toArray⟩) < strLen (.string ⟨(c :: cs).toArray⟩) := by simp [strLen, ByteArray.size]; omega
      have hcp : (((⟨(c :: cs).toArray⟩ : ByteArray).data.toList.map fun b => Value.int .u8 (b.toNat : Int)).take (Nat.min (⟨(c :: cs).toArray⟩ : ByteArray).size (64 - at_))) = ((c :: cs).take k).map mkB := by
        rw [← List.map_take, show (⟨(c :: cs).toArray⟩ : ByteArray).size = cs.length + 1 by simp [ByteArray.size], ← Hk.out]
        rfl
      have hcl : (((c :: cs).take k).map mkB).length = Nat.min (⟨(c :: cs).toArray⟩ : ByteArray).size (64 - at_) := by
        rw [show (⟨(c :: cs).toArray⟩ : ByteArray).size = cs.length + 1 by simp [ByteArray.size], ← Hk.out, List.length_map, List.length_take, hrl, Nat.min_eq_left hk1]
      have hck : (((c :: cs).take k).map mkB).length = k := by rw [List.length_map, List.length_take, hrl, Nat.min_eq_left hk1]
      have hfit : 8 + at_ + k ≤ (sL (hb M (N / 64)) blk N).toArray.size := by rw [List.size_toArray, sL_len _ _ _ hbl]; omega
      have hsl1 : ∀ W, (Instr.sliceAt 67 (.pointer (some ⟨w.heap.size, 8, none⟩)) (some (.int .i64 (at_ : Int))) none none).run Tryd.prog W = .ok (.slice (some ⟨w.heap.size, 8 + at_, none⟩) (64 - at_) (64 - at_)) W := fun W => run_sliceAt_arr64 W _ at_ _ Tryd.underlying67 (by kernel_rfl) (by kernel_rfl) hat64
      have hsl2 : ∀ W, (Instr.sliceAt 9 (.string ⟨(c :: cs).toArray⟩) (some (.int .i64 (k : Int))) none none).run Tryd.prog W = .ok (.string ⟨((c :: cs).drop k).toArray⟩) W := fun W => run_sliceAt_str W (c :: cs) k _ Tryd.underlying9 (by rw [hrl]; exact hk1)
      have hne : ¬ (c :: cs) = [] := by simp
      generalize hblk' : blkN blk (c :: cs) at_ k = blk' at *
      generalize hst : hb M (N / 64) = st at *
      have e2 : IntKind.u64.wrap ((N : Int) + (k : Int)) = ((N + k : Nat) : Int) := by rw [IntWalk.u64_in _ (by omega)]; omega
      have h72' : (wr.setRow w.heap.size (sL st blk' N).toArray).cell? ⟨w.heap.size, 72, none⟩ = some (.int .u64 (N : Int)) := (blk_cell (blk_setRow hb0 _) 72).trans ((List.getElem?_toArray ..).trans (sL_n _ _ _ hnl))
      have hfr' := blk_free (blk_setRow hb0 (sL st blk' N).toArray) 72
      have Hs := Lib.hid hshort
      have Hf := Lib.hid hfull
      have Hr := Lib.hid hrest
      have HM' := Lib.hid hM'
      have HN' := Lib.hid hN'
      have Hcp := Lib.hid hcp
      have Hcl := Lib.hid hcl
      have Hck := Lib.hid hck
      have HsL := Lib.hid hsL
      clear hshort hfull hrest hM' hN' hcp hcl hck hsL hM hN hl hlen hblk'
      by_cases h64 : at_ + k = 64
      · have d64 : decide ((at_ : Int) + (k : Int) = 64) = true := by simp; omega
        go_wp2_with (with_reducible refine wpList_copy_str rfl (.tmp 15) (.tmp 16) 31 9 rfl 5 Tryd.underlying31 (by kernel_rfl) w.heap.size (8 + at_) _ _ _ rfl rfl _ 70 hb0 _ Hcp.out k hfit Hcl.out Hck.out _ HsL.out ?_)
        have hbx : Blk ((wr.setRow w.heap.size (sL st blk' N).toArray).setCell ⟨w.heap.size, 72, none⟩ (.int .u64 ((N : Int) + (k : Int)))) w.heap.size (sL st blk' (N + k)).toArray 70 := by
          have h := blk_set (blk_setRow hb0 (sL st blk' N).toArray) 72 (.int .u64 ((N + k : Nat) : Int))
          rw [sL_setn _ _ _ _ hnl] at h
          rw [← Int.natCast_add]
          exact h
        have hzx : Blk ((wr.setRow w.heap.size (sL st blk' N).toArray).setCell ⟨w.heap.size, 72, none⟩ (.int .u64 ((N : Int) + (k : Int)))) (w.heap.size + 1) Z 70 := blk_far (blk_setRow_far hb1 _ (by omega) _) (by simp) _
        have hBx : Below w.heap.size w ((wr.setRow w.heap.size (sL st blk' N).toArray).setCell ⟨w.heap.size, 72, none⟩ (.int .u64 ((N : Int) + (k : Int)))) := (below_setRow hB (Nat.le_refl _) _).setCell (Nat.le_refl _) _
        generalize (wr.setRow w.heap.size (sL st blk' N).toArray).setCell ⟨w.heap.size, 72, none⟩ (.int .u64 ((N : Int) + (k : Int))) = wx at *
        clear hb0 hb1 hB hTr h72 hfr h72' hfr' hst hsl1 hsl2
        have hTx : TabC wx.drew := (hT.below hBx).drew
        have hzl : w.heap.size < wx.drew.heap.size := blk_lt hbx
        have hcx : ∀ i, i < 64 → wx.drew.cell? ⟨w.heap.size, 8 + i, none⟩ = some (mkB (blk'.getD i 0)) := fun i hi => (blk_cell (w := wx.drew) hbx (8 + i)).trans ((List.getElem?_toArray ..).trans (sL_blk _ _ _ _ hnl hi))
        have hcon := comp_any st w.heap.size 8 64 blk' wx.drew (Nat.le_refl _) hzl hcx hTx
        have hf8 := (Hf.out h64).1
        generalize hcs : comp st blk' = sn at *
        have ha : arr8 st = #[.int .u32 (tI st.a), .int .u32 (tI st.b), .int .u32 (tI st.c), .int .u32 (tI st.d), .int .u32 (tI st.e), .int .u32 (tI st.f), .int .u32 (tI st.g), .int .u32 (tI st.h)] := rfl
        have hn : arr8 sn = #[.int .u32 (tI sn.a), .int .u32 (tI sn.b), .int .u32 (tI sn.c), .int .u32 (tI sn.d), .int .u32 (tI sn.e), .int .u32 (tI sn.f), .int .u32 (tI sn.g), .int .u32 (tI sn.h)] := rfl
        rw [ha, hn] at hcon
        obtain ⟨k0, k1, k2, k3, k4, k5, k6, k7⟩ := stream_cells hbx
        have Hcon := Lib.hid hcon
        have Hcs := Lib.hid hcs
        have Hf8 := Lib.hid hf8
        clear hcon hcs hf8 ha hn hcx
        go_region_with (go_at_call 64; ((with_reducible refine Hcon.out.mono ?_); rintro e w2 ⟨rfl, hw2⟩; have hk2 := blk_kept (w := wx.drew) hbx hw2; obtain ⟨g0, g1, g2, g3, g4, g5, g6, g7⟩ := stream_cells hk2; obtain ⟨f0, f1, f2, f3, f4, f5, f6, f7⟩ := stream_free hk2))
        have hz2 := blk_kept (w := wx.drew) hzx hw2
        have hB2 : Below w.heap.size w w2 := hBx.drew.trans (hw2.mono hBx.size)
        have hset := stream_set8 hk2 sn
        have hfz := blk_far (blk_far (blk_far (blk_far (blk_far (blk_far (blk_far (blk_far hz2 (p := ⟨w.heap.size, 0, none⟩) (by simp) (.int .u32 (tI sn.a))) (p := ⟨w.heap.size, 1, none⟩) (by simp) (.int .u32 (tI sn.b))) (p := ⟨w.heap.size, 2, none⟩) (by simp) (.int .u32 (tI sn.c))) (p := ⟨w.heap.size, 3, none⟩) (by simp) (.int .u32 (tI sn.d))) (p := ⟨w.heap.size, 4, none⟩) (by simp) (.int .u32 (tI sn.e))) (p := ⟨w.heap.size, 5, none⟩) (by simp) (.int .u32 (tI sn.f))) (p := ⟨w.heap.size, 6, none⟩) (by simp) (.int .u32 (tI sn.g))) (p := ⟨w.heap.size, 7, none⟩) (by simp) (.int .u32 (tI sn.h))
        have hBf := (((((((hB2.setCell (p := ⟨w.heap.size, 0, none⟩) (Nat.le_refl _) (.int .u32 (tI sn.a))).setCell (p := ⟨w.heap.size, 1, none⟩) (Nat.le_refl _) (.int .u32 (tI sn.b))).setCell (p := ⟨w.heap.size, 2, none⟩) (Nat.le_refl _) (.int .u32 (tI sn.c))).setCell (p := ⟨w.heap.size, 3, none⟩) (Nat.le_refl _) (.int .u32 (tI sn.d))).setCell (p := ⟨w.heap.size, 4, none⟩) (Nat.le_refl _) (.int .u32 (tI sn.e))).setCell (p := ⟨w.heap.size, 5, none⟩) (Nat.le_refl _) (.int .u32 (tI sn.f))).setCell (p := ⟨w.heap.size, 6, none⟩) (Nat.le_refl _) (.int .u32 (tI sn.g))).setCell (p := ⟨w.heap.size, 7, none⟩) (Nat.le_refl _) (.int .u32 (tI sn.h))
        have Hset := Lib.hid hset
        have Hfz := Lib.hid hfz
        clear hset hfz g0 g1 g2 g3 g4 g5 g6 g7 f0 f1 f2 f3 f4 f5 f6 f7 k0 k1 k2 k3 k4 k5 k6 k7
        go_wp2
        go_roundw
        case rel => exact ⟨don ++ (c :: cs).take k, (c :: cs).drop k, blk', Z, Hr.out, rfl, hnl, by rw [HM'.out, HN'.out, Hf8.out]; exact Hset.out, by rw [HM'.out, HN'.out]; exact (Hf.out h64).2, hZ, Hfz.out, hBf⟩
        case measure => exact hms
      · have d64 : decide ((at_ : Int) + (k : Int) = 64) = false := by simp; omega
        have d65 : ((at_ : Int) + (k : Int) == 64) = false := by simp; omega
        have hlt : at_ + k < 64 := by omega
        go_wp2_with (with_reducible refine wpList_copy_str rfl (.tmp 15) (.tmp 16) 31 9 rfl 5 Tryd.underlying31 (by kernel_rfl) w.heap.size (8 + at_) _ _ _ rfl rfl _ 70 hb0 _ Hcp.out k hfit Hcl.out Hck.out _ HsL.out ?_)
        have hbx : Blk ((wr.setRow w.heap.size (sL st blk' N).toArray).setCell ⟨w.heap.size, 72, none⟩ (.int .u64 ((N : Int) + (k : Int)))) w.heap.size (sL st blk' (N + k)).toArray 70 := by
          have h := blk_set (blk_setRow hb0 (sL st blk' N).toArray) 72 (.int .u64 ((N + k : Nat) : Int))
          rw [sL_setn _ _ _ _ hnl] at h
          rw [← Int.natCast_add]
          exact h
        have hzx : Blk ((wr.setRow w.heap.size (sL st blk' N).toArray).setCell ⟨w.heap.size, 72, none⟩ (.int .u64 ((N : Int) + (k : Int)))) (w.heap.size + 1) Z 70 := blk_far (blk_setRow_far hb1 _ (by omega) _) (by simp) _
        have hBx : Below w.heap.size w ((wr.setRow w.heap.size (sL st blk' N).toArray).setCell ⟨w.heap.size, 72, none⟩ (.int .u64 ((N : Int) + (k : Int)))) := (below_setRow hB (Nat.le_refl _) _).setCell (Nat.le_refl _) _
        go_roundw
        case rel => exact ⟨don ++ (c :: cs).take k, (c :: cs).drop k, blk', Z, Hr.out, rfl, hnl, by rw [HM'.out, HN'.out, (Hs.out hlt).1]; exact hbx, by rw [HM'.out, HN'.out]; exact (Hs.out hlt).2, hZ, hzx, hBx⟩
        case measure => exact hms
end Go.Proofs.YtbgieephehfgpabDoor
/-
  What the program's Begin returns: the stream whose message is empty. No conditions.
-/
namespace Go.Proofs.YtbgieephehfgpabDoor
open Go Go.RowKit Sha
set_option maxRecDepth 100000 in
set_option maxHeartbeats 4000000 in
theorem begin2_any (w : World) :
    Calls Tryd.prog 38 #[] w fun e w' => RepE [] e ∧ Below w.heap.size w w' := by
  go_enter Tryd.func38, Tryd.ntmps38
  go_wp2_with (with_reducible refine wpList_store_row rfl 70 (.tmp 0) (.tmp 2) rfl w.heap.size _ rfl rfl 70 _ (blk_new w _ _) ?hi ?hz ?h1 ?_)
  case hi => kernel_rfl
  case hz => kernel_rfl
  case h1 => kernel_rfl
  rw [World.setRow_alloc_new]
  go_wp2
  have hz : ((((((((zcStream.setIfInBounds 0 (Value.int IntKind.u32 1779033703)).setIfInBounds 1 (Value.int IntKind.u32 3144134277)).setIfInBounds 2 (Value.int IntKind.u32 1013904242)).setIfInBounds 3 (Value.int IntKind.u32 2773480762)).setIfInBounds 4 (Value.int IntKind.u32 1359893119)).setIfInBounds 5 (Value.int IntKind.u32 2600822924)).setIfInBounds 6 (Value.int IntKind.u32 528734635)).setIfInBounds 7 (Value.int IntKind.u32 1541459225)) = (sL s8init (List.replicate 64 0) 0).toArray := by kernel_rfl
  rw [hz]
  have hi : (Tryd.prog.info? 70).map (·.size) = some ((sL s8init (List.replicate 64 0) 0).toArray).size := by kernel_rfl
  exact bodyPost_ret (v := .agg (sL s8init (List.replicate 64 0) 0).toArray) (results_cell_row Tryd.results38 _ _ w.heap.size 70 _ _ _ rfl (blk_new w _ _) Tryd.underlying70 rfl hi) rfl ⟨⟨_, ⟨List.replicate 64 0, rfl, rfl, rfl⟩, rfl⟩, below_alloc1 w _⟩
end Go.Proofs.YtbgieephehfgpabDoor
/-
  Words for slices of bytes that a call makes by append ('Own'): what is appended, how they read. No conditions.
-/
namespace Go.Proofs.YtbgieephehfgpabDoor
open Go Go.RowKit
abbrev Own (w : World) (base : Nat) (v : Value) (l : List UInt8) : Prop := w.ownsRow base 5 1 v l.length (l.map mkB)
theorem info_u8 : (Tryd.prog.info? 5).map (fun i => (i.zero, i.size, i.bytes)) = some (some (.int .u8 0), 1, 1) := by kernel_rfl
theorem own_nil (w : World) (base : Nat) : Own w base (.slice none 0 0) [] := World.ownsRow_nil _ _ _ _
theorem own_slice {w : World} {base : Nat} {v : Value} {l : List UInt8} (h : Own w base v l) (hl : l ≠ []) : ∃ g cap, v = .slice (some ⟨g, 0, none⟩) l.length cap ∧ base ≤ g ∧ g < w.heap.size := by
  rcases h.2 with ⟨_, h0⟩ | ⟨g, cap, cur, rfl, hb, hg, _⟩
  · exact absurd (List.length_eq_zero_iff.1 h0) hl
  · exact ⟨g, cap, rfl, hb, blk_lt hg⟩
theorem own_len {w : World} {base : Nat} {v : Value} {l : List UInt8} (h : Own w base v l) : ∃ ao cap, v = .slice ao l.length cap := by
  rcases h.2 with ⟨rfl, h0⟩ | ⟨g, cap, cur, rfl, hb, hg, _⟩
  · exact ⟨none, 0, by rw [h0]⟩
  · exact ⟨_, cap, rfl⟩
theorem own_rd {w : World} {base : Nat} {v : Value} {l : List UInt8} (h : Own w base v l) : RdB w v l := by
  have hx := fun g => h.cells (g := g)
  rcases h.2 with ⟨rfl, h0⟩ | ⟨g, cap, cur, rfl, hb, hg, hc, _⟩
  · exact ⟨none, 0, by rw [h0], by omega, .inl (List.length_eq_zero_iff.1 h0)⟩
  · refine ⟨_, cap, rfl, hc, .inr ⟨g, 0, rfl, blk_lt hg, fun i x hi => ?_⟩⟩
    have := hx g rfl i (mkB x) (by rw [List.getElem?_map, hi]; rfl)
    rw [Addr.add_mid] at this
    exact this
theorem own_kept {w w' : World} {base : Nat} {v : Value} {l : List UInt8} (h : Own w base v l) (hb : Below w.heap.size w w') : Own w' base v l := by
  refine ⟨h.1, ?_⟩
  rcases h.2 with hn | ⟨g, cap, cur, rfl, hbb, hgg, rest⟩
  · exact .inl hn
  · exact .inr ⟨g, cap, cur, rfl, hbb, blk_kept hgg hb, rest⟩
theorem own_far {w w' : World} {base : Nat} {v : Value} {l : List UInt8} (h : Own w base v l) (hb : ∀ g, base ≤ g → g < w.heap.size → w'.heap[g]? = w.heap[g]?) : Own w' base v l := by
  refine ⟨h.1, ?_⟩
  rcases h.2 with hn | ⟨g, cap, cur, rfl, hbb, hgg, rest⟩
  · exact .inl hn
  · exact .inr ⟨g, cap, cur, rfl, hbb, (hb g hbb (blk_lt hgg)).trans hgg, rest⟩
theorem own_mono {w : World} {base base' : Nat} {v : Value} {l : List UInt8} (h : Own w base v l) (hb : base' ≤ base) : Own w base' v l := by
  refine ⟨h.1, ?_⟩
  rcases h.2 with hn | ⟨g, cap, cur, rfl, hbb, rest⟩
  · exact .inl hn
  · exact .inr ⟨g, cap, cur, rfl, by omega, rest⟩
/-- a slice of bytes that a call has written out -/
theorem own_lit (w : World) (base : Nat) (l : List UInt8) (cs : Array Value) (n : Nat) (hcs : cs.toList = l.map mkB) (hn : l.length = n) (hb : base ≤ w.heap.size) (hm : n ≤ maxLen) :
    Own (w.alloc (.cells cs 5)) base (.slice (some ⟨w.heap.size, 0, none⟩) n n) l := by
  have hs : cs.size = n * 1 := by rw [← Array.length_toList, hcs, List.length_map, hn]; omega
  have := World.ownsRow_lit (base := base) (e := 5) (size := 1) w cs n hb hm hs
  rw [hcs, ← hn] at this
  rw [← hn]
  exact this
theorem blk_grown {w w' : World} {b : Nat} {x : Obj} {row : Option Nat} (h : w.heap[b]? = some x) (hg : w.grownBy w' row) (hne : some b ≠ row) : w'.heap[b]? = some x := (hg.block b (blk_lt h) hne).trans h
/-- behind an append, as seen from below the base: nothing has changed -/
structure Grew (base : Nat) (w w' : World) (row : Option Nat) : Prop where
  below : ∀ (B : Nat) (a : World), Below B a w → B ≤ base → Below B a w'
  size : w.heap.size ≤ w'.heap.size
  kept : ∀ b x, w.heap[b]? = some x → b < base → w'.heap[b]? = some x
/-- append(s, b), the byte lying in a block of its own -/
theorem wp_appB1 {ops : Array Oper} {rest : List Oper} {o : Oper} {a : Act} {w : World} {Q : Exit → Act → World → Prop} (hgd : o.guard = none) (s x : Operand)
    (ho : o.op = .call { callee := .builtin .append, args := #[s, x], argTypes := #[31, 31] }) (base : Nat) (v : Value) (l : List UInt8) (hs : a.eval s = v) (hown : Own w base v l)
    (b : UInt8) (y : Int) (hy : y = (b.toNat : Int)) (hx : a.eval x = .slice (some ⟨w.heap.size, 0, none⟩) 1 1) (hlen : l.length < 1000000000000) (hbase : base ≤ w.heap.size)
    (h : ∀ v' w', Own w' base v' (l ++ [b]) → Grew base w w' v.ownBlock → (∃ g cap, v' = .slice (some ⟨g, 0, none⟩) (l.length + 1) cap ∧ base ≤ g) → wpList Tryd.prog ops Q rest (a.put o.dst v') w') :
    wpList Tryd.prog ops Q (o :: rest) a (w.alloc (.cells #[.int .u8 y] 5)) := by
  obtain ⟨i0, hi, hz0, hz1, hz2⟩ := info_parts info_u8
  subst hy
  refine wpList_append_own _ hgd s x 31 ho base 5 i0 (.int .u8 0) 1 1 Tryd.underlying31 hi hz0 hz1 hz2 rfl (by decide) v l.length (l.map mkB) hs (hown.alloc _) ⟨w.heap.size, 0, none⟩ 1 1 [mkB b] hx rfl (cell_one_new _ _ _) (by intro u hu; simp at hu; subst hu; rfl) (by unfold maxLen; omega) (by omega) (by simp; omega) ?_
  intro v' w' hown' hg hnil
  have hO : Own w' base v' (l ++ [b]) := by
    have e : (l ++ [b]).map mkB = l.map mkB ++ [mkB b] := by simp
    have e2 : (l ++ [b]).length = l.length + 1 := by simp
    show w'.ownsRow _ _ _ _ _ _
    rw [e, e2]
    exact hown'
  obtain ⟨g, cap, hv, hg2, _⟩ := own_slice hO (by simp)
  have hrow : ∀ j, v.ownBlock = some j → base ≤ j := fun j hj => (hown.lt j hj).1
  refine h v' w' hO ⟨?_, ?_, ?_⟩ ⟨g, cap, by rw [hv]; simp, hg2⟩
  · intro B a0 hB hBb
    exact (hB.alloc (by have := hB.size; omega) _).grown hg (by simp; omega) (fun j hj => Nat.le_trans hBb (hrow j hj))
  · have := hg.size
    rw [World.size_alloc] at this
    omega
  · intro k z hk hkb
    exact blk_grown (blk_alloc hk _) hg (fun e => by have := hrow k e.symm; omega)
end Go.Proofs.YtbgieephehfgpabDoor
/-
  Plain mathematics of SHA-256: padding, the hash's bytes. No program here. No conditions.
-/
namespace Go.Proofs.YtbgieephehfgpabDoor
open Go Go.RowKit
namespace Sha
/-- how many zero bytes stand behind the byte 128 -/
def padK (n : Nat) : Nat := (119 - n % 64) % 64
/-- byte i of the message's length in bits -/
def lenB (n i : Nat) : UInt8 := UInt8.ofNat ((8 * n) >>> (56 - 8 * i))
def zerosP (k : Nat) : List UInt8 := 128 :: List.replicate k 0
def padP (n i : Nat) : List UInt8 := zerosP (padK n) ++ (List.range i).map (lenB n)
def padN (n : Nat) : List UInt8 := padP n 8
def padded (m : List UInt8) : List UInt8 := m ++ padN m.length
def sumS (m : List UInt8) : S8 := hb (padded m) ((padded m).length / 64)
def wd (s : S8) (i : Nat) : W := [s.a, s.b, s.c, s.d, s.e, s.f, s.g, s.h].getD i 0#32
def outB (s : S8) (i : Nat) : UInt8 := UInt8.ofNat ((wd s (i / 4)).toNat >>> (24 - 8 * (i % 4)))
def outs (s : S8) (i : Nat) : List UInt8 := (List.range i).map (outB s)
/-- SHA-256 -/
def sha (m : List UInt8) : List UInt8 := outs (sumS m) 32
theorem zerosP_succ (k : Nat) : zerosP (k + 1) = zerosP k ++ [0] := by simp [zerosP, List.replicate_succ']
theorem padP_succ (n i : Nat) : padP n (i + 1) = padP n i ++ [lenB n i] := by simp [padP, List.range_succ]
theorem outs_succ (s : S8) (i : Nat) : outs s (i + 1) = outs s i ++ [outB s i] := by simp [outs, List.range_succ]
theorem zerosP_len (k : Nat) : (zerosP k).length = k + 1 := by simp [zerosP]
theorem padP_len (n i : Nat) : (padP n i).length = padK n + 1 + i := by simp [padP, zerosP_len]
theorem outs_len (s : S8) (i : Nat) : (outs s i).length = i := by simp [outs]
theorem padK_lt (n : Nat) : padK n < 64 := Nat.mod_lt _ (by omega)
theorem padK_at (n k : Nat) (h : k ≤ padK n) : (n + (k + 1)) % 64 = 56 ↔ k = padK n := by
  unfold padK at *
  omega
theorem sha_len (m : List UInt8) : (sha m).length = 32 := outs_len _ _
theorem padded_len (m : List UInt8) : (padded m).length % 64 = 0 := by
  have : padK m.length = (119 - m.length % 64) % 64 := rfl
  simp only [padded, padN, List.length_append, padP_len]
  omega
/-- 32 cells of which the first i are written -/
def outA (s : S8) (i : Nat) : Array Value := ((outs s i).map mkB ++ List.replicate (32 - i) (Value.int .u8 0)).toArray
theorem outA_set (s : S8) (i : Nat) (h : i < 32) : (outA s i).setIfInBounds i (mkB (outB s i)) = outA s (i + 1) := by
  apply Array.ext'
  rw [Array.toList_setIfInBounds]
  unfold outA
  rw [List.set_append_right _ _ (by simp [outs_len]), outs_succ]
  simp only [List.length_map, outs_len, Nat.sub_self, List.map_append]
  rw [show 32 - i = (32 - (i + 1)) + 1 by omega, List.replicate_succ]
  simp
def bytesV (l : List UInt8) : Value := .agg (l.map mkB).toArray
theorem outA_full (s : S8) : Value.agg (outA s 32) = bytesV (outs s 32) := by simp [outA, bytesV]
theorem lenB_go (n i : Nat) : ((lenB n i).toNat : Int) = ((8 * (n : Int)) / 2 ^ (56 - 8 * i)) % 256 := by
  unfold lenB
  rw [UInt8.toNat_ofNat', Nat.shiftRight_eq_div_pow]
  show (((8 * n) / 2 ^ (56 - 8 * i) % 256 : Nat) : Int) = _
  rw [Int.natCast_emod, Int.natCast_ediv, Int.natCast_mul, Int.natCast_pow]
  rfl
theorem outB_go (s : S8) (i : Nat) : ((outB s i).toNat : Int) = (tI (wd s (i / 4)) / 2 ^ (24 - 8 * (i % 4))) % 256 := by
  unfold outB tI
  rw [UInt8.toNat_ofNat', Nat.shiftRight_eq_div_pow]
  show (((wd s (i / 4)).toNat / 2 ^ (24 - 8 * (i % 4)) % 256 : Nat) : Int) = _
  rw [Int.natCast_emod, Int.natCast_ediv, Int.natCast_pow]
  rfl
theorem sL_wd (st : S8) (blk : List UInt8) (n i : Nat) (hi : i < 8) : (sL st blk n)[i]? = some (.int .u32 (tI (wd st i))) := by
  rw [sL_st _ _ _ _ hi]
  match i, hi with
  | 0, _ | 1, _ | 2, _ | 3, _ | 4, _ | 5, _ | 6, _ | 7, _ => rfl
end Sha
end Go.Proofs.YtbgieephehfgpabDoor
/-
  What the program's (hash.Stream).Sum returns: the SHA-256 hash of the stream's message. Conditions: messages of at most 10^9 bytes, the tables are as the program's text lays them.
-/
namespace Go.Proofs.YtbgieephehfgpabDoor
open Go Go.RowKit Sha
theorem one_cells (l : List UInt8) : (l.map mkB).toArray.all (·.oneCell') = true := by
  rw [List.all_toArray, List.all_eq_true]
  intro v hv
  obtain ⟨b, _, rfl⟩ := List.mem_map.1 hv
  rfl
theorem outA_at (s : S8) (i : Nat) (h : i < 32) : (outA s i)[i]? = some (.int .u8 0) := by
  unfold outA
  rw [List.getElem?_toArray, List.getElem?_append_right (by simp [outs_len])]
  simp [outs_len, List.getElem?_replicate]
  omega
def lenOfV : Value → Nat | .slice _ n _ => n | _ => 0
set_option maxRecDepth 100000 in
set_option maxHeartbeats 4000000 in
theorem ssum_any (m : List UInt8) (v : Value) (w : World) (hv : Rep m v) (hm : m.length ≤ 100000000000) (hT : TabC w) :
    Calls Tryd.prog 40 #[v] w fun e w' => e = .returned (bytesV (sha m)) ∧ Below w.heap.size w w' := by
  obtain ⟨blk0, hbl0, rfl, hpart0⟩ := hv
  have hRep : Rep m (.agg (sL (hb m (m.length / 64)) blk0 m.length).toArray) := ⟨blk0, hbl0, rfl, hpart0⟩
  generalize hst : hb m (m.length / 64) = st at *
  generalize hN : m.length = N at *
  have HRep := Lib.hid hRep
  clear hRep
  have h72 : (sL st blk0 N).toArray[72]? = some (.int .u64 (N : Int)) := (List.getElem?_toArray ..).trans (sL_n _ _ _ hbl0)
  have e8 : IntKind.u64.wrap (8 * (N : Int)) = 8 * (N : Int) := by rw [IntWalk.u64_in _ (by omega)]
  go_enter Tryd.func40, Tryd.ntmps40
  go_wp2
  go_loopw [4] (fun p wr => ∃ k : Nat, k ≤ padK N ∧ (∃ g cap, p = .slice (some ⟨g, 0, none⟩) (k + 1) cap ∧ w.heap.size + 2 ≤ g) ∧ Own wr (w.heap.size + 2) p (zerosP k) ∧ Blk wr w.heap.size (sL st blk0 N).toArray 70 ∧ Blk wr (w.heap.size + 1) (List.replicate 32 (Value.int .u8 0)).toArray 33 ∧ Below w.heap.size w wr ∧ w.heap.size + 2 ≤ wr.heap.size) (fun p _ => 64 - lenOfV p)
  case atStart => exact ⟨0, Nat.zero_le _, ⟨_, 1, rfl, by omega⟩, by { have h := own_lit ((w.alloc (.cells (sL st blk0 N).toArray 70)).alloc (.cells (List.replicate 32 (Value.int .u8 0)).toArray 33)) (w.heap.size + 2) (zerosP 0) #[.int .u8 128] 1 rfl rfl (by rw [World.size_alloc, World.size_alloc]; omega) (by unfold maxLen; omega); rw [World.size_alloc, World.size_alloc] at h; exact h }, blk_alloc (blk_alloc (blk_new _ _ _) _) _, blk_alloc (blk_new2 _ _ _ _) _, (((Below.refl _ _).alloc (Nat.le_refl _) _).alloc (by simp) _).alloc (by simp; omega) _, by simp⟩
  case round =>
    obtain ⟨k, hk, ⟨g, cap, rfl, hg⟩, hown, hb0, hb1, hB, hsz⟩ := hrel
    have c72 : wr.cell? ⟨w.heap.size, 72, none⟩ = some (.int .u64 (N : Int)) := (blk_cell hb0 72).trans h72
    have hkl := padK_lt N
    by_cases hkk : k = padK N
    · subst hkk
      have ht := (padK_at N _ hk).2 rfl
      have e3 : ((N : Int) + ((padK N : Int) + 1)) % 64 = 56 := by omega
      go_wp2
      clear c72
      have hown0 : Own wr (w.heap.size + 2) (.slice (some ⟨g, 0, none⟩) (padK N + 1) cap) (padP N 0) := by
        have e : padP N 0 = zerosP (padK N) := by simp [padP]
        rw [e]; exact hown
      obtain ⟨wo, rfl⟩ : ∃ wo : World, wo = wr := ⟨_, rfl⟩
      clear hown ht e3 hk
      go_loopw [4, 23] (fun p i wr => ∃ k : Nat, k ≤ 8 ∧ i = .int .i64 (k : Int) ∧ (∃ g cap, p = .slice (some ⟨g, 0, none⟩) (padK N + 1 + k) cap ∧ w.heap.size + 2 ≤ g) ∧ Own wr (w.heap.size + 2) p (padP N k) ∧ Blk wr w.heap.size (sL st blk0 N).toArray 70 ∧ Blk wr (w.heap.size + 1) (List.replicate 32 (Value.int .u8 0)).toArray 33 ∧ Below w.heap.size w wr ∧ w.heap.size + 2 ≤ wr.heap.size) (fun _ i _ => 8 - (intOf i).toNat)
      case atStart => exact ⟨0, by omega, rfl, ⟨g, cap, rfl, hg⟩, hown0, hb0, hb1, hB, hsz⟩
      case round =>
        clear hown0 hb0 hb1 hB hsz hg
        obtain ⟨k, hk, rfl, ⟨g, cap, rfl, hg⟩, hown, hb0, hb1, hB, hsz⟩ := hrel
        by_cases h8 : k < 8
        · have hlb := lenB_go N k
          go_wp2_with (with_reducible refine wp_appB1 rfl (.tmp 26) (.tmp 33) rfl (w.heap.size + 2) _ (padP N k) rfl hown (lenB N k) _ hlb.symm rfl (by rw [padP_len]; omega) hsz ?_; intro v1 w1 hown1 hg1 hv1)
          obtain ⟨g1, cap1, rfl, hg1'⟩ := hv1
          rw [← padP_succ] at hown1
          rw [padP_len] at *
          exact ⟨⟨k + 1, by omega, by go_num, ⟨g1, cap1, rfl, hg1'⟩, hown1, hg1.kept _ _ hb0 (by omega), hg1.kept _ _ hb1 (by omega), hg1.below _ _ hB (by omega), by have := hg1.size; omega⟩, by simp [intOf]; omega⟩
        · obtain rfl : k = 8 := by omega
          have hconv := fun W (hW : RdB W (.slice (some ⟨g, 0, none⟩) (padK N + 1 + 8) cap) (padP N 8)) => RdB.conv (P := Tryd.prog) hW 31 9 5 Tryd.underlying31 Tryd.underlying5 Tryd.underlying9
          have hcv := hconv wr (own_rd hown)
          have hTr := hT.below hB
          have hi73 : ∀ (st : S8) (bl : List UInt8) (n : Nat), bl.length = 64 → (Tryd.prog.info? 70).map (·.size) = some ((sL st bl n).toArray).size := fun st bl n h => by rw [List.size_toArray, sL_len _ _ _ h]; kernel_rfl
          have Hi := Lib.hid (hi73 st blk0 N hbl0)
          have hcall := sadd_any m (.agg (sL st blk0 N).toArray) ⟨(padP N 8).toArray⟩ wr HRep.out (by rw [hN]; simp [ByteArray.size, padP_len]; omega) hTr
          have hpad : (⟨(padP N 8).toArray⟩ : ByteArray).data.toList = padN N := rfl
          rw [hpad] at hcall
          have hmp : m ++ padN N = padded m := by unfold padded; rw [hN]
          rw [hmp] at hcall
          have Hcall := Lib.hid hcall
          clear hown hconv hcall hmp hpad hpart0 e8 h72
          go_wp2_with (first | (with_reducible refine wpList_load_row rfl 70 (.tmp 1) rfl w.heap.size rfl 70 _ _ _ hb0 Tryd.underlying70 rfl Hi.out ?_) | (go_at_call 39; (with_reducible refine Hcall.out.mono ?_); rintro e w1 ⟨⟨v', ⟨blk1, hbl1, rfl, hpart1⟩, rfl⟩, hw1⟩; have hk0 := blk_kept hb0 hw1; have hk1 := blk_kept hb1 hw1; have Hi1 := Lib.hid (hi73 (sumS m) blk1 (padded m).length hbl1); have hB1 := hB.trans (hw1.mono hB.size); have Hz1 : Hid ((sL st blk0 N).toArray.size = (sL (sumS m) blk1 (padded m).length).toArray.size) := Lib.hid (by rw [List.size_toArray, List.size_toArray, sL_len _ _ _ hbl1, sL_len _ _ _ hbl0]); change Below wr.heap.size wr w1 at hw1; clear hpart1) | (with_reducible refine wpList_store_row rfl 70 (.tmp 1) (.tmp 39) rfl w.heap.size (sL (sumS m) blk1 (padded m).length).toArray rfl rfl 70 _ hk0 Hi1.out Hz1.out (sL_one _ _ _) ?_))
          have hs1 := blk_setRow hk0 (sL (sumS m) blk1 (padded m).length).toArray
          have hs2 := blk_setRow_far hk1 w.heap.size (by omega) (sL (sumS m) blk1 (padded m).length).toArray
          have hB2 := below_setRow hB1 (Nat.le_refl _) (sL (sumS m) blk1 (padded m).length).toArray
          have h1z : w.heap.size + 2 ≤ w1.heap.size := Nat.le_trans hsz hw1.size
          have h2z : w1.heap.size = (w1.setRow w.heap.size (sL (sumS m) blk1 (padded m).length).toArray).heap.size := by simp [World.setRow]
          generalize w1.setRow w.heap.size (sL (sumS m) blk1 (padded m).length).toArray = w2 at *
          have hs3 := blk_alloc hs1 (.cells (outA (sumS m) 0) 33)
          have hs4 := blk_alloc hs2 (.cells (outA (sumS m) 0) 33)
          have hs5 := blk_new w2 (outA (sumS m) 0) 33
          have hB3 := hB2.alloc (by omega) (.cells (outA (sumS m) 0) 33)
          rw [← h2z] at hs5
          have hcell := fun i hi => sL_wd (sumS m) blk1 (padded m).length i hi
          generalize (padded m).length = L at *
          have hres : sha m = outs (sumS m) 32 := rfl
          generalize sumS m = S at *
          have Hres := Lib.hid hres
          clear hk0 hk1 hB1 hs1 hs2 hB2 hb0 hb1 hB hw1 hTr hcv hi73 hres h2z
          generalize w1.heap.size = N1 at *
          go_loopw [40] (fun i wr => ∃ k : Nat, k ≤ 32 ∧ i = .int .i64 (k : Int) ∧ Blk wr N1 (outA S k) 33 ∧ Blk wr w.heap.size (sL S blk1 L).toArray 70 ∧ Blk wr (w.heap.size + 1) (List.replicate 32 (Value.int .u8 0)).toArray 33 ∧ Below w.heap.size w wr) (fun i _ => 32 - (intOf i).toNat)
          case atStart => exact ⟨0, by omega, rfl, hs5, hs3, hs4, hB3⟩
          case round =>
            clear hs3 hs4 hs5 hB3
            obtain ⟨k, hk, rfl, hb5, hb3, hb4, hB⟩ := hrel
            by_cases h32 : k < 32
            · obtain ⟨q, hq⟩ : ∃ q, q = k / 4 := ⟨_, rfl⟩
              obtain ⟨r, hr⟩ : ∃ r, r = k % 4 := ⟨_, rfl⟩
              have e1 : (k : Int) / 4 = (q : Int) := by omega
              have e2 : (k : Int) % 4 = (r : Int) := by omega
              have hq8 : q < 8 := by omega
              have hr4 : r < 4 := by omega
              have hob := outB_go S k
              rw [← hq, ← hr] at hob
              have hset := outA_set S k h32
              have hcq : wr.cell? ⟨w.heap.size, q, none⟩ = some (.int .u32 (tI (wd S q))) := (blk_cell hb3 q).trans ((List.getElem?_toArray ..).trans (hcell q hq8))
              have hk5 : wr.cell? ⟨N1, k, none⟩ = some (.int .u8 0) := (blk_cell hb5 k).trans (outA_at S k h32)
              have hf5 := blk_free hb5 k
              have hbb := byte_bd (outB S k)
              have hwb := tI_lo (wd S q)
              have hb5' := blk_set hb5 k (mkB (outB S k))
              rw [hset] at hb5'
              have hfb3 := blk_far hb3 (p := ⟨N1, k, none⟩) (by simp; omega) (mkB (outB S k))
              have hfb4 := blk_far hb4 (p := ⟨N1, k, none⟩) (by simp; omega) (mkB (outB S k))
              have hBf := hB.setCell (p := ⟨N1, k, none⟩) (by simp; omega) (mkB (outB S k))
              have H5 := Lib.hid hb5'
              have H3 := Lib.hid hfb3
              have H4 := Lib.hid hfb4
              have Hq := Lib.hid hq
              have Hr := Lib.hid hr
              clear hset hb5' hfb3 hfb4 hcell hq hr
              generalize tI (wd S q) = wv at *
              generalize hbv : outB S k = bv at *
              go_wp2
              go_roundw
              case rel => exact ⟨k + 1, by omega, by go_num, by rw [← hob]; exact H5.out, by rw [← hob]; exact H3.out, by rw [← hob]; exact H4.out, by rw [← hob]; exact hBf⟩
              case measure => simp [intOf]; omega
            · obtain rfl : k = 32 := by omega
              have hi32 : Hid ((Tryd.prog.info? 33).map (·.size) = some (outA S 32).size) := Lib.hid (by rw [show (outA S 32).size = 32 by simp [outA, outs_len]]; kernel_rfl)
              have hz32 : Hid ((List.replicate 32 (Value.int .u8 0)).toArray.size = (outA S 32).size) := Lib.hid (by rw [show (outA S 32).size = 32 by simp [outA, outs_len]]; rfl)
              have ho32 : Hid ((outA S 32).all (·.oneCell') = true) := Lib.hid (by rw [show outA S 32 = ((outs S 32).map mkB).toArray by simp [outA]]; exact one_cells _)
              clear hcell
              go_wp2_with (first | (with_reducible refine wpList_load_row rfl 33 (.tmp 6) rfl N1 rfl 33 _ _ _ hb5 Tryd.underlying33 rfl hi32.out ?_) | (with_reducible refine wpList_store_row rfl 33 (.tmp 2) (.tmp 57) rfl (w.heap.size + 1) (outA S 32) rfl rfl 33 _ hb4 hi32.out hz32.out ho32.out ?_))
              exact bodyPost_ret (v := .agg (outA S 32)) (results_cell_row Tryd.results40 _ _ (w.heap.size + 1) 33 _ _ _ rfl (blk_setRow hb4 _) Tryd.underlying33 rfl hi32.out) rfl ⟨by rw [outA_full, Hres.out], below_setRow hB (by omega) _⟩
    · have ht : ¬ (N + (k + 1)) % 64 = 56 := fun h => hkk ((padK_at N k hk).1 h)
      have e3 : ¬ ((N : Int) + ((k : Int) + 1)) % 64 = 56 := by omega
      go_wp2_with (with_reducible refine wp_appB1 rfl (.tmp 20) (.tmp 21) rfl (w.heap.size + 2) _ (zerosP k) rfl hown 0 0 rfl rfl (by rw [zerosP_len]; omega) hsz ?_; intro v1 w1 hown1 hg1 hv1)
      obtain ⟨g1, cap1, rfl, hg1'⟩ := hv1
      rw [zerosP_len] at *
      rw [← zerosP_succ] at hown1
      exact ⟨⟨k + 1, by omega, ⟨g1, cap1, rfl, hg1'⟩, hown1, hg1.kept _ _ hb0 (by omega), hg1.kept _ _ hb1 (by omega), hg1.below _ _ hB (by omega), by have := hg1.size; omega⟩, by simp [lenOfV]; omega⟩
end Go.Proofs.YtbgieephehfgpabDoor
/-
  What the program's hash.Sum returns: the SHA-256 hash of the bytes. Conditions: at most 10^9 bytes, the tables are as the program's text lays them.
-/
namespace Go.Proofs.YtbgieephehfgpabDoor
open Go Go.RowKit Sha
theorem run_storeCells_whole {P : Program} (W : World) (g : Nat) (t : TypeId) (old C : Array Value) (h : W.heap[g]? = some (.cells old t (0, 0))) (hs : old.size = C.size) (h1 : C.all (·.oneCell') = true) :
    (storeCells ⟨g, 0, none⟩ C.toList).run P W = .ok () (W.setRow g C) := by
  have := run_storeCells_from (P := P) g t C.toList 0 old W h (by simp; omega) (fun v hv => (Array.all_eq_true_iff_forall_mem.1 h1) v (by simpa using hv))
  rw [this]
  simp
set_option maxRecDepth 100000 in
set_option maxHeartbeats 2000000 in
theorem hsum_any (v : Value) (l : List UInt8) (w : World) (hr : RdB w v l) (hs : l.length ≤ 100000000000) (hT : TabC w) :
    Calls Tryd.prog 16 #[v] w fun e w' => e = .returned (bytesV (sha l)) ∧ Below w.heap.size w w' := by
  have hcv : ∀ W, Below w.heap.size w W → (convert 31 9 v).run Tryd.prog W = .ok (.string ⟨l.toArray⟩) W :=
    fun W hW => RdB.conv (Rd.below hr hW) _ _ 5 Tryd.underlying31 Tryd.underlying5 Tryd.underlying9
  obtain ⟨C, hC⟩ : ∃ C : Array Value, C = ((sha l).map mkB).toArray := ⟨_, rfl⟩
  have hCs : C.size = 32 := by rw [hC]; simp [sha_len]
  have hC1 : C.all (·.oneCell') = true := by rw [hC]; exact one_cells _
  have hCi : (Tryd.prog.info? 33).map (·.size) = some C.size := by rw [hCs]; kernel_rfl
  have hC' : bytesV (sha l) = .agg C := by rw [hC]; rfl
  rw [hC']
  have hss : ∀ v W, Rep l v → TabC W → Calls Tryd.prog 40 #[v] W fun e w' => e = .returned (.agg C) ∧ Below W.heap.size W w' := fun v W h1 h2 => by
    have := ssum_any l v W h1 hs h2
    rw [hC'] at this
    exact this
  have hst : ∀ W, W.heap[w.heap.size]? = some (.cells (List.replicate 32 (Value.int .u8 0)).toArray 33 (0, 0)) → (storeCells ⟨w.heap.size, 0, none⟩ C.toList).run Tryd.prog W = .ok () (W.setRow w.heap.size C) := fun W h => run_storeCells_whole W w.heap.size _ _ C h (by rw [hCs]; rfl) hC1
  clear hC hC'
  go_enter Tryd.func16, Tryd.ntmps16
  go_wp2_with fail
  have hz : Blk (w.alloc (.cells (List.replicate 32 (Value.int .u8 0)).toArray 33)).drew w.heap.size (List.replicate 32 (Value.int .u8 0)).toArray 33 := blk_new w _ _
  have hw0 : Below w.heap.size w (w.alloc (.cells (List.replicate 32 (Value.int .u8 0)).toArray 33)).drew := ((Below.refl _ _).alloc (Nat.le_refl _) _).drew
  have hT0 := (hT.alloc (.cells (List.replicate 32 (Value.int .u8 0)).toArray 33)).drew
  change Code.wp _ _ _ _ (w.alloc (.cells (List.replicate 32 (Value.int .u8 0)).toArray 33))
  have hsz : w.heap.size < (w.alloc (.cells (List.replicate 32 (Value.int .u8 0)).toArray 33)).heap.size := by simp
  generalize w.alloc (.cells (List.replicate 32 (Value.int .u8 0)).toArray 33) = wx at *
  go_region_with (first
    | (go_at_call 38; ((with_reducible refine (begin2_any _).mono ?_); rintro e w1 ⟨⟨v1, hv1, rfl⟩, hw1⟩; have hB1 : Below w.heap.size w w1 := hw0.trans (hw1.mono (Nat.le_of_lt hsz)); have hT1 := TabC.below hT0 hw1; have hz1 := blk_kept hz hw1))
    | (go_at_call 39; ((with_reducible refine (sadd_any [] v1 ⟨l.toArray⟩ _ hv1 (by simp [ByteArray.size]; omega) (by assumption)).mono ?_); rintro e w2 ⟨⟨v2, hv2, rfl⟩, hw2⟩; have hB2 : Below w.heap.size w w2 := Below.trans hB1 (hw2.mono hB1.size); have hT2 := TabC.below hT1 hw2; have hz2 := blk_kept hz1 hw2; rw [List.nil_append] at hv2))
    | (go_at_call 40; ((with_reducible refine (hss v2 _ hv2 hT2).mono ?_); rintro e w3 ⟨rfl, hw3⟩; have hB3 := hB2.trans (hw3.mono hB2.size); have hz3 := blk_kept hz2 hw3)))
  all_goals
    go_wp2_with fail
    exact bodyPost_ret (v := .agg C) (results_cell_row Tryd.results16 _ _ w.heap.size 33 _ _ _ rfl (blk_setRow hz3 _) Tryd.underlying33 rfl hCi) rfl ⟨rfl, below_setRow hB3 (Nat.le_refl _) _⟩
end Go.Proofs.YtbgieephehfgpabDoor
/-
  Plain mathematics of wire: an integer's bytes, a string's bytes. No conditions.
-/
namespace Go.Proofs.YtbgieephehfgpabDoor
open Go Go.RowKit
namespace Wire
/-- groups of seven bits, the lowest first -/
def groups : Nat → Nat → List UInt8
  | 0, z => [UInt8.ofNat z]
  | f + 1, z => if z > 127 then UInt8.ofNat (z % 128 + 128) :: groups f (z / 128) else [UInt8.ofNat z]
/-- a length's bytes -/
def intB (n : Nat) : List UInt8 := groups 9 (2 * n)
def bytesB (l : List UInt8) : List UInt8 := intB l.length ++ l
theorem groups_len (f z : Nat) : (groups f z).length ≤ f + 1 := by
  induction f generalizing z with
  | zero => simp [groups]
  | succ f ih =>
    rw [groups]
    split
    · have := ih (z / 128); simp; omega
    · simp
theorem intB_len (n : Nat) : (intB n).length ≤ 10 := groups_len 9 _
end Wire
end Go.Proofs.YtbgieephehfgpabDoor
/-
  What the program's wire.Int and wire.Bytes return. Conditions: lengths of at most 10^12.
-/
namespace Go.Proofs.YtbgieephehfgpabDoor
open Go Go.RowKit Wire Go.Lib
theorem strCells_map (l : List UInt8) : strCells ⟨l.toArray⟩ = l.map mkB := by
  simp [strCells]
  intro a _
  rfl
/-- append(s, t...), t a string -/
theorem wp_appS {ops : Array Oper} {rest : List Oper} {o : Oper} {a : Act} {w : World} {Q : Exit → Act → World → Prop} (hgd : o.guard = none) (s x : Operand)
    (ho : o.op = .call { callee := .builtin .append, args := #[s, x], argTypes := #[31, 9] }) (base : Nat) (v : Value) (l : List UInt8) (hs : a.eval s = v) (hown : Own w base v l)
    (m : List UInt8) (hx : a.eval x = .string ⟨m.toArray⟩) (hlen : l.length + m.length < 1000000000000) (hbase : base ≤ w.heap.size)
    (h : ∀ v' w', Own w' base v' (l ++ m) → Grew base w w' v.ownBlock → wpList Tryd.prog ops Q rest (a.put o.dst v') w') :
    wpList Tryd.prog ops Q (o :: rest) a w := by
  obtain ⟨i0, hi, hz0, hz1, hz2⟩ := info_parts info_u8
  have hsz : (⟨m.toArray⟩ : ByteArray).size = m.length := by simp [ByteArray.size]
  refine wpList_append_own_string _ hgd s x 31 9 ho base 5 i0 Tryd.underlying31 Tryd.underlying9 hi hz0 hz1 hz2 v l.length (l.map mkB) hs hown ⟨m.toArray⟩ hx (by rw [hsz]; unfold maxLen; omega) (by rw [hsz]; omega) hbase ?_
  intro v' w' hown' hg hnil
  have hO : Own w' base v' (l ++ m) := by
    have e : (l ++ m).map mkB = l.map mkB ++ strCells ⟨m.toArray⟩ := by rw [strCells_map, List.map_append]
    have e2 : (l ++ m).length = l.length + (⟨m.toArray⟩ : ByteArray).size := by rw [hsz, List.length_append]
    show w'.ownsRow _ _ _ _ _ _
    rw [e, e2]
    exact hown'
  have hrow : ∀ j, v.ownBlock = some j → base ≤ j := fun j hj => (hown.lt j hj).1
  refine h v' w' hO ⟨?_, hg.size, ?_⟩
  · intro B a0 hB hBb
    exact hB.grown hg (by omega) (fun j hj => Nat.le_trans hBb (hrow j hj))
  · intro k z hk hkb
    exact blk_grown hk hg (fun e => by have := hrow k e.symm; omega)
theorem gor128_all : ∀ x : Fin 256, bits .or .u8 (x.1 : Int) 128 = ((x.1 % 128 + 128 : Nat) : Int) := by decide +kernel
theorem gor128 (z : Nat) : bits .or .u8 ((z : Int) % 256) 128 = ((UInt8.ofNat (z % 128 + 128)).toNat : Int) := by
  have h := gor128_all ⟨z % 256, Nat.mod_lt _ (by omega)⟩
  have e : (z : Int) % 256 = ((z % 256 : Nat) : Int) := by omega
  rw [e, h, UInt8.toNat_ofNat']
  simp only
  omega
theorem gbyte (z : Nat) : ((UInt8.ofNat z).toNat : Int) = (z : Int) % 256 := by
  rw [UInt8.toNat_ofNat']
  omega
def natOfV : Value → Nat | .int _ n => n.toNat | _ => 0
set_option maxHeartbeats 1000000 in
theorem wint_any (n : Nat) (w : World) (hn : n ≤ 1000000000000) :
    Calls Tryd.prog 67 #[.int .i64 (n : Int)] w fun e w' => (∃ v, e = .returned v ∧ Own w' w.heap.size v (intB n)) ∧ Below w.heap.size w w' := by
  have e1 : IntKind.u64.wrap (n : Int) = n := by rw [IntWalk.u64_in _ (by omega)]
  have e2 : (n : Int) / 9223372036854775808 = 0 := by omega
  have e3 : bits .xor .u64 ((n : Int) * 2) 0 = ((2 * n : Nat) : Int) := by
    rw [Crc.xor_u64 _ _ (by omega) (by omega) (by omega) (by omega)]
    simp
    omega
  go_enter Tryd.func67, Tryd.ntmps67
  go_wp2
  go_loopw [3, 4] (fun x o wr => ∃ (z f : Nat) (don : List UInt8), x = .int .u64 (z : Int) ∧ z < 128 ^ (f + 1) ∧ z ≤ 2000000000000 ∧ don.length + f = 9 ∧ intB n = don ++ groups f z ∧ Own wr w.heap.size o don ∧ Below w.heap.size w wr) (fun x _ _ => natOfV x)
  case atStart => exact ⟨2 * n, 9, [], rfl, by omega, by omega, rfl, rfl, own_nil _ _, Below.refl _ _⟩
  case round =>
    clear e1 e2 e3
    obtain ⟨z, f, don, rfl, hz, hzb, hd, hl, hown, hB⟩ := hrel
    by_cases h : z > 127
    · cases f with
      | zero => omega
      | succ f =>
        have hl2 : intB n = (don ++ [UInt8.ofNat (z % 128 + 128)]) ++ groups f (z / 128) := by rw [hl, groups, if_pos h, List.append_assoc]; rfl
        have hz2 : z / 128 < 128 ^ (f + 1) := Nat.div_lt_of_lt_mul (by rw [Nat.pow_succ] at hz; omega)
        have hor := gor128 z
        have Hl := Lib.hid hl2
        have Hz := Lib.hid hz2
        clear hl hl2 hz hz2
        go_wp2_with (with_reducible refine wp_appB1 rfl (.tmp 16) (.tmp 20) rfl w.heap.size _ don rfl hown (UInt8.ofNat (z % 128 + 128)) _ rfl rfl (by omega) hB.size ?_; intro v1 w1 hown1 hg1 hv1)
        go_roundw
        case rel => exact ⟨z / 128, f, _, by go_num, Hz.out, by omega, by simp; omega, Hl.out, hown1, hg1.below _ _ hB (Nat.le_refl _)⟩
        case measure => simp [natOfV]; omega
    · have hg : groups f z = [UInt8.ofNat z] := by
        cases f with
        | zero => rfl
        | succ f => rw [groups, if_neg h]
      rw [hg] at hl
      have Hl := Lib.hid hl
      have hgb : ((UInt8.ofNat z).toNat : Int) = (z : Int) := by rw [gbyte]; omega
      clear hl hz hg
      go_wp2_with (with_reducible refine wp_appB1 rfl (.tmp 22) (.tmp 25) rfl w.heap.size _ don rfl hown (UInt8.ofNat z) _ hgb.symm rfl (by omega) hB.size ?_; intro v1 w1 hown1 hg1 hv1)

      go_ret
      exact ⟨⟨_, rfl, by rw [Hl.out]; exact hown1⟩, hg1.below _ _ hB (Nat.le_refl _)⟩
set_option maxHeartbeats 1000000 in
theorem wbytes_any (l : List UInt8) (w : World) (hn : l.length ≤ 1000000000) :
    Calls Tryd.prog 50 #[.string ⟨l.toArray⟩] w fun e w' => (∃ v, e = .returned v ∧ Own w' w.heap.size v (bytesB l)) ∧ Below w.heap.size w w' := by
  have hsz : (⟨l.toArray⟩ : ByteArray).size = l.length := by simp [ByteArray.size]
  have hb1 : (intB l.length).length + l.length < 1000000000000 := by have := intB_len l.length; omega
  go_enter Tryd.func50, Tryd.ntmps50
  go_wp2_with (first | (go_at_call 67; (with_reducible refine (wint_any l.length _ (by omega)).mono ?_); rintro e w1 ⟨⟨v1, rfl, hown⟩, hw1⟩) | (with_reducible refine wp_appS rfl (.tmp 5) (.tmp 6) rfl w.heap.size v1 (intB l.length) rfl hown l rfl hb1 hw1.size ?_; intro v2 w2 hown2 hg2))
  go_ret
  exact ⟨⟨_, rfl, hown2⟩, hg2.below _ _ hw1 (Nat.le_refl _)⟩
end Go.Proofs.YtbgieephehfgpabDoor
