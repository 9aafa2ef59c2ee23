/-
  What the reference's Sum returns: the SHA-256 hash of the bytes. Conditions: at most 10^9 bytes, the reference's table is as the program's text lays it.
-/
import Derived.Test.YtbgieephehfgpabDoorRefSched
namespace Go.Proofs.YtbgieephehfgpabDoor
open Go Go.RowKit Sha
/-- what the reference's table of round constants holds -/
structure TabR (w : World) : Prop where
  con : ∀ i, i < 64 → w.cell? ⟨2, i, none⟩ = some (.int .u32 (kons.getD i 0))
theorem TabR.below {w w' : World} (h : TabR w) (hb : Below w.heap.size w w') : TabR w' :=
  ⟨fun i hi => (hb.cell (p := ⟨2, i, none⟩) (lt_of_cell (h.con i hi))).trans (h.con i hi)⟩
theorem ownOf_blk {α : Type} {mk : α → Value} {e : TypeId} {w : World} {base : Nat} {v : Value} {l : List α} (h : OwnOf mk e w base v l) (hl : l ≠ []) :
    ∃ g cap cur, v = .slice (some ⟨g, 0, none⟩) l.length cap ∧ base ≤ g ∧ l.length ≤ cap ∧ Blk w g cur e ∧ ∀ (i : Nat) (x : α), l[i]? = some x → cur[i]? = some (mk x) := by
  have hc := fun g => h.cells (g := g)
  rcases h.2 with ⟨_, h0⟩ | ⟨g, cap, cur, rfl, hb, hg, hcap, _⟩
  · exact absurd (List.length_eq_zero_iff.1 h0) hl
  · refine ⟨g, cap, cur, rfl, hb, hcap, hg, fun i x hx => ?_⟩
    have := hc g rfl i (mk x) (by rw [List.getElem?_map, hx]; rfl)
    rw [Addr.add_mid, Nat.zero_add, blk_cell hg] at this
    exact this
theorem xnot_go (x : W) : bits .xor .u32 (tI x) 4294967295 = tI (wnot x) := by
  have h : (4294967295 : Int) = tI (BitVec.allOnes 32) := by decide
  rw [h, xor_go]
  unfold wxor wnot
  rw [BitVec.xor_allOnes]
namespace Sha
/-- the hash value when n words have been added -/
def addQ (n : Nat) (s r : S8) : S8 := ⟨if 0 < n then wadd s.a r.a else s.a, if 1 < n then wadd s.b r.b else s.b, if 2 < n then wadd s.c r.c else s.c, if 3 < n then wadd s.d r.d else s.d, if 4 < n then wadd s.e r.e else s.e, if 5 < n then wadd s.f r.f else s.f, if 6 < n then wadd s.g r.g else s.g, if 7 < n then wadd s.h r.h else s.h⟩
theorem addQ_full (s r : S8) : addQ 8 s r = add8 s r := rfl
theorem addQ_none (s r : S8) : addQ 0 s r = s := rfl
theorem arr8_wd (s : S8) (i : Nat) (hi : i < 8) : (arr8 s)[i]? = some (.int .u32 (tI (wd s i))) := by
  match i, hi with
  | 0, _ | 1, _ | 2, _ | 3, _ | 4, _ | 5, _ | 6, _ | 7, _ => rfl
theorem addQ_wd (s r : S8) (n : Nat) (hn : n < 8) : wd (addQ n s r) n = wd s n := by
  match n, hn with
  | 0, _ | 1, _ | 2, _ | 3, _ | 4, _ | 5, _ | 6, _ | 7, _ => rfl
theorem addQ_set (s r : S8) (n : Nat) (hn : n < 8) : (arr8 (addQ n s r)).setIfInBounds n (vW (wadd (wd s n) (wd r n))) = arr8 (addQ (n + 1) s r) := by
  match n, hn with
  | 0, _ | 1, _ | 2, _ | 3, _ | 4, _ | 5, _ | 6, _ | 7, _ => rfl
end Sha
set_option maxRecDepth 100000 in
set_option maxHeartbeats 8000000 in
theorem refsum_any (v : Value) (l : List UInt8) (w : World) (hr : RdB w v l) (hs : l.length ≤ 1000000000) (hT : TabR w) :
    Calls Tryd.prog 68 #[v] w fun e w' => e = .returned (bytesV (sha l)) ∧ Below w.heap.size w w' := by
  have hpad := fun W (hW : RdB W v l) => rpadded_any v l W hW hs
  have hpl := padded_len l
  have hp2 : (padded l).length ≤ 1000000200 := by
    have := padK_lt l.length
    simp only [padded, padN, List.length_append, padP_len]
    omega
  have hp1 : padded l ≠ [] := by
    intro h
    have h2 := congrArg List.length h
    simp only [padded, padN, List.length_append, padP_len, List.length_nil] at h2
    omega
  have hsha : sha l = outs (hb (padded l) ((padded l).length / 64)) 32 := rfl
  generalize padded l = m at *
  have Hp1 := Lib.hid hp1
  clear hp1
  have Hsha := Lib.hid hsha
  clear hsha
  generalize sha l = shl at *
  have i8 : ∀ s : S8, (Tryd.prog.info? 66).map (·.size) = some (arr8 s).size := fun s => show (Tryd.prog.info? 66).map (·.size) = some 8 by kernel_rfl
  have I8 := Lib.hid i8
  clear i8
  go_enter Tryd.func68, Tryd.ntmps68
  go_wp2_with fail
  with_reducible refine (hpad _ (Rd.below hr ((below_alloc1 _ _).trans ((below_alloc1 _ _).mono (by rw [World.size_alloc]; omega))))).mono ?_
  rintro e w2 ⟨⟨v2, rfl, hown⟩, hw2⟩
  obtain ⟨hB2, hk0, hk1, hz2⟩ := after2 hw2
  rw [World.size_alloc, World.size_alloc] at hown
  obtain ⟨g, cap, cur, rfl, hg, hcap, hgB, hcell⟩ := ownOf_blk hown Hp1.out
  clear hown hw2 hpad
  have hs0 : Blk w2 (w.heap.size + 1) (arr8 (hb m 0)) 66 := hk1
  have ho0 : Blk w2 w.heap.size (List.replicate 32 (Value.int .u8 0)).toArray 33 := hk0
  clear hk0 hk1
  obtain ⟨J, hJ⟩ : ∃ J, m.length = 64 * J := ⟨m.length / 64, by omega⟩
  have HJ := Lib.hid hJ
  have hJ2 : J ≤ 100000000 := by omega
  clear hpl hp2
  go_wp2_with fail
  go_loopw [5, 6, 7, 8, 9, 10, 11] (fun s5 _ _ _ _ _ _ wr => ∃ j : Nat, j ≤ J ∧ s5 = .int .i64 (64 * (j : Int)) ∧ Blk wr (w.heap.size + 1) (arr8 (hb m j)) 66 ∧ Blk wr w.heap.size (List.replicate 32 (Value.int .u8 0)).toArray 33 ∧ Blk wr g cur 5 ∧ Below w.heap.size w wr ∧ w.heap.size + 2 ≤ wr.heap.size) (fun s5 _ _ _ _ _ _ _ => (64 * J - (intOf s5).toNat))
  case atStart => exact ⟨0, by omega, rfl, hs0, ho0, hgB, hB2, by omega⟩
  case round =>
    clear hs0 ho0 hgB hB2
    obtain ⟨j, hj, rfl, hs1, ho1, hgB, hB, hz⟩ := hrel
    have hTr := hT.below hB
    by_cases hlt : j < J
    · obtain ⟨bl, hbl⟩ : ∃ bl, bl = (m.drop (64 * j)).take 64 := ⟨_, rfl⟩
      have hcl : ∀ i, i < 64 → wr.cell? ⟨g, 64 * j + i, none⟩ = some (mkB (bl.getD i 0)) := by
        intro i hi
        have hx : m[64 * j + i]? = some (bl.getD i 0) := by
          rw [hbl, List.getD_eq_getElem?_getD, List.getElem?_take, if_pos hi, List.getElem?_drop]
          have hlt2 : 64 * j + i < m.length := by rw [HJ.out]; omega
          rw [List.getElem?_eq_getElem hlt2]
          rfl
        rw [blk_cell hgB, hcell _ _ hx]
      have hnext : hb m (j + 1) = comp (hb m j) bl := by rw [hb, hbl]
      obtain ⟨ws, hws⟩ : ∃ ws, ws = sched bl 64 := ⟨_, rfl⟩
      have hwl : ws.length = 64 := by rw [hws, sched_len]
      have hsc := rsched_any g (64 * j) (cap - 64 * j) bl wr (blk_lt hgB) hcl
      rw [← hws] at hsc
      have hcomp : comp (hb m j) bl = add8 (hb m j) (rounds ws (hb m j) 64) := by rw [comp, hws]
      rw [hcomp] at hnext
      generalize hb m j = st at *
      have Hnext := Lib.hid hnext
      have Hsc := Lib.hid hsc
      have Hwl := Lib.hid hwl
      clear hcl hbl hws hcomp hnext hsc hwl
      have hi : Hid ((Tryd.prog.info? 107).map (·.size) = some (Arr ws).size) := Lib.hid (by rw [info64, Arr_size _ (by rw [Hwl.out]; omega)])
      have hsz : Hid (64 = (Arr ws).size) := Lib.hid (Arr_size ws (by rw [Hwl.out]; omega)).symm
      go_wp2_with (first
        | (go_at_call 76; (with_reducible refine Hsc.out.mono ?_); rintro e w3 ⟨rfl, hw3⟩; have hs3 := blk_kept hs1 hw3; have ho3 := blk_kept ho1 hw3; have hg3 := blk_kept hgB hw3; have hB3 := hB.trans (hw3.mono hB.size); have hz3 := hw3.size; clear hw3)
        | ((with_reducible refine wpList_store_row rfl 107 (.tmp 6) (.tmp 28) rfl w3.heap.size (Arr ws) rfl rfl 107 _ (heap_alloc_new _ _) hi.out ?_ (Arr_one _) ?_); exact hsz.out; rw [World.setRow_alloc_new]; simp only [Act.put]; have hs4 := blk_alloc hs3 (.cells (Arr ws) 107); have ho4 := blk_alloc ho3 (.cells (Arr ws) 107); have hg4 := blk_alloc hg3 (.cells (Arr ws) 107); have hw4 := blk_new w3 (Arr ws) 107; have hB4 := hB3.alloc (by omega) (.cells (Arr ws) 107); have hgl := blk_lt hg3; generalize w3.alloc (.cells (Arr ws) 107) = w4 at *)
        | (with_reducible refine wpList_load_row rfl 66 (.tmp 3) rfl (w.heap.size + 1) rfl 66 _ _ _ hs4 Tryd.underlying66 rfl (I8.out _) ?_)
        | ((with_reducible refine wpList_store_row rfl 66 (.tmp 7) (.tmp 29) rfl w4.heap.size (arr8 st) rfl rfl 66 _ (heap_alloc_new _ _) (I8.out _) ?_ (arr8_one _) ?_); exact (show 8 = (arr8 st).size from rfl); rw [World.setRow_alloc_new]; simp only [Act.put]))
      have hs5 := blk_alloc hs4 (.cells (arr8 st) 66)
      have ho5 := blk_alloc ho4 (.cells (arr8 st) 66)
      have hg5 := blk_alloc hg4 (.cells (arr8 st) 66)
      have hw5 := blk_alloc hw4 (.cells (arr8 st) 66)
      have hv5 := blk_new w4 (arr8 st) 66
      have h67 := blk_lt hw4
      have hB5 := hB4.alloc (by omega) (.cells (arr8 st) 66)
      have hz5 : w.heap.size + 2 ≤ (w4.alloc (.cells (arr8 st) 66)).heap.size := by rw [World.size_alloc]; omega
      have hz6 : w.heap.size + 2 ≤ w3.heap.size := by omega
      have hz7 : w.heap.size + 2 ≤ w4.heap.size := by omega
      generalize w4.alloc (.cells (arr8 st) 66) = w5 at *
      generalize w4.heap.size = N7 at *
      generalize w3.heap.size = N6 at *
      clear hs4 ho4 hg4 hw4 hB4 hs3 ho3 hg3 hB3 hs1 ho1 hgB hB hTr hz
      go_loopw [8, 9, 10] (fun s8 _ _ wx => ∃ t : Nat, t ≤ 64 ∧ s8 = .int .i64 (t : Int) ∧ Blk wx N7 (arr8 (rounds ws st t)) 66 ∧ Blk wx N6 (Arr ws) 107 ∧ Blk wx (w.heap.size + 1) (arr8 st) 66 ∧ Blk wx w.heap.size (List.replicate 32 (Value.int .u8 0)).toArray 33 ∧ Blk wx g cur 5 ∧ Below w.heap.size w wx ∧ w.heap.size + 2 ≤ wx.heap.size) (fun s8 _ _ _ => 64 - (intOf s8).toNat)
      case atStart => exact ⟨0, by omega, rfl, hv5, hw5, hs5, ho5, hg5, hB5, hz5⟩
      case round =>
        clear hv5 hw5 hs5 ho5 hg5 hB5 hz5
        obtain ⟨t, ht, rfl, hv, hw, hs, ho, hgB, hB, hz⟩ := hrel
        by_cases h64 : t < 64
        · have d64 : decide ((t : Int) < 64) = true := by simp; omega
          have hTr := hT.below hB
          have hk0 := hTr.con t h64
          have hkk := kons_kon ⟨t, h64⟩
          simp only at hkk
          rw [hkk] at hk0
          have hk : wr.cell? ⟨2, t, none⟩ = some (.int .u32 (tI (kon t))) := hk0
          have hrs : rounds ws st (t + 1) = rnd (kon t) (ws.getD t 0#32) (rounds ws st t) := rfl
          have cw : wr.cell? ⟨N6, t, none⟩ = some (.int .u32 (tI (ws.getD t 0#32))) := (blk_cell hw t).trans (Arr_get _ _ (by rw [Hwl.out]; omega))
          clear hk0 hkk hTr
          generalize rounds ws st t = r at *
          obtain ⟨ra, rb, rc, rd, re, rf, rg, rh⟩ := r
          generalize ws.getD t 0#32 = wt at *
          generalize kon t = kt at *
          have ca := blk_cell hv 0
          have cb := blk_cell hv 1
          have cc := blk_cell hv 2
          have cd := blk_cell hv 3
          have ce := blk_cell hv 4
          have cf := blk_cell hv 5
          have cg := blk_cell hv 6
          have cx := blk_cell hv 7
          simp [arr8, vW] at ca cb cc cd ce cf cg cx
          have n0 := xor_go (rotr re 6) (rotr re 11)
          have n00 := xor_go (wxor (rotr re 6) (rotr re 11)) (rotr re 25)
          rw [show wxor (wxor (rotr re 6) (rotr re 11)) (rotr re 25) = mix re 6 11 25 from rfl] at n00
          have n1 := and_go re rf
          have n2 := xnot_go re
          have n3 := and_go (wnot re) rg
          have n4 := ch_go re rf rg
          have n5 : (tI rh + tI (mix re 6 11 25) + tI (ch re rf rg) + tI kt + tI wt) % 4294967296 = tI (xOf kt wt ⟨ra, rb, rc, rd, re, rf, rg, rh⟩) := x_go kt wt ⟨ra, rb, rc, rd, re, rf, rg, rh⟩
          have m0 := xor_go (rotr ra 2) (rotr ra 13)
          have m00 := xor_go (wxor (rotr ra 2) (rotr ra 13)) (rotr ra 22)
          rw [show wxor (wxor (rotr ra 2) (rotr ra 13)) (rotr ra 22) = mix ra 2 13 22 from rfl] at m00
          have m1 := and_go ra rb
          have m2 := and_go ra rc
          have m3 := and_go rb rc
          have m4 := xor_go (wand ra rb) (wand ra rc)
          have m5 := maj_go ra rb rc
          have m6 : (tI (mix ra 2 13 22) + tI (maj ra rb rc)) % 4294967296 = tI (yOf ⟨ra, rb, rc, rd, re, rf, rg, rh⟩) := y_go ⟨ra, rb, rc, rd, re, rf, rg, rh⟩
          rw [rnd] at hrs
          generalize xOf kt wt ⟨ra, rb, rc, rd, re, rf, rg, rh⟩ = X at *
          generalize yOf ⟨ra, rb, rc, rd, re, rf, rg, rh⟩ = Y at *
          have n6 : ((tI rh + tI (mix re 6 11 25) + tI (ch re rf rg) + tI kt) % 4294967296 + tI wt) % 4294967296 = tI X := by rw [← n5]; omega
          have p1 := add_go rd X
          have p2 := add_go X Y
          have Hrs := Lib.hid hrs
          clear hrs
          go_wp2
          go_quiet (first | (go_at_call 77; with_reducible exact rrotr_q re 6 6 _ _ rfl (by omega) (by omega)) | (go_at_call 77; with_reducible exact rrotr_q re 11 11 _ _ rfl (by omega) (by omega)) | (go_at_call 77; with_reducible exact rrotr_q re 25 25 _ _ rfl (by omega) (by omega)))
          go_wp2
          simp only [n6]
          generalize hq : wr.drewN nq = wq
          have hv2 : Blk wq N7 (arr8 ⟨ra, rb, rc, rd, re, rf, rg, rh⟩) 66 := by rw [← hq]; exact hv
          have hw2 : Blk wq N6 (Arr ws) 107 := by rw [← hq]; exact hw
          have hs2 : Blk wq (w.heap.size + 1) (arr8 st) 66 := by rw [← hq]; exact hs
          have ho2 : Blk wq w.heap.size (List.replicate 32 (Value.int .u8 0)).toArray 33 := by rw [← hq]; exact ho
          have hg2 : Blk wq g cur 5 := by rw [← hq]; exact hgB
          have hB2 : Below w.heap.size w wq := by rw [← hq]; exact hB.trans ⟨rfl, rfl, rfl, Nat.le_refl _, fun _ _ => rfl⟩
          have hz2 : w.heap.size + 2 ≤ wq.heap.size := by rw [← hq]; exact hz
          clear hq hv hw hs ho hgB hB hz ca cb cc cd ce cf cg cx cw hk n0 n00 n1 n2 n3 n4 n5 n6
          have ca := blk_cell hv2 0
          have cb := blk_cell hv2 1
          have cc := blk_cell hv2 2
          simp [arr8, vW] at ca cb cc
          go_quiet (first | (go_at_call 77; with_reducible exact rrotr_q ra 2 2 _ _ rfl (by omega) (by omega)) | (go_at_call 77; with_reducible exact rrotr_q ra 13 13 _ _ rfl (by omega) (by omega)) | (go_at_call 77; with_reducible exact rrotr_q ra 22 22 _ _ rfl (by omega) (by omega)))
          simp only [m6]
          generalize hq : wq.drewN nq = wz
          have hv3 : Blk wz N7 (arr8 ⟨ra, rb, rc, rd, re, rf, rg, rh⟩) 66 := by rw [← hq]; exact hv2
          have hw3 : Blk wz N6 (Arr ws) 107 := by rw [← hq]; exact hw2
          have hs3 : Blk wz (w.heap.size + 1) (arr8 st) 66 := by rw [← hq]; exact hs2
          have ho3 : Blk wz w.heap.size (List.replicate 32 (Value.int .u8 0)).toArray 33 := by rw [← hq]; exact ho2
          have hg3 : Blk wz g cur 5 := by rw [← hq]; exact hg2
          have hB3 : Below w.heap.size w wz := by rw [← hq]; exact hB2.trans ⟨rfl, rfl, rfl, Nat.le_refl _, fun _ _ => rfl⟩
          have hz3' : w.heap.size + 2 ≤ wz.heap.size := by rw [← hq]; exact hz2
          clear hq hv2 hw2 hs2 ho2 hg2 hB2 hz2 ca cb cc m0 m00 m1 m2 m3 m4 m5 m6
          have ca := blk_cell hv3 0
          have cb := blk_cell hv3 1
          have cc := blk_cell hv3 2
          have cd := blk_cell hv3 3
          have ce := blk_cell hv3 4
          have cf := blk_cell hv3 5
          have cg := blk_cell hv3 6
          simp [arr8, vW] at ca cb cc cd ce cf cg
          have i8e : Hid ((Tryd.prog.info? 66).map (·.size) = some (#[.int .u32 (tI (wadd X Y)), .int .u32 (tI ra), .int .u32 (tI rb), .int .u32 (tI rc), .int .u32 (tI (wadd rd X)), .int .u32 (tI re), .int .u32 (tI rf), .int .u32 (tI rg)] : Array Value).size) := I8.out st
          have z8 : Hid ((arr8 ⟨ra, rb, rc, rd, re, rf, rg, rh⟩).size = (#[.int .u32 (tI (wadd X Y)), .int .u32 (tI ra), .int .u32 (tI rb), .int .u32 (tI rc), .int .u32 (tI (wadd rd X)), .int .u32 (tI re), .int .u32 (tI rf), .int .u32 (tI rg)] : Array Value).size) := rfl
          have o8 : Hid ((#[.int .u32 (tI (wadd X Y)), .int .u32 (tI ra), .int .u32 (tI rb), .int .u32 (tI rc), .int .u32 (tI (wadd rd X)), .int .u32 (tI re), .int .u32 (tI rf), .int .u32 (tI rg)] : Array Value).all (·.oneCell') = true) := arr8_one ⟨wadd X Y, ra, rb, rc, wadd rd X, re, rf, rg⟩
          go_wp2_with (with_reducible refine wpList_store_row rfl 66 (.tmp 7) (.tmp 117) rfl N7 #[.int .u32 (tI (wadd X Y)), .int .u32 (tI ra), .int .u32 (tI rb), .int .u32 (tI rc), .int .u32 (tI (wadd rd X)), .int .u32 (tI re), .int .u32 (tI rf), .int .u32 (tI rg)] rfl rfl 66 _ hv3 i8e.out z8.out o8.out ?_)
          go_roundw
          case rel => exact ⟨t + 1, by omega, by go_num, by rw [Hrs.out]; exact blk_setRow hv3 _, blk_setRow_far hw3 N7 (by omega) _, blk_setRow_far hs3 N7 (by omega) _, blk_setRow_far ho3 N7 (by omega) _, blk_setRow_far hg3 N7 (by omega) _, below_setRow hB3 (by omega) _, by simp [World.setRow]; exact hz3'⟩
          case measure => simp [intOf]; omega
        · obtain rfl : t = 64 := by omega
          generalize rounds ws st 64 = r at *
          clear hw Hsc Hwl hi hsz h64
          go_wp2
          go_loopw [11] (fun s11 wx => ∃ n : Nat, n ≤ 8 ∧ s11 = .int .i64 (n : Int) ∧ Blk wx N7 (arr8 r) 66 ∧ Blk wx (w.heap.size + 1) (arr8 (addQ n st r)) 66 ∧ Blk wx w.heap.size (List.replicate 32 (Value.int .u8 0)).toArray 33 ∧ Blk wx g cur 5 ∧ Below w.heap.size w wx ∧ w.heap.size + 2 ≤ wx.heap.size) (fun s11 _ => 8 - (intOf s11).toNat)
          case atStart => exact ⟨0, by omega, rfl, hv, hs, ho, hgB, hB, hz⟩
          case round =>
            clear hv hs ho hgB hB hz
            obtain ⟨n, hn, rfl, hv, hs, ho, hgB, hB, hz⟩ := hrel
            by_cases h8 : n < 8
            · have c1 : wr.cell? ⟨w.heap.size + 1, n, none⟩ = some (.int .u32 (tI (wd st n))) := by rw [blk_cell hs, arr8_wd _ _ h8, addQ_wd _ _ _ h8]
              have c2 : wr.cell? ⟨N7, n, none⟩ = some (.int .u32 (tI (wd r n))) := by rw [blk_cell hv, arr8_wd _ _ h8]
              have f1 := blk_free hs n
              have q1 := add_go (wd st n) (wd r n)
              have hset := blk_set hs n (vW (wadd (wd st n) (wd r n)))
              rw [addQ_set st r n h8] at hset
              have Hset := Lib.hid hset
              have Hv := Lib.hid (blk_far hv (p := ⟨w.heap.size + 1, n, none⟩) (show N7 ≠ w.heap.size + 1 by omega) (vW (wadd (wd st n) (wd r n))))
              have Ho := Lib.hid (blk_far ho (p := ⟨w.heap.size + 1, n, none⟩) (by simp) (vW (wadd (wd st n) (wd r n))))
              have Hg := Lib.hid (blk_far hgB (p := ⟨w.heap.size + 1, n, none⟩) (show g ≠ w.heap.size + 1 by omega) (vW (wadd (wd st n) (wd r n))))
              have hBs := hB.setCell (p := ⟨w.heap.size + 1, n, none⟩) (show w.heap.size ≤ w.heap.size + 1 by omega) (vW (wadd (wd st n) (wd r n)))
              clear hset
              go_wp2
              go_region
              go_wp2
              go_roundw
              case rel => exact ⟨n + 1, by omega, by go_num, Hv.out, Hset.out, Ho.out, Hg.out, hBs.drew, by simpa using hz⟩
              case measure => simp [intOf]; omega
            · obtain rfl : n = 8 := by omega
              rw [addQ_full] at hs
              go_wp2
              go_roundw
              case rel => exact ⟨j + 1, by omega, congrArg (Value.int .i64) (by omega), by rw [Hnext.out]; exact hs, ho, hgB, hB, hz⟩
              case measure => simp [intOf]; omega
    · obtain rfl : j = J := by omega
      have hres : shl = outs (hb m j) 32 := by rw [Hsha.out, HJ.out]; congr 2; omega
      generalize hb m j = S at *
      have Hres := Lib.hid hres
      clear hres hgB
      have hs5 := blk_new wr (outA S 0) 33
      have hs3 := blk_alloc hs1 (.cells (outA S 0) 33)
      have hs4 := blk_alloc ho1 (.cells (outA S 0) 33)
      have hB3 := hB.alloc (by omega) (.cells (outA S 0) 33)
      have hne1 : w.heap.size + 1 < wr.heap.size := blk_lt hs1
      clear hs1 ho1 hB hz
      go_wp2
      generalize wr.heap.size = N1 at *
      clear hTr hg hcap hlt hj hJ2
      go_loopw [13] (fun i wr => ∃ k : Nat, k ≤ 32 ∧ i = .int .i64 (k : Int) ∧ Blk wr N1 (outA S k) 33 ∧ Blk wr (w.heap.size + 1) (arr8 S) 66 ∧ Blk wr w.heap.size (List.replicate 32 (Value.int .u8 0)).toArray 33 ∧ Below w.heap.size w wr) (fun i _ => 32 - (intOf i).toNat)
      case atStart => exact ⟨0, by omega, rfl, hs5, hs3, hs4, hB3⟩
      case round =>
        clear hs3 hs4 hs5 hB3
        obtain ⟨k, hk, rfl, hb5, hb3, hb4, hB⟩ := hrel
        by_cases h32 : k < 32
        · obtain ⟨q, hq⟩ : ∃ q, q = k / 4 := ⟨_, rfl⟩
          obtain ⟨r, hr⟩ : ∃ r, r = k % 4 := ⟨_, rfl⟩
          have e1 : (k : Int) / 4 = (q : Int) := by omega
          have e2 : (k : Int) % 4 = (r : Int) := by omega
          have hq8 : q < 8 := by omega
          have hr4 : r < 4 := by omega
          have hob := outB_go S k
          rw [← hq, ← hr] at hob
          have hset := outA_set S k h32
          have hcq : wr.cell? ⟨w.heap.size + 1, q, none⟩ = some (.int .u32 (tI (wd S q))) := (blk_cell hb3 q).trans (arr8_wd S q hq8)
          have hk5 : wr.cell? ⟨N1, k, none⟩ = some (.int .u8 0) := (blk_cell hb5 k).trans (outA_at S k h32)
          have hf5 := blk_free hb5 k
          have hbb := byte_bd (outB S k)
          have hwb := tI_lo (wd S q)
          have hb5' := blk_set hb5 k (mkB (outB S k))
          rw [hset] at hb5'
          have hfb3 := blk_far hb3 (p := ⟨N1, k, none⟩) (by simp; omega) (mkB (outB S k))
          have hfb4 := blk_far hb4 (p := ⟨N1, k, none⟩) (by simp; omega) (mkB (outB S k))
          have hBf := hB.setCell (p := ⟨N1, k, none⟩) (by simp; omega) (mkB (outB S k))
          have H5 := Lib.hid hb5'
          have H3 := Lib.hid hfb3
          have H4 := Lib.hid hfb4
          have Hq := Lib.hid hq
          have Hr := Lib.hid hr
          obtain ⟨z, hz⟩ : ∃ z : Nat, z = 24 - 8 * r := ⟨_, rfl⟩
          have hz1 : (24 : Int) - 8 * (r : Int) = (z : Int) := by omega
          have hz2 : z < 64 := by omega
          rw [← hz] at hob
          clear hset hb5' hfb3 hfb4 hq hr hz
          generalize tI (wd S q) = wv at *
          generalize hbv : outB S k = bv at *
          go_wp2
          go_roundw
          case rel => exact ⟨k + 1, by omega, by go_num, by rw [← hob]; exact H5.out, by rw [← hob]; exact H3.out, by rw [← hob]; exact H4.out, by rw [← hob]; exact hBf⟩
          case measure => simp [intOf]; omega
        · obtain rfl : k = 32 := by omega
          have hi32 : Hid ((Tryd.prog.info? 33).map (·.size) = some (outA S 32).size) := Lib.hid (by rw [show (outA S 32).size = 32 by simp [outA, outs_len]]; kernel_rfl)
          have hz32 : Hid ((List.replicate 32 (Value.int .u8 0)).toArray.size = (outA S 32).size) := Lib.hid (by rw [show (outA S 32).size = 32 by simp [outA, outs_len]]; rfl)
          have ho32 : Hid ((outA S 32).all (·.oneCell') = true) := Lib.hid (by rw [show outA S 32 = ((outs S 32).map mkB).toArray by simp [outA]]; exact one_cells _)
          go_wp2_with (first | (with_reducible refine wpList_load_row rfl 33 (.tmp 12) rfl N1 rfl 33 _ _ _ hb5 Tryd.underlying33 rfl hi32.out ?_) | (with_reducible refine wpList_store_row rfl 33 (.tmp 2) (.tmp 147) rfl w.heap.size (outA S 32) rfl rfl 33 _ hb4 hi32.out hz32.out ho32.out ?_))
          exact bodyPost_ret (v := .agg (outA S 32)) (results_cell_row Tryd.results68 _ _ w.heap.size 33 _ _ _ rfl (blk_setRow hb4 _) Tryd.underlying33 rfl hi32.out) rfl ⟨by rw [outA_full, Hres.out], below_setRow hB (Nat.le_refl _) _⟩
end Go.Proofs.YtbgieephehfgpabDoor
