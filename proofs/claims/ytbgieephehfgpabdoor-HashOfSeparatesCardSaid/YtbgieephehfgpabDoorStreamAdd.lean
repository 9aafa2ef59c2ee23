/-
  What the program's (hash.Stream).Add returns: a stream whose message is longer by the text. Conditions: messages of at most 10^12 bytes, the tables are as the program's text lays them.
-/
import Derived.Test.YtbgieephehfgpabDoorStream
namespace Go.Proofs.YtbgieephehfgpabDoor
open Go Go.RowKit Sha
namespace Sha
/-- a stream whose message is m is returned -/
def RepE (m : List UInt8) (e : Ending) : Prop := ∃ v, Rep m v ∧ e = .returned v
def strLen : Value → Nat | .string s => s.size | _ => 0
end Sha
theorem stream_cells {w : World} {b n : Nat} {st : S8} {bl : List UInt8} {t : TypeId} (h : Blk w b (sL st bl n).toArray t) :
    w.cell? ⟨b, 0, none⟩ = some (.int .u32 (tI st.a)) ∧ w.cell? ⟨b, 1, none⟩ = some (.int .u32 (tI st.b)) ∧ w.cell? ⟨b, 2, none⟩ = some (.int .u32 (tI st.c)) ∧ w.cell? ⟨b, 3, none⟩ = some (.int .u32 (tI st.d)) ∧ w.cell? ⟨b, 4, none⟩ = some (.int .u32 (tI st.e)) ∧ w.cell? ⟨b, 5, none⟩ = some (.int .u32 (tI st.f)) ∧ w.cell? ⟨b, 6, none⟩ = some (.int .u32 (tI st.g)) ∧ w.cell? ⟨b, 7, none⟩ = some (.int .u32 (tI st.h)) := by
  have hld : ∀ i, i < 8 → w.cell? ⟨b, i, none⟩ = (arr8 st)[i]? := fun i hi => (blk_cell h i).trans ((List.getElem?_toArray ..).trans (sL_st _ _ _ _ hi))
  exact ⟨hld 0 (by omega), hld 1 (by omega), hld 2 (by omega), hld 3 (by omega), hld 4 (by omega), hld 5 (by omega), hld 6 (by omega), hld 7 (by omega)⟩
theorem stream_free {w : World} {b n : Nat} {st : S8} {bl : List UInt8} {t : TypeId} (h : Blk w b (sL st bl n).toArray t) :
    w.frozen? ⟨b, 0, none⟩ = false ∧ w.frozen? ⟨b, 1, none⟩ = false ∧ w.frozen? ⟨b, 2, none⟩ = false ∧ w.frozen? ⟨b, 3, none⟩ = false ∧ w.frozen? ⟨b, 4, none⟩ = false ∧ w.frozen? ⟨b, 5, none⟩ = false ∧ w.frozen? ⟨b, 6, none⟩ = false ∧ w.frozen? ⟨b, 7, none⟩ = false := ⟨blk_free h _, blk_free h _, blk_free h _, blk_free h _, blk_free h _, blk_free h _, blk_free h _, blk_free h _⟩
theorem stream_set8 {w : World} {b n : Nat} {st : S8} {bl : List UInt8} {t : TypeId} (h : Blk w b (sL st bl n).toArray t) (sn : S8) :
    Blk (((((((((w.setCell ⟨b, 0, none⟩ (.int .u32 (tI sn.a))).setCell ⟨b, 1, none⟩ (.int .u32 (tI sn.b))).setCell ⟨b, 2, none⟩ (.int .u32 (tI sn.c))).setCell ⟨b, 3, none⟩ (.int .u32 (tI sn.d))).setCell ⟨b, 4, none⟩ (.int .u32 (tI sn.e))).setCell ⟨b, 5, none⟩ (.int .u32 (tI sn.f))).setCell ⟨b, 6, none⟩ (.int .u32 (tI sn.g))).setCell ⟨b, 7, none⟩ (.int .u32 (tI sn.h)))) b (sL sn bl n).toArray t := by
  have k := blk_set (blk_set (blk_set (blk_set (blk_set (blk_set (blk_set (blk_set h 0 (.int .u32 (tI sn.a))) 1 (.int .u32 (tI sn.b))) 2 (.int .u32 (tI sn.c))) 3 (.int .u32 (tI sn.d))) 4 (.int .u32 (tI sn.e))) 5 (.int .u32 (tI sn.f))) 6 (.int .u32 (tI sn.g))) 7 (.int .u32 (tI sn.h))
  rw [sL_set8] at k
  exact k
set_option maxRecDepth 100000 in
set_option maxHeartbeats 4000000 in
theorem sadd_any (m : List UInt8) (v : Value) (s : ByteArray) (w : World) (hv : Rep m v) (hs : m.length + s.size ≤ 1000000000000) (hT : TabC w) :
    Calls Tryd.prog 39 #[v, .string s] w fun e w' => RepE (m ++ s.data.toList) e ∧ Below w.heap.size w w' := by
  obtain ⟨blk0, hbl0, rfl, hpart0⟩ := hv
  go_enter Tryd.func39, Tryd.ntmps39
  go_wp2
  go_loopw [1] (fun t wr => ∃ (don rest blk : List UInt8) (Z : Array Value), s.data.toList = don ++ rest ∧ t = .string ⟨rest.toArray⟩ ∧ blk.length = 64 ∧ Blk wr w.heap.size (sL (hb (m ++ don) ((m ++ don).length / 64)) blk (m ++ don).length).toArray 70 ∧ blk.take ((m ++ don).length % 64) = (m ++ don).drop (64 * ((m ++ don).length / 64)) ∧ Z.size = 73 ∧ Blk wr (w.heap.size + 1) Z 70 ∧ Below w.heap.size w wr) (fun t _ => strLen t)
  case atStart => exact ⟨[], s.data.toList, blk0, _, rfl, rfl, hbl0, by simpa using blk_alloc (blk_new _ _ _) _, by simpa using hpart0, rfl, blk_new2 _ _ _ _, ((Below.refl _ _).alloc (Nat.le_refl _) _).alloc (by simp) _⟩
  case round =>
    obtain ⟨don, rest, blk, Z, hl, rfl, hbl, hb0, hpart, hZ, hb1, hB⟩ := hrel
    have hone : ∀ (st : S8) (bl : List UInt8) (n : Nat), ((sL st bl n).toArray).all (·.oneCell') = true := fun st bl n => sL_one st bl n
    have hTr := hT.below hB
    cases rest with
    | nil =>
      have hi73 : ∀ (st : S8) (bl : List UInt8) (n : Nat), bl.length = 64 → (Tryd.prog.info? 70).map (·.size) = some ((sL st bl n).toArray).size := fun st bl n h => by rw [List.size_toArray, sL_len _ _ _ h]; kernel_rfl
      have Hi := Lib.hid (hi73 (hb (m ++ don) ((m ++ don).length / 64)) blk (m ++ don).length hbl)
      have Hz : Hid (Z.size = ((sL (hb (m ++ don) ((m ++ don).length / 64)) blk (m ++ don).length).toArray).size) := Lib.hid (hZ.trans (by rw [List.size_toArray, sL_len _ _ _ hbl]))
      clear hi73
      go_wp2_with (first | (with_reducible refine wpList_load_row rfl 70 (.tmp 2) rfl w.heap.size rfl 70 _ _ _ hb0 Tryd.underlying70 rfl Hi.out ?_) | (with_reducible refine wpList_store_row rfl 70 (.tmp 4) (.tmp 37) rfl (w.heap.size + 1) (sL (hb (m ++ don) ((m ++ don).length / 64)) blk (m ++ don).length).toArray rfl rfl 70 _ hb1 Hi.out Hz.out (hone _ _ _) ?_))
      exact bodyPost_ret (v := .agg (sL (hb (m ++ don) ((m ++ don).length / 64)) blk (m ++ don).length).toArray) (results_cell_row Tryd.results39 _ _ (w.heap.size + 1) 70 _ _ _ rfl (blk_setRow hb1 _) Tryd.underlying70 rfl Hi.out) rfl ⟨⟨_, by rw [hl, List.append_nil]; exact ⟨blk, hbl, rfl, hpart⟩, rfl⟩, below_setRow hB (by omega) _⟩
    | cons c cs =>
      have hlen : s.data.toList.length = don.length + (cs.length + 1) := by rw [hl]; simp
      have hss : s.data.toList.length = s.size := Array.length_toList
      generalize hM : m ++ don = M at *
      have hMl : M.length = m.length + don.length := by rw [← hM]; simp
      have hMb : M.length ≤ 1000000000000 := by omega
      have h72 : wr.cell? ⟨w.heap.size, 72, none⟩ = some (.int .u64 (M.length : Int)) := (blk_cell hb0 72).trans ((List.getElem?_toArray ..).trans (sL_n _ _ _ hbl))
      have hfr := blk_free hb0 72
      generalize hN : M.length = N at *
      obtain ⟨at_, hat⟩ : ∃ a, a = N % 64 := ⟨_, rfl⟩
      have e1 : (N : Int) % 64 = (at_ : Int) := by omega
      have hat64 : at_ < 64 := by omega
      have Hat := Lib.hid hat
      have HMl := Lib.hid hMl
      clear hat hbl0 hpart0 hMl
      have hrl : (c :: cs).length = cs.length + 1 := rfl
      obtain ⟨k, hk⟩ : ∃ k, k = Nat.min (cs.length + 1) (64 - at_) := ⟨_, rfl⟩
      have hk1 : k ≤ cs.length + 1 := by rw [hk]; exact Nat.min_le_left _ _
      have hk2 : at_ + k ≤ 64 := by have : k ≤ 64 - at_ := by { rw [hk]; exact Nat.min_le_right _ _ }
                                    omega
      have hk3 : at_ + k < 64 → k = cs.length + 1 := fun h => by
        rcases Nat.le_total (cs.length + 1) (64 - at_) with h1 | h1
        · rw [hk]; exact Nat.min_eq_left h1
        · have : k = 64 - at_ := by rw [hk]; exact Nat.min_eq_right h1
          omega
      have hk0 : 0 < k := by
        rcases Nat.le_total (cs.length + 1) (64 - at_) with h1 | h1
        · have : k = cs.length + 1 := by rw [hk]; exact Nat.min_eq_left h1
          omega
        · have : k = 64 - at_ := by rw [hk]; exact Nat.min_eq_right h1
          omega
      have Hk := Lib.hid hk
      clear hk
      have hnl := blkN_len blk (c :: cs) at_ k hbl (by rw [hrl]; exact hk1) hk2
      have hsL := blkN_sL (hb M (N / 64)) blk N at_ k (c :: cs) hbl (by rw [hrl]; exact hk1) hk2
      have hshort := blkN_short M (c :: cs) blk N at_ k hN Hat.out hbl hpart (by rw [hrl]; exact hk1)
      have hfull := blkN_full M (c :: cs) blk N at_ k hN Hat.out hbl hpart (by rw [hrl]; exact hk1)
      have hrest : s.data.toList = (don ++ (c :: cs).take k) ++ (c :: cs).drop k := by rw [List.append_assoc, List.take_append_drop]; exact hl
      have hM' : m ++ (don ++ (c :: cs).take k) = M ++ (c :: cs).take k := by rw [← List.append_assoc, hM]
      have hN' : (M ++ (c :: cs).take k).length = N + k := by rw [List.length_append, hN, List.length_take, hrl, Nat.min_eq_left hk1]
      have hms : strLen (.string ⟨((c :: cs).drop k).toArray⟩) < strLen (.string ⟨(c :: cs).toArray⟩) := by simp [strLen, ByteArray.size]; omega
      have hcp : (((⟨(c :: cs).toArray⟩ : ByteArray).data.toList.map fun b => Value.int .u8 (b.toNat : Int)).take (Nat.min (⟨(c :: cs).toArray⟩ : ByteArray).size (64 - at_))) = ((c :: cs).take k).map mkB := by
        rw [← List.map_take, show (⟨(c :: cs).toArray⟩ : ByteArray).size = cs.length + 1 by simp [ByteArray.size], ← Hk.out]
        rfl
      have hcl : (((c :: cs).take k).map mkB).length = Nat.min (⟨(c :: cs).toArray⟩ : ByteArray).size (64 - at_) := by
        rw [show (⟨(c :: cs).toArray⟩ : ByteArray).size = cs.length + 1 by simp [ByteArray.size], ← Hk.out, List.length_map, List.length_take, hrl, Nat.min_eq_left hk1]
      have hck : (((c :: cs).take k).map mkB).length = k := by rw [List.length_map, List.length_take, hrl, Nat.min_eq_left hk1]
      have hfit : 8 + at_ + k ≤ (sL (hb M (N / 64)) blk N).toArray.size := by rw [List.size_toArray, sL_len _ _ _ hbl]; omega
      have hsl1 : ∀ W, (Instr.sliceAt 67 (.pointer (some ⟨w.heap.size, 8, none⟩)) (some (.int .i64 (at_ : Int))) none none).run Tryd.prog W = .ok (.slice (some ⟨w.heap.size, 8 + at_, none⟩) (64 - at_) (64 - at_)) W := fun W => run_sliceAt_arr64 W _ at_ _ Tryd.underlying67 (by kernel_rfl) (by kernel_rfl) hat64
      have hsl2 : ∀ W, (Instr.sliceAt 9 (.string ⟨(c :: cs).toArray⟩) (some (.int .i64 (k : Int))) none none).run Tryd.prog W = .ok (.string ⟨((c :: cs).drop k).toArray⟩) W := fun W => run_sliceAt_str W (c :: cs) k _ Tryd.underlying9 (by rw [hrl]; exact hk1)
      have hne : ¬ (c :: cs) = [] := by simp
      generalize hblk' : blkN blk (c :: cs) at_ k = blk' at *
      generalize hst : hb M (N / 64) = st at *
      have e2 : IntKind.u64.wrap ((N : Int) + (k : Int)) = ((N + k : Nat) : Int) := by rw [IntWalk.u64_in _ (by omega)]; omega
      have h72' : (wr.setRow w.heap.size (sL st blk' N).toArray).cell? ⟨w.heap.size, 72, none⟩ = some (.int .u64 (N : Int)) := (blk_cell (blk_setRow hb0 _) 72).trans ((List.getElem?_toArray ..).trans (sL_n _ _ _ hnl))
      have hfr' := blk_free (blk_setRow hb0 (sL st blk' N).toArray) 72
      have Hs := Lib.hid hshort
      have Hf := Lib.hid hfull
      have Hr := Lib.hid hrest
      have HM' := Lib.hid hM'
      have HN' := Lib.hid hN'
      have Hcp := Lib.hid hcp
      have Hcl := Lib.hid hcl
      have Hck := Lib.hid hck
      have HsL := Lib.hid hsL
      clear hshort hfull hrest hM' hN' hcp hcl hck hsL hM hN hl hlen hblk'
      by_cases h64 : at_ + k = 64
      · have d64 : decide ((at_ : Int) + (k : Int) = 64) = true := by simp; omega
        go_wp2_with (with_reducible refine wpList_copy_str rfl (.tmp 15) (.tmp 16) 31 9 rfl 5 Tryd.underlying31 (by kernel_rfl) w.heap.size (8 + at_) _ _ _ rfl rfl _ 70 hb0 _ Hcp.out k hfit Hcl.out Hck.out _ HsL.out ?_)
        have hbx : Blk ((wr.setRow w.heap.size (sL st blk' N).toArray).setCell ⟨w.heap.size, 72, none⟩ (.int .u64 ((N : Int) + (k : Int)))) w.heap.size (sL st blk' (N + k)).toArray 70 := by
          have h := blk_set (blk_setRow hb0 (sL st blk' N).toArray) 72 (.int .u64 ((N + k : Nat) : Int))
          rw [sL_setn _ _ _ _ hnl] at h
          rw [← Int.natCast_add]
          exact h
        have hzx : Blk ((wr.setRow w.heap.size (sL st blk' N).toArray).setCell ⟨w.heap.size, 72, none⟩ (.int .u64 ((N : Int) + (k : Int)))) (w.heap.size + 1) Z 70 := blk_far (blk_setRow_far hb1 _ (by omega) _) (by simp) _
        have hBx : Below w.heap.size w ((wr.setRow w.heap.size (sL st blk' N).toArray).setCell ⟨w.heap.size, 72, none⟩ (.int .u64 ((N : Int) + (k : Int)))) := (below_setRow hB (Nat.le_refl _) _).setCell (Nat.le_refl _) _
        generalize (wr.setRow w.heap.size (sL st blk' N).toArray).setCell ⟨w.heap.size, 72, none⟩ (.int .u64 ((N : Int) + (k : Int))) = wx at *
        clear hb0 hb1 hB hTr h72 hfr h72' hfr' hst hsl1 hsl2
        have hTx : TabC wx.drew := (hT.below hBx).drew
        have hzl : w.heap.size < wx.drew.heap.size := blk_lt hbx
        have hcx : ∀ i, i < 64 → wx.drew.cell? ⟨w.heap.size, 8 + i, none⟩ = some (mkB (blk'.getD i 0)) := fun i hi => (blk_cell (w := wx.drew) hbx (8 + i)).trans ((List.getElem?_toArray ..).trans (sL_blk _ _ _ _ hnl hi))
        have hcon := comp_any st w.heap.size 8 64 blk' wx.drew (Nat.le_refl _) hzl hcx hTx
        have hf8 := (Hf.out h64).1
        generalize hcs : comp st blk' = sn at *
        have ha : arr8 st = #[.int .u32 (tI st.a), .int .u32 (tI st.b), .int .u32 (tI st.c), .int .u32 (tI st.d), .int .u32 (tI st.e), .int .u32 (tI st.f), .int .u32 (tI st.g), .int .u32 (tI st.h)] := rfl
        have hn : arr8 sn = #[.int .u32 (tI sn.a), .int .u32 (tI sn.b), .int .u32 (tI sn.c), .int .u32 (tI sn.d), .int .u32 (tI sn.e), .int .u32 (tI sn.f), .int .u32 (tI sn.g), .int .u32 (tI sn.h)] := rfl
        rw [ha, hn] at hcon
        obtain ⟨k0, k1, k2, k3, k4, k5, k6, k7⟩ := stream_cells hbx
        have Hcon := Lib.hid hcon
        have Hcs := Lib.hid hcs
        have Hf8 := Lib.hid hf8
        clear hcon hcs hf8 ha hn hcx
        go_region_with (go_at_call 64; ((with_reducible refine Hcon.out.mono ?_); rintro e w2 ⟨rfl, hw2⟩; have hk2 := blk_kept (w := wx.drew) hbx hw2; obtain ⟨g0, g1, g2, g3, g4, g5, g6, g7⟩ := stream_cells hk2; obtain ⟨f0, f1, f2, f3, f4, f5, f6, f7⟩ := stream_free hk2))
        have hz2 := blk_kept (w := wx.drew) hzx hw2
        have hB2 : Below w.heap.size w w2 := hBx.drew.trans (hw2.mono hBx.size)
        have hset := stream_set8 hk2 sn
        have hfz := blk_far (blk_far (blk_far (blk_far (blk_far (blk_far (blk_far (blk_far hz2 (p := ⟨w.heap.size, 0, none⟩) (by simp) (.int .u32 (tI sn.a))) (p := ⟨w.heap.size, 1, none⟩) (by simp) (.int .u32 (tI sn.b))) (p := ⟨w.heap.size, 2, none⟩) (by simp) (.int .u32 (tI sn.c))) (p := ⟨w.heap.size, 3, none⟩) (by simp) (.int .u32 (tI sn.d))) (p := ⟨w.heap.size, 4, none⟩) (by simp) (.int .u32 (tI sn.e))) (p := ⟨w.heap.size, 5, none⟩) (by simp) (.int .u32 (tI sn.f))) (p := ⟨w.heap.size, 6, none⟩) (by simp) (.int .u32 (tI sn.g))) (p := ⟨w.heap.size, 7, none⟩) (by simp) (.int .u32 (tI sn.h))
        have hBf := (((((((hB2.setCell (p := ⟨w.heap.size, 0, none⟩) (Nat.le_refl _) (.int .u32 (tI sn.a))).setCell (p := ⟨w.heap.size, 1, none⟩) (Nat.le_refl _) (.int .u32 (tI sn.b))).setCell (p := ⟨w.heap.size, 2, none⟩) (Nat.le_refl _) (.int .u32 (tI sn.c))).setCell (p := ⟨w.heap.size, 3, none⟩) (Nat.le_refl _) (.int .u32 (tI sn.d))).setCell (p := ⟨w.heap.size, 4, none⟩) (Nat.le_refl _) (.int .u32 (tI sn.e))).setCell (p := ⟨w.heap.size, 5, none⟩) (Nat.le_refl _) (.int .u32 (tI sn.f))).setCell (p := ⟨w.heap.size, 6, none⟩) (Nat.le_refl _) (.int .u32 (tI sn.g))).setCell (p := ⟨w.heap.size, 7, none⟩) (Nat.le_refl _) (.int .u32 (tI sn.h))
        have Hset := Lib.hid hset
        have Hfz := Lib.hid hfz
        clear hset hfz g0 g1 g2 g3 g4 g5 g6 g7 f0 f1 f2 f3 f4 f5 f6 f7 k0 k1 k2 k3 k4 k5 k6 k7
        go_wp2
        go_roundw
        case rel => exact ⟨don ++ (c :: cs).take k, (c :: cs).drop k, blk', Z, Hr.out, rfl, hnl, by rw [HM'.out, HN'.out, Hf8.out]; exact Hset.out, by rw [HM'.out, HN'.out]; exact (Hf.out h64).2, hZ, Hfz.out, hBf⟩
        case measure => exact hms
      · have d64 : decide ((at_ : Int) + (k : Int) = 64) = false := by simp; omega
        have d65 : ((at_ : Int) + (k : Int) == 64) = false := by simp; omega
        have hlt : at_ + k < 64 := by omega
        go_wp2_with (with_reducible refine wpList_copy_str rfl (.tmp 15) (.tmp 16) 31 9 rfl 5 Tryd.underlying31 (by kernel_rfl) w.heap.size (8 + at_) _ _ _ rfl rfl _ 70 hb0 _ Hcp.out k hfit Hcl.out Hck.out _ HsL.out ?_)
        have hbx : Blk ((wr.setRow w.heap.size (sL st blk' N).toArray).setCell ⟨w.heap.size, 72, none⟩ (.int .u64 ((N : Int) + (k : Int)))) w.heap.size (sL st blk' (N + k)).toArray 70 := by
          have h := blk_set (blk_setRow hb0 (sL st blk' N).toArray) 72 (.int .u64 ((N + k : Nat) : Int))
          rw [sL_setn _ _ _ _ hnl] at h
          rw [← Int.natCast_add]
          exact h
        have hzx : Blk ((wr.setRow w.heap.size (sL st blk' N).toArray).setCell ⟨w.heap.size, 72, none⟩ (.int .u64 ((N : Int) + (k : Int)))) (w.heap.size + 1) Z 70 := blk_far (blk_setRow_far hb1 _ (by omega) _) (by simp) _
        have hBx : Below w.heap.size w ((wr.setRow w.heap.size (sL st blk' N).toArray).setCell ⟨w.heap.size, 72, none⟩ (.int .u64 ((N : Int) + (k : Int)))) := (below_setRow hB (Nat.le_refl _) _).setCell (Nat.le_refl _) _
        go_roundw
        case rel => exact ⟨don ++ (c :: cs).take k, (c :: cs).drop k, blk', Z, Hr.out, rfl, hnl, by rw [HM'.out, HN'.out, (Hs.out hlt).1]; exact hbx, by rw [HM'.out, HN'.out]; exact (Hs.out hlt).2, hZ, hzx, hBx⟩
        case measure => exact hms
end Go.Proofs.YtbgieephehfgpabDoor
