/-
  What the program's (hash.Stream).Sum returns: the SHA-256 hash of the stream's message. Conditions: messages of at most 10^9 bytes, the tables are as the program's text lays them.
-/
import Derived.Test.YtbgieephehfgpabDoorPad
namespace Go.Proofs.YtbgieephehfgpabDoor
open Go Go.RowKit Sha
theorem one_cells (l : List UInt8) : (l.map mkB).toArray.all (·.oneCell') = true := by
  rw [List.all_toArray, List.all_eq_true]
  intro v hv
  obtain ⟨b, _, rfl⟩ := List.mem_map.1 hv
  rfl
theorem outA_at (s : S8) (i : Nat) (h : i < 32) : (outA s i)[i]? = some (.int .u8 0) := by
  unfold outA
  rw [List.getElem?_toArray, List.getElem?_append_right (by simp [outs_len])]
  simp [outs_len, List.getElem?_replicate]
  omega
def lenOfV : Value → Nat | .slice _ n _ => n | _ => 0
set_option maxRecDepth 100000 in
set_option maxHeartbeats 4000000 in
theorem ssum_any (m : List UInt8) (v : Value) (w : World) (hv : Rep m v) (hm : m.length ≤ 100000000000) (hT : TabC w) :
    Calls Tryd.prog 40 #[v] w fun e w' => e = .returned (bytesV (sha m)) ∧ Below w.heap.size w w' := by
  obtain ⟨blk0, hbl0, rfl, hpart0⟩ := hv
  have hRep : Rep m (.agg (sL (hb m (m.length / 64)) blk0 m.length).toArray) := ⟨blk0, hbl0, rfl, hpart0⟩
  generalize hst : hb m (m.length / 64) = st at *
  generalize hN : m.length = N at *
  have HRep := Lib.hid hRep
  clear hRep
  have h72 : (sL st blk0 N).toArray[72]? = some (.int .u64 (N : Int)) := (List.getElem?_toArray ..).trans (sL_n _ _ _ hbl0)
  have e8 : IntKind.u64.wrap (8 * (N : Int)) = 8 * (N : Int) := by rw [IntWalk.u64_in _ (by omega)]
  go_enter Tryd.func40, Tryd.ntmps40
  go_wp2
  go_loopw [4] (fun p wr => ∃ k : Nat, k ≤ padK N ∧ (∃ g cap, p = .slice (some ⟨g, 0, none⟩) (k + 1) cap ∧ w.heap.size + 2 ≤ g) ∧ Own wr (w.heap.size + 2) p (zerosP k) ∧ Blk wr w.heap.size (sL st blk0 N).toArray 70 ∧ Blk wr (w.heap.size + 1) (List.replicate 32 (Value.int .u8 0)).toArray 33 ∧ Below w.heap.size w wr ∧ w.heap.size + 2 ≤ wr.heap.size) (fun p _ => 64 - lenOfV p)
  case atStart => exact ⟨0, Nat.zero_le _, ⟨_, 1, rfl, by omega⟩, by { have h := own_lit ((w.alloc (.cells (sL st blk0 N).toArray 70)).alloc (.cells (List.replicate 32 (Value.int .u8 0)).toArray 33)) (w.heap.size + 2) (zerosP 0) #[.int .u8 128] 1 rfl rfl (by rw [World.size_alloc, World.size_alloc]; omega) (by unfold maxLen; omega); rw [World.size_alloc, World.size_alloc] at h; exact h }, blk_alloc (blk_alloc (blk_new _ _ _) _) _, blk_alloc (blk_new2 _ _ _ _) _, (((Below.refl _ _).alloc (Nat.le_refl _) _).alloc (by simp) _).alloc (by simp; omega) _, by simp⟩
  case round =>
    obtain ⟨k, hk, ⟨g, cap, rfl, hg⟩, hown, hb0, hb1, hB, hsz⟩ := hrel
    have c72 : wr.cell? ⟨w.heap.size, 72, none⟩ = some (.int .u64 (N : Int)) := (blk_cell hb0 72).trans h72
    have hkl := padK_lt N
    by_cases hkk : k = padK N
    · subst hkk
      have ht := (padK_at N _ hk).2 rfl
      have e3 : ((N : Int) + ((padK N : Int) + 1)) % 64 = 56 := by omega
      go_wp2
      clear c72
      have hown0 : Own wr (w.heap.size + 2) (.slice (some ⟨g, 0, none⟩) (padK N + 1) cap) (padP N 0) := by
        have e : padP N 0 = zerosP (padK N) := by simp [padP]
        rw [e]; exact hown
      obtain ⟨wo, rfl⟩ : ∃ wo : World, wo = wr := ⟨_, rfl⟩
      clear hown ht e3 hk
      go_loopw [4, 23] (fun p i wr => ∃ k : Nat, k ≤ 8 ∧ i = .int .i64 (k : Int) ∧ (∃ g cap, p = .slice (some ⟨g, 0, none⟩) (padK N + 1 + k) cap ∧ w.heap.size + 2 ≤ g) ∧ Own wr (w.heap.size + 2) p (padP N k) ∧ Blk wr w.heap.size (sL st blk0 N).toArray 70 ∧ Blk wr (w.heap.size + 1) (List.replicate 32 (Value.int .u8 0)).toArray 33 ∧ Below w.heap.size w wr ∧ w.heap.size + 2 ≤ wr.heap.size) (fun _ i _ => 8 - (intOf i).toNat)
      case atStart => exact ⟨0, by omega, rfl, ⟨g, cap, rfl, hg⟩, hown0, hb0, hb1, hB, hsz⟩
      case round =>
        clear hown0 hb0 hb1 hB hsz hg
        obtain ⟨k, hk, rfl, ⟨g, cap, rfl, hg⟩, hown, hb0, hb1, hB, hsz⟩ := hrel
        by_cases h8 : k < 8
        · have hlb := lenB_go N k
          go_wp2_with (with_reducible refine wp_appB1 rfl (.tmp 26) (.tmp 33) rfl (w.heap.size + 2) _ (padP N k) rfl hown (lenB N k) _ hlb.symm rfl (by rw [padP_len]; omega) hsz ?_; intro v1 w1 hown1 hg1 hv1)
          obtain ⟨g1, cap1, rfl, hg1'⟩ := hv1
          rw [← padP_succ] at hown1
          rw [padP_len] at *
          exact ⟨⟨k + 1, by omega, by go_num, ⟨g1, cap1, rfl, hg1'⟩, hown1, hg1.kept _ _ hb0 (by omega), hg1.kept _ _ hb1 (by omega), hg1.below _ _ hB (by omega), by have := hg1.size; omega⟩, by simp [intOf]; omega⟩
        · obtain rfl : k = 8 := by omega
          have hconv := fun W (hW : RdB W (.slice (some ⟨g, 0, none⟩) (padK N + 1 + 8) cap) (padP N 8)) => RdB.conv (P := Tryd.prog) hW 31 9 5 Tryd.underlying31 Tryd.underlying5 Tryd.underlying9
          have hcv := hconv wr (own_rd hown)
          have hTr := hT.below hB
          have hi73 : ∀ (st : S8) (bl : List UInt8) (n : Nat), bl.length = 64 → (Tryd.prog.info? 70).map (·.size) = some ((sL st bl n).toArray).size := fun st bl n h => by rw [List.size_toArray, sL_len _ _ _ h]; kernel_rfl
          have Hi := Lib.hid (hi73 st blk0 N hbl0)
          have hcall := sadd_any m (.agg (sL st blk0 N).toArray) ⟨(padP N 8).toArray⟩ wr HRep.out (by rw [hN]; simp [ByteArray.size, padP_len]; omega) hTr
          have hpad : (⟨(padP N 8).toArray⟩ : ByteArray).data.toList = padN N := rfl
          rw [hpad] at hcall
          have hmp : m ++ padN N = padded m := by unfold padded; rw [hN]
          rw [hmp] at hcall
          have Hcall := Lib.hid hcall
          clear hown hconv hcall hmp hpad hpart0 e8 h72
          go_wp2_with (first | (with_reducible refine wpList_load_row rfl 70 (.tmp 1) rfl w.heap.size rfl 70 _ _ _ hb0 Tryd.underlying70 rfl Hi.out ?_) | (go_at_call 39; (with_reducible refine Hcall.out.mono ?_); rintro e w1 ⟨⟨v', ⟨blk1, hbl1, rfl, hpart1⟩, rfl⟩, hw1⟩; have hk0 := blk_kept hb0 hw1; have hk1 := blk_kept hb1 hw1; have Hi1 := Lib.hid (hi73 (sumS m) blk1 (padded m).length hbl1); have hB1 := hB.trans (hw1.mono hB.size); have Hz1 : Hid ((sL st blk0 N).toArray.size = (sL (sumS m) blk1 (padded m).length).toArray.size) := Lib.hid (by rw [List.size_toArray, List.size_toArray, sL_len _ _ _ hbl1, sL_len _ _ _ hbl0]); change Below wr.heap.size wr w1 at hw1; clear hpart1) | (with_reducible refine wpList_store_row rfl 70 (.tmp 1) (.tmp 39) rfl w.heap.size (sL (sumS m) blk1 (padded m).length).toArray rfl rfl 70 _ hk0 Hi1.out Hz1.out (sL_one _ _ _) ?_))
          have hs1 := blk_setRow hk0 (sL (sumS m) blk1 (padded m).length).toArray
          have hs2 := blk_setRow_far hk1 w.heap.size (by omega) (sL (sumS m) blk1 (padded m).length).toArray
          have hB2 := below_setRow hB1 (Nat.le_refl _) (sL (sumS m) blk1 (padded m).length).toArray
          have h1z : w.heap.size + 2 ≤ w1.heap.size := Nat.le_trans hsz hw1.size
          have h2z : w1.heap.size = (w1.setRow w.heap.size (sL (sumS m) blk1 (padded m).length).toArray).heap.size := by simp [World.setRow]
          generalize w1.setRow w.heap.size (sL (sumS m) blk1 (padded m).length).toArray = w2 at *
          have hs3 := blk_alloc hs1 (.cells (outA (sumS m) 0) 33)
          have hs4 := blk_alloc hs2 (.cells (outA (sumS m) 0) 33)
          have hs5 := blk_new w2 (outA (sumS m) 0) 33
          have hB3 := hB2.alloc (by omega) (.cells (outA (sumS m) 0) 33)
          rw [← h2z] at hs5
          have hcell := fun i hi => sL_wd (sumS m) blk1 (padded m).length i hi
          generalize (padded m).length = L at *
          have hres : sha m = outs (sumS m) 32 := rfl
          generalize sumS m = S at *
          have Hres := Lib.hid hres
          clear hk0 hk1 hB1 hs1 hs2 hB2 hb0 hb1 hB hw1 hTr hcv hi73 hres h2z
          generalize w1.heap.size = N1 at *
          go_loopw [40] (fun i wr => ∃ k : Nat, k ≤ 32 ∧ i = .int .i64 (k : Int) ∧ Blk wr N1 (outA S k) 33 ∧ Blk wr w.heap.size (sL S blk1 L).toArray 70 ∧ Blk wr (w.heap.size + 1) (List.replicate 32 (Value.int .u8 0)).toArray 33 ∧ Below w.heap.size w wr) (fun i _ => 32 - (intOf i).toNat)
          case atStart => exact ⟨0, by omega, rfl, hs5, hs3, hs4, hB3⟩
          case round =>
            clear hs3 hs4 hs5 hB3
            obtain ⟨k, hk, rfl, hb5, hb3, hb4, hB⟩ := hrel
            by_cases h32 : k < 32
            · obtain ⟨q, hq⟩ : ∃ q, q = k / 4 := ⟨_, rfl⟩
              obtain ⟨r, hr⟩ : ∃ r, r = k % 4 := ⟨_, rfl⟩
              have e1 : (k : Int) / 4 = (q : Int) := by omega
              have e2 : (k : Int) % 4 = (r : Int) := by omega
              have hq8 : q < 8 := by omega
              have hr4 : r < 4 := by omega
              have hob := outB_go S k
              rw [← hq, ← hr] at hob
              have hset := outA_set S k h32
              have hcq : wr.cell? ⟨w.heap.size, q, none⟩ = some (.int .u32 (tI (wd S q))) := (blk_cell hb3 q).trans ((List.getElem?_toArray ..).trans (hcell q hq8))
              have hk5 : wr.cell? ⟨N1, k, none⟩ = some (.int .u8 0) := (blk_cell hb5 k).trans (outA_at S k h32)
              have hf5 := blk_free hb5 k
              have hbb := byte_bd (outB S k)
              have hwb := tI_lo (wd S q)
              have hb5' := blk_set hb5 k (mkB (outB S k))
              rw [hset] at hb5'
              have hfb3 := blk_far hb3 (p := ⟨N1, k, none⟩) (by simp; omega) (mkB (outB S k))
              have hfb4 := blk_far hb4 (p := ⟨N1, k, none⟩) (by simp; omega) (mkB (outB S k))
              have hBf := hB.setCell (p := ⟨N1, k, none⟩) (by simp; omega) (mkB (outB S k))
              have H5 := Lib.hid hb5'
              have H3 := Lib.hid hfb3
              have H4 := Lib.hid hfb4
              have Hq := Lib.hid hq
              have Hr := Lib.hid hr
              clear hset hb5' hfb3 hfb4 hcell hq hr
              generalize tI (wd S q) = wv at *
              generalize hbv : outB S k = bv at *
              go_wp2
              go_roundw
              case rel => exact ⟨k + 1, by omega, by go_num, by rw [← hob]; exact H5.out, by rw [← hob]; exact H3.out, by rw [← hob]; exact H4.out, by rw [← hob]; exact hBf⟩
              case measure => simp [intOf]; omega
            · obtain rfl : k = 32 := by omega
              have hi32 : Hid ((Tryd.prog.info? 33).map (·.size) = some (outA S 32).size) := Lib.hid (by rw [show (outA S 32).size = 32 by simp [outA, outs_len]]; kernel_rfl)
              have hz32 : Hid ((List.replicate 32 (Value.int .u8 0)).toArray.size = (outA S 32).size) := Lib.hid (by rw [show (outA S 32).size = 32 by simp [outA, outs_len]]; rfl)
              have ho32 : Hid ((outA S 32).all (·.oneCell') = true) := Lib.hid (by rw [show outA S 32 = ((outs S 32).map mkB).toArray by simp [outA]]; exact one_cells _)
              clear hcell
              go_wp2_with (first | (with_reducible refine wpList_load_row rfl 33 (.tmp 6) rfl N1 rfl 33 _ _ _ hb5 Tryd.underlying33 rfl hi32.out ?_) | (with_reducible refine wpList_store_row rfl 33 (.tmp 2) (.tmp 57) rfl (w.heap.size + 1) (outA S 32) rfl rfl 33 _ hb4 hi32.out hz32.out ho32.out ?_))
              exact bodyPost_ret (v := .agg (outA S 32)) (results_cell_row Tryd.results40 _ _ (w.heap.size + 1) 33 _ _ _ rfl (blk_setRow hb4 _) Tryd.underlying33 rfl hi32.out) rfl ⟨by rw [outA_full, Hres.out], below_setRow hB (by omega) _⟩
    · have ht : ¬ (N + (k + 1)) % 64 = 56 := fun h => hkk ((padK_at N k hk).1 h)
      have e3 : ¬ ((N : Int) + ((k : Int) + 1)) % 64 = 56 := by omega
      go_wp2_with (with_reducible refine wp_appB1 rfl (.tmp 20) (.tmp 21) rfl (w.heap.size + 2) _ (zerosP k) rfl hown 0 0 rfl rfl (by rw [zerosP_len]; omega) hsz ?_; intro v1 w1 hown1 hg1 hv1)
      obtain ⟨g1, cap1, rfl, hg1'⟩ := hv1
      rw [zerosP_len] at *
      rw [← zerosP_succ] at hown1
      exact ⟨⟨k + 1, by omega, ⟨g1, cap1, rfl, hg1'⟩, hown1, hg1.kept _ _ hb0 (by omega), hg1.kept _ _ hb1 (by omega), hg1.below _ _ hB (by omega), by have := hg1.size; omega⟩, by simp [lenOfV]; omega⟩
end Go.Proofs.YtbgieephehfgpabDoor
