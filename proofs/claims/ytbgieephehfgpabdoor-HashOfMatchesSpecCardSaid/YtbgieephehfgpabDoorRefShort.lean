/-
  What the reference's Short and Of return: the first 16 bytes of the hash. Conditions: sizes; the reference's table is as its text lays it.
-/
import Derived.Test.YtbgieephehfgpabDoorRefOf
namespace Go.Proofs.YtbgieephehfgpabDoor
open Go Go.RowKit Sha Wire
/-- the first k of 16 bytes, the rest still zero -/
def digA (l : List UInt8) (k : Nat) : Array Value := ((l.take k).map mkB ++ List.replicate (16 - k) (Value.int .u8 0)).toArray
theorem digA_zero (l : List UInt8) : digA l 0 = (List.replicate 16 (Value.int .u8 0)).toArray := rfl
theorem digA_set (l : List UInt8) (k : Nat) (x : UInt8) (hx : l[k]? = some x) (hk : k < 16) : (digA l k).setIfInBounds k (mkB x) = digA l (k + 1) := by
  have hl : k < l.length := (List.getElem?_eq_some_iff.1 hx).1
  unfold digA
  rw [List.setIfInBounds_toArray, List.set_append_right _ _ (by simp; omega), List.take_add_one, hx]
  have h0 : k - ((l.take k).map mkB).length = 0 := by simp; omega
  rw [h0]
  obtain ⟨m, hm⟩ : ∃ m, 16 - k = m + 1 := ⟨15 - k, by omega⟩
  have hm2 : 16 - (k + 1) = m := by omega
  rw [hm, hm2, List.replicate_succ, List.set_cons_zero]
  simp
theorem digA_size (l : List UInt8) (k : Nat) (hl : 16 ≤ l.length) (hk : k ≤ 16) : (digA l k).size = 16 := by
  simp [digA]; omega
theorem digA_full (l : List UInt8) : digA l 16 = ((l.take 16).map mkB).toArray := by
  simp [digA]
set_option maxRecDepth 100000 in
set_option maxHeartbeats 2000000 in
theorem rshort_any (v : Value) (l : List UInt8) (w : World) (hr : RdB w v l) (hs : l.length ≤ 1000000000) (hT : TabR w) :
    Calls Tryd.prog 51 #[v] w fun e w' => e = .returned (bytesV ((sha l).take 16)) ∧ Below w.heap.size w w' := by
  have hrs := fun W (hW : RdB W v l) (h : TabR W) => refsum_any v l W hW hs h
  have hsl := sha_len l
  generalize sha l = h at *
  have hfull : bytesV (h.take 16) = .agg (digA h 16) := by rw [digA_full]; rfl
  rw [hfull]
  obtain ⟨D, hD⟩ : ∃ D : Array Value, D = (h.map mkB).toArray := ⟨_, rfl⟩
  have hDs : D.size = 32 := by rw [hD]; simp [hsl]
  have hD1 : D.all (·.oneCell') = true := by rw [hD]; exact one_cells _
  have hDi : Hid ((Tryd.prog.info? 33).map (·.size) = some D.size) := Lib.hid (by rw [hDs]; kernel_rfl)
  have hD' : bytesV h = .agg D := by rw [hD]; rfl
  rw [hD'] at hrs
  have hDc : ∀ (k : Nat) (x : UInt8), h[k]? = some x → D[k]? = some (mkB x) := by intro k x hx; rw [hD, List.getElem?_toArray, List.getElem?_map, hx]; rfl
  have Hrs := Lib.hid hrs
  have HDc := Lib.hid hDc
  clear hrs hD hD' hDc hfull
  go_enter Tryd.func51, Tryd.ntmps51
  go_wp2_with fail
  have hz0 : Blk (w.alloc (.cells (List.replicate 16 (Value.int .u8 0)).toArray 26)) w.heap.size (List.replicate 16 (Value.int .u8 0)).toArray 26 := blk_new w _ _
  have hB0 : Below w.heap.size w (w.alloc (.cells (List.replicate 16 (Value.int .u8 0)).toArray 26)) := (Below.refl _ _).alloc (Nat.le_refl _) _
  have hz00 : w.heap.size + 1 ≤ (w.alloc (.cells (List.replicate 16 (Value.int .u8 0)).toArray 26)).heap.size := by rw [World.size_alloc]; omega
  change Calls _ _ _ (w.alloc (.cells (List.replicate 16 (Value.int .u8 0)).toArray 26)) _
  generalize w.alloc (.cells (List.replicate 16 (Value.int .u8 0)).toArray 26) = w0 at *
  with_reducible refine (Hrs.out w0 (Rd.below hr hB0) (hT.below hB0)).mono ?_
  rintro e w1 ⟨rfl, hw1⟩
  have hk1 := blk_kept hz0 hw1
  have hB1 := hB0.trans (hw1.mono hB0.size)
  have hs1 : w.heap.size + 1 ≤ w1.heap.size := Nat.le_trans hz00 hw1.size
  clear hz0 hz00 hw1 hB0
  go_wp2_with (first
    | (with_reducible refine wpList_store_row rfl 33 (.tmp 3) (.tmp 7) rfl w1.heap.size D rfl rfl 33 _ (blk_new w1 _ _) hDi.out (Eq.trans (by kernel_rfl : _ = 32) hDs.symm) hD1 ?_; rw [World.setRow_alloc_new]; simp only [Act.put]; have hk2 := blk_alloc hk1 (.cells D 33); have hd2 := blk_new w1 D 33; have hB2 := hB1.alloc (by omega) (.cells D 33); have hs2 : w.heap.size + 1 ≤ (w1.alloc (.cells D 33)).heap.size := by { rw [World.size_alloc]; omega }; generalize w1.alloc (.cells D 33) = w2 at *))
  have hk3 := blk_alloc hk2 (.cells (List.replicate 16 (Value.int .u8 0)).toArray 26)
  have hd3 := blk_alloc hd2 (.cells (List.replicate 16 (Value.int .u8 0)).toArray 26)
  have ho3 : Blk (w2.alloc (.cells (List.replicate 16 (Value.int .u8 0)).toArray 26)) w2.heap.size (digA h 0) 26 := blk_new w2 _ _
  have hB3 := hB2.alloc (by omega) (.cells (List.replicate 16 (Value.int .u8 0)).toArray 26)
  have h34 : w1.heap.size < w2.heap.size := blk_lt hd2
  change Code.wp _ _ _ _ (w2.alloc (.cells (List.replicate 16 (Value.int .u8 0)).toArray 26))
  generalize w2.alloc (.cells (List.replicate 16 (Value.int .u8 0)).toArray 26) = w3 at *
  clear hk2 hd2 hB2 hk1 hB1
  generalize w2.heap.size = N4 at *
  generalize w1.heap.size = N3 at *
  go_loopw [5] (fun i wr => ∃ k : Nat, k ≤ 16 ∧ i = .int .i64 (k : Int) ∧ Blk wr N4 (digA h k) 26 ∧ Blk wr N3 D 33 ∧ Blk wr w.heap.size (List.replicate 16 (Value.int .u8 0)).toArray 26 ∧ Below w.heap.size w wr) (fun i _ => 16 - (intOf i).toNat)
  case atStart => exact ⟨0, by omega, rfl, ho3, hd3, hk3, hB3⟩
  case round =>
    clear ho3 hd3 hk3 hB3
    obtain ⟨k, hk, rfl, ho, hd, hz, hB⟩ := hrel
    by_cases h16 : k < 16
    · obtain ⟨x, hx⟩ : ∃ x, h[k]? = some x := ⟨_, List.getElem?_eq_getElem (by omega)⟩
      have hcx : wr.cell? ⟨N3, k, none⟩ = some (.int .u8 (x.toNat : Int)) := (blk_cell hd k).trans (HDc.out k x hx)
      have hso : (digA h k).size = 16 := digA_size h k (by omega) hk
      have hlt : k < (digA h k).size := by omega
      have hco : wr.cell? ⟨N4, k, none⟩ = some ((digA h k)[k]'hlt) := (blk_cell ho k).trans (Array.getElem?_eq_getElem hlt)
      have hfo : wr.frozen? ⟨N4, k, none⟩ = false := blk_free ho k
      have ho' := blk_set ho k (mkB x)
      rw [digA_set h k x hx h16] at ho'
      have hd' := blk_far hd (p := ⟨N4, k, none⟩) (by show N3 ≠ N4; omega) (mkB x)
      have hz' := blk_far hz (p := ⟨N4, k, none⟩) (by show w.heap.size ≠ N4; omega) (mkB x)
      have hB' := Below.setCell hB (p := ⟨N4, k, none⟩) (by show w.heap.size ≤ N4; omega) (mkB x)
      have Ho := Lib.hid ho'
      have Hd := Lib.hid hd'
      have Hz := Lib.hid hz'
      have HB := Lib.hid hB'
      clear ho' hd' hz' hB' hso ho hd hz hx
      go_wp2
      go_roundw
      case rel => exact ⟨k + 1, by omega, by go_num, Ho.out, Hd.out, Hz.out, HB.out⟩
      case measure => simp [intOf]; omega
    · obtain rfl : k = 16 := by omega
      obtain ⟨E, hE⟩ : ∃ E, E = digA h 16 := ⟨_, rfl⟩
      have hEs : E.size = 16 := by rw [hE]; exact digA_size h 16 (by omega) (Nat.le_refl _)
      have hE1 : E.all (·.oneCell') = true := by rw [hE, digA_full]; exact one_cells _
      have hEi : Hid ((Tryd.prog.info? 26).map (·.size) = some E.size) := Lib.hid (by rw [hEs]; kernel_rfl)
      have hEz : Hid ((List.replicate 16 (Value.int .u8 0)).toArray.size = E.size) := Lib.hid (by rw [hEs]; rfl)
      rw [← hE] at ho
      have HE := Lib.hid hE
      clear hE hd
      go_wp2_with (first
        | (with_reducible refine wpList_load_row rfl 26 (.tmp 4) rfl N4 rfl 26 _ _ _ ho Tryd.underlying26 rfl hEi.out ?_)
        | (with_reducible refine wpList_store_row rfl 26 (.tmp 2) (.tmp 18) rfl w.heap.size E rfl rfl 26 _ hz hEi.out hEz.out hE1 ?_))
      exact bodyPost_ret (v := .agg E) (results_cell_row Tryd.results51 _ _ w.heap.size 26 _ _ _ rfl (blk_setRow hz _) Tryd.underlying26 rfl hEi.out) rfl ⟨by rw [HE.out], below_setRow hB (Nat.le_refl _) _⟩
set_option maxRecDepth 100000 in
set_option maxHeartbeats 2000000 in
theorem rof_any (tag : Int) (v : Value) (ps : List (List UInt8)) (w : World) (hr : Rd mkS w v ps) (hn : ps.length ≤ 1000) (hs : ∀ l ∈ ps, l.length ≤ 10000) (hT : TabR w) :
    Calls Tryd.prog 14 #[.int .i64 tag, v] w fun e w' => e = .returned (bytesV ((sha (ofIn tag ps)).take 16)) ∧ Below w.heap.size w w' := by
  have hlen := ofIn_len tag ps hs ps.length (Nat.le_refl _)
  rw [List.take_length] at hlen
  have hsh := fun v W (hW : RdB W v (ofIn tag ps)) (h : TabR W) => rshort_any v (ofIn tag ps) W hW (by omega) h
  have hin := fun W (hW : Rd mkS W v ps) => rinput_any tag v ps W hW hn hs
  have hsl := sha_len (ofIn tag ps)
  generalize sha (ofIn tag ps) = h at *
  generalize ofIn tag ps = x at *
  obtain ⟨E, hE⟩ : ∃ E : Array Value, E = ((h.take 16).map mkB).toArray := ⟨_, rfl⟩
  have hEs : E.size = 16 := by rw [hE]; simp [hsl]
  have hE1 : E.all (·.oneCell') = true := by rw [hE]; exact one_cells _
  have hEi : Hid ((Tryd.prog.info? 26).map (·.size) = some E.size) := Lib.hid (by rw [hEs]; kernel_rfl)
  have hEz : Hid ((List.replicate 16 (Value.int .u8 0)).toArray.size = E.size) := Lib.hid (by rw [hEs]; rfl)
  have hE' : bytesV (h.take 16) = .agg E := by rw [hE]; rfl
  rw [hE'] at hsh ⊢
  have Hsh := Lib.hid hsh
  have Hin := Lib.hid hin
  clear hE hE' hsh hin hsl hlen
  go_enter Tryd.func14, Tryd.ntmps14
  go_wp2_with fail
  have hz0 : Blk (w.alloc (.cells (List.replicate 16 (Value.int .u8 0)).toArray 26)) w.heap.size (List.replicate 16 (Value.int .u8 0)).toArray 26 := blk_new w _ _
  have hB0 : Below w.heap.size w (w.alloc (.cells (List.replicate 16 (Value.int .u8 0)).toArray 26)) := (Below.refl _ _).alloc (Nat.le_refl _) _
  change Calls _ _ _ (w.alloc (.cells (List.replicate 16 (Value.int .u8 0)).toArray 26)) _
  generalize w.alloc (.cells (List.replicate 16 (Value.int .u8 0)).toArray 26) = w0 at *
  with_reducible refine (Hin.out w0 (Rd.below hr hB0)).mono ?_
  rintro e w1 ⟨⟨v1, rfl, hown⟩, hw1⟩
  have hk1 := blk_kept hz0 hw1
  have hB1 := hB0.trans (hw1.mono hB0.size)
  go_wp2_with (first
    | (go_at_call 51; (with_reducible refine (Hsh.out v1 w1 (own_rd hown) (hT.below hB1)).mono ?_); rintro e w2 ⟨rfl, hw2⟩; have hk2 := blk_kept hk1 hw2; have hB2 := hB1.trans (hw2.mono hB1.size))
    | (with_reducible refine wpList_store_row rfl 26 (.tmp 4) (.tmp 8) rfl w.heap.size E rfl rfl 26 _ hk2 hEi.out hEz.out hE1 ?_))
  exact bodyPost_ret (v := .agg E) (results_cell_row Tryd.results14 _ _ w.heap.size 26 _ _ _ rfl (blk_setRow hk2 _) Tryd.underlying26 rfl hEi.out) rfl ⟨rfl, below_setRow hB2 (Nat.le_refl _) _⟩
end Go.Proofs.YtbgieephehfgpabDoor
