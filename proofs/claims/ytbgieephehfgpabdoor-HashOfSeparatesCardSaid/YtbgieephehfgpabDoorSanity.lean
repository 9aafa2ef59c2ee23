/-
  The law's sanity returns true. Condition: the tables are as the program's text lays them.
-/
import Derived.Test.YtbgieephehfgpabDoorOf
import Derived.Test.YtbgieephehfgpabDoorHexStr
import Derived.Test.YtbgieephehfgpabDoorWords
import Derived.Test.YtbgieephehfgpabDoorCrcJoin
import Derived.Lib.SlBytesConst
import Derived.DeepKeys
namespace Go.Proofs.YtbgieephehfgpabDoor
open Go Go.RowKit Sha Crc
theorem rd_lit {α : Type} (mk : α → Value) (w : World) (cs : Array Value) (t : TypeId) (fr : Nat × Nat) (l : List α) (n : Nat) (hn : l.length = n) (hcs : cs.toList = l.map mk) : Rd mk (w.alloc (.cells cs t fr)) (.slice (some ⟨w.heap.size, 0, none⟩) n n) l := by
  refine ⟨_, n, by rw [hn], by omega, .inr ⟨w.heap.size, 0, rfl, by simp, fun i x hx => ?_⟩⟩
  rw [Nat.zero_add, blk_cell (heap_alloc_new w (.cells cs t fr)), ← Array.getElem?_toList, hcs, List.getElem?_map, hx]
  rfl
/-- the load of a whole array, in an operation whose guard holds -/
theorem wpList_load_row_g {P : Program} {ops : Array Oper} {rest : List Oper} {o : Oper} {a : Act} {w : World} {Q : Exit → Act → World → Prop} (hw : Region.wanted o (yielded ops a.tmps) = true) (ty : TypeId) (x : Operand) (ho : o.op = .load ty x)
    (g : Nat) (hx : a.eval x = .pointer (some ⟨g, 0, none⟩)) (t : TypeId) (cs : Array Value) (fr : Nat × Nat) (d : TypeDesc) (hg : w.heap[g]? = some (.cells cs t fr))
    (hu : P.underlying ty = some d) (hd : (match d with | .struct _ | .array _ _ => true | _ => false) = true) (hi : (P.info? ty).map (·.size) = some cs.size)
    (h : wpList P ops Q rest (a.put o.dst (.agg cs)) w) : wpList P ops Q (o :: rest) a w :=
  wpList_step fun K hK => by rw [if_pos hw]; exact wp_load_row ty x ho g hx t cs fr d hg hu hd hi (hK _ _ h)
theorem val_abc : hexL (sha [97, 98, 99]) = [98, 97, 55, 56, 49, 54, 98, 102, 56, 102, 48, 49, 99, 102, 101, 97, 52, 49, 52, 49, 52, 48, 100, 101, 53, 100, 97, 101, 50, 50, 50, 51, 98, 48, 48, 51, 54, 49, 97, 51, 57, 54, 49, 55, 55, 97, 57, 99, 98, 52, 49, 48, 102, 102, 54, 49, 102, 50, 48, 48, 49, 53, 97, 100] := by decide +kernel
theorem val_of : hexL ((sha (ofIn 1 [])).take 16) = [52, 98, 102, 53, 49, 50, 50, 102, 51, 52, 52, 53, 53, 52, 99, 53, 51, 98, 100, 101, 50, 101, 98, 98, 56, 99, 100, 50, 98, 55, 101, 51] := by decide +kernel
theorem val_254 : toI (crc [254]) = 75628790 := by decide +kernel
theorem val_ff : toI (adds (adds ones [255]) [255] ^^^ ones) = 65535 := by decide +kernel
theorem val_words : toI (crc (wordsB [1099511627774])) = 1099435999222 := by decide +kernel
theorem val_j1 : toI (joinLoop 1 (low 255) 256#40 ^^^ low 255) = 65535 := by decide +kernel
theorem val_j2 : toI (joinLoop 1 (low 255) 256#40 ^^^ low 0) = 65280 := by decide +kernel
theorem val_j3 : toI (joinLoop 0 (low 7) 256#40 ^^^ low 9) = 14 := by decide +kernel
set_option maxRecDepth 100000 in
set_option maxHeartbeats 4000000 in
theorem sanity_any (w : World) (hT : Tabs w) :
    Calls Tryd.prog 11 #[] w fun e w' => e = .returned (.bool true) ∧ Below w.heap.size w w' := by
  obtain ⟨D, hD⟩ : ∃ D : Array Value, D = ((sha [97, 98, 99]).map mkB).toArray := ⟨_, rfl⟩
  have hDs : D.size = 32 := by rw [hD]; simp [sha_len]
  have hD1 : D.all (·.oneCell') = true := by rw [hD]; exact one_cells _
  have hDi : Hid ((Tryd.prog.info? 33).map (·.size) = some D.size) := Lib.hid (by rw [hDs]; kernel_rfl)
  have hD' : Hid (bytesV (sha [97, 98, 99]) = .agg D) := Lib.hid (by rw [hD]; rfl)
  obtain ⟨E, hE⟩ : ∃ E : Array Value, E = (((sha (ofIn 1 [])).take 16).map mkB).toArray := ⟨_, rfl⟩
  have hEs : E.size = 16 := by rw [hE]; simp [sha_len]
  have hE1 : E.all (·.oneCell') = true := by rw [hE]; exact one_cells _
  have hEi : Hid ((Tryd.prog.info? 26).map (·.size) = some E.size) := Lib.hid (by rw [hEs]; kernel_rfl)
  have hE' : Hid (bytesV ((sha (ofIn 1 [])).take 16) = .agg E) := Lib.hid (by rw [hE]; rfl)
  have hcc : ∀ W : World, (convert 31 31 (.slice (some ⟨W.heap.size, 0, none⟩) 3 3)).run Tryd.prog (W.alloc (.cells #[.int .u8 97, .int .u8 98, .int .u8 99] 5)) = .ok (.slice (some ⟨W.heap.size, 0, none⟩) 3 3) (W.alloc (.cells #[.int .u8 97, .int .u8 98, .int .u8 99] 5 (3, 4))) := fun W => Lib.run_convert_bytes_const W 31 5 _ 3 3 Tryd.underlying31 Tryd.underlying5
  have hS1 : ∀ W : World, Tabs (W.alloc (.cells #[.int .u8 97, .int .u8 98, .int .u8 99] 5 (3, 4))) → Calls Tryd.prog 16 #[.slice (some ⟨W.heap.size, 0, none⟩) 3 3] (W.alloc (.cells #[.int .u8 97, .int .u8 98, .int .u8 99] 5 (3, 4))) fun e w' => e = .returned (.agg D) ∧ Below (W.heap.size + 1) (W.alloc (.cells #[.int .u8 97, .int .u8 98, .int .u8 99] 5 (3, 4))) w' := fun W h => by
    have := hsum_any _ [97, 98, 99] _ (rd_lit mkB W #[.int .u8 97, .int .u8 98, .int .u8 99] 5 (3, 4) [97, 98, 99] 3 rfl rfl) (by decide) h.c
    rw [hD'.out, World.size_alloc] at this
    exact this
  have hS2 : ∀ v W, Rep [97, 98, 99] v → Tabs W → Calls Tryd.prog 40 #[v] W fun e w' => e = .returned (.agg D) ∧ Below W.heap.size W w' := fun v W h1 h2 => by
    have := ssum_any _ v W h1 (by decide) h2.c
    rw [hD'.out] at this
    exact this
  have hOf : ∀ W, Tabs W → Calls Tryd.prog 13 #[.int .i64 1, .slice none 0 0] W fun e w' => e = .returned (.agg E) ∧ Below W.heap.size W w' := fun W h => by
    have := of_any 1 (.slice none 0 0) [] W ⟨none, 0, rfl, by decide, .inl rfl⟩ (by decide) (by intro l hl; cases hl) h.c
    rw [hE'.out] at this
    exact this
  have hCr : ∀ W : World, Tabs (W.alloc (.cells #[.int .u8 254] 5)) → Calls Tryd.prog 41 #[.slice (some ⟨W.heap.size, 0, none⟩) 1 1] (W.alloc (.cells #[.int .u8 254] 5)) fun e w' => e = .returned (.int .i64 75628790) ∧ Below (W.heap.size + 1) (W.alloc (.cells #[.int .u8 254] 5)) w' := fun W h => by
    have := crc40_any _ [254] _ (rd_lit mkB W #[.int .u8 254] 5 (0, 0) [254] 1 rfl rfl) (by decide) h
    rw [val_254, World.size_alloc] at this
    exact this
  have hWo : ∀ W : World, Tabs (W.alloc (.cells #[.int .i64 1099511627774] 3)) → Calls Tryd.prog 45 #[.slice (some ⟨W.heap.size, 0, none⟩) 1 1] (W.alloc (.cells #[.int .i64 1099511627774] 3)) fun e w' => e = .returned (.int .i64 1099435999222) ∧ Below (W.heap.size + 1) (W.alloc (.cells #[.int .i64 1099511627774] 3)) w' := fun W h => by
    have := words_any _ [1099511627774] _ (rd_lit mkI W #[.int .i64 1099511627774] 3 (0, 0) [1099511627774] 1 rfl rfl) (by decide) (by intro n hn; simp at hn; subst hn; decide) h
    rw [val_words, World.size_alloc] at this
    exact this
  have hA1 : ∀ (r : R) (b : UInt8) (W : World), Tabs W → Calls Tryd.prog 43 #[.agg #[.int .u64 (toI r)], .string ⟨#[b]⟩] W fun e w' => e = .returned (.agg #[.int .u64 (toI (adds r [b]))]) ∧ Below W.heap.size W w' := fun r b W h => add_any r ⟨#[b]⟩ W (by simp [ByteArray.size]) h
  have hJ1 : ∀ W, Tabs W → Calls Tryd.prog 46 #[.int .i64 255, .int .i64 255, .int .i64 1] W fun e w' => e = .returned (.int .i64 65535) ∧ W = w' := fun W h => by
    have := join_nat 255 255 1 W (by decide) h
    rw [val_j1] at this
    exact this
  have hJ2 : ∀ W, Tabs W → Calls Tryd.prog 46 #[.int .i64 255, .int .i64 0, .int .i64 1] W fun e w' => e = .returned (.int .i64 65280) ∧ W = w' := fun W h => by
    have := join_nat 255 0 1 W (by decide) h
    rw [val_j2] at this
    exact this
  have hJ3 : ∀ W, Tabs W → Calls Tryd.prog 46 #[.int .i64 7, .int .i64 9, .int .i64 0] W fun e w' => e = .returned (.int .i64 14) ∧ W = w' := fun W h => by
    have := join_nat 7 9 0 W (by decide) h
    rw [val_j3] at this
    exact this
  have hkey : (keyOf Tryd.prog 33 (.agg D)).isSome = true := by rw [hD]; kernel_rfl
  obtain ⟨lx, hlx⟩ := Option.isSome_iff_exists.1 hkey
  have heq : ∀ W, (Op.equalIn 10000 33 (.agg D) (.agg D)).run Tryd.prog W = .ok true W := fun W => by
    obtain ⟨r, hr, hiff⟩ := run_equal_deep (P := Tryd.prog) W (m := 3) (by decide) (k := 33) (by kernel_rfl) (by rw [Tryd.underlying33]) hlx hlx
    have hr1 : r = true := hiff.2 rfl
    rw [hr1] at hr
    exact hr
  clear hkey hlx
  have hB32 : ∀ W, Calls Tryd.prog 48 #[.agg D] W fun e w' => e = .returned (.string ⟨(sha [97, 98, 99]).toArray⟩) ∧ Below W.heap.size W w' := fun W => by
    have := bytes32_any (sha [97, 98, 99]) W (sha_len _)
    rw [hD'.out] at this
    exact this
  have hT16 : ∀ W, Calls Tryd.prog 49 #[.agg E] W fun e w' => e = .returned (.string ⟨((sha (ofIn 1 [])).take 16).toArray⟩) ∧ Below W.heap.size W w' := fun W => by
    have := text_any ((sha (ofIn 1 [])).take 16) W (by simp [sha_len])
    rw [hE'.out] at this
    exact this
  have hx1 := fun W => hex_any (sha [97, 98, 99]) W (by rw [sha_len]; decide)
  have hx2 := fun W => hex_any ((sha (ofIn 1 [])).take 16) W (by simp [sha_len])
  rw [val_abc] at hx1
  rw [val_of] at hx2
  generalize sha [97, 98, 99] = sa at *
  generalize (sha (ofIn 1 [])).take 16 = sb at *
  clear hD hE
  go_enter Tryd.func11, Tryd.ntmps11
  go_wp2_with (first
    | (go_at_call 16; ((with_reducible refine (hS1 w (hT.alloc _)).mono ?_); rintro e w1 ⟨rfl, hw1⟩; have hB1 : Below w.heap.size w w1 := (below_alloc1 w _).trans (hw1.mono (by omega)); clear hw1))
    | (with_reducible refine wpList_store_row rfl 33 (.tmp 1) (.tmp 10) rfl w1.heap.size D rfl rfl 33 _ (blk_new w1 _ _) hDi.out (Eq.trans (by kernel_rfl : _ = 32) hDs.symm) hD1 ?_; rw [World.setRow_alloc_new]; simp only [Act.put]; have hk1 := blk_new w1 D 33; have hB2 := hB1.alloc hB1.size (.cells D 33); generalize w1.alloc (.cells D 33) = w2 at *)
    | (go_at_call 38; ((with_reducible refine (begin2_any _).mono ?_); rintro e w3 ⟨⟨v3, hv3, rfl⟩, hw3⟩; have hB3 := hB2.trans (hw3.mono hB2.size); have hk3 := blk_kept hk1 hw3; clear hw3))
    | (go_at_call 39; ((with_reducible refine (sadd_any [] v3 ⟨#[97]⟩ w3 hv3 (by decide) (hT.below hB3).c).mono ?_); rintro e w4 ⟨⟨v4, hv4, rfl⟩, hw4⟩; have hB4 := hB3.trans (hw4.mono hB3.size); have hk4 := blk_kept hk3 hw4; have hv4' : Rep [97] v4 := hv4; clear hw4 hv4))
    | (go_at_call 39; ((with_reducible refine (sadd_any [97] v4 ⟨#[98, 99]⟩ w4 hv4' (by decide) (hT.below hB4).c).mono ?_); rintro e w5 ⟨⟨v5, hv5, rfl⟩, hw5⟩; have hB5 := hB4.trans (hw5.mono hB4.size); have hk5 := blk_kept hk4 hw5; have hv5' : Rep [97, 98, 99] v5 := hv5; clear hw5 hv5))
    | (go_at_call 40; ((with_reducible refine (hS2 v5 w5 hv5' (hT.below hB5)).mono ?_); rintro e w6 ⟨rfl, hw6⟩; have hB6 := hB5.trans (hw6.mono hB5.size); have hk6 := blk_kept hk5 hw6; clear hw6))
    | (with_reducible refine wpList_store_row rfl 33 (.tmp 2) (.tmp 14) rfl w6.heap.size D rfl rfl 33 _ (blk_new w6 _ _) hDi.out (Eq.trans (by kernel_rfl : _ = 32) hDs.symm) hD1 ?_; rw [World.setRow_alloc_new]; simp only [Act.put]; have hl7 := blk_new w6 D 33; have hk7 := blk_alloc hk6 (.cells D 33); have hB7 := hB6.alloc hB6.size (.cells D 33); generalize w6.alloc (.cells D 33) = w7 at *)
    | (go_at_call 13; ((with_reducible refine (hOf w7 (hT.below hB7)).mono ?_); rintro e w8 ⟨rfl, hw8⟩; have hB8 := hB7.trans (hw8.mono hB7.size); have hk8 := blk_kept hk7 hw8; have hl8 := blk_kept hl7 hw8; clear hw8))
    | (with_reducible refine wpList_store_row rfl 26 (.tmp 3) (.tmp 15) rfl w8.heap.size E rfl rfl 26 _ (blk_new w8 _ _) hEi.out (Eq.trans (by kernel_rfl : _ = 16) hEs.symm) hE1 ?_; rw [World.setRow_alloc_new]; simp only [Act.put]; have hm9 := blk_new w8 E 26; have hk9 := blk_alloc hk8 (.cells E 26); have hl9 := blk_alloc hl8 (.cells E 26); have hB9 := hB8.alloc hB8.size (.cells E 26); generalize w8.alloc (.cells E 26) = w9 at *)
    | (go_at_call 41; ((with_reducible refine (hCr w9 (hT.below (hB9.alloc hB9.size _))).mono ?_); rintro e w10 ⟨rfl, hw10⟩; have hB10 := (hB9.alloc hB9.size (.cells #[.int .u8 254] 5)).trans (hw10.mono (Nat.le_succ_of_le hB9.size)); have hk10 := blk_below (blk_alloc hk9 (.cells #[.int .u8 254] 5)) hw10 (Nat.lt_succ_of_lt (blk_lt hk9)); have hl10 := blk_below (blk_alloc hl9 (.cells #[.int .u8 254] 5)) hw10 (Nat.lt_succ_of_lt (blk_lt hl9)); have hm10 := blk_below (blk_alloc hm9 (.cells #[.int .u8 254] 5)) hw10 (Nat.lt_succ_of_lt (blk_lt hm9)); clear hw10))
    | (go_at_call 42; ((with_reducible refine (begin_any w10).mono ?_); rintro e w11 ⟨rfl, hw11⟩; have hB11 := hB10.trans (hw11.mono hB10.size); have hk11 := blk_kept hk10 hw11; have hl11 := blk_kept hl10 hw11; have hm11 := blk_kept hm10 hw11; clear hw11))
    | (go_at_call 43; ((with_reducible refine (hA1 ones 255 w11 (hT.below hB11)).mono ?_); rintro e w12 ⟨rfl, hw12⟩; have hB12 := hB11.trans (hw12.mono hB11.size); have hk12 := blk_kept hk11 hw12; have hl12 := blk_kept hl11 hw12; have hm12 := blk_kept hm11 hw12; clear hw12))
    | (go_at_call 43; ((with_reducible refine (hA1 (adds ones [255]) 255 w12 (hT.below hB12)).mono ?_); rintro e w13 ⟨rfl, hw13⟩; have hB13 := hB12.trans (hw13.mono hB12.size); have hk13 := blk_kept hk12 hw13; have hl13 := blk_kept hl12 hw13; have hm13 := blk_kept hm12 hw13; clear hw13))
    | (go_at_call 44; ((with_reducible refine (value_any (adds (adds ones [255]) [255]) w13).mono ?_); rintro e w14 ⟨rfl, hw14⟩; rw [val_ff]; have hB14 := hB13.trans (hw14.mono hB13.size); have hk14 := blk_kept hk13 hw14; have hl14 := blk_kept hl13 hw14; have hm14 := blk_kept hm13 hw14; clear hw14))
    | (go_at_call 45; ((with_reducible refine (hWo w14 (hT.below (hB14.alloc hB14.size _))).mono ?_); rintro e w15 ⟨rfl, hw15⟩; have hB15 := (hB14.alloc hB14.size (.cells #[.int .i64 1099511627774] 3)).trans (hw15.mono (Nat.le_succ_of_le hB14.size)); have hk15 := blk_below (blk_alloc hk14 (.cells #[.int .i64 1099511627774] 3)) hw15 (Nat.lt_succ_of_lt (blk_lt hk14)); have hl15 := blk_below (blk_alloc hl14 (.cells #[.int .i64 1099511627774] 3)) hw15 (Nat.lt_succ_of_lt (blk_lt hl14)); have hm15 := blk_below (blk_alloc hm14 (.cells #[.int .i64 1099511627774] 3)) hw15 (Nat.lt_succ_of_lt (blk_lt hm14)); clear hw15))
    | (go_at_call 46; ((with_reducible refine (hJ1 w15 (hT.below hB15)).mono ?_); rintro e w16 ⟨rfl, rfl⟩))
    | (go_at_call 46; ((with_reducible refine (hJ2 w15 (hT.below hB15)).mono ?_); rintro e w16 ⟨rfl, rfl⟩))
    | (go_at_call 46; ((with_reducible refine (hJ3 w15 (hT.below hB15)).mono ?_); rintro e w16 ⟨rfl, rfl⟩))
    | (go_at_call 46; ((with_reducible refine (join_neg 1 1 (-1) w15 (by decide)).mono ?_); rintro e w16 ⟨rfl, rfl⟩))
    | (with_reducible refine wpList_load_row rfl 33 (.tmp 1) rfl w1.heap.size rfl 33 _ _ _ hk15 Tryd.underlying33 rfl hDi.out ?_)
    | (go_at_call 48; ((with_reducible refine (hB32 w15).mono ?_); rintro e w16 ⟨rfl, hw16⟩; have hB16 := hB15.trans (hw16.mono hB15.size); have hk16 := blk_kept hk15 hw16; have hl16 := blk_kept hl15 hw16; have hm16 := blk_kept hm15 hw16; clear hw16))
    | (go_at_call 47; ((with_reducible refine (hx1 w16).mono ?_); rintro e w17 ⟨rfl, hw17⟩; have hB17 := hB16.trans (hw17.mono hB16.size); have hk17 := blk_kept hk16 hw17; have hl17 := blk_kept hl16 hw17; have hm17 := blk_kept hm16 hw17; clear hw17))
    | (with_reducible refine wpList_load_row_g ?_ 33 (.tmp 1) rfl w1.heap.size rfl 33 _ _ _ hk17 Tryd.underlying33 rfl hDi.out ?_; focus (first | rfl | (simp [Region.wanted, yielded]; done)))
    | (with_reducible refine wpList_load_row_g ?_ 33 (.tmp 2) rfl w6.heap.size (by simp [Act.eval, Act.put]) 33 _ _ _ hl17 Tryd.underlying33 rfl hDi.out ?_; focus (first | rfl | (simp [Region.wanted, yielded, Act.put]; done)))
    | (with_reducible refine wpList_load_row_g ?_ 26 (.tmp 3) rfl w8.heap.size (by simp [Act.eval, Act.put]) 26 _ _ _ hm17 Tryd.underlying26 rfl hEi.out ?_; focus (first | rfl | (simp [Region.wanted, yielded]; done)))
    | (go_at_call 49; ((with_reducible refine (hT16 w17).mono ?_); rintro e w18 ⟨rfl, hw18⟩; have hB18 := hB17.trans (hw18.mono hB17.size); clear hw18))
    | (go_at_call 47; ((with_reducible refine (hx2 w18).mono ?_); rintro e w19 ⟨rfl, hw19⟩; have hB19 := hB18.trans (hw19.mono hB18.size); clear hw19)))
  go_ret
  exact ⟨rfl, hB19⟩
end Go.Proofs.YtbgieephehfgpabDoor
