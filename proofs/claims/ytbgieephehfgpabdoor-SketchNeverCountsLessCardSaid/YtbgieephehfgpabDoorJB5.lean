/-
  Several texts of this proof in one: Power, Place, CellsOf, Each, Least, Mapped, Merge. Each states its own conditions.
-/
import Derived.Test.YtbgieephehfgpabDoorJB1
import Derived.Test.YtbgieephehfgpabDoorJB3
import Derived.Test.YtbgieephehfgpabDoorJB4
import Derived.RangeFuncNested
import Derived.RangeFuncBound
import Derived.RangeFuncCalls
import Derived.RangeFuncLeaves
import Derived.Shelf.Abstract
import Derived.Shelf.RegionOpen
import Derived.OwnWalkIn
import Derived.TacticsInMore
import Derived.LoopNIn
import Derived.LoopIn
/-
  What math/bits.OnesCount and the program's power return: how many bits are one, and whether a number is a power of two. Conditions: the argument of OnesCount is below 2^63.
-/
namespace Go.Proofs.YtbgieephehfgpabDoor
open Go Go.RowKit
namespace Pop
theorem masks : msk 5 16 = 6148914691236517205 ∧ msk 3 16 = 3689348814741910323 ∧ mskB 8 = 1085102592571150095 := by decide
theorem byts8 (x : Nat) : byts x 8 = pop 8 x + 256 * (pop 8 (x / 256) + 256 * (pop 8 (x / 65536) + 256 * (pop 8 (x / 16777216) + 256 * (pop 8 (x / 4294967296) + 256 * (pop 8 (x / 1099511627776) + 256 * (pop 8 (x / 281474976710656) + 256 * pop 8 (x / 72057594037927936))))))) := by
  simp only [byts, Nat.div_div_eq_div_mul, Nat.reduceMul, Nat.mul_zero, Nat.add_zero]
/-- the steps of Go's OnesCount64 -/
theorem steps (x : Nat) (hx : x < 9223372036854775808) : ∃ a1 b1 a2 b2 c : Nat,
    x / 2 &&& 6148914691236517205 = a1 ∧ x &&& 6148914691236517205 = b1 ∧ a1 ≤ 6148914691236517205 ∧ b1 ≤ 6148914691236517205 ∧
    (a1 + b1) / 4 &&& 3689348814741910323 = a2 ∧ (a1 + b1) &&& 3689348814741910323 = b2 ∧ a2 ≤ 3689348814741910323 ∧ b2 ≤ 3689348814741910323 ∧
    ((a2 + b2) / 16 + (a2 + b2)) &&& 1085102592571150095 = c ∧ (a2 + b2) / 16 + (a2 + b2) < 18446744073709551616 ∧
    c < 18446744073709551616 ∧ c + c / 256 < 18446744073709551616 ∧ (c + c / 256) + (c + c / 256) / 65536 < 18446744073709551616 ∧
    ((c + c / 256) + (c + c / 256) / 65536) + ((c + c / 256) + (c + c / 256) / 65536) / 4294967296 < 9223372036854775808 ∧
    (((c + c / 256) + (c + c / 256) / 65536) + ((c + c / 256) + (c + c / 256) / 65536) / 4294967296) % 128 = pop 64 x := by
  obtain ⟨m5, m3, mB⟩ := masks
  refine ⟨_, _, _, _, _, rfl, rfl, Nat.and_le_right, Nat.and_le_right, rfl, rfl, Nat.and_le_right, Nat.and_le_right, rfl, ?_⟩
  have e1 : (x / 2 &&& 6148914691236517205) + (x &&& 6148914691236517205) = s1 x 16 := by unfold s1; rw [m5]
  rw [e1]
  have e2 : (s1 x 16 / 4 &&& 3689348814741910323) + (s1 x 16 &&& 3689348814741910323) = nibs x 16 := by rw [← s2_s1 16 x]; unfold s2; rw [m3]
  rw [e2]
  have e3 : (nibs x 16 / 16 + nibs x 16) &&& 1085102592571150095 = byts x 8 := by rw [← s3_nibs 8 x]; unfold s3; rw [mB]
  rw [e3]
  obtain ⟨f1, f2, f3, f4, f5⟩ := fold8 _ _ _ _ _ _ _ _ (pop8_le x) (pop8_le (x / 256)) (pop8_le (x / 65536)) (pop8_le (x / 16777216)) (pop8_le (x / 4294967296)) (pop8_le (x / 1099511627776)) (pop8_le (x / 281474976710656)) (pop8_le (x / 72057594037927936)) _ _ _ _ (byts8 x) rfl rfl rfl
  refine ⟨?_, Nat.lt_trans f2 (by decide), Nat.lt_trans f3 (by decide), Nat.lt_trans f4 (by decide), f5, ?_⟩
  · have hn : ∀ n y, nibs y n * 15 ≤ 4 * (16 ^ n - 1) := by
      intro n
      induction n with
      | zero => intro y; simp [nibs]
      | succ n ih =>
        intro y
        have h1 := ih (y / 16)
        have h2 := pop4_le y
        have h3 := Nat.pow_pos (n := n) (show 0 < 16 by omega)
        rw [nibs, Nat.pow_succ]
        omega
    have := hn 16 x
    rw [show (16 : Nat) ^ 16 = 18446744073709551616 from rfl] at this
    omega
  · rw [f1, pop64]
theorem isPow_pop (n : Nat) (h : n < 9223372036854775808) : (pop 64 n = 1) ↔ isPow (n : Int) = true := by
  rw [pop_eq_one 64 n (by omega), isPow_iff]
  constructor
  · rintro ⟨k, hk, he⟩
    refine ⟨k, ?_, by rw [he]⟩
    rcases Nat.lt_or_ge k 63 with h1 | h1
    · exact h1
    · have := Nat.pow_le_pow_right (show 0 < 2 by omega) h1
      omega
  · rintro ⟨k, hk, he⟩
    exact ⟨k, by omega, by omega⟩
end Pop
set_option maxRecDepth 100000 in
set_option maxHeartbeats 1000000 in
theorem ones64_any (x : Nat) (w : World) (hx : x < 9223372036854775808) :
    Calls Tryd.prog 79 #[.int .u64 (x : Int)] w fun e w' => e = .returned (.int .i64 (Pop.pop 64 x : Int)) ∧ w = w' := by
  obtain ⟨a1, b1, a2, b2, c, h1, h2, h3, h4, h5, h6, h7, h8, h9, h10, h11, h12, h13, h14, h15⟩ := Pop.steps x hx
  have g1 : bits .and .u64 ((x : Int) / 2) 6148914691236517205 = (a1 : Int) := by rw [← h1]; exact u64_and_nat (x / 2) 6148914691236517205 (by omega) (by omega)
  have g2 : bits .and .u64 (x : Int) 6148914691236517205 = (b1 : Int) := by rw [← h2]; exact u64_and_nat x 6148914691236517205 (by omega) (by omega)
  have g3 : bits .and .u64 (((a1 : Int) + b1) / 4) 3689348814741910323 = (a2 : Int) := by rw [← h5]; exact u64_and_nat ((a1 + b1) / 4) 3689348814741910323 (by omega) (by omega)
  have g4 : bits .and .u64 ((a1 : Int) + b1) 3689348814741910323 = (b2 : Int) := by rw [← h6]; exact u64_and_nat (a1 + b1) 3689348814741910323 (by omega) (by omega)
  have g5 : bits .and .u64 (((a2 : Int) + b2) / 16 + ((a2 : Int) + b2)) 1085102592571150095 = (c : Int) := by rw [← h9]; exact u64_and_nat ((a2 + b2) / 16 + (a2 + b2)) 1085102592571150095 (by omega) (by omega)
  have g6 : bits .and .i64 (((c : Int) + c / 256) + ((c : Int) + c / 256) / 65536 + (((c : Int) + c / 256) + ((c : Int) + c / 256) / 65536) / 4294967296) 127 = (Pop.pop 64 x : Int) := by
    rw [show (127 : Int) = ((2 ^ 7 - 1 : Nat) : Int) from rfl, i64_mask _ 7 (by omega), ← h15]
    simp only [Int.natCast_emod, Int.natCast_add, Int.natCast_ediv]
    rfl
  generalize Pop.pop 64 x = r at *
  clear h1 h2 h5 h6 h9 h15
  have b10 : ((a2 : Int) + b2) / 16 + ((a2 : Int) + b2) < 18446744073709551616 := by omega
  have b12 : (c : Int) + c / 256 < 18446744073709551616 := by omega
  have b13 : ((c : Int) + c / 256) + ((c : Int) + c / 256) / 65536 < 18446744073709551616 := by omega
  have b14 : ((c : Int) + c / 256) + ((c : Int) + c / 256) / 65536 + (((c : Int) + c / 256) + ((c : Int) + c / 256) / 65536) / 4294967296 < 9223372036854775808 := by omega
  clear h10 h12 h13 h14
  go_enter Tryd.func79, Tryd.ntmps79
  go_wp2
  go_ret
  exact ⟨rfl, rfl⟩
set_option maxRecDepth 100000 in
set_option maxHeartbeats 1000000 in
theorem ones_any (x : Nat) (w : World) (hx : x < 9223372036854775808) :
    Calls Tryd.prog 71 #[.int .u64 (x : Int)] w fun e w' => e = .returned (.int .i64 (Pop.pop 64 x : Int)) ∧ w = w' := by
  go_enter Tryd.func71, Tryd.ntmps71
  go_wp2_with (go_at_call 79; (with_reducible refine (ones64_any x _ hx).mono ?_); rintro e w1 ⟨rfl, rfl⟩)
  go_ret
  exact ⟨rfl, rfl⟩
set_option maxRecDepth 100000 in
set_option maxHeartbeats 1000000 in
theorem power_any (n : Int) (w : World) (hn : n ≤ 9223372036854775807) :
    Calls Tryd.prog 58 #[.int .i64 n] w fun e w' => e = .returned (.bool (isPow n)) ∧ w = w' := by
  by_cases h : 0 < n
  · obtain ⟨x, rfl⟩ : ∃ x : Nat, n = (x : Int) := ⟨n.toNat, by omega⟩
    have hx : x < 9223372036854775808 := by omega
    have hp := Pop.isPow_pop x hx
    have ho := fun W => ones_any x W hx
    generalize Pop.pop 64 x = r at *
    have Hp := Lib.hid hp
    have Ho := Lib.hid ho
    clear hp ho
    have hd : decide ((0 : Int) < (x : Int)) = true := by simp; omega
    go_enter Tryd.func58, Tryd.ntmps58
    go_wp2_with (go_at_call 71; (with_reducible refine (Ho.out _).mono ?_); rintro e w1 ⟨rfl, rfl⟩)
    go_ret
    exact ⟨ret_bool (by rw [Bool.eq_iff_iff, ← Hp.out]; simp; try omega), rfl⟩
  · have hp : isPow n = false := by
      cases hh : isPow n with
      | false => rfl
      | true =>
        obtain ⟨k, _, rfl⟩ := (isPow_iff n).1 hh
        have := Nat.two_pow_pos k
        omega
    have Hp := Lib.hid hp
    clear hp
    have hd : decide ((0 : Int) < n) = false := by simp; omega
    go_enter Tryd.func58, Tryd.ntmps58
    go_wp2
    go_ret
    exact ⟨ret_bool (Hp.out).symm, rfl⟩
end Go.Proofs.YtbgieephehfgpabDoor
/-
  What the program's and the reference's Place return: the first four bytes of the key's digest, modulo the width. Conditions: the key is short, the width is from 1 to 4096, the row is one of four, the tables are as their texts lay them.
-/
namespace Go.Proofs.YtbgieephehfgpabDoor
open Go Go.RowKit Sha
namespace Sk
/-- the number of the first k bytes -/
def pre (d : List UInt8) : Nat → Nat
  | 0 => 0
  | k + 1 => pre d k * 256 + (d[k]?.getD 0).toNat
theorem pre4 (d : List UInt8) : pre d 4 = four d := by simp [pre, four]
theorem pre_lt (d : List UInt8) (k : Nat) : pre d k < 256 ^ k := by
  induction k with
  | zero => simp [pre]
  | succ k ih =>
    have := (d[k]?.getD 0).toNat_lt
    rw [pre, Nat.pow_succ]
    omega
theorem or_byte (n b : Nat) (hn : n < 16777216) (hb : b < 256) : bits .or .i64 ((n : Int) * 256) (b : Int) = ((n * 256 + b : Nat) : Int) := by
  have e1 : (BitVec.ofInt 64 ((n : Int) * 256)) = BitVec.ofNat 64 (n * 256) := by
    rw [show (n : Int) * 256 = ((n * 256 : Nat) : Int) by omega, BitVec.ofInt_natCast]
  have e2 : (BitVec.ofInt 64 (b : Int)) = BitVec.ofNat 64 b := BitVec.ofInt_natCast ..
  show IntKind.i64.wrap ((BitVec.ofInt 64 ((n : Int) * 256) ||| BitVec.ofInt 64 (b : Int)).toNat : Nat) = _
  rw [e1, e2, BitVec.toNat_or, BitVec.toNat_ofNat, BitVec.toNat_ofNat, Nat.mod_eq_of_lt (by omega), Nat.mod_eq_of_lt (by omega)]
  have h : n * 256 ||| b = n * 256 + b := by
    rw [show n * 256 = 2 ^ 8 * n by omega]
    exact (Nat.two_pow_add_eq_or_of_lt (by omega) n).symm
  rw [h, IntWalk.i64_in _ (by omega)]
end Sk
set_option maxRecDepth 100000 in
set_option maxHeartbeats 2000000 in
theorem place_any (key : List UInt8) (row width : Nat) (w : World) (hk : key.length ≤ 10000) (hrow : row < 4) (hw1 : 0 < width) (hw2 : width ≤ 4096) (hT : TabC w) :
    Calls Tryd.prog 36 #[.string ⟨key.toArray⟩, .int .i64 (row : Int), .int .i64 (width : Int)] w fun e w' => e = .returned (.int .i64 (Sk.plN key row width : Int)) ∧ Below w.heap.size w w' := by
  have hof := fun (W : World) (v : Value) (h1 : Rd mkS W v [key]) (h2 : TabC W) => of_any (80 + row) v [key] W h1 (by simp) (by simpa using hk) h2
  have hlen : ((sha (ofIn (80 + row) [key])).take 16).length = 16 := by simp [sha_len]
  have hres : Sk.plN key row width = Sk.four ((sha (ofIn (80 + row) [key])).take 16) % width := rfl
  rw [hres]
  generalize (sha (ofIn (80 + row) [key])).take 16 = dd at *
  obtain ⟨D, hD⟩ : ∃ D : Array Value, D = (dd.map mkB).toArray := ⟨_, rfl⟩
  have hDs : D.size = 16 := by rw [hD]; simp [hlen]
  have hD1 : D.all (·.oneCell') = true := by rw [hD]; exact one_cells _
  have hDi : Hid ((Tryd.prog.info? 26).map (·.size) = some D.size) := Lib.hid (by rw [hDs]; kernel_rfl)
  have hD' : bytesV dd = .agg D := by rw [hD]; rfl
  rw [hD'] at hof
  have hDc : ∀ (k : Nat), k < 16 → D[k]? = some (.int .u8 ((dd[k]?.getD 0).toNat : Int)) := by
    intro k hk
    rw [hD, List.getElem?_toArray, List.getElem?_map, List.getElem?_eq_getElem (by omega)]
    rfl
  have Hof := Lib.hid hof
  have HDc := Lib.hid hDc
  clear hof hD hD' hDc hres
  go_enter Tryd.func36, Tryd.ntmps36
  go_wp2_with (first
    | (go_at_call 13; (with_reducible refine (Hof.out _ _ (rd_lit mkS w #[.string ⟨key.toArray⟩] 9 (0, 0) [key] 1 rfl rfl) (hT.alloc _)).mono ?_); rintro e w1 ⟨rfl, hw1⟩; rw [World.size_alloc] at hw1; have hB1 : Below w.heap.size w w1 := (below_alloc1 w _).trans (hw1.mono (by omega)); clear hw1)
    | (with_reducible refine wpList_store_row rfl 26 (.tmp 8) (.tmp 15) rfl w1.heap.size D rfl rfl 26 _ (blk_new w1 _ _) hDi.out (Eq.trans (by kernel_rfl : _ = 16) hDs.symm) hD1 ?_; rw [World.setRow_alloc_new]; simp only [Act.put]; have hd2 := blk_new w1 D 26; have hB2 := hB1.alloc hB1.size (.cells D 26); generalize w1.alloc (.cells D 26) = w2 at *))
  generalize w1.heap.size = N at *
  go_loopw [7, 18] (fun n i wr => ∃ k : Nat, k ≤ 4 ∧ i = .int .i64 (k : Int) ∧ n = .int .i64 (Sk.pre dd k : Int) ∧ w2 = wr) (fun _ i _ => 4 - (intOf i).toNat)
  case atStart => exact ⟨0, by omega, rfl, rfl, rfl⟩
  case round =>
    obtain ⟨k, hk4, rfl, rfl, rfl⟩ := hrel
    by_cases h4 : k < 4
    · have hcx : w2.cell? ⟨N, k, none⟩ = some (.int .u8 ((dd[k]?.getD 0).toNat : Int)) := (blk_cell hd2 k).trans (HDc.out k (by omega))
      have hpl : Sk.pre dd k < 16777216 := Nat.lt_of_lt_of_le (Sk.pre_lt dd k) (Nat.pow_le_pow_right (show 0 < 256 by omega) (show k ≤ 3 by omega))
      have hor := Sk.or_byte (Sk.pre dd k) (dd[k]?.getD 0).toNat hpl (dd[k]?.getD 0).toNat_lt
      have hpl2 : Sk.pre dd (k + 1) = Sk.pre dd k * 256 + (dd[k]?.getD 0).toNat := rfl
      rw [← hpl2] at hor
      have hbb := byte_bd (dd[k]?.getD 0)
      generalize hp' : Sk.pre dd (k + 1) = p' at *
      have Hp := Lib.hid hp'
      clear hp'
      generalize Sk.pre dd k = p at *
      generalize ((dd[k]?.getD 0).toNat : Int) = bb at *
      obtain ⟨hb0, hb1⟩ := hbb
      clear hpl2
      go_wp2
      go_roundw
      case rel => exact ⟨k + 1, by omega, by go_num, by rw [Hp.out], trivial⟩
      case measure => simp [intOf]; omega
    · obtain rfl : k = 4 := by omega
      rw [Sk.pre4]
      have hpm : 0 ≤ (Sk.four dd : Int) := by omega
      generalize hp' : Sk.four dd = p at *
      have Hp := Lib.hid hp'
      clear hp'
      go_wp2
      go_ret
      exact ⟨ret_int (by rw [Hp.out]; omega), hB2⟩
set_option maxRecDepth 100000 in
set_option maxHeartbeats 2000000 in
theorem rplace_any (key : List UInt8) (row width : Nat) (w : World) (hk : key.length ≤ 10000) (hrow : row < 4) (hw1 : 0 < width) (hw2 : width ≤ 4096) (hT : TabR w) :
    Calls Tryd.prog 37 #[.string ⟨key.toArray⟩, .int .i64 (row : Int), .int .i64 (width : Int)] w fun e w' => e = .returned (.int .i64 (Sk.plN key row width : Int)) ∧ Below w.heap.size w w' := by
  have hof := fun (W : World) (v : Value) (h1 : Rd mkS W v [key]) (h2 : TabR W) => rof_any (80 + row) v [key] W h1 (by simp) (by simpa using hk) h2
  have hlen : ((sha (ofIn (80 + row) [key])).take 16).length = 16 := by simp [sha_len]
  have hres : Sk.plN key row width = Sk.four ((sha (ofIn (80 + row) [key])).take 16) % width := rfl
  rw [hres]
  generalize (sha (ofIn (80 + row) [key])).take 16 = dd at *
  obtain ⟨D, hD⟩ : ∃ D : Array Value, D = (dd.map mkB).toArray := ⟨_, rfl⟩
  have hDs : D.size = 16 := by rw [hD]; simp [hlen]
  have hD1 : D.all (·.oneCell') = true := by rw [hD]; exact one_cells _
  have hDi : Hid ((Tryd.prog.info? 26).map (·.size) = some D.size) := Lib.hid (by rw [hDs]; kernel_rfl)
  have hD' : bytesV dd = .agg D := by rw [hD]; rfl
  rw [hD'] at hof
  have hDc : ∀ (k : Nat), k < 16 → D[k]? = some (.int .u8 ((dd[k]?.getD 0).toNat : Int)) := by
    intro k hk
    rw [hD, List.getElem?_toArray, List.getElem?_map, List.getElem?_eq_getElem (by omega)]
    rfl
  have hx : Sk.four dd = (dd[0]?.getD 0).toNat * 16777216 + (dd[1]?.getD 0).toNat * 65536 + (dd[2]?.getD 0).toNat * 256 + (dd[3]?.getD 0).toNat := by unfold Sk.four; omega
  have d0 := hDc 0 (by omega)
  have d1 := hDc 1 (by omega)
  have d2 := hDc 2 (by omega)
  have d3 := hDc 3 (by omega)
  have v0 := (dd[0]?.getD 0).toNat_lt
  have v1 := (dd[1]?.getD 0).toNat_lt
  have v2 := (dd[2]?.getD 0).toNat_lt
  have v3 := (dd[3]?.getD 0).toNat_lt
  generalize (dd[0]?.getD 0).toNat = y0 at *
  generalize (dd[1]?.getD 0).toNat = y1 at *
  generalize (dd[2]?.getD 0).toNat = y2 at *
  generalize (dd[3]?.getD 0).toNat = y3 at *
  have Hof := Lib.hid hof
  have Hx := Lib.hid hx
  have D0 := Lib.hid d0
  have D1 := Lib.hid d1
  have D2 := Lib.hid d2
  have D3 := Lib.hid d3
  clear hof hD hD' hDc hres hx hlen d0 d1 d2 d3
  go_enter Tryd.func37, Tryd.ntmps37
  go_wp2_with (first
    | (go_at_call 14; (with_reducible refine (Hof.out _ _ (rd_lit mkS w #[.string ⟨key.toArray⟩] 9 (0, 0) [key] 1 rfl rfl) (hT.below (below_alloc1 _ _))).mono ?_); rintro e w1 ⟨rfl, hw1⟩; rw [World.size_alloc] at hw1; have hB1 : Below w.heap.size w w1 := (below_alloc1 w _).trans (hw1.mono (by omega)); clear hw1)
    | (with_reducible refine wpList_store_row rfl 26 (.tmp 7) (.tmp 13) rfl w1.heap.size D rfl rfl 26 _ (blk_new w1 _ _) hDi.out (Eq.trans (by kernel_rfl : _ = 16) hDs.symm) hD1 ?_; rw [World.setRow_alloc_new]; simp only [Act.put]; have hd2 := blk_new w1 D 26; have hB2 := hB1.alloc hB1.size (.cells D 26); generalize w1.alloc (.cells D 26) = w2 at *; generalize w1.heap.size = N at *; have c0 := (blk_cell hd2 0).trans D0.out; have c1 := (blk_cell hd2 1).trans D1.out; have c2 := (blk_cell hd2 2).trans D2.out; have c3 := (blk_cell hd2 3).trans D3.out; clear hd2))
  go_ret
  exact ⟨ret_int (by rw [Hx.out, Int.natCast_emod]; congr 1), hB2⟩
end Go.Proofs.YtbgieephehfgpabDoor
/-
  What the program's of returns: the four cells of a key. Conditions: the key is short, the width is from 1 to 4096, the tables are as their texts lay them.
-/
namespace Go.Proofs.YtbgieephehfgpabDoor
open Go Go.RowKit Sha
/-- the first m of four places, the rest still zero -/
def plA (l : List Nat) : Array Value := (l.map (fun (i : Nat) => Value.int .i64 (i : Int)) ++ List.replicate (4 - l.length) (Value.int .i64 0)).toArray
theorem plA_size (l : List Nat) (h : l.length ≤ 4) : (plA l).size = 4 := by simp [plA]; omega
theorem plA_set (l : List Nat) (x : Nat) (h : l.length < 4) : (plA l).setIfInBounds l.length (.int .i64 (x : Int)) = plA (l ++ [x]) := by
  unfold plA
  obtain ⟨m, hm⟩ : ∃ m, 4 - l.length = m + 1 := ⟨3 - l.length, by omega⟩
  have hm2 : 4 - (l ++ [x]).length = m := by simp; omega
  rw [List.setIfInBounds_toArray, List.set_append_right _ _ (by simp), hm, hm2, List.replicate_succ]
  simp
theorem plA_one (l : List Nat) : (plA l).all (·.oneCell') = true := by
  unfold plA
  rw [List.all_toArray, List.all_eq_true]
  intro v hv
  rcases List.mem_append.1 hv with h | h
  · obtain ⟨i, _, rfl⟩ := List.mem_map.1 h; rfl
  · rw [(List.mem_replicate.1 h).2]; rfl
theorem places_len (key : List UInt8) (w m : Nat) : (Sk.places key w m).length = m := by simp [Sk.places]
set_option maxRecDepth 100000 in
set_option maxHeartbeats 2000000 in
theorem of_places (key : List UInt8) (n : Nat) (s a : Int) (x : Option Addr) (m cap : Nat) (w : World) (hk : key.length ≤ 10000) (hn1 : 0 < n) (hn2 : n ≤ 4096) (hT : TabC w) :
    Calls Tryd.prog 54 #[.agg #[.int .i64 (n : Int), .int .i64 s, .int .i64 a, .slice x m cap], .string ⟨key.toArray⟩] w fun e w' => e = .returned (.agg (plA (Sk.places key n 4))) ∧ Below w.heap.size w w' := by
  have hpl := fun (row : Nat) (W : World) (hr : row < 4) (h : TabC W) => place_any key row n W hk hr hn1 hn2 h
  have hlt := fun row => Sk.plN_lt key row n hn1
  go_enter Tryd.func54, Tryd.ntmps54
  go_wp2
  have hs0 : Blk ((w.alloc (.cells #[.int .i64 (n : Int), .int .i64 s, .int .i64 a, .slice x m cap] 38)).alloc (.cells #[.int .i64 0, .int .i64 0, .int .i64 0, .int .i64 0] 88)) w.heap.size #[.int .i64 (n : Int), .int .i64 s, .int .i64 a, .slice x m cap] 38 := blk_alloc (blk_new w _ _) _
  have ho0 : Blk ((w.alloc (.cells #[.int .i64 (n : Int), .int .i64 s, .int .i64 a, .slice x m cap] 38)).alloc (.cells #[.int .i64 0, .int .i64 0, .int .i64 0, .int .i64 0] 88)) (w.heap.size + 1) (plA (Sk.places key n 0)) 88 := blk_new2 w _ _ _
  have hB0 : Below w.heap.size w ((w.alloc (.cells #[.int .i64 (n : Int), .int .i64 s, .int .i64 a, .slice x m cap] 38)).alloc (.cells #[.int .i64 0, .int .i64 0, .int .i64 0, .int .i64 0] 88)) := ((Below.refl _ _).alloc (Nat.le_refl _) _).alloc (by simp) _
  go_loopw [6] (fun i wr => ∃ k : Nat, k ≤ 4 ∧ i = .int .i64 (k : Int) ∧ Blk wr (w.heap.size + 1) (plA (Sk.places key n k)) 88 ∧ Blk wr w.heap.size #[.int .i64 (n : Int), .int .i64 s, .int .i64 a, .slice x m cap] 38 ∧ Below w.heap.size w wr) (fun i _ => 4 - (intOf i).toNat)
  case atStart => exact ⟨0, by omega, rfl, ho0, hs0, hB0⟩
  case round =>
    clear ho0 hs0 hB0
    obtain ⟨k, hk4, rfl, ho, hs, hB⟩ := hrel
    by_cases h4 : k < 4
    · have hp1 := hpl k
      have hpk := hlt k
      have hps := Sk.places_succ key n k
      have hset := plA_set (Sk.places key n k) (k * n + Sk.plN key k n) (by rw [places_len]; exact h4)
      rw [places_len, ← hps] at hset
      have hsz : (plA (Sk.places key n k)).size = 4 := plA_size _ (by rw [places_len]; omega)
      have hlk : k < (plA (Sk.places key n k)).size := by omega
      generalize Sk.plN key k n = p at *
      have hkn : k * n ≤ 3 * n := Nat.mul_le_mul_right n (by omega)
      have hmul : (k : Int) * (n : Int) = ((k * n : Nat) : Int) := by simp
      generalize k * n = z at *
      have Hmul := Lib.hid hmul
      have Hset := Lib.hid hset
      have Hp1 := Lib.hid hp1
      clear hpl hlt hps hset hp1 hsz hmul
      have hcs : wr.cell? ⟨w.heap.size, 0, none⟩ = some (.int .i64 (n : Int)) := blk_cell hs 0
      have hTw := hT.below hB
      go_wp2
      have hmul2 : IntKind.i64.wrap ((k : Int) * (n : Int)) = (z : Int) := by rw [Hmul.out, IntWalk.i64_in _ (by omega)]
      have hadd : IntKind.i64.wrap ((z : Int) + (p : Int)) = ((z + p : Nat) : Int) := by rw [IntWalk.i64_in _ (by omega)]; omega
      go_region_held3 (fun W => W.cell? ⟨w.heap.size, 0, none⟩ = some (.int .i64 (n : Int))) (first | exact hcs | (exact (blk_cell (blk_kept (w := wr.drew) hs (by assumption)) 0)) | (exact (blk_cell (blk_far hs1 (p := ⟨w.heap.size + 1, k, none⟩) (by show w.heap.size ≠ w.heap.size + 1; omega) _) 0)))
        (first | (go_at_call 36; ((with_reducible refine (Hp1.out _ h4 hTw.drew).mono ?_); rintro e w1 ⟨rfl, hw1⟩; have ho1 := blk_kept (w := wr.drew) ho hw1; have hs1 := blk_kept (w := wr.drew) hs hw1; have hB1 := hB.drew.trans (hw1.mono hB.size); have hco : w1.cell? ⟨w.heap.size + 1, k, none⟩ = some ((plA (Sk.places key n k))[k]'hlk) := (blk_cell ho1 k).trans (Array.getElem?_eq_getElem hlk); have hfo : w1.frozen? ⟨w.heap.size + 1, k, none⟩ = false := blk_free ho1 k)))
      have Ho2 := Lib.hid (blk_set ho1 k (.int .i64 ((z + p : Nat) : Int)))
      rw [Hset.out] at Ho2
      have Hs2 := Lib.hid (blk_far hs1 (p := ⟨w.heap.size + 1, k, none⟩) (by show w.heap.size ≠ w.heap.size + 1; omega) (.int .i64 ((z + p : Nat) : Int)))
      have HB2 := Lib.hid (Below.setCell hB1 (p := ⟨w.heap.size + 1, k, none⟩) (by show w.heap.size ≤ w.heap.size + 1; omega) (.int .i64 ((z + p : Nat) : Int)))
      clear ho1 hs1 hB1 hco hfo hw1 ho hs hB hcs
      go_wp2
      go_roundw
      case rel => exact ⟨k + 1, by omega, by go_num, Ho2.out, Hs2.out, HB2.out⟩
      case measure => simp [intOf]; omega
    · obtain rfl : k = 4 := by omega
      obtain ⟨E, hE⟩ : ∃ E, E = plA (Sk.places key n 4) := ⟨_, rfl⟩
      have hEs : E.size = 4 := by rw [hE]; exact plA_size _ (by rw [places_len]; omega)
      have hE1 : E.all (·.oneCell') = true := by rw [hE]; exact plA_one _
      have hEi : Hid ((Tryd.prog.info? 88).map (·.size) = some E.size) := Lib.hid (by rw [hEs]; kernel_rfl)
      rw [← hE] at ho
      have HE := Lib.hid hE
      clear hE hpl hlt
      go_wp2_with (first
        | (with_reducible refine wpList_load_row rfl 88 (.tmp 4) rfl (w.heap.size + 1) rfl 88 _ _ _ ho Tryd.underlying88 rfl hEi.out ?_)
        | (with_reducible refine wpList_store_row rfl 88 (.tmp 4) (.tmp 22) rfl (w.heap.size + 1) E rfl rfl 88 _ ho hEi.out rfl hE1 ?_))
      exact bodyPost_ret (v := .agg E) (results_cell_row Tryd.results54 _ _ (w.heap.size + 1) 88 _ _ _ rfl (blk_setRow ho _) Tryd.underlying88 rfl hEi.out) rfl ⟨by rw [HE.out], below_setRow hB (by omega) _⟩
end Go.Proofs.YtbgieephehfgpabDoor
/-
  The program's iterator over the cells of a key: what a round of the loop over it may count on, and that all four cells come, in order. Conditions: the places lie in the list.
-/
namespace Go.Proofs.YtbgieephehfgpabDoor
open Go Go.RowKit Go.Shelf
attribute [local go_sem] Oper.semAt_some
/-- what a round leaves of the iterator's two boxes -/
def KeepBox (bl bp : Nat) (W W' : World) : Prop := W'.heap[bl]? = W.heap[bl]? ∧ W'.heap[bp]? = W.heap[bp]?
theorem KeepBox.refl (bl bp : Nat) (W : World) : KeepBox bl bp W W := ⟨rfl, rfl⟩
theorem KeepBox.trans {bl bp : Nat} {A B C : World} (h : KeepBox bl bp A B) (k : KeepBox bl bp B C) : KeepBox bl bp A C := ⟨k.1.trans h.1, k.2.trans h.2⟩
theorem heap_putObj_far (W : World) (l : Nat) (o : Obj) (b : Nat) (h : b ≠ l) : (W.putObj l o).heap[b]? = W.heap[b]? := by
  simp only [World.putObj, Array.getElem?_setIfInBounds]
  rw [if_neg (by omega)]
theorem KeepBox.put {bl bp : Nat} {w : World} (h1 : bl < w.heap.size) (h2 : bp < w.heap.size) (W : World) (l : Nat) (o o' : Obj) (hl : w.heap.size ≤ l) (_ : W.heap[l]? = some o) (_ : o.isCells = false) (_ : o.isWalk = false) : KeepBox bl bp W (W.putObj l o') :=
  ⟨heap_putObj_far W l o' bl (by omega), heap_putObj_far W l o' bp (by omega)⟩
theorem KeepBox.set {bl bp : Nat} (W : World) (p : Addr) (v : Value) (h1 : bl ≠ p.block) (h2 : bp ≠ p.block) : KeepBox bl bp W (W.setCell p v) :=
  ⟨Below.heap_setCell _ _ _ _ h1, Below.heap_setCell _ _ _ _ h2⟩
set_option maxRecDepth 100000 in
set_option maxHeartbeats 1000000 in
/-- each boxes its two arguments -/
theorem each_any (x : Option Addr) (len cap : Nat) (p0 p1 p2 p3 : Int) (w : World) :
    Calls Tryd.prog 57 #[.slice x len cap, .agg #[.int .i64 p0, .int .i64 p1, .int .i64 p2, .int .i64 p3]] w fun e w' =>
      e = .returned (.func (.func 70) #[] #[.pointer (some ⟨w.heap.size + 1, 0, none⟩), .pointer (some ⟨w.heap.size, 0, none⟩)]) ∧ w' = (w.alloc (.cells #[.slice x len cap] 36)).alloc (.cells #[.int .i64 p0, .int .i64 p1, .int .i64 p2, .int .i64 p3] 88) := by
  go_enter Tryd.func57, Tryd.ntmps57
  go_wp2
  go_ret
  exact ⟨rfl, rfl⟩
set_option maxRecDepth 100000 in
set_option maxHeartbeats 2000000 in
theorem each1_in (F : Fence) (n : Nat) (hF : F.fn 70) (hro : F.round = none) (hn : 1 ≤ n) (l bl bp g off len cap : Nat) (ps : List (Fin len)) (h4 : ps.length = 4) (J Jx : List (Fin len) → World → Prop)
    (hY : ∀ pre x W, J pre W → pre.length < 4 → YieldAt F (n - 1) Tryd.prog l #[.pointer (some ⟨g, off + x.1, none⟩)] W fun e W' =>
      (e = .returned (.bool true) ∧ J (pre ++ [x]) W' ∧ KeepBox bl bp W W') ∨ (e = .returned (.bool false) ∧ Jx (pre ++ [x]) W'))
    (W : World) (hbl : W.heap[bl]? = some (.cells #[.slice (some ⟨g, off, none⟩) len cap] 36)) (p0 p1 p2 p3 : Fin len) (hps : ps = [p0, p1, p2, p3]) (hbp : W.heap[bp]? = some (.cells #[.int .i64 (p0.1 : Int), .int .i64 (p1.1 : Int), .int .i64 (p2.1 : Int), .int .i64 (p3.1 : Int)] 88)) (h0 : J [] W) :
    CallsIn F n Tryd.prog 70 #[.func (.yield l) #[] #[], .pointer (some ⟨bp, 0, none⟩), .pointer (some ⟨bl, 0, none⟩)] W fun e W' => (∃ v, e = .returned v) ∧
      ((∃ ys, ys = ps ∧ J ys W') ∨ (∃ pre, pre <+: ps ∧ Jx pre W')) := by
  have hx : ∀ (k : Nat) (i : Fin len) (W : World), ps[k]? = some i → (Instr.index 88 (.agg #[.int .i64 (p0.1 : Int), .int .i64 (p1.1 : Int), .int .i64 (p2.1 : Int), .int .i64 (p3.1 : Int)]) (.int .i64 (k : Int))).run Tryd.prog W = .ok (.int .i64 (i.1 : Int)) W := by
    intro k i W hk
    have hk4 := (List.getElem?_eq_some_iff.1 hk).1
    refine run_index_arr W 88 3 4 _ .i64 k _ _ Tryd.underlying88 (by omega) Tryd.underlying3 rfl (by kernel_rfl) ?_
    subst hps
    match k, hk4, hk with
    | 0, _, hk => cases hk; rfl
    | 1, _, hk => cases hk; rfl
    | 2, _, hk => cases hk; rfl
    | 3, _, hk => cases hk; rfl
  have q0 := blk_cell hbp 0
  have q1 := blk_cell hbp 1
  have q2 := blk_cell hbp 2
  have q3 := blk_cell hbp 3
  have ql := blk_cell hbl 0
  simp only [List.getElem?_toArray, List.getElem?_cons_zero, List.getElem?_cons_succ] at q0 q1 q2 q3 ql
  have Hx := Lib.hid hx
  have Hps := Lib.hid hps
  have H4 := Lib.hid h4
  have Hbl := Lib.hid hbl
  clear hx hps h4 hbl hbp
  refine callsIn_of_wp Tryd.func70 rfl hF ?_ hro
  simp only [Tryd.ntmps70, List.size_toArray, List.length_cons, List.length_nil, Nat.reduceAdd, Nat.reduceSub, Array.replicate_succ, Array.replicate_zero, List.push_toArray, List.append_toArray, List.nil_append, List.cons_append]
  gi_wp2
  gi_loopw [7] (fun i wr => ∃ k : Nat, k ≤ 4 ∧ i = .int .i64 (k : Int) ∧ J (ps.take k) wr ∧ KeepBox bl bp W wr) (fun i _ => 4 - (intOf i).toNat)
  case atStart => exact ⟨0, Nat.zero_le _, rfl, h0, KeepBox.refl _ _ _⟩
  case round =>
    obtain ⟨k, hk, rfl, hJs, hkp⟩ := hrel
    by_cases hlt4 : k < 4
    · obtain ⟨i, hi⟩ : ∃ i, ps[k]? = some i := ⟨_, List.getElem?_eq_getElem (by rw [H4.out]; exact hlt4)⟩
      have hil : i.1 < len := i.2
      have hsn : ps.take (k + 1) = ps.take k ++ [i] := by rw [List.take_add_one, hi]; rfl
      obtain ⟨fn, tmps, assign, body, hy, hR⟩ := hY _ i wr hJs (by rw [List.length_take, H4.out]; omega)
      have Hi := Lib.hid hi
      have hidx := fun W => Hx.out k i W Hi.out
      rw [← hsn] at hR
      have hql : wr.cell? ⟨bl, 0, none⟩ = some (.slice (some ⟨g, off, none⟩) len cap) := blk_cell (hkp.1.trans Hbl.out) 0
      have Hpre := Lib.hid (List.take_prefix (k + 1) ps)
      clear hsn hi Hi
      obtain ⟨i, hi2⟩ := i
      dsimp only at hy hidx hil
      gi_wp2
      refine hR.mono ?_
      rintro e W3 (⟨rfl, hJ3, hk3⟩ | ⟨rfl, hJx3⟩)
      · gi_wp2
        go_roundw
        case rel => exact ⟨k + 1, by omega, by go_num, hJ3, hkp.trans hk3⟩
        case measure => simp [intOf]; omega
      · gi_wp2
        refine bodyPost_ret (results_none rfl _ _ _) rfl ?_
        exact ⟨⟨_, rfl⟩, .inr ⟨_, Hpre.out, hJx3⟩⟩
    · obtain rfl : k = 4 := by omega
      rw [List.take_of_length_le (by rw [H4.out]; omega)] at hJs
      gi_wp2
      go_end0
      exact ⟨⟨_, rfl⟩, .inl ⟨_, rfl, hJs⟩⟩
/-- each's value hands out the four cells, in order -/
theorem each_stops (F : Fence) (n : Nat) (hF : F.fn 70) (hro : F.round = none) (hn : 1 ≤ n) (bl bp g off len cap : Nat) (p0 p1 p2 p3 : Fin len) (w : World)
    (hbl : w.heap[bl]? = some (.cells #[.slice (some ⟨g, off, none⟩) len cap] 36)) (hbp : w.heap[bp]? = some (.cells #[.int .i64 (p0.1 : Int), .int .i64 (p1.1 : Int), .int .i64 (p2.1 : Int), .int .i64 (p3.1 : Int)] 88)) :
    SeqStopsK F n Tryd.prog 70 #[.pointer (some ⟨bp, 0, none⟩), .pointer (some ⟨bl, 0, none⟩)] (fun x : Fin len => #[Value.pointer (some ⟨g, off + x.1, none⟩)]) (KeepBox bl bp) (fun ys => ys = [p0, p1, p2, p3]) (fun pre => pre <+: [p0, p1, p2, p3]) 4 w := fun l J Jx W hW _ _ hY h0 =>
  each1_in F n hF hro hn l bl bp g off len cap [p0, p1, p2, p3] rfl J Jx hY W (blk_kept hbl hW) p0 p1 p2 p3 rfl (blk_kept hbp hW) h0
end Go.Proofs.YtbgieephehfgpabDoor
/-
  What the program's least and Count return: the least of the cells of a key. Conditions: the places lie in the list; for Count: the sketch is valid, the key is short, the tables are as their texts lay them.
-/
namespace Go.Proofs.YtbgieephehfgpabDoor
open Go Go.RowKit Go.Shelf
attribute [local go_sem] Oper.semAt_some
set_option maxRecDepth 100000 in
set_option maxHeartbeats 2000000 in
theorem least_any (g off len cap : Nat) (c : List Int) (hl : c.length = len) (p0 p1 p2 p3 : Fin len) (w : World) (hg : g < w.heap.size) (hc : ∀ i x, c[i]? = some x → w.cell? ⟨g, off + i, none⟩ = some (mkI x)) :
    Calls Tryd.prog 56 #[.slice (some ⟨g, off, none⟩) len cap, .agg #[.int .i64 (p0.1 : Int), .int .i64 (p1.1 : Int), .int .i64 (p2.1 : Int), .int .i64 (p3.1 : Int)]] w fun e w' => e = .returned (.int .i64 (Sk.cnt c [p0.1, p1.1, p2.1, p3.1])) ∧ Below w.heap.size w w' := by
  refine (callsIn_wide (n := 5)).1 ?_
  refine callsIn_of_wp_marks Tryd.func56 rfl trivial ?_ rfl
  simp only [Tryd.ntmps56, List.size_toArray, List.length_cons, List.length_nil, Nat.reduceAdd, Nat.reduceSub, Array.replicate_succ, Array.replicate_zero, List.push_toArray, List.append_toArray, List.nil_append, List.cons_append]
  refine wpIn_wide.2 ?_
  go_wp2_with (go_at_call 57; (with_reducible refine (each_any _ _ _ _ _ _ _ _).mono ?_); rintro e w' ⟨rfl, rfl⟩)
  have hp3 : Blk ((((w.alloc (.cells #[.int .i64 (p0.1 : Int), .int .i64 (p1.1 : Int), .int .i64 (p2.1 : Int), .int .i64 (p3.1 : Int)] 88)).alloc (.cells #[.int .i64 15] 3)).alloc (.cells #[.slice (some ⟨g, off, none⟩) len cap] 36)).alloc (.cells #[.int .i64 (p0.1 : Int), .int .i64 (p1.1 : Int), .int .i64 (p2.1 : Int), .int .i64 (p3.1 : Int)] 88)) (w.heap.size + 1 + 1 + 1) #[.int .i64 (p0.1 : Int), .int .i64 (p1.1 : Int), .int .i64 (p2.1 : Int), .int .i64 (p3.1 : Int)] 88 := heap_alloc_at _ _ _ (by simp)
  have hl2 : Blk ((((w.alloc (.cells #[.int .i64 (p0.1 : Int), .int .i64 (p1.1 : Int), .int .i64 (p2.1 : Int), .int .i64 (p3.1 : Int)] 88)).alloc (.cells #[.int .i64 15] 3)).alloc (.cells #[.slice (some ⟨g, off, none⟩) len cap] 36)).alloc (.cells #[.int .i64 (p0.1 : Int), .int .i64 (p1.1 : Int), .int .i64 (p2.1 : Int), .int .i64 (p3.1 : Int)] 88)) (w.heap.size + 1 + 1) #[.slice (some ⟨g, off, none⟩) len cap] 36 := blk_alloc (heap_alloc_at _ _ _ (by simp)) _
  have hn1 : Blk ((((w.alloc (.cells #[.int .i64 (p0.1 : Int), .int .i64 (p1.1 : Int), .int .i64 (p2.1 : Int), .int .i64 (p3.1 : Int)] 88)).alloc (.cells #[.int .i64 15] 3)).alloc (.cells #[.slice (some ⟨g, off, none⟩) len cap] 36)).alloc (.cells #[.int .i64 (p0.1 : Int), .int .i64 (p1.1 : Int), .int .i64 (p2.1 : Int), .int .i64 (p3.1 : Int)] 88)) (w.heap.size + 1) #[.int .i64 15] 3 := blk_alloc (blk_alloc (heap_alloc_at _ _ _ (by simp)) _) _
  have hB0 : Below w.heap.size w ((((w.alloc (.cells #[.int .i64 (p0.1 : Int), .int .i64 (p1.1 : Int), .int .i64 (p2.1 : Int), .int .i64 (p3.1 : Int)] 88)).alloc (.cells #[.int .i64 15] 3)).alloc (.cells #[.slice (some ⟨g, off, none⟩) len cap] 36)).alloc (.cells #[.int .i64 (p0.1 : Int), .int .i64 (p1.1 : Int), .int .i64 (p2.1 : Int), .int .i64 (p3.1 : Int)] 88)) := below_al (below_al (below_al (below_alloc1 _ _) _) _) _
  have hsz : ((((w.alloc (.cells #[.int .i64 (p0.1 : Int), .int .i64 (p1.1 : Int), .int .i64 (p2.1 : Int), .int .i64 (p3.1 : Int)] 88)).alloc (.cells #[.int .i64 15] 3)).alloc (.cells #[.slice (some ⟨g, off, none⟩) len cap] 36)).alloc (.cells #[.int .i64 (p0.1 : Int), .int .i64 (p1.1 : Int), .int .i64 (p2.1 : Int), .int .i64 (p3.1 : Int)] 88)).heap.size = w.heap.size + 4 := by simp
  generalize ((((w.alloc (.cells #[.int .i64 (p0.1 : Int), .int .i64 (p1.1 : Int), .int .i64 (p2.1 : Int), .int .i64 (p3.1 : Int)] 88)).alloc (.cells #[.int .i64 15] 3)).alloc (.cells #[.slice (some ⟨g, off, none⟩) len cap] 36)).alloc (.cells #[.int .i64 (p0.1 : Int), .int .i64 (p1.1 : Int), .int .i64 (p2.1 : Int), .int .i64 (p3.1 : Int)] 88)) = W0 at *
  have Hc := Lib.hid hc
  have Hl := Lib.hid hl
  have Hsz := Lib.hid hsz
  clear hc hl hsz
  refine wpIn_wide.1 (wpIn_rangeFunc_ownF (n := 5) rfl (by omega) (gf := 70) (lb := #[.pointer (some ⟨w.heap.size + 1 + 1 + 1, 0, none⟩), .pointer (some ⟨w.heap.size + 1 + 1, 0, none⟩)]) rfl trivial (enters_of Tryd.func70 (by kernel_rfl) rfl)
    (each_stops Fence.wide 4 trivial rfl (by omega) (w.heap.size + 1 + 1) (w.heap.size + 1 + 1 + 1) g off len cap p0 p1 p2 p3 W0 hl2 hp3) (fun h k => h.trans k) (KeepBox.put (blk_lt hl2) (blk_lt hp3)) (Below.refl _ _) (fun _ => rfl)
    (fun pre W => (W.cell? ⟨w.heap.size + 1, 0, none⟩ = some (.int .i64 (Sk.cnt c (pre.map (·.1)))) ∧ W.frozen? ⟨w.heap.size + 1, 0, none⟩ = false) ∧ Below w.heap.size w W)
    (fun _ _ _ => False)
    (OwnFrom.and (Own.from (fun s A B row hs hg hr => ⟨cell_kept hs.1 hg hr, (frozen_kept hs.1 hg hr).trans hs.2⟩) _) (ownFrom_below (Nat.le_refl _) (by rw [Hsz.out]; omega)))
    (fun _ _ _ _ _ hs _ _ => hs)
    ⟨⟨blk_cell hn1 0, blk_free hn1 0⟩, hB0⟩
    (fun x => { tmps := #[.slice (some ⟨g, off, none⟩) len cap, .agg #[.int .i64 (p0.1 : Int), .int .i64 (p1.1 : Int), .int .i64 (p2.1 : Int), .int .i64 (p3.1 : Int)], undef, .pointer (some ⟨w.heap.size, 0, none⟩), .int .i64 0, .pointer (some ⟨w.heap.size + 1, 0, none⟩), .pointer (some ⟨g, off + x.1, none⟩), .slice (some ⟨g, off, none⟩) len cap, .agg #[.int .i64 (p0.1 : Int), .int .i64 (p1.1 : Int), .int .i64 (p2.1 : Int), .int .i64 (p3.1 : Int)], .func (.func 70) #[] #[.pointer (some ⟨w.heap.size + 1 + 1 + 1, 0, none⟩), .pointer (some ⟨w.heap.size + 1 + 1, 0, none⟩)], .pointer (some ⟨g, off + x.1, none⟩), undef, undef, undef, undef, undef, undef], defers := [] }) ?assign ?body ?done ?stop)
  case assign =>
    intro l x W K hK
    gi_wp2
    exact hK
  case body =>
    rintro l pre x W ⟨⟨hcn, hfn⟩, hB⟩ _
    have hcx : W.cell? ⟨g, off + x.1, none⟩ = some (.int .i64 (Sk.at' c x.1)) := (hB.cell (p := ⟨g, off + x.1, none⟩) hg).trans (Hc.out x.1 _ (Sk.at_of (by rw [Hl.out]; exact x.2)))
    have hsn := Sk.cnt_snoc c (pre.map (·.1)) x.1
    rw [show pre.map (·.1) ++ [x.1] = (pre ++ [x]).map (·.1) by simp] at hsn
    clear hn1 hl2 hp3 hB0
    obtain ⟨x, hx2⟩ := x
    dsimp only at hcx hsn ⊢
    generalize Sk.at' c x = z at *
    generalize Sk.cnt c (pre.map (·.1)) = r at *
    have Hsn := Lib.hid hsn
    clear hsn
    have hmx : Tryd.prog.follows .mixedOrders = true := by kernel_rfl
    gi_wp2
    gi_region_with_o (fail)
    all_goals gi_wp2
    all_goals
      refine ⟨(KeepsOthers.setCell _ _ _).trans (KeepsOthers.drew _), KeepBox.set W ⟨w.heap.size + 1, 0, none⟩ _ (by show w.heap.size + 1 + 1 ≠ w.heap.size + 1; omega) (by show w.heap.size + 1 + 1 + 1 ≠ w.heap.size + 1; omega), ⟨?_, ?_⟩, (hB.setCell (p := ⟨w.heap.size + 1, 0, none⟩) (by show w.heap.size ≤ w.heap.size + 1; omega) _).drew⟩
      · rw [Hsn.out]
        refine (World.cell?_setCell_same' W _ _ (by rw [hcn]; rfl)).trans ?_
        congr 2
        omega
      · rw [frozen_drew_own, World.frozen?_setCell]; exact hfn
  case done =>
    rintro D ys W hD rfl ⟨⟨hcn, hfn⟩, hB⟩ hK
    go_wp2
    refine ⟨by simp, .inl ⟨_, _, rfl, run_takeDeferred hK, ?_⟩⟩
    exact ⟨_, results_tmp rfl _ _ _, rfl, hB.trans (belowK_b (w := w) (Nat.le_refl _) W D _ _ (by have := hB0.size; omega) hK rfl rfl)⟩
  case stop =>
    rintro D c pre W _ _ h _
    exact h.elim
/-- the number of a key's cell in a row -/
def Sk.q (key : List UInt8) (n r : Nat) : Nat := r * n + Sk.plN key r n
theorem Sk.places_q (key : List UInt8) (n : Nat) : Sk.places key n 4 = [Sk.q key n 0, Sk.q key n 1, Sk.q key n 2, Sk.q key n 3] := rfl
theorem Sk.q_lt (key : List UInt8) (n r : Nat) (hn : 0 < n) (hr : r < 4) : Sk.q key n r < 4 * n := Sk.row_lt r n _ hr (Sk.plN_lt key r n hn)
theorem plA_q (key : List UInt8) (n : Nat) : Value.agg (plA (Sk.places key n 4)) = .agg #[.int .i64 (Sk.q key n 0 : Int), .int .i64 (Sk.q key n 1 : Int), .int .i64 (Sk.q key n 2 : Int), .int .i64 (Sk.q key n 3 : Int)] := rfl
/-- a list of integers that reads, taken apart -/
theorem rd_parts {w : World} {v : Value} {c : List Int} (h : Rd mkI w v c) (h0 : c ≠ []) : ∃ g off cap, v = .slice (some ⟨g, off, none⟩) c.length cap ∧ c.length ≤ cap ∧ g < w.heap.size ∧ ∀ i x, c[i]? = some x → w.cell? ⟨g, off + i, none⟩ = some (.int .i64 x) := by
  obtain ⟨a, cap, rfl, hc, h⟩ := h
  rcases h with h | ⟨b, off, rfl, hb, hcell⟩
  · exact absurd h h0
  · exact ⟨b, off, cap, rfl, hc, hb, hcell⟩
theorem Sk.Ok.ne {k : Sk.K} (h : Sk.Ok k) : k.c ≠ [] := by
  intro h0
  have h1 := h.clen
  have h2 := h.n1
  rw [h0] at h1
  simp at h1
  omega
set_option maxRecDepth 100000 in
set_option maxHeartbeats 2000000 in
theorem count_any (k : Sk.K) (hk : Sk.Ok k) (key : List UInt8) (v : Value) (w : World) (hr : Rd mkI w v k.c) (hkey : key.length ≤ 10000) (hT : TabC w) :
    Calls Tryd.prog 25 #[.agg #[.int .i64 k.w, .int .i64 k.s, .int .i64 k.a, v], .string ⟨key.toArray⟩] w fun e w' => e = .returned (.int .i64 (k.count key)) ∧ Below w.heap.size w w' := by
  obtain ⟨g, off, cap, rfl, _, hg, hc⟩ := rd_parts hr hk.ne
  have hn1 := hk.n1
  have hcl := hk.clen
  have hwn := hk.wn
  have hn2 : k.n ≤ 4096 := by have := hk.wide; omega
  have hcnt : k.count key = Sk.cnt k.c [Sk.q key k.n 0, Sk.q key k.n 1, Sk.q key k.n 2, Sk.q key k.n 3] := rfl
  rw [hcnt, ← hwn]
  generalize k.n = n at *
  have hq0 : Sk.q key n 0 < k.c.length := by rw [hcl]; exact Sk.q_lt key n 0 hn1 (by omega)
  have hq1 : Sk.q key n 1 < k.c.length := by rw [hcl]; exact Sk.q_lt key n 1 hn1 (by omega)
  have hq2 : Sk.q key n 2 < k.c.length := by rw [hcl]; exact Sk.q_lt key n 2 hn1 (by omega)
  have hq3 : Sk.q key n 3 < k.c.length := by rw [hcl]; exact Sk.q_lt key n 3 hn1 (by omega)
  have hof := fun (W : World) (h : TabC W) => of_places key n k.s k.a (some ⟨g, off, none⟩) k.c.length cap W hkey hn1 hn2 h
  simp only [plA_q] at hof
  have hle := fun (W : World) (hb : g < W.heap.size) (h : ∀ i x, k.c[i]? = some x → W.cell? ⟨g, off + i, none⟩ = some (mkI x)) => least_any g off k.c.length cap k.c rfl ⟨_, hq0⟩ ⟨_, hq1⟩ ⟨_, hq2⟩ ⟨_, hq3⟩ W hb h
  dsimp only at hle
  generalize Sk.cnt k.c _ = r at *
  generalize Sk.q key n 0 = q0 at *
  generalize Sk.q key n 1 = q1 at *
  generalize Sk.q key n 2 = q2 at *
  generalize Sk.q key n 3 = q3 at *
  generalize k.c.length = len at *
  generalize k.s = s at *
  generalize k.a = a at *
  have Hof := Lib.hid hof
  have Hle := Lib.hid hle
  have hc2 : ∀ W, Below w.heap.size w W → ∀ i x, k.c[i]? = some x → W.cell? ⟨g, off + i, none⟩ = some (mkI x) := fun W hB i x hi => (hB.cell (p := ⟨g, off + i, none⟩) hg).trans (hc i x hi)
  have Hc := Lib.hid hc2
  clear hc2
  clear hof hle hc hwn hcnt hcl hr hk
  go_enter Tryd.func25, Tryd.ntmps25
  go_wp2
  have hb1 := blk_new w #[.int .i64 (n : Int), .int .i64 s, .int .i64 a, .slice (some ⟨g, off, none⟩) len cap] 38
  have hB1 := below_alloc1 w (.cells #[.int .i64 (n : Int), .int .i64 s, .int .i64 a, .slice (some ⟨g, off, none⟩) len cap] 38)
  generalize w.alloc (.cells #[.int .i64 (n : Int), .int .i64 s, .int .i64 a, .slice (some ⟨g, off, none⟩) len cap] 38) = w1 at *
  have k0 := blk_cell hb1 0
  have k1 := blk_cell hb1 1
  have k2 := blk_cell hb1 2
  have k3 := blk_cell hb1 3
  simp only [List.getElem?_toArray, List.getElem?_cons_zero, List.getElem?_cons_succ] at k0 k1 k2 k3
  go_region_held3 (fun W => W.cell? ⟨w.heap.size, 0, none⟩ = some (.int .i64 (n : Int)) ∧ W.cell? ⟨w.heap.size, 1, none⟩ = some (.int .i64 s) ∧ W.cell? ⟨w.heap.size, 2, none⟩ = some (.int .i64 a) ∧ W.cell? ⟨w.heap.size, 3, none⟩ = some (.slice (some ⟨g, off, none⟩) len cap))
    (first | exact ⟨k0, k1, k2, k3⟩ | exact ⟨blk_cell hb2 0, blk_cell hb2 1, blk_cell hb2 2, blk_cell hb2 3⟩ | exact ⟨blk_cell hb3 0, blk_cell hb3 1, blk_cell hb3 2, blk_cell hb3 3⟩)
    (first
      | (go_at_call 54; ((with_reducible refine (Hof.out w1.drew (hT.below hB1.drew)).mono ?_); rintro e w2 ⟨rfl, hw2⟩; have hb2 := blk_kept (w := w1.drew) hb1 hw2; have hB2 := hB1.drew.trans (hw2.mono hB1.size)))
      | (go_at_call 56; ((with_reducible refine (Hle.out w2 (Nat.lt_of_lt_of_le hg hB2.size) (Hc.out w2 hB2)).mono ?_); rintro e w3 ⟨rfl, hw3⟩; have hb3 := blk_kept hb2 hw3; have hB3 := hB2.trans (hw3.mono hB2.size))))
  go_wp2
  go_ret
  exact ⟨rfl, hB3⟩
end Go.Proofs.YtbgieephehfgpabDoor
/-
  What the program's mapped returns for halving and for merging, and what Halve and Merge return. Conditions: the sketches are valid.
-/
namespace Go.Proofs.YtbgieephehfgpabDoor
open Go Go.RowKit
abbrev OwnI (w : World) (base : Nat) (v : Value) (l : List Int) : Prop := OwnOf mkI 3 w base v l
/-- a list of which the first k elements have been mapped -/
def mapUp (f : Nat → Int → Int) (c : List Int) (k : Nat) : List Int := (c.mapIdx f).take k ++ List.replicate (c.length - k) 0
theorem mapUp_zero (f : Nat → Int → Int) (c : List Int) : mapUp f c 0 = List.replicate c.length 0 := by simp [mapUp]
theorem mapUp_len (f : Nat → Int → Int) (c : List Int) (k : Nat) (h : k ≤ c.length) : (mapUp f c k).length = c.length := by simp [mapUp]; omega
theorem mapUp_all (f : Nat → Int → Int) (c : List Int) : mapUp f c c.length = c.mapIdx f := by
  unfold mapUp
  rw [List.take_of_length_le (by simp)]
  simp
theorem mapUp_set (f : Nat → Int → Int) (c : List Int) (k : Nat) (x : Int) (hx : c[k]? = some x) : (mapUp f c k).set k (f k x) = mapUp f c (k + 1) := by
  have hl := (List.getElem?_eq_some_iff.1 hx).1
  unfold mapUp
  have ht : ((c.mapIdx f).take k).length = k := by simp; omega
  rw [List.set_append_right _ _ (by omega), ht, Nat.sub_self]
  obtain ⟨m, hm⟩ : ∃ m, c.length - k = m + 1 := ⟨c.length - k - 1, by omega⟩
  have hm2 : c.length - (k + 1) = m := by omega
  rw [hm, hm2, List.replicate_succ, List.set_cons_zero, List.take_add_one]
  have hg : (c.mapIdx f)[k]? = some (f k x) := by rw [List.getElem?_mapIdx, hx]; rfl
  rw [hg]
  simp
theorem half_mapIdx (c : List Int) : c.mapIdx (fun _ x => x / 2) = Sk.half c := by
  apply List.ext_getElem?
  intro i
  simp [Sk.half]
theorem mrg_mapIdx (a b : List Int) (h : a.length = b.length) : a.mapIdx (fun k x => min (x + Sk.at' b k) 15) = Sk.mrg a b := by
  apply List.ext_getElem?
  intro i
  simp only [Sk.mrg, List.getElem?_mapIdx, List.getElem?_zipWith, Sk.at']
  by_cases hi : i < a.length
  · have hi2 : i < b.length := by omega
    simp [hi, hi2]
  · simp [Nat.le_of_not_lt hi]
set_option maxRecDepth 100000 in
set_option maxHeartbeats 1000000 in
theorem half1_any (k x : Int) (w : World) (hx : 0 ≤ x) (hx2 : x ≤ 15) :
    Calls Tryd.prog 61 #[.int .i64 k, .int .i64 x] w fun e w' => e = .returned (.int .i64 (x / 2)) ∧ w = w' := by
  go_enter Tryd.func61, Tryd.ntmps61
  go_wp2
  go_ret
  exact ⟨rfl, rfl⟩
set_option maxRecDepth 100000 in
set_option maxHeartbeats 1000000 in
theorem merge1_any (k : Nat) (x y : Int) (bb g off len cap : Nat) (w : World) (hx : 0 ≤ x) (hx2 : x ≤ 15) (hy : 0 ≤ y) (hy2 : y ≤ 15) (hb : w.cell? ⟨bb, 3, none⟩ = some (.slice (some ⟨g, off, none⟩) len cap)) (hk : k < len) (hc : w.cell? ⟨g, off + k, none⟩ = some (.int .i64 y)) :
    Calls Tryd.prog 60 #[.int .i64 (k : Int), .int .i64 x, .pointer (some ⟨bb, 0, none⟩)] w fun e w' => e = .returned (.int .i64 (min (x + y) 15)) ∧ w = w' := by
  go_enter Tryd.func60, Tryd.ntmps60
  go_wp2
  all_goals
    go_ret
    exact ⟨ret_int (by omega), rfl⟩
set_option maxRecDepth 100000 in
set_option maxHeartbeats 2000000 in
theorem mapped_half (g off cap : Nat) (c : List Int) (w : World) (hg : g < w.heap.size) (hc : ∀ i x, c[i]? = some x → w.cell? ⟨g, off + i, none⟩ = some (.int .i64 x)) (hlen : c.length ≤ 1000000000) (h0 : c ≠ []) (hx : ∀ x ∈ c, 0 ≤ x ∧ x ≤ 15) :
    Calls Tryd.prog 59 #[.slice (some ⟨g, off, none⟩) c.length cap, .func (.func 61) #[] #[]] w fun e w' => (∃ v, e = .returned v ∧ OwnI w' w.heap.size v (Sk.half c)) ∧ Below w.heap.size w w' := by
  rw [← half_mapIdx]
  have Hc := Lib.hid hc
  have Hx := Lib.hid hx
  have H0 := Lib.hid h0
  clear hc hx h0
  go_enter Tryd.func59, Tryd.ntmps59
  go_wp2_with (at_make; refine wp_make (mk := mkI) Tryd.underlying36 info_int rfl (by decide) 0 rfl rfl (.tmp 9) (.tmp 9) rfl w.heap.size .i64 .i64 _ _ c.length rfl rfl rfl rfl (by omega) (Nat.le_refl _) ?_; intro w1 hown1 hg1)
  have hB1 := hg1.below _ _ (Below.refl _ _) (Nat.le_refl _)
  rw [← mapUp_zero (fun _ x => x / 2)] at hown1
  go_loopw [13] (fun i wr => ∃ k : Nat, k ≤ c.length ∧ i = .int .i64 (k : Int) ∧ OwnI wr w.heap.size (.slice (some ⟨w.heap.size, 0, none⟩) c.length c.length) (mapUp (fun _ x => x / 2) c k) ∧ Below w.heap.size w wr) (fun i _ => c.length - (intOf i).toNat)
  case atStart => exact ⟨0, by omega, rfl, hown1, hB1⟩
  case round =>
    clear hown1 hB1 hg1
    obtain ⟨k, hk, rfl, hown, hB⟩ := hrel
    by_cases hlt : k < c.length
    · obtain ⟨x, hxk⟩ : ∃ x, c[k]? = some x := ⟨_, List.getElem?_eq_getElem hlt⟩
      have hcx : wr.cell? ⟨g, off + k, none⟩ = some (.int .i64 x) := (hB.cell (p := ⟨g, off + k, none⟩) hg).trans (Hc.out k x hxk)
      obtain ⟨hx0, hx1⟩ := Hx.out x (List.mem_of_getElem? hxk)
      have hml := mapUp_len (fun _ x => x / 2) c k hk
      have hset := mapUp_set (fun _ x => x / 2) c k x hxk
      have hst := ownOf_set hown hml.symm k (x / 2)
      rw [hset] at hst
      obtain ⟨y, hy⟩ : ∃ y, (mapUp (fun _ x => x / 2) c k)[k]? = some y := ⟨_, List.getElem?_eq_getElem (by rw [hml]; exact hlt)⟩
      have hco : wr.cell? ⟨w.heap.size, k, none⟩ = some (.int .i64 y) := ownOf_cell hown k y hy
      have hfo := ownOf_free hown k
      have HB := Lib.hid (Below.setCell hB (p := ⟨w.heap.size, k, none⟩) (Nat.le_refl _) (mkI (x / 2)))
      have Hst := Lib.hid hst
      clear hset hst hml hy hown hB hxk
      go_wp2_with (go_at_call 61; (with_reducible refine (half1_any _ x _ hx0 hx1).mono ?_); rintro e w2 ⟨rfl, rfl⟩)
      go_roundw
      case rel => exact ⟨k + 1, by omega, by go_num, Hst.out, HB.out⟩
      case measure => simp [intOf]; omega
    · obtain rfl : k = c.length := by omega
      rw [mapUp_all] at hown
      go_wp2
      go_ret
      exact ⟨⟨_, rfl, by rw [← List.length_mapIdx (f := fun _ x => x / 2)] at hown; simpa using hown⟩, hB⟩
set_option maxRecDepth 100000 in
set_option maxHeartbeats 2000000 in
theorem mapped_merge (g off cap : Nat) (c : List Int) (w : World) (hg : g < w.heap.size) (hc : ∀ i x, c[i]? = some x → w.cell? ⟨g, off + i, none⟩ = some (.int .i64 x)) (hlen : c.length ≤ 1000000000) (h0 : c ≠ []) (hx : ∀ x ∈ c, 0 ≤ x ∧ x ≤ 15)
    (d : List Int) (hd : d.length = c.length) (hy : ∀ i, 0 ≤ Sk.at' d i ∧ Sk.at' d i ≤ 15) (bb g2 off2 cap2 : Nat) (hbb : bb < w.heap.size) (hb : w.cell? ⟨bb, 3, none⟩ = some (.slice (some ⟨g2, off2, none⟩) d.length cap2)) (hg2 : g2 < w.heap.size) (hdc : ∀ i x, d[i]? = some x → w.cell? ⟨g2, off2 + i, none⟩ = some (.int .i64 x)) :
    Calls Tryd.prog 59 #[.slice (some ⟨g, off, none⟩) c.length cap, .func (.func 60) #[] #[.pointer (some ⟨bb, 0, none⟩)]] w fun e w' => (∃ v, e = .returned v ∧ OwnI w' w.heap.size v (Sk.mrg c d)) ∧ Below w.heap.size w w' := by
  rw [← mrg_mapIdx c d hd.symm]
  have Hc := Lib.hid hc
  have Hd := Lib.hid hd
  have Hy := Lib.hid hy
  have Hb := Lib.hid hb
  have Hdc := Lib.hid hdc
  clear hd hy hb hdc
  have Hx := Lib.hid hx
  have H0 := Lib.hid h0
  clear hc hx h0
  go_enter Tryd.func59, Tryd.ntmps59
  go_wp2_with (at_make; refine wp_make (mk := mkI) Tryd.underlying36 info_int rfl (by decide) 0 rfl rfl (.tmp 9) (.tmp 9) rfl w.heap.size .i64 .i64 _ _ c.length rfl rfl rfl rfl (by omega) (Nat.le_refl _) ?_; intro w1 hown1 hg1)
  have hB1 := hg1.below _ _ (Below.refl _ _) (Nat.le_refl _)
  rw [← mapUp_zero (fun k x => min (x + Sk.at' d k) 15)] at hown1
  go_loopw [13] (fun i wr => ∃ k : Nat, k ≤ c.length ∧ i = .int .i64 (k : Int) ∧ OwnI wr w.heap.size (.slice (some ⟨w.heap.size, 0, none⟩) c.length c.length) (mapUp (fun k x => min (x + Sk.at' d k) 15) c k) ∧ Below w.heap.size w wr) (fun i _ => c.length - (intOf i).toNat)
  case atStart => exact ⟨0, by omega, rfl, hown1, hB1⟩
  case round =>
    clear hown1 hB1 hg1
    obtain ⟨k, hk, rfl, hown, hB⟩ := hrel
    by_cases hlt : k < c.length
    · obtain ⟨x, hxk⟩ : ∃ x, c[k]? = some x := ⟨_, List.getElem?_eq_getElem hlt⟩
      have hcx : wr.cell? ⟨g, off + k, none⟩ = some (.int .i64 x) := (hB.cell (p := ⟨g, off + k, none⟩) hg).trans (Hc.out k x hxk)
      obtain ⟨hx0, hx1⟩ := Hx.out x (List.mem_of_getElem? hxk)
      have hml := mapUp_len (fun k x => min (x + Sk.at' d k) 15) c k hk
      have hset := mapUp_set (fun k x => min (x + Sk.at' d k) 15) c k x hxk
      have hst := ownOf_set hown hml.symm k (min (x + Sk.at' d k) 15)
      rw [hset] at hst
      obtain ⟨y, hy⟩ : ∃ y, (mapUp (fun k x => min (x + Sk.at' d k) 15) c k)[k]? = some y := ⟨_, List.getElem?_eq_getElem (by rw [hml]; exact hlt)⟩
      have hco : wr.cell? ⟨w.heap.size, k, none⟩ = some (.int .i64 y) := ownOf_cell hown k y hy
      have hfo := ownOf_free hown k
      have HB := Lib.hid (Below.setCell hB (p := ⟨w.heap.size, k, none⟩) (Nat.le_refl _) (mkI (min (x + Sk.at' d k) 15)))
      have Hst := Lib.hid hst
      have hbw : wr.cell? ⟨bb, 3, none⟩ = some (.slice (some ⟨g2, off2, none⟩) d.length cap2) := (hB.cell (p := ⟨bb, 3, none⟩) hbb).trans Hb.out
      have hdw : wr.cell? ⟨g2, off2 + k, none⟩ = some (.int .i64 (Sk.at' d k)) := (hB.cell (p := ⟨g2, off2 + k, none⟩) hg2).trans (Hdc.out k _ (Sk.at_of (by rw [Hd.out]; exact hlt)))
      obtain ⟨hy0, hy1⟩ := Hy.out k
      have hkd : k < d.length := by rw [Hd.out]; exact hlt
      have Hm := Lib.hid (merge1_any k x (Sk.at' d k) bb g2 off2 d.length cap2 wr hx0 hx1 hy0 hy1 hbw hkd hdw)
      clear hset hst hml hy hown hB hxk hbw hdw hkd
      generalize hz : min (x + Sk.at' d k) 15 = z at *
      clear hz
      go_wp2_with (go_at_call 60; (with_reducible refine Hm.out.mono ?_); rintro e w2 ⟨rfl, rfl⟩)
      go_roundw
      case rel => exact ⟨k + 1, by omega, by go_num, Hst.out, HB.out⟩
      case measure => simp [intOf]; omega
    · obtain rfl : k = c.length := by omega
      rw [mapUp_all] at hown
      go_wp2
      go_ret
      exact ⟨⟨_, rfl, by rw [← List.length_mapIdx (f := fun k x => min (x + Sk.at' d k) 15)] at hown; simpa using hown⟩, hB⟩
/-- a store elsewhere leaves a slice of the call's own as it is -/
theorem ownOf_far {α : Type} {mk : α → Value} {e : TypeId} {w : World} {base : Nat} {v : Value} {l : List α} (h : OwnOf mk e w base v l) {p : Addr} (hp : p.block < base) (x : Value) : OwnOf mk e (w.setCell p x) base v l := by
  refine ⟨h.1, ?_⟩
  rcases h.2 with hn | ⟨g, cap, cur, rfl, hbb, hgg, rest⟩
  · exact .inl hn
  · exact .inr ⟨g, cap, cur, rfl, hbb, blk_far hgg (by omega) x, rest⟩
theorem ownOf_drew {α : Type} {mk : α → Value} {e : TypeId} {w : World} {base : Nat} {v : Value} {l : List α} (h : OwnOf mk e w base v l) : OwnOf mk e w.drew base v l := h
theorem ownOf_setRow {α : Type} {mk : α → Value} {e : TypeId} {w : World} {base : Nat} {v : Value} {l : List α} (h : OwnOf mk e w base v l) {g : Nat} (hp : g < base) (cs : Array Value) : OwnOf mk e (w.setRow g cs) base v l := by
  refine ⟨h.1, ?_⟩
  rcases h.2 with hn | ⟨g', cap, cur, rfl, hbb, hgg, rest⟩
  · exact .inl hn
  · exact .inr ⟨g', cap, cur, rfl, hbb, blk_setRow_far hgg g (by omega) cs, rest⟩
/-- the value of a sketch -/
abbrev skV (k : Sk.K) (v : Value) : Value := .agg #[.int .i64 k.w, .int .i64 k.s, .int .i64 k.a, v]
set_option maxRecDepth 100000 in
set_option maxHeartbeats 2000000 in
theorem halve_any (kw ks ka : Int) (c : List Int) (v : Value) (w : World) (hr : Rd mkI w v c) (hlen : c.length ≤ 1000000000) (h0 : c ≠ []) (hx : ∀ x ∈ c, 0 ≤ x ∧ x ≤ 15) (ha : 0 ≤ ka) (ha2 : ka ≤ 1000000000) :
    Calls Tryd.prog 29 #[.agg #[.int .i64 kw, .int .i64 ks, .int .i64 ka, v]] w fun e w' => (∃ v', e = .returned (.agg #[.int .i64 kw, .int .i64 ks, .int .i64 (ka / 2), v']) ∧ OwnI w' w.heap.size v' (Sk.half c)) ∧ Below w.heap.size w w' := by
  obtain ⟨g, off, cap, rfl, _, hg, hc⟩ := rd_parts hr h0
  have hh0 : Sk.half c ≠ [] := by intro h; apply h0; simpa [Sk.half] using h
  have hmp := fun (W : World) (hg' : g < W.heap.size) (h : ∀ i x, c[i]? = some x → W.cell? ⟨g, off + i, none⟩ = some (.int .i64 x)) => mapped_half g off cap c W hg' h hlen h0 hx
  have hhl := Sk.half_len c
  generalize Sk.half c = hc' at *
  generalize hlc : c.length = len at *
  have Hmp := Lib.hid hmp
  have Hc := Lib.hid hc
  clear hmp hc hr hlc
  go_enter Tryd.func29, Tryd.ntmps29
  go_wp2_with fail
  have hb0 : Blk ((w.alloc (.cells #[.int .i64 kw, .int .i64 ks, .int .i64 ka, .slice (some ⟨g, off, none⟩) len cap] 38)).alloc (.cells #[.int .i64 0, .int .i64 0, .int .i64 0, .slice none 0 0] 38)) w.heap.size #[.int .i64 kw, .int .i64 ks, .int .i64 ka, .slice (some ⟨g, off, none⟩) len cap] 38 := blk_alloc (blk_new w _ _) _
  have ho0 : Blk ((w.alloc (.cells #[.int .i64 kw, .int .i64 ks, .int .i64 ka, .slice (some ⟨g, off, none⟩) len cap] 38)).alloc (.cells #[.int .i64 0, .int .i64 0, .int .i64 0, .slice none 0 0] 38)) (w.heap.size + 1) #[.int .i64 0, .int .i64 0, .int .i64 0, .slice none 0 0] 38 := blk_new2 w _ _ _
  have hB0 : Below w.heap.size w ((w.alloc (.cells #[.int .i64 kw, .int .i64 ks, .int .i64 ka, .slice (some ⟨g, off, none⟩) len cap] 38)).alloc (.cells #[.int .i64 0, .int .i64 0, .int .i64 0, .slice none 0 0] 38)) := below_al (below_alloc1 _ _) _
  have hz0 : w.heap.size + 2 ≤ ((w.alloc (.cells #[.int .i64 kw, .int .i64 ks, .int .i64 ka, .slice (some ⟨g, off, none⟩) len cap] 38)).alloc (.cells #[.int .i64 0, .int .i64 0, .int .i64 0, .slice none 0 0] 38)).heap.size := by simp
  generalize ((w.alloc (.cells #[.int .i64 kw, .int .i64 ks, .int .i64 ka, .slice (some ⟨g, off, none⟩) len cap] 38)).alloc (.cells #[.int .i64 0, .int .i64 0, .int .i64 0, .slice none 0 0] 38)) = W0 at *
  with_reducible refine (Hmp.out W0 (Nat.lt_of_lt_of_le hg hB0.size) (fun i x hi => (hB0.cell (p := ⟨g, off + i, none⟩) hg).trans (Hc.out i x hi))).mono ?_
  rintro e w2 ⟨⟨v', rfl, hown⟩, hw2⟩
  have hb2 := blk_kept hb0 hw2
  have ho2 := blk_kept ho0 hw2
  have hB2 := hB0.trans (hw2.mono hB0.size)
  obtain ⟨g', cap', rfl, hg1, hg2⟩ := ownOf_slice hown hh0
  have c0 := blk_cell hb2 0
  have c1 := blk_cell hb2 1
  have c2 := blk_cell hb2 2
  have c3 := blk_cell hb2 3
  have f2 := blk_free hb2 2
  have f3 := blk_free hb2 3
  have o0 := blk_cell ho2 0
  have o1 := blk_cell ho2 1
  have o2 := blk_cell ho2 2
  have o3 := blk_cell ho2 3
  have p0 := blk_free ho2 0
  have p1 := blk_free ho2 1
  have p2 := blk_free ho2 2
  have p3 := blk_free ho2 3
  simp only [List.getElem?_toArray, List.getElem?_cons_zero, List.getElem?_cons_succ] at c0 c1 c2 c3 o0 o1 o2 o3
  have Hown := Lib.hid hown
  have Hb2 := Lib.hid hb2
  have Ho2 := Lib.hid ho2
  have HB2 := Lib.hid hB2
  have Hz0 := Lib.hid hz0
  clear hown hb0 ho0 hB0 hw2 hb2 ho2 hB2 hz0 hg1 hg2
  dsimp only
  rw [hhl] at Hown ⊢
  go_wp2
  refine bodyPost_ret (v := .agg #[.int .i64 kw, .int .i64 ks, .int .i64 (ka / 2), .slice (some ⟨g', 0, none⟩) len cap']) (by simp [results, Tryd.results29, go_sem, o0, o1, o2, o3]) rfl ⟨⟨_, rfl, ?_⟩, ?_⟩
  · have hz := Hz0.out
    exact ownOf_mono (base := W0.heap.size) (ownOf_far (ownOf_far (ownOf_far (ownOf_far (ownOf_far (ownOf_far Hown.out (by show w.heap.size < _; omega) _) (by show w.heap.size < _; omega) _) (by show w.heap.size + 1 < _; omega) _) (by show w.heap.size + 1 < _; omega) _) (by show w.heap.size + 1 < _; omega) _) (by show w.heap.size + 1 < _; omega) _) (by omega)
  · exact ((((((HB2.out.setCell (p := ⟨w.heap.size, 3, none⟩) (by show w.heap.size ≤ w.heap.size; omega) _).setCell (p := ⟨w.heap.size, 2, none⟩) (by show w.heap.size ≤ w.heap.size; omega) _).setCell (p := ⟨w.heap.size + 1, 0, none⟩) (by show w.heap.size ≤ w.heap.size + 1; omega) _).setCell (p := ⟨w.heap.size + 1, 1, none⟩) (by show w.heap.size ≤ w.heap.size + 1; omega) _).setCell (p := ⟨w.heap.size + 1, 2, none⟩) (by show w.heap.size ≤ w.heap.size + 1; omega) _).setCell (p := ⟨w.heap.size + 1, 3, none⟩) (by show w.heap.size ≤ w.heap.size + 1; omega) _)
end Go.Proofs.YtbgieephehfgpabDoor
/-
  What the program's Merge returns: an error, or a sketch that counts what both count. Conditions: the sketches are valid.
-/
namespace Go.Proofs.YtbgieephehfgpabDoor
open Go Go.RowKit
theorem Sk.Ok.len9 {k : Sk.K} (h : Sk.Ok k) : k.c.length ≤ 1000000000 := by
  have := h.clen
  have := h.wide
  have := h.wn
  omega
set_option maxRecDepth 100000 in
set_option maxHeartbeats 1000000 in
theorem merge_err (a b : Sk.K) (hd : a.w ≠ b.w ∨ (a.w = b.w ∧ a.s ≠ b.s)) (va vb : Value) (x y : Option Addr) (m n cx cy : Nat) (hva : va = .slice x m cx) (hvb : vb = .slice y n cy) (w : World) :
    Calls Tryd.prog 27 #[skV a va, skV b vb] w fun e w' => e = .returned (.tuple #[.agg #[.int .i64 0, .int .i64 0, .int .i64 0, .slice none 0 0], .int .i64 1]) ∧ Below w.heap.size w w' := by
  subst hva hvb
  obtain ⟨wa, sa, na, ac⟩ := a
  obtain ⟨wb, sb, nb, bc⟩ := b
  dsimp only at hd ⊢
  rcases hd with hd | ⟨rfl, hd⟩
  · have h1 : (wa != wb) = true := by simpa using hd
    have h2 : (wa == wb) = false := by simpa using hd
    have HB := Lib.hid (((below_al (below_al (below_alloc1 w (.cells #[.int .i64 wa, .int .i64 sa, .int .i64 na, .slice x m cx] 38)) (.cells #[.int .i64 wb, .int .i64 sb, .int .i64 nb, .slice y n cy] 38)) (.cells #[.int .i64 0, .int .i64 0, .int .i64 0, .slice none 0 0] 38))))
    go_enter Tryd.func27, Tryd.ntmps27
    go_wp2
    exact bodyPost_ret (v := .tuple #[.agg #[.int .i64 0, .int .i64 0, .int .i64 0, .slice none 0 0], .int .i64 1]) (by simp [results, Tryd.results27, go_sem]) rfl ⟨rfl, HB.out⟩
  · have h1 : (sa != sb) = true := by simpa using hd
    have h2 : (sa == sb) = false := by simpa using hd
    have HB := Lib.hid (((below_al (below_al (below_alloc1 w (.cells #[.int .i64 wa, .int .i64 sa, .int .i64 na, .slice x m cx] 38)) (.cells #[.int .i64 wa, .int .i64 sb, .int .i64 nb, .slice y n cy] 38)) (.cells #[.int .i64 0, .int .i64 0, .int .i64 0, .slice none 0 0] 38))))
    go_enter Tryd.func27, Tryd.ntmps27
    go_wp2
    exact bodyPost_ret (v := .tuple #[.agg #[.int .i64 0, .int .i64 0, .int .i64 0, .slice none 0 0], .int .i64 1]) (by simp [results, Tryd.results27, go_sem]) rfl ⟨rfl, HB.out⟩
set_option maxRecDepth 100000 in
set_option maxHeartbeats 4000000 in
theorem merge_plain (a b : Sk.K) (ha : Sk.Ok a) (hb : Sk.Ok b) (hw : a.w = b.w) (hs : a.s = b.s) (hsa : ¬ a.s ≤ a.a + b.a) (va vb : Value) (w : World) (hra : Rd mkI w va a.c) (hrb : Rd mkI w vb b.c) :
    Calls Tryd.prog 27 #[skV a va, skV b vb] w fun e w' => (∃ v', e = .returned (.tuple #[skV (Sk.K.mrg a b) v', .int .i64 0]) ∧ OwnI w' w.heap.size v' (Sk.K.mrg a b).c) ∧ Below w.heap.size w w' := by
  have hbc : b.c.length = a.c.length := by have h1 := ha.clen; have h2 := hb.clen; have : b.n = a.n := by { unfold Sk.K.n; rw [hw] }; omega
  have hal := ha.len9
  have hane := ha.ne
  have h1s := ha.s2
  have h1a := ha.a1
  have h1b := ha.a2
  have h2a := hb.a1
  have h2b := hb.a2
  obtain ⟨g, off, cap, rfl, _, hg, hc⟩ := rd_parts hra hane
  obtain ⟨g2, off2, cap2, rfl, _, hg2, hc2⟩ := rd_parts hrb hb.ne
  have hax : ∀ x ∈ a.c, 0 ≤ x ∧ x ≤ 15 := fun x hx => ⟨(ha.cells x hx).1, (ha.cells x hx).2.1⟩
  have hbx : ∀ i, 0 ≤ Sk.at' b.c i ∧ Sk.at' b.c i ≤ 15 := fun i => ⟨(hb.at i).1, (hb.at i).2.1⟩
  have hmne : Sk.mrg a.c b.c ≠ [] := fun h => hane (by have := Sk.mrg_len a.c b.c hbc.symm; rw [h] at this; simpa using this.symm)
  have hml := Sk.mrg_len a.c b.c hbc.symm
  have hmx : ∀ x ∈ Sk.mrg a.c b.c, 0 ≤ x ∧ x ≤ 15 := by
    intro x hx
    obtain ⟨i, hi⟩ := List.getElem?_of_mem hx
    have hlt := (List.getElem?_eq_some_iff.1 hi).1
    have e := Sk.at_of hlt
    rw [hi] at e
    have e2 := Sk.mrg_at a.c b.c i (by omega) (by omega)
    have := (ha.at i).1
    have := (hb.at i).1
    simp at e
    omega
  have hmp := fun (W : World) (bb : Nat) h1 h2 h3 h4 h5 h6 => mapped_merge g off cap a.c W h1 h2 hal hane hax b.c hbc hbx bb g2 off2 cap2 h3 h4 h5 h6
  have _hhv := fun (v : Value) (W : World) (h : Rd mkI W v (Sk.mrg a.c b.c)) => halve_any a.w a.s (a.a + b.a) (Sk.mrg a.c b.c) v W h (by omega) hmne hmx (by omega) (by omega)
  have hres : Sk.K.mrg a b = if a.s ≤ a.a + b.a then ⟨a.w, a.s, (a.a + b.a) / 2, Sk.half (Sk.mrg a.c b.c)⟩ else ⟨a.w, a.s, a.a + b.a, Sk.mrg a.c b.c⟩ := rfl
  have hhne : Sk.half (Sk.mrg a.c b.c) ≠ [] := by intro h; apply hmne; simpa [Sk.half] using h
  rw [hres]
  clear hres
  rw [if_neg hsa]
  clear ha hb hra hrb hax hbx hmx hane
  clear _hhv hhne
  generalize Sk.mrg a.c b.c = mg at *
  obtain ⟨wa, sa, na, ac⟩ := a
  obtain ⟨wb, sb, nb, bc⟩ := b
  dsimp only at *
  subst hw hs
  have Hmp := Lib.hid hmp
  have Hc := Lib.hid hc
  have Hc2 := Lib.hid hc2
  rw [hbc] at Hmp ⊢
  clear hmp hc hc2
  generalize ac.length = len at *
  clear hbc
  go_enter Tryd.func27, Tryd.ntmps27
  go_wp2_with fail
  obtain ⟨W0, hW0⟩ : ∃ W0, W0 = (((w.alloc (.cells #[.int .i64 wa, .int .i64 sa, .int .i64 na, .slice (some ⟨g, off, none⟩) len cap] 38)).alloc (.cells #[.int .i64 wa, .int .i64 sa, .int .i64 nb, .slice (some ⟨g2, off2, none⟩) len cap2] 38)).alloc (.cells #[.int .i64 0, .int .i64 0, .int .i64 0, .slice none 0 0] 38)) := ⟨_, rfl⟩
  have hb0 : Blk W0 w.heap.size #[.int .i64 wa, .int .i64 sa, .int .i64 na, .slice (some ⟨g, off, none⟩) len cap] 38 := by rw [hW0]; exact blk_alloc (blk_alloc (blk_new w _ _) _) _
  have hd0 : Blk W0 (w.heap.size + 1) #[.int .i64 wa, .int .i64 sa, .int .i64 nb, .slice (some ⟨g2, off2, none⟩) len cap2] 38 := by rw [hW0]; exact blk_alloc (blk_new2 w _ _ _) _
  have ho0 : Blk W0 (w.heap.size + 1 + 1) #[.int .i64 0, .int .i64 0, .int .i64 0, .slice none 0 0] 38 := by rw [hW0]; exact heap_alloc_at _ _ _ (by simp)
  have hB0 : Below w.heap.size w W0 := by rw [hW0]; exact below_al (below_al (below_alloc1 _ _) _) _
  have hz0 : W0.heap.size = w.heap.size + 3 := by rw [hW0]; simp
  rw [← hW0]
  clear hW0
  have hd03 : W0.cell? ⟨w.heap.size + 1, 3, none⟩ = some (.slice (some ⟨g2, off2, none⟩) len cap2) := blk_cell hd0 3
  with_reducible refine (Hmp.out W0 (w.heap.size + 1) (Nat.lt_of_lt_of_le hg hB0.size) (fun i x hi => (hB0.cell (p := ⟨g, off + i, none⟩) hg).trans (Hc.out i x hi)) (by omega) hd03 (Nat.lt_of_lt_of_le hg2 hB0.size) (fun i x hi => (hB0.cell (p := ⟨g2, off2 + i, none⟩) hg2).trans (Hc2.out i x hi))).mono ?_
  rintro e w2 ⟨⟨v', rfl, hown⟩, hw2⟩
  have hb2 := blk_kept hb0 hw2
  have hd2 := blk_kept hd0 hw2
  have ho2 := blk_kept ho0 hw2
  have hB2 := hB0.trans (hw2.mono hB0.size)
  obtain ⟨g', cap', rfl, hg1, hg2'⟩ := ownOf_slice hown hmne
  have hw2s : w.heap.size + 3 ≤ w2.heap.size := by have := hw2.size; omega
  rw [hml] at hown ⊢
  have c0 := blk_cell hb2 0
  have c1 := blk_cell hb2 1
  have c2 := blk_cell hb2 2
  have c3 := blk_cell hb2 3
  have f0 := blk_free hb2 0
  have f1 := blk_free hb2 1
  have f2 := blk_free hb2 2
  have f3 := blk_free hb2 3
  have d2 := blk_cell hd2 2
  simp only [List.getElem?_toArray, List.getElem?_cons_zero, List.getElem?_cons_succ] at c0 c1 c2 c3 d2
  have Hown := Lib.hid hown
  have Hb2 := Lib.hid hb2
  have Ho2 := Lib.hid ho2
  have HB2 := Lib.hid hB2
  clear hown hb0 ho0 hB0 hw2 hb2 ho2 hB2 hd0 hd2
  dsimp only
  have o0 := blk_cell Ho2.out 0
  have o1 := blk_cell Ho2.out 1
  have o2 := blk_cell Ho2.out 2
  have o3 := blk_cell Ho2.out 3
  have p0 := blk_free Ho2.out 0
  have p1 := blk_free Ho2.out 1
  have p2 := blk_free Ho2.out 2
  have p3 := blk_free Ho2.out 3
  simp only [List.getElem?_toArray, List.getElem?_cons_zero, List.getElem?_cons_succ] at o0 o1 o2 o3
  have hdec : decide (sa ≤ na + nb) = false := by simpa using hsa
  go_wp2
  refine bodyPost_ret (v := .tuple #[.agg #[.int .i64 wa, .int .i64 sa, .int .i64 (na + nb), .slice (some ⟨g', 0, none⟩) len cap'], .int .i64 0]) (by simp [results, Tryd.results27, go_sem, o0, o1, o2, o3]) rfl ⟨⟨_, rfl, ?_⟩, ?_⟩
  · exact ownOf_mono (base := W0.heap.size) (ownOf_far (ownOf_far (ownOf_far (ownOf_far (ownOf_far (ownOf_far Hown.out (by show w.heap.size < _; omega) _) (by show w.heap.size < _; omega) _) (by show w.heap.size + 1 + 1 < _; omega) _) (by show w.heap.size + 1 + 1 < _; omega) _) (by show w.heap.size + 1 + 1 < _; omega) _) (by show w.heap.size + 1 + 1 < _; omega) _) (by omega)
  · exact ((((((HB2.out.setCell (p := ⟨w.heap.size, 3, none⟩) (by show w.heap.size ≤ w.heap.size; omega) _).setCell (p := ⟨w.heap.size, 2, none⟩) (by show w.heap.size ≤ w.heap.size; omega) _).setCell (p := ⟨w.heap.size + 1 + 1, 0, none⟩) (by show w.heap.size ≤ w.heap.size + 1 + 1; omega) _).setCell (p := ⟨w.heap.size + 1 + 1, 1, none⟩) (by show w.heap.size ≤ w.heap.size + 1 + 1; omega) _).setCell (p := ⟨w.heap.size + 1 + 1, 2, none⟩) (by show w.heap.size ≤ w.heap.size + 1 + 1; omega) _).setCell (p := ⟨w.heap.size + 1 + 1, 3, none⟩) (by show w.heap.size ≤ w.heap.size + 1 + 1; omega) _)
set_option maxRecDepth 100000 in
set_option maxHeartbeats 4000000 in
theorem merge_halved (a b : Sk.K) (ha : Sk.Ok a) (hb : Sk.Ok b) (hw : a.w = b.w) (hs : a.s = b.s) (hsa : a.s ≤ a.a + b.a) (va vb : Value) (w : World) (hra : Rd mkI w va a.c) (hrb : Rd mkI w vb b.c) :
    Calls Tryd.prog 27 #[skV a va, skV b vb] w fun e w' => (∃ v', e = .returned (.tuple #[skV (Sk.K.mrg a b) v', .int .i64 0]) ∧ OwnI w' w.heap.size v' (Sk.K.mrg a b).c) ∧ Below w.heap.size w w' := by
  have hbc : b.c.length = a.c.length := by have h1 := ha.clen; have h2 := hb.clen; have : b.n = a.n := by { unfold Sk.K.n; rw [hw] }; omega
  have hal := ha.len9
  have hane := ha.ne
  have h1s := ha.s2
  have h1a := ha.a1
  have h1b := ha.a2
  have h2a := hb.a1
  have h2b := hb.a2
  obtain ⟨g, off, cap, rfl, _, hg, hc⟩ := rd_parts hra hane
  obtain ⟨g2, off2, cap2, rfl, _, hg2, hc2⟩ := rd_parts hrb hb.ne
  have hax : ∀ x ∈ a.c, 0 ≤ x ∧ x ≤ 15 := fun x hx => ⟨(ha.cells x hx).1, (ha.cells x hx).2.1⟩
  have hbx : ∀ i, 0 ≤ Sk.at' b.c i ∧ Sk.at' b.c i ≤ 15 := fun i => ⟨(hb.at i).1, (hb.at i).2.1⟩
  have hmne : Sk.mrg a.c b.c ≠ [] := fun h => hane (by have := Sk.mrg_len a.c b.c hbc.symm; rw [h] at this; simpa using this.symm)
  have hml := Sk.mrg_len a.c b.c hbc.symm
  have hmx : ∀ x ∈ Sk.mrg a.c b.c, 0 ≤ x ∧ x ≤ 15 := by
    intro x hx
    obtain ⟨i, hi⟩ := List.getElem?_of_mem hx
    have hlt := (List.getElem?_eq_some_iff.1 hi).1
    have e := Sk.at_of hlt
    rw [hi] at e
    have e2 := Sk.mrg_at a.c b.c i (by omega) (by omega)
    have := (ha.at i).1
    have := (hb.at i).1
    simp at e
    omega
  have hmp := fun (W : World) (bb : Nat) h1 h2 h3 h4 h5 h6 => mapped_merge g off cap a.c W h1 h2 hal hane hax b.c hbc hbx bb g2 off2 cap2 h3 h4 h5 h6
  have hhv := fun (v : Value) (W : World) (h : Rd mkI W v (Sk.mrg a.c b.c)) => halve_any a.w a.s (a.a + b.a) (Sk.mrg a.c b.c) v W h (by omega) hmne hmx (by omega) (by omega)
  have hres : Sk.K.mrg a b = if a.s ≤ a.a + b.a then ⟨a.w, a.s, (a.a + b.a) / 2, Sk.half (Sk.mrg a.c b.c)⟩ else ⟨a.w, a.s, a.a + b.a, Sk.mrg a.c b.c⟩ := rfl
  have hhne : Sk.half (Sk.mrg a.c b.c) ≠ [] := by intro h; apply hmne; simpa [Sk.half] using h
  rw [hres]
  clear hres
  rw [if_pos hsa]
  clear ha hb hra hrb hax hbx hmx hane
  generalize Sk.half (Sk.mrg a.c b.c) = hf at *
  generalize Sk.mrg a.c b.c = mg at *
  obtain ⟨wa, sa, na, ac⟩ := a
  obtain ⟨wb, sb, nb, bc⟩ := b
  dsimp only at *
  subst hw hs
  have Hmp := Lib.hid hmp
  have Hhv := Lib.hid hhv
  have Hc := Lib.hid hc
  have Hc2 := Lib.hid hc2
  rw [hbc] at Hmp ⊢
  clear hmp hhv hc hc2
  generalize ac.length = len at *
  clear hbc
  go_enter Tryd.func27, Tryd.ntmps27
  go_wp2_with fail
  obtain ⟨W0, hW0⟩ : ∃ W0, W0 = (((w.alloc (.cells #[.int .i64 wa, .int .i64 sa, .int .i64 na, .slice (some ⟨g, off, none⟩) len cap] 38)).alloc (.cells #[.int .i64 wa, .int .i64 sa, .int .i64 nb, .slice (some ⟨g2, off2, none⟩) len cap2] 38)).alloc (.cells #[.int .i64 0, .int .i64 0, .int .i64 0, .slice none 0 0] 38)) := ⟨_, rfl⟩
  have hb0 : Blk W0 w.heap.size #[.int .i64 wa, .int .i64 sa, .int .i64 na, .slice (some ⟨g, off, none⟩) len cap] 38 := by rw [hW0]; exact blk_alloc (blk_alloc (blk_new w _ _) _) _
  have hd0 : Blk W0 (w.heap.size + 1) #[.int .i64 wa, .int .i64 sa, .int .i64 nb, .slice (some ⟨g2, off2, none⟩) len cap2] 38 := by rw [hW0]; exact blk_alloc (blk_new2 w _ _ _) _
  have ho0 : Blk W0 (w.heap.size + 1 + 1) #[.int .i64 0, .int .i64 0, .int .i64 0, .slice none 0 0] 38 := by rw [hW0]; exact heap_alloc_at _ _ _ (by simp)
  have hB0 : Below w.heap.size w W0 := by rw [hW0]; exact below_al (below_al (below_alloc1 _ _) _) _
  have hz0 : W0.heap.size = w.heap.size + 3 := by rw [hW0]; simp
  rw [← hW0]
  clear hW0
  have hd03 : W0.cell? ⟨w.heap.size + 1, 3, none⟩ = some (.slice (some ⟨g2, off2, none⟩) len cap2) := blk_cell hd0 3
  with_reducible refine (Hmp.out W0 (w.heap.size + 1) (Nat.lt_of_lt_of_le hg hB0.size) (fun i x hi => (hB0.cell (p := ⟨g, off + i, none⟩) hg).trans (Hc.out i x hi)) (by omega) hd03 (Nat.lt_of_lt_of_le hg2 hB0.size) (fun i x hi => (hB0.cell (p := ⟨g2, off2 + i, none⟩) hg2).trans (Hc2.out i x hi))).mono ?_
  rintro e w2 ⟨⟨v', rfl, hown⟩, hw2⟩
  have hb2 := blk_kept hb0 hw2
  have hd2 := blk_kept hd0 hw2
  have ho2 := blk_kept ho0 hw2
  have hB2 := hB0.trans (hw2.mono hB0.size)
  obtain ⟨g', cap', rfl, hg1, hg2'⟩ := ownOf_slice hown hmne
  have hw2s : w.heap.size + 3 ≤ w2.heap.size := by have := hw2.size; omega
  rw [hml] at hown ⊢
  have c0 := blk_cell hb2 0
  have c1 := blk_cell hb2 1
  have c2 := blk_cell hb2 2
  have c3 := blk_cell hb2 3
  have f0 := blk_free hb2 0
  have f1 := blk_free hb2 1
  have f2 := blk_free hb2 2
  have f3 := blk_free hb2 3
  have d2 := blk_cell hd2 2
  simp only [List.getElem?_toArray, List.getElem?_cons_zero, List.getElem?_cons_succ] at c0 c1 c2 c3 d2
  have Hown := Lib.hid hown
  have Hb2 := Lib.hid hb2
  have Ho2 := Lib.hid ho2
  have HB2 := Lib.hid hB2
  clear hown hb0 ho0 hB0 hw2 hb2 ho2 hB2 hd0 hd2
  dsimp only
  have hdec : decide (sa ≤ na + nb) = true := by simpa using hsa
  go_wp2_with fail
  obtain ⟨w3, hw3e⟩ : ∃ w3, w3 = (w2.setCell ⟨w.heap.size, 3, none⟩ (.slice (some ⟨g', 0, none⟩) len cap')).setCell ⟨w.heap.size, 2, none⟩ (.int .i64 (na + nb)) := ⟨_, rfl⟩
  have hown3 : OwnI w3 W0.heap.size (.slice (some ⟨g', 0, none⟩) len cap') mg := by rw [hw3e]; exact ownOf_far (ownOf_far Hown.out (by show w.heap.size < _; omega) _) (by show w.heap.size < _; omega) _
  have hb3 : Blk w3 w.heap.size #[.int .i64 wa, .int .i64 sa, .int .i64 (na + nb), .slice (some ⟨g', 0, none⟩) len cap'] 38 := by
    have := blk_set (blk_set Hb2.out 3 (.slice (some ⟨g', 0, none⟩) len cap')) 2 (.int .i64 (na + nb))
    rw [hw3e]
    simpa using this
  have ho3 : Blk w3 (w.heap.size + 1 + 1) #[.int .i64 0, .int .i64 0, .int .i64 0, .slice none 0 0] 38 := by
    rw [hw3e]
    exact blk_far (blk_far Ho2.out (p := ⟨w.heap.size, 3, none⟩) (by show w.heap.size + 1 + 1 ≠ w.heap.size; omega) _) (p := ⟨w.heap.size, 2, none⟩) (by show w.heap.size + 1 + 1 ≠ w.heap.size; omega) _
  have hB3 : Below w.heap.size w w3 := by
    rw [hw3e]
    exact (HB2.out.setCell (p := ⟨w.heap.size, 3, none⟩) (by show w.heap.size ≤ w.heap.size; omega) _).setCell (p := ⟨w.heap.size, 2, none⟩) (by show w.heap.size ≤ w.heap.size; omega) _
  have hs3 : w.heap.size + 3 ≤ w3.heap.size := by rw [hw3e]; simpa using hw2s
  rw [← hw3e]
  clear hw3e c0 c1 c2 c3 f0 f1 f2 f3 d2
  with_reducible refine (Hhv.out _ w3 (ownOf_rd hown3)).mono ?_
  rintro e w4 ⟨⟨v4, rfl, hown4⟩, hw4⟩
  have hb4 := blk_kept hb3 hw4
  have ho4 := blk_kept ho3 hw4
  have hB4 := hB3.trans (hw4.mono hB3.size)
  obtain ⟨g4, cap4, rfl, hg4, _⟩ := ownOf_slice hown4 hhne
  generalize hf.length = len4 at *
  have c0 := blk_cell hb4 0
  have c1 := blk_cell hb4 1
  have c2 := blk_cell hb4 2
  have c3 := blk_cell hb4 3
  have f0 := blk_free hb4 0
  have f1 := blk_free hb4 1
  have f2 := blk_free hb4 2
  have f3 := blk_free hb4 3
  have o0 := blk_cell ho4 0
  have o1 := blk_cell ho4 1
  have o2 := blk_cell ho4 2
  have o3 := blk_cell ho4 3
  have p0 := blk_free ho4 0
  have p1 := blk_free ho4 1
  have p2 := blk_free ho4 2
  have p3 := blk_free ho4 3
  simp only [List.getElem?_toArray, List.getElem?_cons_zero, List.getElem?_cons_succ] at c0 c1 c2 c3 o0 o1 o2 o3
  have Hown4 := Lib.hid hown4
  have HB4 := Lib.hid hB4
  have Hs3 := Lib.hid hs3
  clear hown4 hB4 hb4 ho4 hw4 hb3 ho3 hB3 hown3 hs3
  dsimp only
  go_wp2
  refine bodyPost_ret (v := .tuple #[.agg #[.int .i64 wa, .int .i64 sa, .int .i64 ((na + nb) / 2), .slice (some ⟨g4, 0, none⟩) len4 cap4], .int .i64 0]) (by simp [results, Tryd.results27, go_sem, o0, o1, o2, o3]) rfl ⟨⟨_, rfl, ?_⟩, ?_⟩
  · have h3 := Hs3.out
    exact ownOf_mono (base := w3.heap.size) (ownOf_far (ownOf_far (ownOf_far (ownOf_far (ownOf_far (ownOf_far (ownOf_far (ownOf_far Hown4.out (by show w.heap.size < _; omega) _) (by show w.heap.size < _; omega) _) (by show w.heap.size < _; omega) _) (by show w.heap.size < _; omega) _) (by show w.heap.size + 1 + 1 < _; omega) _) (by show w.heap.size + 1 + 1 < _; omega) _) (by show w.heap.size + 1 + 1 < _; omega) _) (by show w.heap.size + 1 + 1 < _; omega) _) (by omega)
  · exact (Below.setCell (Below.setCell (Below.setCell (Below.setCell (Below.setCell (Below.setCell (Below.setCell (Below.setCell HB4.out (p := ⟨w.heap.size, 0, none⟩) (by show w.heap.size ≤ w.heap.size; omega) _) (p := ⟨w.heap.size, 1, none⟩) (by show w.heap.size ≤ w.heap.size; omega) _) (p := ⟨w.heap.size, 2, none⟩) (by show w.heap.size ≤ w.heap.size; omega) _) (p := ⟨w.heap.size, 3, none⟩) (by show w.heap.size ≤ w.heap.size; omega) _) (p := ⟨w.heap.size + 1 + 1, 0, none⟩) (by show w.heap.size ≤ w.heap.size + 1 + 1; omega) _) (p := ⟨w.heap.size + 1 + 1, 1, none⟩) (by show w.heap.size ≤ w.heap.size + 1 + 1; omega) _) (p := ⟨w.heap.size + 1 + 1, 2, none⟩) (by show w.heap.size ≤ w.heap.size + 1 + 1; omega) _) (p := ⟨w.heap.size + 1 + 1, 3, none⟩) (by show w.heap.size ≤ w.heap.size + 1 + 1; omega) _)
theorem merge_any (a b : Sk.K) (ha : Sk.Ok a) (hb : Sk.Ok b) (hw : a.w = b.w) (hs : a.s = b.s) (va vb : Value) (w : World) (hra : Rd mkI w va a.c) (hrb : Rd mkI w vb b.c) :
    Calls Tryd.prog 27 #[skV a va, skV b vb] w fun e w' => (∃ v', e = .returned (.tuple #[skV (Sk.K.mrg a b) v', .int .i64 0]) ∧ OwnI w' w.heap.size v' (Sk.K.mrg a b).c) ∧ Below w.heap.size w w' := by
  by_cases hsa : a.s ≤ a.a + b.a
  · exact merge_halved a b ha hb hw hs hsa va vb w hra hrb
  · exact merge_plain a b ha hb hw hs hsa va vb w hra hrb
end Go.Proofs.YtbgieephehfgpabDoor
