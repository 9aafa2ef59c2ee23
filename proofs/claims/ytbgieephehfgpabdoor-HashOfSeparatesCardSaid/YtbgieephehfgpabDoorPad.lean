/-
  Plain mathematics of SHA-256: padding, the hash's bytes. No program here. No conditions.
-/
import Derived.Test.YtbgieephehfgpabDoorOwn
namespace Go.Proofs.YtbgieephehfgpabDoor
open Go Go.RowKit
namespace Sha
/-- how many zero bytes stand behind the byte 128 -/
def padK (n : Nat) : Nat := (119 - n % 64) % 64
/-- byte i of the message's length in bits -/
def lenB (n i : Nat) : UInt8 := UInt8.ofNat ((8 * n) >>> (56 - 8 * i))
def zerosP (k : Nat) : List UInt8 := 128 :: List.replicate k 0
def padP (n i : Nat) : List UInt8 := zerosP (padK n) ++ (List.range i).map (lenB n)
def padN (n : Nat) : List UInt8 := padP n 8
def padded (m : List UInt8) : List UInt8 := m ++ padN m.length
def sumS (m : List UInt8) : S8 := hb (padded m) ((padded m).length / 64)
def wd (s : S8) (i : Nat) : W := [s.a, s.b, s.c, s.d, s.e, s.f, s.g, s.h].getD i 0#32
def outB (s : S8) (i : Nat) : UInt8 := UInt8.ofNat ((wd s (i / 4)).toNat >>> (24 - 8 * (i % 4)))
def outs (s : S8) (i : Nat) : List UInt8 := (List.range i).map (outB s)
/-- SHA-256 -/
def sha (m : List UInt8) : List UInt8 := outs (sumS m) 32
theorem zerosP_succ (k : Nat) : zerosP (k + 1) = zerosP k ++ [0] := by simp [zerosP, List.replicate_succ']
theorem padP_succ (n i : Nat) : padP n (i + 1) = padP n i ++ [lenB n i] := by simp [padP, List.range_succ]
theorem outs_succ (s : S8) (i : Nat) : outs s (i + 1) = outs s i ++ [outB s i] := by simp [outs, List.range_succ]
theorem zerosP_len (k : Nat) : (zerosP k).length = k + 1 := by simp [zerosP]
theorem padP_len (n i : Nat) : (padP n i).length = padK n + 1 + i := by simp [padP, zerosP_len]
theorem outs_len (s : S8) (i : Nat) : (outs s i).length = i := by simp [outs]
theorem padK_lt (n : Nat) : padK n < 64 := Nat.mod_lt _ (by omega)
theorem padK_at (n k : Nat) (h : k ≤ padK n) : (n + (k + 1)) % 64 = 56 ↔ k = padK n := by
  unfold padK at *
  omega
theorem sha_len (m : List UInt8) : (sha m).length = 32 := outs_len _ _
theorem padded_len (m : List UInt8) : (padded m).length % 64 = 0 := by
  have : padK m.length = (119 - m.length % 64) % 64 := rfl
  simp only [padded, padN, List.length_append, padP_len]
  omega
/-- 32 cells of which the first i are written -/
def outA (s : S8) (i : Nat) : Array Value := ((outs s i).map mkB ++ List.replicate (32 - i) (Value.int .u8 0)).toArray
theorem outA_set (s : S8) (i : Nat) (h : i < 32) : (outA s i).setIfInBounds i (mkB (outB s i)) = outA s (i + 1) := by
  apply Array.ext'
  rw [Array.toList_setIfInBounds]
  unfold outA
  rw [List.set_append_right _ _ (by simp [outs_len]), outs_succ]
  simp only [List.length_map, outs_len, Nat.sub_self, List.map_append]
  rw [show 32 - i = (32 - (i + 1)) + 1 by omega, List.replicate_succ]
  simp
def bytesV (l : List UInt8) : Value := .agg (l.map mkB).toArray
theorem outA_full (s : S8) : Value.agg (outA s 32) = bytesV (outs s 32) := by simp [outA, bytesV]
theorem lenB_go (n i : Nat) : ((lenB n i).toNat : Int) = ((8 * (n : Int)) / 2 ^ (56 - 8 * i)) % 256 := by
  unfold lenB
  rw [UInt8.toNat_ofNat', Nat.shiftRight_eq_div_pow]
  show (((8 * n) / 2 ^ (56 - 8 * i) % 256 : Nat) : Int) = _
  rw [Int.natCast_emod, Int.natCast_ediv, Int.natCast_mul, Int.natCast_pow]
  rfl
theorem outB_go (s : S8) (i : Nat) : ((outB s i).toNat : Int) = (tI (wd s (i / 4)) / 2 ^ (24 - 8 * (i % 4))) % 256 := by
  unfold outB tI
  rw [UInt8.toNat_ofNat', Nat.shiftRight_eq_div_pow]
  show (((wd s (i / 4)).toNat / 2 ^ (24 - 8 * (i % 4)) % 256 : Nat) : Int) = _
  rw [Int.natCast_emod, Int.natCast_ediv, Int.natCast_pow]
  rfl
theorem sL_wd (st : S8) (blk : List UInt8) (n i : Nat) (hi : i < 8) : (sL st blk n)[i]? = some (.int .u32 (tI (wd st i))) := by
  rw [sL_st _ _ _ _ hi]
  match i, hi with
  | 0, _ | 1, _ | 2, _ | 3, _ | 4, _ | 5, _ | 6, _ | 7, _ => rfl
end Sha
end Go.Proofs.YtbgieephehfgpabDoor
