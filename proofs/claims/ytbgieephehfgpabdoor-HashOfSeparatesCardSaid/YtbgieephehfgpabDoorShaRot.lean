/-
  What math/bits.RotateLeft32 and the program's mix return. Conditions: rotations by 1 to 31.
-/
import Derived.Test.YtbgieephehfgpabDoorPlainSha
import Derived.Test.YtbgieephehfgpabDoorBase
namespace Go.Proofs.YtbgieephehfgpabDoor
open Go Go.RowKit Sha
namespace Sha
/-- a word of 32 bits as Go's -/
def tI (x : W) : Int := (x.toNat : Int)
theorem tI_lo (x : W) : 0 ≤ tI x := by unfold tI; omega
theorem tI_hi (x : W) : tI x < 4294967296 := by unfold tI; have := x.isLt; omega
theorem toNat_lt32 (x : W) : x.toNat < 4294967296 := x.isLt
theorem xor_go (a b : W) : bits .xor .u32 (tI a) (tI b) = tI (wxor a b) := by
  unfold tI wxor; rw [u32_xor_nat _ _ (toNat_lt32 a) (toNat_lt32 b), BitVec.toNat_xor]
theorem and_go (a b : W) : bits .and .u32 (tI a) (tI b) = tI (wand a b) := by
  unfold tI wand; rw [u32_and_nat _ _ (toNat_lt32 a) (toNat_lt32 b), BitVec.toNat_and]
theorem or_go (a b : W) : bits .or .u32 (tI a) (tI b) = tI (wor a b) := by
  unfold tI wor; rw [u32_or_nat _ _ (toNat_lt32 a) (toNat_lt32 b), BitVec.toNat_or]
theorem add_go (a b : W) : (tI a + tI b) % 4294967296 = tI (wadd a b) := by
  unfold tI wadd; rw [BitVec.toNat_add]; omega
theorem shl_go (x : W) (s : Nat) : tI x * 2 ^ s % 4294967296 = ((x <<< s).toNat : Int) := by
  unfold tI
  rw [BitVec.toNat_shiftLeft, Nat.shiftLeft_eq, Int.natCast_emod, Int.natCast_mul]
  congr 2
theorem shr_go (x : W) (s : Nat) : tI x / 2 ^ s = tI (shr x s) := by
  unfold tI shr
  rw [BitVec.toNat_ushiftRight, Nat.shiftRight_eq_div_pow, Int.natCast_ediv]
  congr 1
theorem not_go (x : W) : bits .xor .u32 IntKind.u32.max (tI x) = tI (wnot x) := by
  have h : IntKind.u32.max = tI (BitVec.allOnes 32) := by decide
  rw [h, xor_go]
  unfold wxor wnot
  rw [BitVec.allOnes_xor]
theorem push8_go (x : W) (b : UInt8) : bits .or .u32 (tI x * 256 % 4294967296) (b.toNat : Int) = tI (push8 x b.toNat) := by
  have h1 := shl_go x 8
  have hb := b.toNat_lt
  have h2 : (b.toNat : Int) = tI (BitVec.ofNat 32 b.toNat) := by
    unfold tI; rw [BitVec.toNat_ofNat, Nat.mod_eq_of_lt (by omega)]
  have h3 : tI x * (256 : Int) % (4294967296 : Int) = tI (x <<< 8) := h1
  rw [h3, h2, or_go]; rfl
theorem rot_go (x : W) (n s : Nat) (hs : s + n = 32) : bits .or .u32 (tI x * 2 ^ s % 4294967296) (tI x / 2 ^ (32 - s)) = tI (rotr x n) := by
  obtain rfl : s = 32 - n := by omega
  have e : 32 - (32 - n) = n := by omega
  rw [shl_go, shr_go, e]
  have h := or_go (x <<< (32 - n)) (shr x n)
  unfold tI at h ⊢
  rw [h]
  unfold wor rotr shr
  rw [BitVec.or_comm]
theorem neg_go (n s : Nat) (hn : 1 ≤ n) (hs : s + n = 32) : bits .and .u64 (IntKind.u64.wrap (-(n : Int))) 31 = (s : Int) := by
  rw [IntKind.wrap_u64, u64_and _ _ (by omega) (by omega) (by omega) (by omega)]
  rw [show (31 : Int).toNat = 2 ^ 5 - 1 by rfl, Nat.and_two_pow_sub_one_eq_mod]
  omega
end Sha
set_option maxHeartbeats 400000 in
theorem rot_any (x : W) (n s : Nat) (w : World) (hn : 1 ≤ n) (hn' : n ≤ 31) (hs : s + n = 32) :
    Calls Tryd.prog 80 #[.int .u32 (tI x), .int .i64 (-(n : Int))] w fun e w' => e = .returned (.int .u32 (tI (rotr x n))) ∧ w = w' := by
  have h0 := tI_lo x
  have h1 := tI_hi x
  have hs1 := neg_go n s hn hs
  have hr := rot_go x n s hs
  generalize tI (rotr x n) = y at *
  have Hr := Lib.hid hr
  clear hr
  go_enter Tryd.func80, Tryd.ntmps80
  go_wp2
  go_ret
  exact ⟨ret_int Hr.out, rfl⟩
theorem rot_lit (x : W) (n s : Nat) (k : Int) (w : World) (hk : k = -(n : Int)) (hn : 1 ≤ n) (hn' : n ≤ 31) (hs : s + n = 32) :
    Calls Tryd.prog 80 #[.int .u32 (tI x), .int .i64 k] w fun e w' => e = .returned (.int .u32 (tI (rotr x n))) ∧ w = w' := by
  subst hk; exact rot_any x n s w hn hn' hs
set_option maxHeartbeats 400000 in
theorem mix_any (x : W) (i j k : Nat) (w : World) (hi : 1 ≤ i) (hi' : i ≤ 31) (hj : 1 ≤ j) (hj' : j ≤ 31) (hk : 1 ≤ k) (hk' : k ≤ 31) :
    Calls Tryd.prog 74 #[.int .u32 (tI x), .int .i64 (i : Int), .int .i64 (j : Int), .int .i64 (k : Int)] w fun e w' => e = .returned (.int .u32 (tI (mix x i j k))) ∧ w = w' := by
  have x1 := xor_go (rotr x i) (rotr x j)
  have x2 := xor_go (wxor (rotr x i) (rotr x j)) (rotr x k)
  go_enter Tryd.func74, Tryd.ntmps74
  go_wp2_with (first | (go_at_call 80; ((with_reducible refine (rot_any x i (32 - i) _ hi hi' (by omega)).mono ?_); rintro e w' ⟨rfl, rfl⟩)) | (go_at_call 80; ((with_reducible refine (rot_any x j (32 - j) _ hj hj' (by omega)).mono ?_); rintro e w' ⟨rfl, rfl⟩)) | (go_at_call 80; ((with_reducible refine (rot_any x k (32 - k) _ hk hk' (by omega)).mono ?_); rintro e w' ⟨rfl, rfl⟩)))
  go_ret
  exact ⟨rfl, rfl⟩
end Go.Proofs.YtbgieephehfgpabDoor
