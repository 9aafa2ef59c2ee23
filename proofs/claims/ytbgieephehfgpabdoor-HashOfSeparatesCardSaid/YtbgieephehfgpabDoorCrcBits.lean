/-
  The check's register as Go's 64-bit words hold it: what Go's operators on these words come to, in terms of the vector of 40 bits. Conditions: the words are below 2^40.
-/
import Derived.Test.YtbgieephehfgpabDoorPlainCrc
import Derived.WalkKit
namespace Go.Proofs.YtbgieephehfgpabDoor
open Go
namespace Crc
/-- the register as Go's word -/
def toI (r : R) : Int := (r.toNat : Int)
theorem toI_lo (r : R) : 0 ≤ toI r := by unfold toI; omega
theorem toI_hi (r : R) : toI r < 1099511627776 := by unfold toI; have := r.isLt; omega
theorem toI_ofNat (n : Nat) (h : n < 1099511627776) : toI (BitVec.ofNat 40 n) = (n : Int) := by
  unfold toI; rw [BitVec.toNat_ofNat, Nat.mod_eq_of_lt (by omega)]
theorem and_mask (a : Int) (h0 : 0 ≤ a) (h1 : a < 18446744073709551616) : bits .and .u64 a 1099511627775 = a % 1099511627776 := by
  rw [u64_and a _ h0 h1 (by omega) (by omega)]
  rw [show (1099511627775 : Int).toNat = 2 ^ 40 - 1 by rfl, Nat.and_two_pow_sub_one_eq_mod]
  omega
theorem xor_u64 (a b : Int) (h0 : 0 ≤ a) (h1 : a < 18446744073709551616) (h2 : 0 ≤ b) (h3 : b < 18446744073709551616) : bits .xor .u64 a b = ((a.toNat ^^^ b.toNat : Nat) : Int) := u64_xor a b h0 h1 h2 h3
theorem xor_toI (a b : R) : bits .xor .u64 (toI a) (toI b) = toI (a ^^^ b) := by
  have := toI_lo a; have := toI_hi a; have := toI_lo b; have := toI_hi b
  rw [u64_xor _ _ (by omega) (by omega) (by omega) (by omega)]
  simp [toI]
theorem shl_toI (r : R) (k : Nat) : toI (r <<< k) = (toI r * ((2 ^ k : Nat) : Int)) % 1099511627776 := by
  unfold toI
  rw [BitVec.toNat_shiftLeft, Nat.shiftLeft_eq, Int.natCast_emod, Int.natCast_mul]
  rfl
/-- the nibbles -/
def nibs : List Int := [0x00000000, 0x04820009, 0x09040012, 0x0d86001b, 0x12080024, 0x168a002d, 0x1b0c0036, 0x1f8e003f, 0x24100048, 0x20920041, 0x2d14005a, 0x29960053, 0x3618006c, 0x329a0065, 0x3f1c007e, 0x3b9e0077]
theorem nibs_tab : ∀ j : Fin 16, nibs.getD j.1 0 = toI (BitVec.ofNat 40 (tab.getD j.1 0)) := by decide
/-- the index of the table -/
def idx (r : R) (n : Nat) : Nat := (r.toNat / 68719476736 ^^^ n) % 16
theorem idx_lt (r : R) (n : Nat) : idx r n < 16 := Nat.mod_lt _ (by omega)
theorem idx_go (r : R) (n : Int) (h0 : 0 ≤ n) (h1 : n < 256) : bits .and .u8 (bits .xor .u8 (toI r / 68719476736) n) 15 = (idx r n.toNat : Int) := by
  have := toI_lo r; have := toI_hi r
  rw [u8_xor _ _ (by omega) (by omega) h0 h1]
  have hb : (toI r / 68719476736).toNat ^^^ n.toNat < 2 ^ 8 := Nat.xor_lt_two_pow (by omega) (by omega)
  rw [u8_and _ _ (by omega) (by omega) (by omega) (by omega)]
  rw [show (15 : Int).toNat = 2 ^ 4 - 1 by rfl, Nat.and_two_pow_sub_one_eq_mod, Int.toNat_natCast]
  unfold idx toI
  congr 2
theorem testBit_b4 (x : Nat) : x % 16 = b4 (x.testBit 3) (x.testBit 2) (x.testBit 1) (x.testBit 0) := by
  have h : ∀ m < 16, m = b4 (m.testBit 3) (m.testBit 2) (m.testBit 1) (m.testBit 0) := by decide
  have := h (x % 16) (Nat.mod_lt _ (by omega))
  rw [this]
  simp only [show (16 : Nat) = 2 ^ 4 from rfl, Nat.testBit_mod_two_pow]
  simp
theorem nib_tab (r : R) (n : Nat) : nib r n = (r <<< 4) ^^^ BitVec.ofNat 40 (tab.getD (idx r n) 0) := by
  unfold nib idx
  rw [nib_bits, testBit_b4]
  simp only [Nat.testBit_xor, show (68719476736 : Nat) = 2 ^ 36 from rfl, Nat.testBit_div_two_pow]
  rfl
theorem nib_go (r : R) (n : Nat) : bits .xor .u64 (bits .and .u64 (toI r * 16) 1099511627775) (nibs.getD (idx r n) 0) = toI (nib r n) := by
  have := toI_lo r; have := toI_hi r
  rw [and_mask _ (by omega) (by omega), nib_tab]
  have e : toI r * (16 : Int) % (1099511627776 : Int) = toI (r <<< 4) := by rw [shl_toI]; rfl
  rw [e, nibs_tab ⟨idx r n, idx_lt r n⟩, xor_toI]
theorem msb_go (r : R) : (toI r * 2 / 1099511627776 == 1) = r.getLsbD 39 := by
  have h := r.isLt
  have e : r.getLsbD 39 = decide (r.toNat / 2 ^ 39 % 2 = 1) := by
    rw [BitVec.getLsbD, Nat.testBit_eq_decide_div_mod_eq]
  rw [e, Bool.eq_iff_iff, beq_iff_eq, decide_eq_true_eq]
  unfold toI
  omega
theorem sh1_go (r : R) : bits .and .u64 (toI r * 2) 1099511627775 = toI (r <<< 1) := by
  have := toI_lo r; have := toI_hi r
  rw [and_mask _ (by omega) (by omega), shl_toI]; rfl
theorem X_go1 (r : R) (h : r.getLsbD 39 = true) : bits .xor .u64 (toI (r <<< 1)) (nibs.getD 1 0) = toI (X r) := by
  have e : nibs.getD 1 0 = toI P := by decide
  rw [e, xor_toI]
  unfold X
  rw [if_pos h]
theorem X_go0 (r : R) (h : r.getLsbD 39 = false) : toI r * 2 = toI (X r) := by
  have e : X r = r <<< 1 := by unfold X; rw [h]; simp
  have hm := msb_go r
  rw [h] at hm
  have hm' := beq_eq_false_iff_ne.1 hm
  have := toI_lo r; have := toI_hi r
  rw [e, shl_toI]
  rw [Int.emod_eq_of_lt (by simp; omega) (by simp; omega)]
  rfl
theorem bit_go (b : R) (n : Nat) : (bits .and .u64 (toI b / 2 ^ n) 1 == 1) = b.getLsbD n := by
  have h0 := toI_lo b; have h1 := toI_hi b
  have hd : toI b / 2 ^ n = ((b.toNat / 2 ^ n : Nat) : Int) := by unfold toI; simp
  have hl : b.toNat / 2 ^ n < 18446744073709551616 := Nat.lt_of_le_of_lt (Nat.div_le_self _ _) (by have := b.isLt; omega)
  rw [hd]
  have h2 := u64_and_nat (b.toNat / 2 ^ n) 1 hl (by omega)
  rw [show ((1 : Nat) : Int) = 1 from rfl] at h2
  rw [h2, nat_mask1, BitVec.getLsbD, Nat.testBit_eq_decide_div_mod_eq, Bool.eq_iff_iff, beq_iff_eq, decide_eq_true_eq]
  omega
end Crc
/-- an int and a mask of k low bits -/
theorem i64_mask (n : Int) (k : Nat) (hk : k < 63) : bits .and .i64 n (((2 ^ k - 1 : Nat)) : Int) = n % ((2 ^ k : Nat) : Int) := by
  have hp : 2 ^ k ≤ 2 ^ 62 := Nat.pow_le_pow_right (by omega) (by omega)
  have h0 : 0 < 2 ^ k := Nat.two_pow_pos k
  have hm : (BitVec.ofInt 64 (((2 ^ k - 1 : Nat)) : Int)).toNat = 2 ^ k - 1 := by
    rw [BitVec.toNat_ofInt]; omega
  have key : (BitVec.ofInt 64 n &&& BitVec.ofInt 64 (((2 ^ k - 1 : Nat)) : Int)).toNat = (n % ((2 ^ 64 : Nat) : Int)).toNat % 2 ^ k := by
    rw [BitVec.toNat_and, BitVec.toNat_ofInt, hm, Nat.and_two_pow_sub_one_eq_mod]
  show IntKind.i64.wrap ((BitVec.ofInt 64 n &&& BitVec.ofInt 64 (((2 ^ k - 1 : Nat)) : Int)).toNat : Nat) = _
  rw [key, IntKind.wrap_i64]
  have hd : ((2 ^ k : Nat) : Int) ∣ ((2 ^ 64 : Nat) : Int) := by
    rw [show 2 ^ 64 = 2 ^ k * 2 ^ (64 - k) by rw [← Nat.pow_add]; congr 1; omega, Int.natCast_mul]
    exact Int.dvd_mul_right _ _
  have e : (((n % ((2 ^ 64 : Nat) : Int)).toNat % 2 ^ k : Nat) : Int) = n % ((2 ^ k : Nat) : Int) := by
    rw [Int.natCast_emod, Int.toNat_of_nonneg (Int.emod_nonneg _ (by omega)), Int.emod_emod_of_dvd _ hd]
  rw [e]
  have h1 := Int.emod_nonneg n (b := ((2 ^ k : Nat) : Int)) (by omega)
  have h2 := Int.emod_lt_of_pos n (b := ((2 ^ k : Nat) : Int)) (by omega)
  generalize n % ((2 ^ k : Nat) : Int) = y at *
  generalize 2 ^ k = z at *
  omega
theorem i64_and1 (n : Int) : bits .and .i64 n 1 = n % 2 := i64_mask n 1 (by omega)
theorem i64_and15 (n : Int) : bits .and .i64 n 15 = n % 16 := i64_mask n 4 (by omega)
theorem i64_and40 (n : Int) : bits .and .i64 n 1099511627775 = n % 1099511627776 := i64_mask n 40 (by omega)
theorem i64_and255 (n : Int) : bits .and .i64 n 255 = n % 256 := i64_mask n 8 (by omega)
end Go.Proofs.YtbgieephehfgpabDoor
