/-
  Several texts of this proof in one: PlainCrc, CrcBits, Base, RefPow, PlainPop, PlainSk, PlainSha, ShaRot, ShaArr, Read, ShaSched, Arrays. Each states its own conditions.
-/
import Derived.WalkKit
import Derived.Test.YtbgieephehfgpabDoorProg
import Derived.WalkSpells
import Derived.WalkLawsBesides
import Derived.Deep.QuietTactic
import Derived.BigQuiet
import Derived.Deep.RegionHeld3
import Derived.Deep.RegionWith
import Derived.Deep.DeepCutAuto
import Derived.Deep.LoopGhost
import Derived.Lib.Hide
import Derived.Deep.MidRow
/-
  Plain mathematics of a check of 40 bits: the register as a vector of 40 bits, one bit, four bits, a byte, multiplication modulo the polynomial, and that shifting by n zero bytes is multiplication by the power. No program here. No conditions.
-/
namespace Go.Proofs.YtbgieephehfgpabDoor
namespace Crc
abbrev R := BitVec 40
def P : R := 0x0004820009#40
def top : R := 0x8000000000#40
/-- the register at the beginning -/
def ones : R := BitVec.allOnes 40
/-- multiply by x -/
def X (r : R) : R := (r <<< 1) ^^^ (if r.getLsbD 39 then P else 0#40)
/-- n times -/
def Xn : Nat → R → R
  | 0, r => r
  | n + 1, r => Xn n (X r)
theorem X_xor (a b : R) : X (a ^^^ b) = X a ^^^ X b := by
  unfold X
  rw [BitVec.shiftLeft_xor_distrib, BitVec.getLsbD_xor]
  cases a.getLsbD 39 <;> cases b.getLsbD 39 <;> simp <;> first | ac_rfl | skip
  rw [show a <<< 1 ^^^ P ^^^ (b <<< 1 ^^^ P) = (a <<< 1 ^^^ b <<< 1) ^^^ (P ^^^ P) by ac_rfl]; simp
theorem X_zero : X 0#40 = 0#40 := by decide
theorem Xn_zero (n : Nat) : Xn n 0#40 = 0#40 := by
  induction n with
  | zero => rfl
  | succ n ih => rw [Xn, X_zero, ih]
theorem Xn_xor (n : Nat) : ∀ a b : R, Xn n (a ^^^ b) = Xn n a ^^^ Xn n b := by
  induction n with
  | zero => intro a b; rfl
  | succ n ih => intro a b; rw [Xn, X_xor, ih]; rfl
theorem Xn_add (m n : Nat) : ∀ r : R, Xn (m + n) r = Xn n (Xn m r) := by
  induction m with
  | zero => intro r; rw [Nat.zero_add]; rfl
  | succ m ih => intro r; rw [show m + 1 + n = (m + n) + 1 by omega, Xn, ih]; rfl
theorem Xn_comm (m n : Nat) (r : R) : Xn m (Xn n r) = Xn n (Xn m r) := by
  rw [← Xn_add, ← Xn_add, Nat.add_comm]
theorem X_Xn (n : Nat) (r : R) : X (Xn n r) = Xn n (X r) := Xn_comm 1 n r
theorem Xn_succ' (n : Nat) (r : R) : Xn (n + 1) r = X (Xn n r) := by rw [X_Xn]; rfl
theorem X_inj0 (a : R) (h : X a = 0#40) : a = 0#40 := by
  have h0 : a.getLsbD 39 = false := by
    have := congrArg (fun r : R => r.getLsbD 0) h
    simp [X] at this
    by_cases c : a.getLsbD 39
    · simp [c, P] at this
    · simpa using c
  have h1 : a <<< 1 = 0#40 := by
    unfold X at h
    rw [h0] at h
    simpa using h
  apply BitVec.eq_of_getLsbD_eq
  intro i hi
  by_cases c : i = 39
  · subst c; rw [h0]; simp
  · have := congrArg (fun r : R => r.getLsbD (i + 1)) h1
    simp at this
    have h2 := this (by omega)
    simpa using h2
theorem Xn_inj0 (n : Nat) : ∀ a : R, Xn n a = 0#40 → a = 0#40 := by
  induction n with
  | zero => intro a h; exact h
  | succ n ih => intro a h; exact X_inj0 a (ih _ h)

/-- one bit -/
def stp (r : R) (b : Bool) : R := (r <<< 1) ^^^ (if (r.getLsbD 39 ^^ b) then P else 0#40)
theorem stp_eq (r : R) (b : Bool) : stp r b = X (r ^^^ (if b then top else 0#40)) := by
  unfold stp X
  cases b
  · simp
  · have e : (r ^^^ top) <<< 1 = r <<< 1 := by
      rw [BitVec.shiftLeft_xor_distrib, show top <<< 1 = 0#40 by decide]; simp
    simp only [if_true]
    rw [e, BitVec.getLsbD_xor, show top.getLsbD 39 = true by decide]
/-- the bits of a byte, the most significant one first -/
def byte8 (r : R) (n : Nat) : R :=
  stp (stp (stp (stp (stp (stp (stp (stp r (n.testBit 7)) (n.testBit 6)) (n.testBit 5)) (n.testBit 4)) (n.testBit 3)) (n.testBit 2)) (n.testBit 1)) (n.testBit 0)
/-- the register after four bits -/
def nib (r : R) (n : Nat) : R :=
  stp (stp (stp (stp r (n.testBit 3)) (n.testBit 2)) (n.testBit 1)) (n.testBit 0)
theorem byte8_nib (r : R) (n : Nat) : byte8 r n = nib (nib r (n / 16)) n := by
  have h : ∀ k, (n / 16).testBit k = n.testBit (k + 4) := by
    intro k; rw [show (16 : Nat) = 2 ^ 4 from rfl, Nat.testBit_div_two_pow]
  simp only [byte8, nib, h]

/-- the table -/
def tab : List Nat := [0x00000000, 0x04820009, 0x09040012, 0x0d86001b, 0x12080024, 0x168a002d, 0x1b0c0036, 0x1f8e003f, 0x24100048, 0x20920041, 0x2d14005a, 0x29960053, 0x3618006c, 0x329a0065, 0x3f1c007e, 0x3b9e0077]
def b4 (a b c d : Bool) : Nat := (if a then 8 else 0) + (if b then 4 else 0) + (if c then 2 else 0) + (if d then 1 else 0)
theorem nib_bits (r : R) (a b c d : Bool) : stp (stp (stp (stp r a) b) c) d =
    (r <<< 4) ^^^ BitVec.ofNat 40 (tab.getD (b4 (r.getLsbD 39 ^^ a) (r.getLsbD 38 ^^ b) (r.getLsbD 37 ^^ c) (r.getLsbD 36 ^^ d)) 0) := by
  have g1 : ∀ (x : R) (e : Bool), (stp x e).getLsbD 39 = x.getLsbD 38 := by
    intro x e; unfold stp; cases (x.getLsbD 39 ^^ e) <;> simp [P]
  have g2 : ∀ (x : R) (e : Bool), (stp x e).getLsbD 38 = x.getLsbD 37 := by
    intro x e; unfold stp; cases (x.getLsbD 39 ^^ e) <;> simp [P]
  have g3 : ∀ (x : R) (e : Bool), (stp x e).getLsbD 37 = x.getLsbD 36 := by
    intro x e; unfold stp; cases (x.getLsbD 39 ^^ e) <;> simp [P]
  have s1 : stp r a = (r <<< 1) ^^^ (if (r.getLsbD 39 ^^ a) then P else 0#40) := rfl
  have s2 : stp (stp r a) b = ((stp r a) <<< 1) ^^^ (if (r.getLsbD 38 ^^ b) then P else 0#40) := by rw [← g1 r a]; rfl
  have s3 : stp (stp (stp r a) b) c = ((stp (stp r a) b) <<< 1) ^^^ (if (r.getLsbD 37 ^^ c) then P else 0#40) := by
    rw [← g2 r a, ← g1 (stp r a) b]; rfl
  have s4 : stp (stp (stp (stp r a) b) c) d = ((stp (stp (stp r a) b) c) <<< 1) ^^^ (if (r.getLsbD 36 ^^ d) then P else 0#40) := by
    rw [← g3 r a, ← g2 (stp r a) b, ← g1 (stp (stp r a) b) c]; rfl
  rw [s4, s3, s2, s1]
  have e4 : r <<< 4 = (((r <<< 1) <<< 1) <<< 1) <<< 1 := by simp only [← BitVec.shiftLeft_add]
  rw [e4]
  simp only [BitVec.shiftLeft_xor_distrib, BitVec.xor_assoc]
  congr 1
  generalize (r.getLsbD 39 ^^ a) = f3
  generalize (r.getLsbD 38 ^^ b) = f2
  generalize (r.getLsbD 37 ^^ c) = f1
  generalize (r.getLsbD 36 ^^ d) = f0
  revert f3 f2 f1 f0
  decide

/-- Σ_{i<n} b_i X^i v -/
def S : Nat → R → R → R
  | 0, _, _ => 0#40
  | n + 1, b, v => S n b v ^^^ (if b.getLsbD n then Xn n v else 0#40)
def act (b v : R) : R := S 40 b v
theorem xor4 (a b c d : R) : (a ^^^ b) ^^^ (c ^^^ d) = (a ^^^ c) ^^^ (b ^^^ d) := by ac_rfl
theorem S_xor (n : Nat) (b v w : R) : S n b (v ^^^ w) = S n b v ^^^ S n b w := by
  induction n with
  | zero => simp [S]
  | succ n ih =>
    simp only [S]
    rw [ih, xor4]
    congr 1
    by_cases h : b.getLsbD n <;> simp [h, Xn_xor]
theorem S_xor_left (n : Nat) (b c v : R) : S n (b ^^^ c) v = S n b v ^^^ S n c v := by
  induction n with
  | zero => simp [S]
  | succ n ih =>
    simp only [S]
    rw [ih, xor4]
    congr 1
    rw [BitVec.getLsbD_xor]
    cases b.getLsbD n <;> cases c.getLsbD n <;> simp
theorem S_zero (n : Nat) (b : R) : S n b 0#40 = 0#40 := by
  induction n with
  | zero => rfl
  | succ n ih => simp [S, ih, Xn_zero]
theorem S_Xn (n m : Nat) (b v : R) : S n b (Xn m v) = Xn m (S n b v) := by
  induction n with
  | zero => simp [S, Xn_zero]
  | succ n ih =>
    simp only [S, Xn_xor, ih]
    congr 1
    by_cases h : b.getLsbD n
    · simp [h, Xn_comm n m]
    · simp [h, Xn_zero]
theorem S_S (n m : Nat) (b c v : R) : S n b (S m c v) = S m c (S n b v) := by
  induction m with
  | zero => simp [S, S_zero]
  | succ m ih =>
    simp only [S, S_xor, ih]
    congr 1
    by_cases h : c.getLsbD m
    · simp [h, S_Xn]
    · simp [h, S_zero]
theorem Xn_one : ∀ i : Fin 40, Xn i.1 1#40 = 1#40 <<< i.1 := by decide
theorem S_one (n : Nat) (hn : n ≤ 40) (b : R) : ∀ j, (S n b 1#40).getLsbD j = (decide (j < n) && b.getLsbD j) := by
  induction n with
  | zero => intro j; simp [S]
  | succ n ih =>
    intro j
    have e := Xn_one ⟨n, by omega⟩
    simp only at e
    simp only [S, BitVec.getLsbD_xor, ih (by omega) j]
    have h1 : (1#40 <<< n).getLsbD j = decide (j = n) := by
      simp [BitVec.getLsbD_shiftLeft]
      by_cases c : j = n
      · subst c; simp; omega
      · simp [c]; omega
    by_cases c : j = n
    · subst c
      cases hb : b.getLsbD j <;> simp [e, h1]
    · have h2 : decide (j < n + 1) = decide (j < n) := by simp; omega
      rw [h2]
      cases hb : b.getLsbD n <;> simp [e, h1, c]
theorem act_one (b : R) : act b 1#40 = b := by
  apply BitVec.eq_of_getLsbD_eq
  intro i hi
  unfold act
  rw [S_one 40 (by omega)]
  simp [hi]
theorem act_comm (b v : R) : act b v = act v b := by
  have h : act b (act v 1#40) = act v (act b 1#40) := S_S 40 40 b v 1#40
  rwa [act_one, act_one] at h
theorem act_act (p q v : R) : act (act p q) v = act p (act q v) := by
  rw [act_comm (act p q) v, act_comm q v]
  exact S_S 40 40 v p q
theorem act_Xn (n : Nat) (b v : R) : act b (Xn n v) = Xn n (act b v) := S_Xn 40 n b v
theorem act_Xn_left (n : Nat) (b v : R) : act (Xn n b) v = Xn n (act b v) := by
  rw [act_comm, act_Xn, act_comm]
theorem act_pow8 (v : R) : act (256#40) v = Xn 8 v := by
  have h : (256#40 : R) = Xn 8 1#40 := by decide
  rw [h, act_Xn_left]
  congr 1
  rw [act_comm, act_one]
/-- the loop of times: bits n-1 .. 0 of b are still to come -/
def horner (b a : R) : Nat → R → R
  | 0, out => out
  | n + 1, out => horner b a n (X out ^^^ (if b.getLsbD n then a else 0#40))
theorem horner_eq (b a : R) (n : Nat) : ∀ out, horner b a n out = Xn n out ^^^ S n b a := by
  induction n with
  | zero => intro out; simp [horner, S, Xn]
  | succ n ih =>
    intro out
    simp only [horner, S]
    rw [ih, Xn_xor]
    have h : Xn n (if b.getLsbD n then a else 0#40) = (if b.getLsbD n then Xn n a else 0#40) := by
      by_cases c : b.getLsbD n <;> simp [c, Xn_zero]
    rw [h]
    show Xn n (X out) ^^^ _ ^^^ _ = Xn n (X out) ^^^ _
    ac_rfl
def times (a b : R) : R := horner b a 40 0#40
theorem times_eq (a b : R) : times a b = act b a := by
  unfold times; rw [horner_eq, Xn_zero]; simp [act]
/-- the loop of Join -/
def joinLoop : Nat → R → R → R
  | n, out, power => if h : n = 0 then out else joinLoop (n / 2) (if n % 2 = 1 then times out power else out) (times power power)
termination_by n => n
theorem joinLoop_eq (n : Nat) : ∀ (m : Nat) (out power : R), (∀ v, act power v = Xn m v) → joinLoop n out power = Xn (m * n) out := by
  induction n using Nat.strongRecOn with
  | _ n ih =>
    intro m out power hp
    rw [joinLoop]
    by_cases h : n = 0
    · subst h; simp [Xn]
    · rw [dif_neg h]
      rw [ih (n / 2) (by omega) (m + m)]
      · by_cases c : n % 2 = 1
        · rw [if_pos c, times_eq, hp, ← Xn_add]
          congr 1
          have : n = 2 * (n / 2) + 1 := by omega
          conv => rhs; rw [this]
          rw [Nat.mul_add, Nat.add_mul, ← Nat.mul_assoc, Nat.mul_comm m 2, Nat.two_mul, Nat.add_mul, Nat.mul_one]
          omega
        · rw [if_neg c]
          congr 1
          have : n = 2 * (n / 2) := by omega
          conv => rhs; rw [this]
          rw [← Nat.mul_assoc, Nat.mul_comm m 2, Nat.two_mul]
      · intro v
        rw [times_eq, act_act, hp, hp, ← Xn_add]
theorem join_eq (n : Nat) (a : R) : joinLoop n a 256#40 = Xn (8 * n) a := joinLoop_eq n 8 a 256#40 act_pow8

end Crc
end Go.Proofs.YtbgieephehfgpabDoor
/-
  The check's register as Go's 64-bit words hold it: what Go's operators on these words come to, in terms of the vector of 40 bits. Conditions: the words are below 2^40.
-/
namespace Go.Proofs.YtbgieephehfgpabDoor
open Go
namespace Crc
/-- the register as Go's word -/
def toI (r : R) : Int := (r.toNat : Int)
theorem toI_lo (r : R) : 0 ≤ toI r := by unfold toI; omega
theorem toI_hi (r : R) : toI r < 1099511627776 := by unfold toI; have := r.isLt; omega
theorem toI_ofNat (n : Nat) (h : n < 1099511627776) : toI (BitVec.ofNat 40 n) = (n : Int) := by
  unfold toI; rw [BitVec.toNat_ofNat, Nat.mod_eq_of_lt (by omega)]
theorem and_mask (a : Int) (h0 : 0 ≤ a) (h1 : a < 18446744073709551616) : bits .and .u64 a 1099511627775 = a % 1099511627776 := by
  rw [u64_and a _ h0 h1 (by omega) (by omega)]
  rw [show (1099511627775 : Int).toNat = 2 ^ 40 - 1 by rfl, Nat.and_two_pow_sub_one_eq_mod]
  omega
theorem xor_u64 (a b : Int) (h0 : 0 ≤ a) (h1 : a < 18446744073709551616) (h2 : 0 ≤ b) (h3 : b < 18446744073709551616) : bits .xor .u64 a b = ((a.toNat ^^^ b.toNat : Nat) : Int) := u64_xor a b h0 h1 h2 h3
theorem xor_toI (a b : R) : bits .xor .u64 (toI a) (toI b) = toI (a ^^^ b) := by
  have := toI_lo a; have := toI_hi a; have := toI_lo b; have := toI_hi b
  rw [u64_xor _ _ (by omega) (by omega) (by omega) (by omega)]
  simp [toI]
theorem shl_toI (r : R) (k : Nat) : toI (r <<< k) = (toI r * ((2 ^ k : Nat) : Int)) % 1099511627776 := by
  unfold toI
  rw [BitVec.toNat_shiftLeft, Nat.shiftLeft_eq, Int.natCast_emod, Int.natCast_mul]
  rfl
/-- the nibbles -/
def nibs : List Int := [0x00000000, 0x04820009, 0x09040012, 0x0d86001b, 0x12080024, 0x168a002d, 0x1b0c0036, 0x1f8e003f, 0x24100048, 0x20920041, 0x2d14005a, 0x29960053, 0x3618006c, 0x329a0065, 0x3f1c007e, 0x3b9e0077]
theorem nibs_tab : ∀ j : Fin 16, nibs.getD j.1 0 = toI (BitVec.ofNat 40 (tab.getD j.1 0)) := by decide
/-- the index of the table -/
def idx (r : R) (n : Nat) : Nat := (r.toNat / 68719476736 ^^^ n) % 16
theorem idx_lt (r : R) (n : Nat) : idx r n < 16 := Nat.mod_lt _ (by omega)
theorem idx_go (r : R) (n : Int) (h0 : 0 ≤ n) (h1 : n < 256) : bits .and .u8 (bits .xor .u8 (toI r / 68719476736) n) 15 = (idx r n.toNat : Int) := by
  have := toI_lo r; have := toI_hi r
  rw [u8_xor _ _ (by omega) (by omega) h0 h1]
  have hb : (toI r / 68719476736).toNat ^^^ n.toNat < 2 ^ 8 := Nat.xor_lt_two_pow (by omega) (by omega)
  rw [u8_and _ _ (by omega) (by omega) (by omega) (by omega)]
  rw [show (15 : Int).toNat = 2 ^ 4 - 1 by rfl, Nat.and_two_pow_sub_one_eq_mod, Int.toNat_natCast]
  unfold idx toI
  congr 2
theorem testBit_b4 (x : Nat) : x % 16 = b4 (x.testBit 3) (x.testBit 2) (x.testBit 1) (x.testBit 0) := by
  have h : ∀ m < 16, m = b4 (m.testBit 3) (m.testBit 2) (m.testBit 1) (m.testBit 0) := by decide
  have := h (x % 16) (Nat.mod_lt _ (by omega))
  rw [this]
  simp only [show (16 : Nat) = 2 ^ 4 from rfl, Nat.testBit_mod_two_pow]
  simp
theorem nib_tab (r : R) (n : Nat) : nib r n = (r <<< 4) ^^^ BitVec.ofNat 40 (tab.getD (idx r n) 0) := by
  unfold nib idx
  rw [nib_bits, testBit_b4]
  simp only [Nat.testBit_xor, show (68719476736 : Nat) = 2 ^ 36 from rfl, Nat.testBit_div_two_pow]
  rfl
theorem nib_go (r : R) (n : Nat) : bits .xor .u64 (bits .and .u64 (toI r * 16) 1099511627775) (nibs.getD (idx r n) 0) = toI (nib r n) := by
  have := toI_lo r; have := toI_hi r
  rw [and_mask _ (by omega) (by omega), nib_tab]
  have e : toI r * (16 : Int) % (1099511627776 : Int) = toI (r <<< 4) := by rw [shl_toI]; rfl
  rw [e, nibs_tab ⟨idx r n, idx_lt r n⟩, xor_toI]
theorem msb_go (r : R) : (toI r * 2 / 1099511627776 == 1) = r.getLsbD 39 := by
  have h := r.isLt
  have e : r.getLsbD 39 = decide (r.toNat / 2 ^ 39 % 2 = 1) := by
    rw [BitVec.getLsbD, Nat.testBit_eq_decide_div_mod_eq]
  rw [e, Bool.eq_iff_iff, beq_iff_eq, decide_eq_true_eq]
  unfold toI
  omega
theorem sh1_go (r : R) : bits .and .u64 (toI r * 2) 1099511627775 = toI (r <<< 1) := by
  have := toI_lo r; have := toI_hi r
  rw [and_mask _ (by omega) (by omega), shl_toI]; rfl
theorem X_go1 (r : R) (h : r.getLsbD 39 = true) : bits .xor .u64 (toI (r <<< 1)) (nibs.getD 1 0) = toI (X r) := by
  have e : nibs.getD 1 0 = toI P := by decide
  rw [e, xor_toI]
  unfold X
  rw [if_pos h]
theorem X_go0 (r : R) (h : r.getLsbD 39 = false) : toI r * 2 = toI (X r) := by
  have e : X r = r <<< 1 := by unfold X; rw [h]; simp
  have hm := msb_go r
  rw [h] at hm
  have hm' := beq_eq_false_iff_ne.1 hm
  have := toI_lo r; have := toI_hi r
  rw [e, shl_toI]
  rw [Int.emod_eq_of_lt (by simp; omega) (by simp; omega)]
  rfl
theorem bit_go (b : R) (n : Nat) : (bits .and .u64 (toI b / 2 ^ n) 1 == 1) = b.getLsbD n := by
  have h0 := toI_lo b; have h1 := toI_hi b
  have hd : toI b / 2 ^ n = ((b.toNat / 2 ^ n : Nat) : Int) := by unfold toI; simp
  have hl : b.toNat / 2 ^ n < 18446744073709551616 := Nat.lt_of_le_of_lt (Nat.div_le_self _ _) (by have := b.isLt; omega)
  rw [hd]
  have h2 := u64_and_nat (b.toNat / 2 ^ n) 1 hl (by omega)
  rw [show ((1 : Nat) : Int) = 1 from rfl] at h2
  rw [h2, nat_mask1, BitVec.getLsbD, Nat.testBit_eq_decide_div_mod_eq, Bool.eq_iff_iff, beq_iff_eq, decide_eq_true_eq]
  omega
end Crc
/-- an int and a mask of k low bits -/
theorem i64_mask (n : Int) (k : Nat) (hk : k < 63) : bits .and .i64 n (((2 ^ k - 1 : Nat)) : Int) = n % ((2 ^ k : Nat) : Int) := by
  have hp : 2 ^ k ≤ 2 ^ 62 := Nat.pow_le_pow_right (by omega) (by omega)
  have h0 : 0 < 2 ^ k := Nat.two_pow_pos k
  have hm : (BitVec.ofInt 64 (((2 ^ k - 1 : Nat)) : Int)).toNat = 2 ^ k - 1 := by
    rw [BitVec.toNat_ofInt]; omega
  have key : (BitVec.ofInt 64 n &&& BitVec.ofInt 64 (((2 ^ k - 1 : Nat)) : Int)).toNat = (n % ((2 ^ 64 : Nat) : Int)).toNat % 2 ^ k := by
    rw [BitVec.toNat_and, BitVec.toNat_ofInt, hm, Nat.and_two_pow_sub_one_eq_mod]
  show IntKind.i64.wrap ((BitVec.ofInt 64 n &&& BitVec.ofInt 64 (((2 ^ k - 1 : Nat)) : Int)).toNat : Nat) = _
  rw [key, IntKind.wrap_i64]
  have hd : ((2 ^ k : Nat) : Int) ∣ ((2 ^ 64 : Nat) : Int) := by
    rw [show 2 ^ 64 = 2 ^ k * 2 ^ (64 - k) by rw [← Nat.pow_add]; congr 1; omega, Int.natCast_mul]
    exact Int.dvd_mul_right _ _
  have e : (((n % ((2 ^ 64 : Nat) : Int)).toNat % 2 ^ k : Nat) : Int) = n % ((2 ^ k : Nat) : Int) := by
    rw [Int.natCast_emod, Int.toNat_of_nonneg (Int.emod_nonneg _ (by omega)), Int.emod_emod_of_dvd _ hd]
  rw [e]
  have h1 := Int.emod_nonneg n (b := ((2 ^ k : Nat) : Int)) (by omega)
  have h2 := Int.emod_lt_of_pos n (b := ((2 ^ k : Nat) : Int)) (by omega)
  generalize n % ((2 ^ k : Nat) : Int) = y at *
  generalize 2 ^ k = z at *
  omega
theorem i64_and1 (n : Int) : bits .and .i64 n 1 = n % 2 := i64_mask n 1 (by omega)
theorem i64_and15 (n : Int) : bits .and .i64 n 15 = n % 16 := i64_mask n 4 (by omega)
theorem i64_and40 (n : Int) : bits .and .i64 n 1099511627775 = n % 1099511627776 := i64_mask n 40 (by omega)
theorem i64_and255 (n : Int) : bits .and .i64 n 255 = n % 256 := i64_mask n 8 (by omega)
end Go.Proofs.YtbgieephehfgpabDoor
/-
  Words for the walks of this seat: what the program's tables hold in memory ('Tabs'), and that it holds on when blocks are made ('Below'). No conditions.
-/
namespace Go.Proofs.YtbgieephehfgpabDoor
open Go Go.RowKit
/-- the round constants of SHA-256 -/
def kons : List Int := [1116352408, 1899447441, 3049323471, 3921009573, 961987163, 1508970993, 2453635748, 2870763221, 3624381080, 310598401, 607225278, 1426881987, 1925078388, 2162078206, 2614888103, 3248222580, 3835390401, 4022224774, 264347078, 604807628, 770255983, 1249150122, 1555081692, 1996064986, 2554220882, 2821834349, 2952996808, 3210313671, 3336571891, 3584528711, 113926993, 338241895, 666307205, 773529912, 1294757372, 1396182291, 1695183700, 1986661051, 2177026350, 2456956037, 2730485921, 2820302411, 3259730800, 3345764771, 3516065817, 3600352804, 4094571909, 275423344, 430227734, 506948616, 659060556, 883997877, 958139571, 1322822218, 1537002063, 1747873779, 1955562222, 2024104815, 2227730452, 2361852424, 2428436474, 2756734187, 3204031479, 3329325298]
/-- what the program's table of round constants holds -/
structure TabC (w : World) : Prop where
  con : ∀ i, i < 64 → w.cell? ⟨0, i, none⟩ = some (.int .u32 (kons.getD i 0))
/-- what the program's tables hold -/
structure Tabs (w : World) : Prop where
  nib : ∀ i, i < 16 → w.cell? ⟨1, i, none⟩ = some (.int .u64 (Crc.nibs.getD i 0))
  c : TabC w
theorem lt_of_cell {w : World} {b i : Nat} {v : Value} (h : w.cell? ⟨b, i, none⟩ = some v) : b < w.heap.size := by
  refine Nat.lt_of_not_le fun hge => ?_
  unfold World.cell? at h
  rw [Array.getElem?_eq_none hge] at h
  cases h
theorem TabC.below {w w' : World} (h : TabC w) (hb : Below w.heap.size w w') : TabC w' :=
  ⟨fun i hi => (hb.cell (p := ⟨0, i, none⟩) (lt_of_cell (h.con i hi))).trans (h.con i hi)⟩
theorem Tabs.below {w w' : World} (h : Tabs w) (hb : Below w.heap.size w w') : Tabs w' :=
  ⟨fun i hi => (hb.cell (p := ⟨1, i, none⟩) (lt_of_cell (h.nib i hi))).trans (h.nib i hi), h.c.below hb⟩
theorem below_alloc1 (w : World) (o : Obj) : Below w.heap.size w (w.alloc o) := (Below.refl _ _).alloc (Nat.le_refl _) o
/-- two steps that make blocks -/
theorem below_then {a b c : World} (h : Below a.heap.size a b) (k : Below b.heap.size b c) : Below a.heap.size a c := h.trans (k.mono h.size)
theorem TabC.drew {w : World} (h : TabC w) : TabC w.drew := h.below (Below.refl _ _).drew
theorem TabC.alloc {w : World} (h : TabC w) (o : Obj) : TabC (w.alloc o) := h.below (below_alloc1 w o)
theorem Tabs.drew {w : World} (h : Tabs w) : Tabs w.drew := h.below (Below.refl _ _).drew
theorem Tabs.alloc {w : World} (h : Tabs w) (o : Obj) : Tabs (w.alloc o) := h.below (below_alloc1 w o)
/-- the cells of a stream's zero value, under a name that a walk does not open -/
def zcStream : Array Value := (List.replicate 8 (Value.int .u32 0) ++ List.replicate 64 (Value.int .u8 0) ++ [Value.int .u64 0]).toArray
@[simp high] theorem zv_stream (w : World) : (zeroValue 70).run Tryd.prog w = .ok (.agg zcStream) w := by kernel_rfl
theorem zcStream_size : zcStream.size = 73 := by kernel_rfl
@[simp] theorem zcStream_ne : zcStream ≠ #[] := by
  intro h
  have := zcStream_size
  rw [h] at this
  simp at this
theorem ret_agg1 {k : IntKind} {a b : Int} (h : a = b) : Ending.returned (.agg #[.int k a]) = .returned (.agg #[.int k b]) := by rw [h]
theorem ret_int {k : IntKind} {a b : Int} (h : a = b) : Ending.returned (.int k a) = .returned (.int k b) := by rw [h]
theorem ret_bool {a b : Bool} (h : a = b) : Ending.returned (.bool a) = .returned (.bool b) := by rw [h]

/-- a whole block of cells, not frozen -/
abbrev Blk (w : World) (b : Nat) (cs : Array Value) (t : TypeId) : Prop := w.heap[b]? = some (.cells cs t (0, 0))
theorem blk_lt {w : World} {b : Nat} {x : Obj} (h : w.heap[b]? = some x) : b < w.heap.size := lt_of_block h
theorem blk_new (w : World) (cs : Array Value) (t : TypeId) : Blk (w.alloc (.cells cs t)) w.heap.size cs t := heap_alloc_new w _
theorem blk_alloc {w : World} {b : Nat} {x : Obj} (h : w.heap[b]? = some x) (o : Obj) : (w.alloc o).heap[b]? = some x := by
  have hl := blk_lt h
  show (w.heap.push o)[b]? = _
  rw [Array.getElem?_push_lt hl, ← Array.getElem?_eq_getElem hl]; exact h
theorem blk_new2 (w : World) (o : Obj) (cs : Array Value) (t : TypeId) : Blk ((w.alloc o).alloc (.cells cs t)) (w.heap.size + 1) cs t := by
  have h := blk_new (w.alloc o) cs t
  rw [World.size_alloc] at h
  exact h
theorem blk_drew {w : World} {b : Nat} {x : Obj} (h : w.heap[b]? = some x) : w.drew.heap[b]? = some x := h
theorem blk_below {w w' : World} {b B : Nat} {x : Obj} (h : w.heap[b]? = some x) (hb : Below B w w') (hB : b < B) : w'.heap[b]? = some x := (hb.block b hB).trans h
theorem blk_kept {w w' : World} {b : Nat} {x : Obj} (h : w.heap[b]? = some x) (hb : Below w.heap.size w w') : w'.heap[b]? = some x := blk_below h hb (blk_lt h)
theorem blk_cell {w : World} {b : Nat} {cs : Array Value} {t : TypeId} {fr : Nat × Nat} (h : w.heap[b]? = some (.cells cs t fr)) (i : Nat) : w.cell? ⟨b, i, none⟩ = cs[i]? := by simp [World.cell?, h]
theorem blk_free {w : World} {b : Nat} {cs : Array Value} {t : TypeId} (h : Blk w b cs t) (i : Nat) : w.frozen? ⟨b, i, none⟩ = false := by simp [World.frozen?, h]
theorem blk_set {w : World} {b : Nat} {cs : Array Value} {t : TypeId} {fr : Nat × Nat} (h : w.heap[b]? = some (.cells cs t fr)) (i : Nat) (v : Value) : (w.setCell ⟨b, i, none⟩ v).heap[b]? = some (.cells (cs.setIfInBounds i v) t fr) := by
  have hlt := blk_lt h
  have h' : w.heap[b] = .cells cs t fr := by simpa [Array.getElem?_eq_getElem hlt] using h
  show (w.heap.modify b _)[b]? = _
  rw [Array.getElem?_eq_getElem (by simpa using hlt), Array.getElem_modify_self, h']
  rfl
theorem blk_far {w : World} {b : Nat} {x : Obj} (h : w.heap[b]? = some x) {p : Addr} (hne : b ≠ p.block) (v : Value) : (w.setCell p v).heap[b]? = some x := by
  rw [Below.heap_setCell _ _ _ _ hne]; exact h
theorem blk_setRow {w : World} {g : Nat} {old : Array Value} {t : TypeId} {fr : Nat × Nat} (h : w.heap[g]? = some (.cells old t fr)) (cs : Array Value) : (w.setRow g cs).heap[g]? = some (.cells cs t fr) := setRow_heap w g old cs t fr h
theorem heap_setRow_far (w : World) (g : Nat) (cs : Array Value) (b : Nat) (hne : b ≠ g) : (w.setRow g cs).heap[b]? = w.heap[b]? := by
  simp only [World.setRow, Array.getElem?_modify]
  rw [if_neg (by omega)]
theorem blk_setRow_far {w : World} {b : Nat} {x : Obj} (h : w.heap[b]? = some x) (g : Nat) (hne : b ≠ g) (cs : Array Value) : (w.setRow g cs).heap[b]? = some x := (heap_setRow_far w g cs b hne).trans h
theorem below_setRow {B : Nat} {a w : World} (h : Below B a w) {g : Nat} (hg : B ≤ g) (cs : Array Value) : Below B a (w.setRow g cs) :=
  h.trans ⟨rfl, rfl, rfl, by simp [World.setRow], fun k hk => heap_setRow_far _ _ _ _ (by omega)⟩
theorem byte_bd (b : UInt8) : 0 ≤ (b.toNat : Int) ∧ (b.toNat : Int) < 256 := ⟨by omega, by have := b.toNat_lt; omega⟩
theorem byte_div (b : UInt8) : 0 ≤ (b.toNat : Int) / 16 ∧ (b.toNat : Int) / 16 < 256 := ⟨by omega, by have := b.toNat_lt; omega⟩
/-- behind a call that was made when one, two blocks had been laid -/
theorem after1 {w w1 : World} {o1 : Obj} (hw : Below (w.alloc o1).heap.size (w.alloc o1) w1) : Below w.heap.size w w1 ∧ w1.heap[w.heap.size]? = some o1 ∧ w.heap.size < w1.heap.size := by
  have hz := hw.size
  rw [World.size_alloc] at hz
  exact ⟨(below_alloc1 w o1).trans (hw.mono (by rw [World.size_alloc]; omega)), blk_kept (heap_alloc_new w o1) hw, by omega⟩
theorem after2 {w w1 : World} {o1 o2 : Obj} (hw : Below ((w.alloc o1).alloc o2).heap.size ((w.alloc o1).alloc o2) w1) : Below w.heap.size w w1 ∧ w1.heap[w.heap.size]? = some o1 ∧ w1.heap[w.heap.size + 1]? = some o2 ∧ w.heap.size + 1 < w1.heap.size := by
  obtain ⟨h1, h2, h3⟩ := after1 hw
  have hk := blk_below (heap_alloc_new w o1) h1 (by rw [World.size_alloc]; omega)
  rw [World.size_alloc] at h2 h3
  exact ⟨(below_alloc1 w o1).trans (h1.mono (by rw [World.size_alloc]; omega)), hk, h2, h3⟩
/-- old cells and old marks read as before -/
theorem bcell {W w1 : World} (hb : Below W.heap.size W w1) : (∀ b o, b < W.heap.size → w1.cell? ⟨b, o, none⟩ = W.cell? ⟨b, o, none⟩) ∧ (∀ b o, b < W.heap.size → w1.frozen? ⟨b, o, none⟩ = W.frozen? ⟨b, o, none⟩) :=
  ⟨fun b o h => hb.cell (p := ⟨b, o, none⟩) h, fun b o h => hb.frozen (p := ⟨b, o, none⟩) h⟩
end Go.Proofs.YtbgieephehfgpabDoor
/-
  What the reference's power returns: whether a number is a power of two. No conditions.
-/
namespace Go.Proofs.YtbgieephehfgpabDoor
open Go Go.RowKit
/-- a power of two that an int can hold -/
def isPow (n : Int) : Bool := (List.range 63).any fun k => n == ((2 ^ k : Nat) : Int)
theorem isPow_iff (n : Int) : isPow n = true ↔ ∃ k, k < 63 ∧ n = ((2 ^ k : Nat) : Int) := by
  simp [isPow]
/-- the loop's variable after j rounds -/
def dbl (j : Nat) : Int := if j < 63 then ((2 ^ j : Nat) : Int) else -9223372036854775808
theorem dbl_step : ∀ j : Fin 63, IntKind.i64.wrap (dbl j.1 * 2) = dbl (j.1 + 1) := by decide +kernel
theorem dbl_pos : ∀ j : Fin 63, 0 < dbl j.1 ∧ dbl j.1 ≤ 4611686018427387904 := by decide +kernel
theorem dbl_eq (j : Nat) (h : j < 63) : dbl j = ((2 ^ j : Nat) : Int) := by simp [dbl, h]
def lgOf (v : Value) : Nat := match v with | .int _ n => if n < 0 then 63 else Nat.log2 n.toNat | _ => 0
theorem lg_dbl : ∀ j : Fin 64, lgOf (.int .i64 (dbl j.1)) = j.1 := by decide +kernel
theorem not_pow (n : Int) (j : Nat) (hne : ∀ i, i < j → n ≠ ((2 ^ i : Nat) : Int)) (h : 63 ≤ j ∨ n < ((2 ^ j : Nat) : Int)) : isPow n = false := by
  cases hp : isPow n with
  | false => rfl
  | true =>
    obtain ⟨k, hk, rfl⟩ := (isPow_iff n).1 hp
    rcases Nat.lt_or_ge k j with h1 | h1
    · exact absurd rfl (hne k h1)
    · rcases h with h2 | h2
      · omega
      · have := Nat.pow_le_pow_right (show 0 < 2 by omega) h1
        omega
set_option maxRecDepth 100000 in
set_option maxHeartbeats 1000000 in
theorem rpower_any (n : Int) (w : World) :
    Calls Tryd.prog 53 #[.int .i64 n] w fun e w' => e = .returned (.bool (isPow n)) ∧ w = w' := by
  go_enter Tryd.func53, Tryd.ntmps53
  go_wp2
  go_loopw [3] (fun v wr => ∃ j : Nat, j ≤ 63 ∧ v = .int .i64 (dbl j) ∧ (∀ i, i < j → n ≠ ((2 ^ i : Nat) : Int)) ∧ w = wr) (fun v _ => 63 - lgOf v)
  case atStart => exact ⟨0, by omega, rfl, fun i hi => absurd hi (by omega), rfl⟩
  case round =>
    obtain ⟨j, hj, rfl, hne, rfl⟩ := hrel
    have hlg := lg_dbl ⟨j, by omega⟩
    by_cases h63 : j < 63
    · have hd := dbl_eq j h63
      have hp := dbl_pos ⟨j, h63⟩
      have hst := dbl_step ⟨j, h63⟩
      have hlg2 := lg_dbl ⟨j + 1, by omega⟩
      simp only at hlg hp hst hlg2
      rcases Int.lt_trichotomy n (dbl j) with hlt | heq | hgt
      · have hnp := not_pow n j hne (.inr (by rw [← hd]; exact hlt))
        have Hnp := Lib.hid hnp
        obtain ⟨hp1, hp2⟩ := hp
        clear hnp hne hst hlg hlg2 hd
        generalize dbl j = d at *
        have hle : decide (d ≤ n) = false := by simp; omega
        go_wp2
        go_ret
        exact ⟨by rw [Hnp.out]; rfl, rfl⟩
      · have hip : isPow n = true := (isPow_iff n).2 ⟨j, h63, by rw [heq, hd]⟩
        have Hip := Lib.hid hip
        obtain ⟨hp1, hp2⟩ := hp
        clear hip hne hst hlg hlg2 hd
        generalize dbl j = d at *
        subst heq
        go_wp2
        go_ret
        exact ⟨by rw [Hip.out]; rfl, rfl⟩
      · have hnn : ∀ i, i < j + 1 → n ≠ ((2 ^ i : Nat) : Int) := fun i hi => by
          rcases Nat.lt_or_ge i j with h | h
          · exact hne i h
          · obtain rfl : i = j := by omega
            rw [← hd]; omega
        have Hnn := Lib.hid hnn
        have Hlg := Lib.hid hlg
        have Hlg2 := Lib.hid hlg2
        obtain ⟨hp1, hp2⟩ := hp
        clear hnn hne hlg hlg2 hd
        generalize hd : dbl j = d at *
        generalize hd' : dbl (j + 1) = d' at *
        have Hd' := Lib.hid hd'
        clear hd hd'
        have hle : decide (d ≤ n) = true := by simp; omega
        have hne2 : decide (d = n) = false := by simp; omega
        go_wp2
        go_roundw
        case rel => exact ⟨j + 1, by omega, by rw [Hd'.out], Hnn.out, trivial⟩
        case measure =>
          show 63 - lgOf (.int .i64 d') < 63 - lgOf (.int .i64 d)
          rw [Hlg.out, Hlg2.out]
          omega
    · obtain rfl : j = 63 := by omega
      have hnp := not_pow n 63 hne (.inl (Nat.le_refl _))
      have Hnp := Lib.hid hnp
      clear hnp hne hlg
      have hd : dbl 63 = -9223372036854775808 := rfl
      go_wp2
      go_ret
      exact ⟨by rw [Hnp.out]; rfl, rfl⟩
end Go.Proofs.YtbgieephehfgpabDoor
/-
  Plain mathematics: how many bits of a number are one, by Go's way of adding neighbours (math/bits.OnesCount64). No conditions.
-/
namespace Go.Proofs.YtbgieephehfgpabDoor
namespace Pop
/-- the ones among the lowest f bits -/
def pop : Nat → Nat → Nat
  | 0, _ => 0
  | f + 1, x => x % 2 + pop f (x / 2)
theorem pop_zero (f : Nat) : pop f 0 = 0 := by induction f with
  | zero => rfl
  | succ f ih => simp [pop, ih]
theorem pop_eq_zero (f : Nat) : ∀ x, x < 2 ^ f → pop f x = 0 → x = 0 := by
  induction f with
  | zero => intro x h _; omega
  | succ f ih =>
    intro x h h0
    rw [pop] at h0
    rw [Nat.pow_succ] at h
    have := ih (x / 2) (by omega) (by omega)
    omega
theorem pop_eq_one (f : Nat) : ∀ x, x < 2 ^ f → (pop f x = 1 ↔ ∃ k, k < f ∧ x = 2 ^ k) := by
  induction f with
  | zero => intro x h; constructor
            · intro h1; simp [pop] at h1
            · rintro ⟨k, hk, _⟩; omega
  | succ f ih =>
    intro x h
    rw [Nat.pow_succ] at h
    have h2 := ih (x / 2) (by omega)
    rw [pop]
    rcases Nat.mod_two_eq_zero_or_one x with h0 | h0
    · rw [h0, Nat.zero_add, h2]
      constructor
      · rintro ⟨k, hk, he⟩
        exact ⟨k + 1, by omega, by rw [Nat.pow_succ]; omega⟩
      · rintro ⟨k, hk, he⟩
        cases k with
        | zero => rw [he] at h0; simp at h0
        | succ k => exact ⟨k, by omega, by rw [he, Nat.pow_succ]; omega⟩
    · rw [h0]
      constructor
      · intro h1
        have h3 := pop_eq_zero f (x / 2) (by omega) (by omega)
        exact ⟨0, by omega, by rw [Nat.pow_zero]; omega⟩
      · rintro ⟨k, hk, he⟩
        cases k with
        | zero =>
          have : x / 2 = 0 := by rw [he]
          rw [this, pop_zero]
        | succ k =>
          rw [he, Nat.pow_succ] at h0
          omega
theorem and_split (a b k : Nat) : a &&& b = (a % 2 ^ k &&& b % 2 ^ k) + 2 ^ k * (a / 2 ^ k &&& b / 2 ^ k) := by
  rw [← Nat.and_mod_two_pow, ← Nat.and_div_two_pow]
  exact (Nat.mod_add_div _ _).symm
theorem and16 (a b : Nat) : a &&& b = (a % 16 &&& b % 16) + 16 * (a / 16 &&& b / 16) := and_split a b 4
theorem and256 (a b : Nat) : a &&& b = (a % 256 &&& b % 256) + 256 * (a / 256 &&& b / 256) := and_split a b 8
/-- the mask whose n nibbles are m -/
def msk (m : Nat) : Nat → Nat
  | 0 => 0
  | n + 1 => m + 16 * msk m n
def s1 (x n : Nat) : Nat := (x / 2 &&& msk 5 n) + (x &&& msk 5 n)
def s2 (x n : Nat) : Nat := (x / 4 &&& msk 3 n) + (x &&& msk 3 n)
theorem nib1 : ∀ r : Fin 32, (r.1 / 2 % 16 &&& 5) + (r.1 % 16 &&& 5) = (r.1 % 16 / 2 &&& 5) + (r.1 % 16 &&& 5) := by decide
theorem nib2 : ∀ r : Fin 64, (r.1 / 4 % 16 &&& 3) + (r.1 % 16 &&& 3) = (r.1 % 16 / 4 &&& 3) + (r.1 % 16 &&& 3) := by decide
theorem s1_step (x n : Nat) : s1 x (n + 1) = ((x % 16 / 2 &&& 5) + (x % 16 &&& 5)) + 16 * s1 (x / 16) n := by
  unfold s1
  have h := nib1 ⟨x % 32, Nat.mod_lt _ (by omega)⟩
  simp only at h
  rw [and16 (x / 2), and16 x (msk 5 (n + 1))]
  have e1 : msk 5 (n + 1) % 16 = 5 := by simp [msk] <;> omega
  have e2 : msk 5 (n + 1) / 16 = msk 5 n := by simp [msk] <;> omega
  have e3 : x / 2 / 16 = x / 16 / 2 := by omega
  have e4 : x % 32 / 2 % 16 = x / 2 % 16 := by omega
  have e5 : x % 32 % 16 = x % 16 := by omega
  rw [e4, e5] at h
  rw [e1, e2, e3]
  omega
theorem s2_step (x n : Nat) : s2 x (n + 1) = ((x % 16 / 4 &&& 3) + (x % 16 &&& 3)) + 16 * s2 (x / 16) n := by
  unfold s2
  have h := nib2 ⟨x % 64, Nat.mod_lt _ (by omega)⟩
  simp only at h
  rw [and16 (x / 4), and16 x (msk 3 (n + 1))]
  have e1 : msk 3 (n + 1) % 16 = 3 := by simp [msk] <;> omega
  have e2 : msk 3 (n + 1) / 16 = msk 3 n := by simp [msk] <;> omega
  have e3 : x / 4 / 16 = x / 16 / 4 := by omega
  have e4 : x % 64 / 4 % 16 = x / 4 % 16 := by omega
  have e5 : x % 64 % 16 = x % 16 := by omega
  rw [e4, e5] at h
  rw [e1, e2, e3]
  omega
/-- the nibbles' counts, in their places -/
def nibs (x : Nat) : Nat → Nat
  | 0 => 0
  | n + 1 => pop 4 x + 16 * nibs (x / 16) n
theorem s1_nib : ∀ r : Fin 16, (r.1 / 2 &&& 5) + (r.1 &&& 5) < 16 ∧ (((r.1 / 2 &&& 5) + (r.1 &&& 5)) / 4 &&& 3) + (((r.1 / 2 &&& 5) + (r.1 &&& 5)) &&& 3) = pop 4 r.1 := by decide
theorem pop4_mod (x : Nat) : pop 4 (x % 16) = pop 4 x := by simp only [pop]; omega
theorem s2_s1 (n : Nat) : ∀ x, s2 (s1 x n) n = nibs x n := by
  induction n with
  | zero => intro x; simp [s1, s2, msk, nibs]
  | succ n ih =>
    intro x
    have h := s1_nib ⟨x % 16, Nat.mod_lt _ (by omega)⟩
    simp only at h
    rw [s1_step, s2_step, nibs, ← ih (x / 16), ← pop4_mod x, ← h.2]
    have e1 : ((x % 16 / 2 &&& 5) + (x % 16 &&& 5) + 16 * s1 (x / 16) n) % 16 = (x % 16 / 2 &&& 5) + (x % 16 &&& 5) := by omega
    have e2 : ((x % 16 / 2 &&& 5) + (x % 16 &&& 5) + 16 * s1 (x / 16) n) / 16 = s1 (x / 16) n := by omega
    rw [e1, e2]
theorem pop4_le (x : Nat) : pop 4 x ≤ 4 := by simp only [pop]; omega
theorem pop8_split (x : Nat) : pop 8 x = pop 4 x + pop 4 (x / 16) := by
  simp only [pop, Nat.div_div_eq_div_mul]
  omega
theorem nibs_mod (x n : Nat) : nibs x n % 16 ≤ 4 := by
  cases n with
  | zero => simp [nibs]
  | succ n => rw [nibs]; have := pop4_le x; omega
def mskB : Nat → Nat
  | 0 => 0
  | n + 1 => 15 + 256 * mskB n
def s3 (y n : Nat) : Nat := (y / 16 + y) &&& mskB n
theorem and15_le : ∀ r : Fin 9, r.1 &&& 15 = r.1 := by decide
theorem s3_step (a b Y n : Nat) (ha : a ≤ 4) (hb : b ≤ 4) (hY : Y % 16 ≤ 4) : s3 (a + 16 * (b + 16 * Y)) (n + 1) = (a + b) + 256 * s3 Y n := by
  unfold s3
  rw [and256]
  have e1 : mskB (n + 1) % 256 = 15 := by simp [mskB] <;> omega
  have e2 : mskB (n + 1) / 256 = mskB n := by simp [mskB] <;> omega
  have e3 : ((a + 16 * (b + 16 * Y)) / 16 + (a + 16 * (b + 16 * Y))) / 256 = Y / 16 + Y := by omega
  have e4 : ((a + 16 * (b + 16 * Y)) / 16 + (a + 16 * (b + 16 * Y))) % 256 = (a + b) + 16 * ((b + Y % 16)) := by omega
  rw [e1, e2, e3, e4]
  have h1 := and16 ((a + b) + 16 * (b + Y % 16)) 15
  have h2 : ((a + b) + 16 * (b + Y % 16)) % 16 = a + b := by omega
  have h3 := and15_le ⟨a + b, by omega⟩
  simp only at h3
  rw [h2, show 15 % 16 = 15 from rfl, show 15 / 16 = 0 from rfl, Nat.and_zero, h3] at h1
  omega
/-- the bytes' counts, in their places -/
def byts (x : Nat) : Nat → Nat
  | 0 => 0
  | n + 1 => pop 8 x + 256 * byts (x / 256) n
theorem s3_nibs (n : Nat) : ∀ x, s3 (nibs x (2 * n)) n = byts x n := by
  induction n with
  | zero => intro x; simp [s3, nibs, mskB, byts]
  | succ n ih =>
    intro x
    have e : 2 * (n + 1) = (2 * n + 1) + 1 := by omega
    rw [e, nibs, nibs, s3_step _ _ _ _ (pop4_le _) (pop4_le _) (nibs_mod _ _), byts, pop8_split, Nat.div_div_eq_div_mul, ih]
theorem pop8_le (x : Nat) : pop 8 x ≤ 8 := by simp only [pop]; omega
theorem dv (a y : Nat) (h : a < 256) : (a + 256 * y) / 256 = y := by omega
theorem dv2 (a b y : Nat) (ha : a < 256) (hb : b < 256) : (a + 256 * (b + 256 * y)) / 65536 = y := by
  rw [show (65536 : Nat) = 256 * 256 from rfl, ← Nat.div_div_eq_div_mul, dv _ _ ha, dv _ _ hb]
theorem dv4 (a b c d y : Nat) (ha : a < 256) (hb : b < 256) (hc : c < 256) (hd : d < 256) : (a + 256 * (b + 256 * (c + 256 * (d + 256 * y)))) / 4294967296 = y := by
  rw [show (4294967296 : Nat) = 65536 * 65536 from rfl, ← Nat.div_div_eq_div_mul, dv2 _ _ _ ha hb, dv2 _ _ _ hc hd]
theorem md (a y : Nat) (h : a < 128) : (a + 256 * y) % 128 = a := by omega
theorem ad (a b y z : Nat) : (a + 256 * y) + (b + 256 * z) = (a + b) + 256 * (y + z) := by omega
theorem ad1 (a b y : Nat) : (a + 256 * y) + b = (a + b) + 256 * y := by omega
theorem up (a y M : Nat) (ha : a < 256) (hy : y < M) : a + 256 * y < 256 * M := by omega
theorem fold8 (p0 p1 p2 p3 p4 p5 p6 p7 : Nat) (h0 : p0 ≤ 8) (h1 : p1 ≤ 8) (h2 : p2 ≤ 8) (h3 : p3 ≤ 8) (h4 : p4 ≤ 8) (h5 : p5 ≤ 8) (h6 : p6 ≤ 8) (h7 : p7 ≤ 8) : ∀ (z z1 z2 z3 : Nat),
    z = p0 + 256 * (p1 + 256 * (p2 + 256 * (p3 + 256 * (p4 + 256 * (p5 + 256 * (p6 + 256 * p7)))))) → z1 = z + z / 256 → z2 = z1 + z1 / 65536 → z3 = z2 + z2 / 4294967296 →
    z3 % 128 = p0 + p1 + p2 + p3 + p4 + p5 + p6 + p7 ∧ z < 9223372036854775808 ∧ z1 < 9223372036854775808 ∧ z2 < 9223372036854775808 ∧ z3 < 9223372036854775808 := by
  have big : ∀ a b c d e f g h : Nat, a < 256 → b < 256 → c < 256 → d < 256 → e < 256 → f < 256 → g < 256 → h < 128 → a + 256 * (b + 256 * (c + 256 * (d + 256 * (e + 256 * (f + 256 * (g + 256 * h)))))) < 9223372036854775808 := fun a b c d e f g h ha hb hc hd he hf hg hh =>
    up a _ 36028797018963968 ha (up b _ 140737488355328 hb (up c _ 549755813888 hc (up d _ 2147483648 hd (up e _ 8388608 he (up f _ 32768 hf (up g _ 128 hg hh))))))
  have l1 : ∀ {a : Nat}, a ≤ 8 → a < 256 := fun h => by omega
  have l2 : ∀ {a b : Nat}, a ≤ 8 → b ≤ 8 → a + b < 256 := fun h k => by omega
  have l3 : ∀ {a b c : Nat}, a ≤ 8 → b ≤ 8 → c ≤ 8 → (a + b) + c < 256 := fun h k l => by omega
  have l4 : ∀ {a b c d : Nat}, a ≤ 8 → b ≤ 8 → c ≤ 8 → d ≤ 8 → (a + b) + (c + d) < 256 := fun h k l m => by omega
  have l6 : ∀ {a b c d e f : Nat}, a ≤ 8 → b ≤ 8 → c ≤ 8 → d ≤ 8 → e ≤ 8 → f ≤ 8 → ((a + b) + (c + d)) + (e + f) < 256 := fun h k l m n o => by omega
  have l5 : ∀ {a b c d e : Nat}, a ≤ 8 → b ≤ 8 → c ≤ 8 → d ≤ 8 → e ≤ 8 → ((a + b) + (c + d)) + e < 256 := fun h k l m n => by omega
  have l7 : ∀ {a b c d e f g : Nat}, a ≤ 8 → b ≤ 8 → c ≤ 8 → d ≤ 8 → e ≤ 8 → f ≤ 8 → g ≤ 8 → ((a + b) + (c + d)) + ((e + f) + g) < 256 := fun h k l m n o p => by omega
  have l8 : ∀ {a b c d e f g i : Nat}, a ≤ 8 → b ≤ 8 → c ≤ 8 → d ≤ 8 → e ≤ 8 → f ≤ 8 → g ≤ 8 → i ≤ 8 → ((a + b) + (c + d)) + ((e + f) + (g + i)) < 128 := fun h k l m n o p q => by omega
  have t8 : ((p0 + p1) + (p2 + p3)) + ((p4 + p5) + (p6 + p7)) = p0 + p1 + p2 + p3 + p4 + p5 + p6 + p7 := by omega
  have hp7 : p7 < 128 := by omega
  intro z z1 z2 z3 hz hz1 hz2 hz3
  have a1 : z / 256 = p1 + 256 * (p2 + 256 * (p3 + 256 * (p4 + 256 * (p5 + 256 * (p6 + 256 * p7))))) := by rw [hz]; exact dv _ _ (l1 h0)
  have b1 : z1 = (p0 + p1) + 256 * ((p1 + p2) + 256 * ((p2 + p3) + 256 * ((p3 + p4) + 256 * ((p4 + p5) + 256 * ((p5 + p6) + 256 * ((p6 + p7) + 256 * p7)))))) := by rw [hz1, a1, hz, ad, ad, ad, ad, ad, ad, ad1]
  have a2 : z1 / 65536 = (p2 + p3) + 256 * ((p3 + p4) + 256 * ((p4 + p5) + 256 * ((p5 + p6) + 256 * ((p6 + p7) + 256 * p7)))) := by rw [b1]; exact dv2 _ _ _ (l2 h0 h1) (l2 h1 h2)
  have b2 : z2 = ((p0 + p1) + (p2 + p3)) + 256 * (((p1 + p2) + (p3 + p4)) + 256 * (((p2 + p3) + (p4 + p5)) + 256 * (((p3 + p4) + (p5 + p6)) + 256 * (((p4 + p5) + (p6 + p7)) + 256 * (((p5 + p6) + p7) + 256 * ((p6 + p7) + 256 * p7)))))) := by rw [hz2, a2, b1, ad, ad, ad, ad, ad, ad1]
  have a3 : z2 / 4294967296 = ((p4 + p5) + (p6 + p7)) + 256 * (((p5 + p6) + p7) + 256 * ((p6 + p7) + 256 * p7)) := by rw [b2]; exact dv4 _ _ _ _ _ (l4 h0 h1 h2 h3) (l4 h1 h2 h3 h4) (l4 h2 h3 h4 h5) (l4 h3 h4 h5 h6)
  have b3 : z3 = (((p0 + p1) + (p2 + p3)) + ((p4 + p5) + (p6 + p7))) + 256 * ((((p1 + p2) + (p3 + p4)) + ((p5 + p6) + p7)) + 256 * ((((p2 + p3) + (p4 + p5)) + (p6 + p7)) + 256 * ((((p3 + p4) + (p5 + p6)) + p7) + 256 * (((p4 + p5) + (p6 + p7)) + 256 * (((p5 + p6) + p7) + 256 * ((p6 + p7) + 256 * p7)))))) := by rw [hz3, a3, b2, ad, ad, ad, ad1]
  refine ⟨?_, ?_, ?_, ?_, ?_⟩
  · rw [b3, md _ _ (l8 h0 h1 h2 h3 h4 h5 h6 h7)]; exact t8
  · rw [hz]; exact big _ _ _ _ _ _ _ _ (l1 h0) (l1 h1) (l1 h2) (l1 h3) (l1 h4) (l1 h5) (l1 h6) hp7
  · rw [b1]; exact big _ _ _ _ _ _ _ _ (l2 h0 h1) (l2 h1 h2) (l2 h2 h3) (l2 h3 h4) (l2 h4 h5) (l2 h5 h6) (l2 h6 h7) hp7
  · rw [b2]; exact big _ _ _ _ _ _ _ _ (l4 h0 h1 h2 h3) (l4 h1 h2 h3 h4) (l4 h2 h3 h4 h5) (l4 h3 h4 h5 h6) (l4 h4 h5 h6 h7) (l3 h5 h6 h7) (l2 h6 h7) hp7
  · rw [b3]; exact big _ _ _ _ _ _ _ _ (Nat.lt_trans (l8 h0 h1 h2 h3 h4 h5 h6 h7) (by decide)) (l7 h1 h2 h3 h4 h5 h6 h7) (l6 h2 h3 h4 h5 h6 h7) (l5 h3 h4 h5 h6 h7) (l4 h4 h5 h6 h7) (l3 h5 h6 h7) (l2 h6 h7) hp7
theorem pop64 (x : Nat) : pop 64 x = pop 8 x + pop 8 (x / 256) + pop 8 (x / 65536) + pop 8 (x / 16777216) + pop 8 (x / 4294967296) + pop 8 (x / 1099511627776) + pop 8 (x / 281474976710656) + pop 8 (x / 72057594037927936) := by
  simp only [pop, Nat.div_div_eq_div_mul, Nat.reduceMul]
  omega
end Pop
end Go.Proofs.YtbgieephehfgpabDoor
/-
  Plain mathematics of a sketch: the least of some cells, adding, halving, merging, filling. No conditions.
-/
namespace Go.Proofs.YtbgieephehfgpabDoor
namespace Sk
/-- the cell at a place -/
def at' (c : List Int) (i : Nat) : Int := c[i]?.getD 0
/-- the least of the cells, at most 15 -/
def cnt (c : List Int) (p : List Nat) : Int := p.foldl (fun n i => min n (at' c i)) 15
theorem at_of {c : List Int} {i : Nat} (h : i < c.length) : c[i]? = some (at' c i) := by simp [at', h]
theorem cnt_snoc (c : List Int) (p : List Nat) (i : Nat) : cnt c (p ++ [i]) = min (cnt c p) (at' c i) := by simp [cnt]
theorem cnt_fold (c : List Int) (p : List Nat) : ∀ z : Int, (p.foldl (fun n i => min n (at' c i)) z ≤ z) ∧ (∀ i ∈ p, p.foldl (fun n i => min n (at' c i)) z ≤ at' c i) ∧ (∀ m, m ≤ z → (∀ i ∈ p, m ≤ at' c i) → m ≤ p.foldl (fun n i => min n (at' c i)) z) ∧ (p.foldl (fun n i => min n (at' c i)) z = z ∨ ∃ i ∈ p, at' c i = p.foldl (fun n i => min n (at' c i)) z) := by
  induction p with
  | nil => intro z; simp
  | cons a t ih =>
    intro z
    obtain ⟨h1, h2, h3, h4⟩ := ih (min z (at' c a))
    simp only [List.foldl_cons]
    refine ⟨by omega, ?_, ?_, ?_⟩
    · intro i hi
      rcases List.mem_cons.1 hi with rfl | hi
      · omega
      · exact h2 i hi
    · intro m hm hall
      have := hall a (by simp)
      exact h3 m (by omega) (fun i hi => hall i (by simp [hi]))
    · rcases h4 with h4 | ⟨i, hi, h4⟩
      · rcases Int.le_total z (at' c a) with h | h
        · left; omega
        · right; exact ⟨a, by simp, by omega⟩
      · right; exact ⟨i, by simp [hi], h4⟩
theorem cnt_le15 (c : List Int) (p : List Nat) : cnt c p ≤ 15 := (cnt_fold c p 15).1
theorem cnt_le {c : List Int} {p : List Nat} {i : Nat} (h : i ∈ p) : cnt c p ≤ at' c i := (cnt_fold c p 15).2.1 i h
theorem cnt_ge {c : List Int} {p : List Nat} {m : Int} (h : m ≤ 15) (hi : ∀ i ∈ p, m ≤ at' c i) : m ≤ cnt c p := (cnt_fold c p 15).2.2.1 m h hi
theorem cnt_at (c : List Int) (p : List Nat) : cnt c p = 15 ∨ ∃ i ∈ p, at' c i = cnt c p := (cnt_fold c p 15).2.2.2
/-- the cells with one more at those places that hold n -/
def inc (n : Int) (p : List Nat) (c : List Int) : List Int := c.mapIdx fun i x => if i ∈ p ∧ x = n then n + 1 else x
theorem inc_len (n : Int) (p : List Nat) (c : List Int) : (inc n p c).length = c.length := by simp [inc]
theorem inc_at (n : Int) (p : List Nat) (c : List Int) (i : Nat) (h : i < c.length) : at' (inc n p c) i = if i ∈ p ∧ at' c i = n then n + 1 else at' c i := by
  simp [at', inc, h]
theorem inc_get (n : Int) (p : List Nat) (c : List Int) (i : Nat) : (inc n p c)[i]? = (c[i]?).map fun x => if i ∈ p ∧ x = n then n + 1 else x := by
  simp [inc]
theorem inc_nil (n : Int) (c : List Int) : inc n [] c = c := by
  apply List.ext_getElem?
  intro i
  rw [inc_get]
  cases c[i]? <;> simp
/-- one more place, read where it is written -/
theorem inc_hit (n : Int) (p : List Nat) (c : List Int) (i : Nat) (h : at' c i = n) : (inc n p c).set i (n + 1) = inc n (p ++ [i]) c := by
  apply List.ext_getElem?
  intro j
  by_cases hj : j = i
  · subst hj
    by_cases hl : j < c.length
    · rw [List.getElem?_set_self (by rw [inc_len]; exact hl), inc_get]
      rw [at_of hl]
      simp [h]
    · rw [List.getElem?_eq_none (by simp [inc_len]; omega), List.getElem?_eq_none (by simp [inc_len]; omega)]
  · rw [List.getElem?_set_ne (by omega), inc_get, inc_get]
    simp [hj]
theorem inc_miss (n : Int) (p : List Nat) (c : List Int) (i : Nat) (h : at' c i ≠ n) : inc n p c = inc n (p ++ [i]) c := by
  apply List.ext_getElem?
  intro j
  rw [inc_get, inc_get]
  by_cases hj : j = i
  · subst hj
    by_cases hl : j < c.length
    · rw [at_of hl]; simp [h]
    · rw [List.getElem?_eq_none (by omega)]; rfl
  · simp [hj]
theorem inc_done (n : Int) (p : List Nat) (c : List Int) (i : Nat) (hi : i ∈ p) : inc n p c = inc n (p ++ [i]) c := by
  apply List.ext_getElem?
  intro j
  rw [inc_get, inc_get]
  by_cases hj : j = i
  · subst hj; simp [hi]
  · simp [hj]
/-- what the program does at a place: it reads the cells as they have become -/
theorem inc_step (n : Int) (p : List Nat) (c : List Int) (i : Nat) (hl : i < c.length) : inc n (p ++ [i]) c = if at' (inc n p c) i = n then (inc n p c).set i (n + 1) else inc n p c := by
  by_cases h : at' c i = n
  · by_cases hi : i ∈ p
    · have e : at' (inc n p c) i = n + 1 := by rw [inc_at n p c i hl, if_pos ⟨hi, h⟩]
      rw [if_neg (by omega)]; exact (inc_done n p c i hi).symm
    · have e : at' (inc n p c) i = n := by rw [inc_at n p c i hl, if_neg (fun hc => hi hc.1)]; exact h
      rw [if_pos e, inc_hit n p c i h]
  · have e : at' (inc n p c) i = at' c i := by rw [inc_at n p c i hl, if_neg (fun hc => h hc.2)]
    rw [if_neg (by omega)]; exact (inc_miss n p c i h).symm
def add (p : List Nat) (c : List Int) : List Int := if cnt c p < 15 then inc (cnt c p) p c else c
theorem add_len (p : List Nat) (c : List Int) : (add p c).length = c.length := by unfold add; split <;> simp [inc_len]
theorem at_out {c : List Int} {i : Nat} (h : ¬ i < c.length) : at' c i = 0 := by simp [at', Nat.le_of_not_lt h]
theorem add_ge (p : List Nat) (c : List Int) (i : Nat) : at' c i ≤ at' (add p c) i ∧ at' (add p c) i ≤ at' c i + 1 := by
  by_cases hl : i < c.length
  · unfold add
    split
    · rw [inc_at _ _ _ _ hl]; split <;> omega
    · omega
  · rw [at_out hl, at_out (by rw [add_len]; exact hl)]; omega
theorem add_far (p : List Nat) (c : List Int) (i : Nat) (h : i ∉ p) : at' (add p c) i = at' c i := by
  by_cases hl : i < c.length
  · unfold add
    split
    · rw [inc_at _ _ _ _ hl, if_neg (fun hc => h hc.1)]
    · rfl
  · rw [at_out hl, at_out (by rw [add_len]; exact hl)]
theorem add_15 (p : List Nat) (c : List Int) (i : Nat) (h : at' c i ≤ 15) : at' (add p c) i ≤ 15 := by
  by_cases hl : i < c.length
  · unfold add
    split
    · rw [inc_at _ _ _ _ hl]
      split
      · rename_i h1 h2; omega
      · exact h
    · exact h
  · rw [at_out (by rw [add_len]; exact hl)]; omega
theorem add_mem (p : List Nat) (c : List Int) (i : Nat) (h : i ∈ p) (hl : i < c.length) : min (cnt c p + 1) 15 ≤ at' (add p c) i := by
  have h1 := cnt_le (c := c) h
  have h2 := cnt_le15 c p
  unfold add
  split
  · rw [inc_at _ _ _ _ hl]
    by_cases he : at' c i = cnt c p
    · rw [if_pos ⟨h, he⟩]; omega
    · rw [if_neg (fun hc => he hc.2)]; omega
  · omega
/-- Add changes the count of its key by one, up to 15 -/
theorem cnt_add (p : List Nat) (c : List Int) (hl : ∀ i ∈ p, i < c.length) : cnt (add p c) p = min (cnt c p + 1) 15 := by
  apply Int.le_antisymm
  · refine Int.le_min.2 ⟨?_, cnt_le15 _ _⟩
    rcases cnt_at c p with h | ⟨i, hi, h⟩
    · have := cnt_le15 (add p c) p; omega
    · have h1 := cnt_le (c := add p c) hi
      have h2 := (add_ge p c i).2
      omega
  · refine cnt_ge (by omega) (fun i hi => add_mem p c i hi (hl i hi))
/-- .. and that of another one by at most one -/
theorem cnt_other (p q : List Nat) (c : List Int) : cnt c q ≤ cnt (add p c) q ∧ cnt (add p c) q ≤ cnt c q + 1 := by
  constructor
  · refine cnt_ge (cnt_le15 _ _) fun i hi => ?_
    have := cnt_le (c := c) hi
    have := (add_ge p c i).1
    omega
  · rcases cnt_at c q with h | ⟨i, hi, h⟩
    · have := cnt_le15 (add p c) q; omega
    · have h1 := cnt_le (c := add p c) hi
      have h2 := (add_ge p c i).2
      omega
def half (c : List Int) : List Int := c.map (· / 2)
theorem half_len (c : List Int) : (half c).length = c.length := by simp [half]
theorem half_at (c : List Int) (i : Nat) : at' (half c) i = at' c i / 2 := by
  simp only [at', half, List.getElem?_map]
  cases c[i]? <;> simp
theorem cnt_half (p : List Nat) (c : List Int) (hp : p ≠ []) (h15 : ∀ i, at' c i ≤ 15) : cnt (half c) p = cnt c p / 2 := by
  apply Int.le_antisymm
  · rcases cnt_at c p with h | ⟨i, hi, h⟩
    · obtain ⟨i, hi⟩ := List.exists_mem_of_ne_nil p hp
      have h1 := cnt_le (c := half c) hi
      rw [half_at] at h1
      have := h15 i
      omega
    · have h1 := cnt_le (c := half c) hi
      rw [half_at] at h1
      omega
  · have := cnt_le15 c p
    refine cnt_ge (by omega) fun i hi => ?_
    rw [half_at]
    have := cnt_le (c := c) hi
    omega
/-- the cells of two sketches together -/
def mrg (a b : List Int) : List Int := List.zipWith (fun x y => min (x + y) 15) a b
theorem mrg_len (a b : List Int) (h : a.length = b.length) : (mrg a b).length = a.length := by simp [mrg, h]
theorem mrg_at (a b : List Int) (i : Nat) (ha : i < a.length) (hb : i < b.length) : at' (mrg a b) i = min (at' a i + at' b i) 15 := by
  simp [at', mrg, List.getElem?_zipWith, ha, hb]
theorem mrg_comm (a b : List Int) : mrg a b = mrg b a := by
  unfold mrg
  rw [List.zipWith_comm]
  congr 1
  funext x y
  rw [Int.add_comm]
theorem cnt_mrg (p : List Nat) (a b : List Int) (ha : ∀ i ∈ p, i < a.length) (hb : ∀ i ∈ p, i < b.length) : min (cnt a p + cnt b p) 15 ≤ cnt (mrg a b) p := by
  refine cnt_ge (by omega) fun i hi => ?_
  rw [mrg_at a b i (ha i hi) (hb i hi)]
  have := cnt_le (c := a) hi
  have := cnt_le (c := b) hi
  omega
/-- how many cells are not 0 -/
def fill : List Int → Nat
  | [] => 0
  | x :: t => (if x = 0 then 0 else 1) + fill t
theorem fill_snoc (c : List Int) (x : Int) : fill (c ++ [x]) = fill c + if x = 0 then 0 else 1 := by
  induction c with
  | nil => simp [fill]
  | cons y t ih => simp only [List.cons_append, fill, ih]; omega
theorem fill_le (c : List Int) : fill c ≤ c.length := by
  induction c with
  | nil => simp [fill]
  | cons y t ih => simp only [fill, List.length_cons]; split <;> omega
theorem fill_half (c : List Int) : fill (half c) ≤ fill c := by
  induction c with
  | nil => simp [fill, half]
  | cons x t ih =>
    simp only [half, List.map_cons, fill] at ih ⊢
    by_cases h : x = 0
    · subst h; simp; exact ih
    · rw [if_neg h]; split <;> omega
theorem fill_mrg (a : List Int) : ∀ b : List Int, fill (mrg a b) ≤ fill a + fill b := by
  unfold mrg
  induction a with
  | nil => intro b; simp [fill]
  | cons x t ih =>
    intro b
    cases b with
    | nil => simp [fill]
    | cons y s =>
      have := ih s
      simp only [List.zipWith_cons_cons, fill]
      by_cases hx : x = 0 <;> by_cases hy : y = 0
      · subst hx hy; rw [if_pos (show min ((0 : Int) + 0) 15 = 0 by decide)]; simp; exact this
      · rw [if_neg hy]; split <;> omega
      · rw [if_neg hx]; split <;> omega
      · rw [if_neg hx]; split <;> omega
end Sk
end Go.Proofs.YtbgieephehfgpabDoor
/-
  Plain mathematics of SHA-256: words of 32 bits, the message schedule, a block's compression, padding, the hash of a message. No program here. No conditions.
-/
namespace Go.Proofs.YtbgieephehfgpabDoor
namespace Sha
abbrev W := BitVec 32
def wxor (a b : W) : W := a ^^^ b
def wand (a b : W) : W := a &&& b
def wor (a b : W) : W := a ||| b
def wadd (a b : W) : W := a + b
def wnot (a : W) : W := ~~~a
def shr (x : W) (n : Nat) : W := x >>> n
def rotr (x : W) (n : Nat) : W := (x >>> n) ||| (x <<< (32 - n))
def mix (x : W) (i j k : Nat) : W := wxor (wxor (rotr x i) (rotr x j)) (rotr x k)
/-- the word that four bytes make, from the word so far -/
def push8 (x : W) (b : Nat) : W := (x <<< 8) ||| BitVec.ofNat 32 b
/-- word t of a block, after j of its bytes -/
def word4 (l : List UInt8) (t : Nat) : Nat → W
  | 0 => 0#32
  | j + 1 => push8 (word4 l t j) (l.getD (4 * t + j) 0).toNat
def s0 (x : W) : W := wxor (wxor (rotr x 7) (rotr x 18)) (shr x 3)
def s1 (x : W) : W := wxor (wxor (rotr x 17) (rotr x 19)) (shr x 10)
/-- the word behind those of the schedule so far -/
def nextW (p : List W) (t : Nat) : W := wadd (wadd (wadd (p.getD (t - 16) 0#32) (s0 (p.getD (t - 15) 0#32))) (p.getD (t - 7) 0#32)) (s1 (p.getD (t - 2) 0#32))
/-- the first words of the schedule of a block -/
def sched (l : List UInt8) : Nat → List W
  | 0 => []
  | t + 1 => sched l t ++ [if t < 16 then word4 l t 4 else nextW (sched l t) t]
theorem sched_len (l : List UInt8) (t : Nat) : (sched l t).length = t := by
  induction t with
  | zero => rfl
  | succ t ih => simp [sched, ih]
/-- the round constants -/
def konsN : List Nat := [1116352408, 1899447441, 3049323471, 3921009573, 961987163, 1508970993, 2453635748, 2870763221, 3624381080, 310598401, 607225278, 1426881987, 1925078388, 2162078206, 2614888103, 3248222580, 3835390401, 4022224774, 264347078, 604807628, 770255983, 1249150122, 1555081692, 1996064986, 2554220882, 2821834349, 2952996808, 3210313671, 3336571891, 3584528711, 113926993, 338241895, 666307205, 773529912, 1294757372, 1396182291, 1695183700, 1986661051, 2177026350, 2456956037, 2730485921, 2820302411, 3259730800, 3345764771, 3516065817, 3600352804, 4094571909, 275423344, 430227734, 506948616, 659060556, 883997877, 958139571, 1322822218, 1537002063, 1747873779, 1955562222, 2024104815, 2227730452, 2361852424, 2428436474, 2756734187, 3204031479, 3329325298]
def kon (t : Nat) : W := BitVec.ofNat 32 (konsN.getD t 0)
/-- the hash value: eight words -/
structure S8 where
  a : W
  b : W
  c : W
  d : W
  e : W
  f : W
  g : W
  h : W
def ch (e f g : W) : W := wxor (wand e f) (wand (wnot e) g)
def maj (a b c : W) : W := wxor (wxor (wand a b) (wand a c)) (wand b c)
def xOf (k w : W) (s : S8) : W := wadd (wadd (wadd (wadd s.h (mix s.e 6 11 25)) (ch s.e s.f s.g)) k) w
def yOf (s : S8) : W := wadd (mix s.a 2 13 22) (maj s.a s.b s.c)
def rnd (k w : W) (s : S8) : S8 := ⟨wadd (xOf k w s) (yOf s), s.a, s.b, s.c, wadd s.d (xOf k w s), s.e, s.f, s.g⟩
/-- the first rounds of a block -/
def rounds (ws : List W) (s : S8) : Nat → S8
  | 0 => s
  | t + 1 => rnd (kon t) (ws.getD t 0#32) (rounds ws s t)
def add8 (s r : S8) : S8 := ⟨wadd s.a r.a, wadd s.b r.b, wadd s.c r.c, wadd s.d r.d, wadd s.e r.e, wadd s.f r.f, wadd s.g r.g, wadd s.h r.h⟩
/-- a block's compression -/
def comp (s : S8) (l : List UInt8) : S8 := add8 s (rounds (sched l 64) s 64)
/-- the hash value at the beginning -/
def s8init : S8 := ⟨0x6a09e667#32, 0xbb67ae85#32, 0x3c6ef372#32, 0xa54ff53a#32, 0x510e527f#32, 0x9b05688c#32, 0x1f83d9ab#32, 0x5be0cd19#32⟩
/-- the hash value after the first j blocks of a message -/
def hb (m : List UInt8) : Nat → S8
  | 0 => s8init
  | j + 1 => comp (hb m j) ((m.drop (64 * j)).take 64)
/-- a longer message has the same first blocks -/
theorem hb_append (m r : List UInt8) (j : Nat) (h : 64 * j ≤ m.length) : hb (m ++ r) j = hb m j := by
  induction j with
  | zero => rfl
  | succ j ih =>
    rw [hb, hb, ih (by omega)]
    congr 1
    rw [List.drop_append_of_le_length (by omega), List.take_append_of_le_length (by rw [List.length_drop]; omega)]
end Sha
end Go.Proofs.YtbgieephehfgpabDoor
/-
  What math/bits.RotateLeft32 and the program's mix return. Conditions: rotations by 1 to 31.
-/
namespace Go.Proofs.YtbgieephehfgpabDoor
open Go Go.RowKit Sha
namespace Sha
/-- a word of 32 bits as Go's -/
def tI (x : W) : Int := (x.toNat : Int)
theorem tI_lo (x : W) : 0 ≤ tI x := by unfold tI; omega
theorem tI_hi (x : W) : tI x < 4294967296 := by unfold tI; have := x.isLt; omega
theorem toNat_lt32 (x : W) : x.toNat < 4294967296 := x.isLt
theorem xor_go (a b : W) : bits .xor .u32 (tI a) (tI b) = tI (wxor a b) := by
  unfold tI wxor; rw [u32_xor_nat _ _ (toNat_lt32 a) (toNat_lt32 b), BitVec.toNat_xor]
theorem and_go (a b : W) : bits .and .u32 (tI a) (tI b) = tI (wand a b) := by
  unfold tI wand; rw [u32_and_nat _ _ (toNat_lt32 a) (toNat_lt32 b), BitVec.toNat_and]
theorem or_go (a b : W) : bits .or .u32 (tI a) (tI b) = tI (wor a b) := by
  unfold tI wor; rw [u32_or_nat _ _ (toNat_lt32 a) (toNat_lt32 b), BitVec.toNat_or]
theorem add_go (a b : W) : (tI a + tI b) % 4294967296 = tI (wadd a b) := by
  unfold tI wadd; rw [BitVec.toNat_add]; omega
theorem shl_go (x : W) (s : Nat) : tI x * 2 ^ s % 4294967296 = ((x <<< s).toNat : Int) := by
  unfold tI
  rw [BitVec.toNat_shiftLeft, Nat.shiftLeft_eq, Int.natCast_emod, Int.natCast_mul]
  congr 2
theorem shr_go (x : W) (s : Nat) : tI x / 2 ^ s = tI (shr x s) := by
  unfold tI shr
  rw [BitVec.toNat_ushiftRight, Nat.shiftRight_eq_div_pow, Int.natCast_ediv]
  congr 1
theorem not_go (x : W) : bits .xor .u32 IntKind.u32.max (tI x) = tI (wnot x) := by
  have h : IntKind.u32.max = tI (BitVec.allOnes 32) := by decide
  rw [h, xor_go]
  unfold wxor wnot
  rw [BitVec.allOnes_xor]
theorem push8_go (x : W) (b : UInt8) : bits .or .u32 (tI x * 256 % 4294967296) (b.toNat : Int) = tI (push8 x b.toNat) := by
  have h1 := shl_go x 8
  have hb := b.toNat_lt
  have h2 : (b.toNat : Int) = tI (BitVec.ofNat 32 b.toNat) := by
    unfold tI; rw [BitVec.toNat_ofNat, Nat.mod_eq_of_lt (by omega)]
  have h3 : tI x * (256 : Int) % (4294967296 : Int) = tI (x <<< 8) := h1
  rw [h3, h2, or_go]; rfl
theorem rot_go (x : W) (n s : Nat) (hs : s + n = 32) : bits .or .u32 (tI x * 2 ^ s % 4294967296) (tI x / 2 ^ (32 - s)) = tI (rotr x n) := by
  obtain rfl : s = 32 - n := by omega
  have e : 32 - (32 - n) = n := by omega
  rw [shl_go, shr_go, e]
  have h := or_go (x <<< (32 - n)) (shr x n)
  unfold tI at h ⊢
  rw [h]
  unfold wor rotr shr
  rw [BitVec.or_comm]
theorem neg_go (n s : Nat) (hn : 1 ≤ n) (hs : s + n = 32) : bits .and .u64 (IntKind.u64.wrap (-(n : Int))) 31 = (s : Int) := by
  rw [IntKind.wrap_u64, u64_and _ _ (by omega) (by omega) (by omega) (by omega)]
  rw [show (31 : Int).toNat = 2 ^ 5 - 1 by rfl, Nat.and_two_pow_sub_one_eq_mod]
  omega
end Sha
set_option maxHeartbeats 400000 in
theorem rot_any (x : W) (n s : Nat) (w : World) (hn : 1 ≤ n) (hn' : n ≤ 31) (hs : s + n = 32) :
    Calls Tryd.prog 80 #[.int .u32 (tI x), .int .i64 (-(n : Int))] w fun e w' => e = .returned (.int .u32 (tI (rotr x n))) ∧ w = w' := by
  have h0 := tI_lo x
  have h1 := tI_hi x
  have hs1 := neg_go n s hn hs
  have hr := rot_go x n s hs
  generalize tI (rotr x n) = y at *
  have Hr := Lib.hid hr
  clear hr
  go_enter Tryd.func80, Tryd.ntmps80
  go_wp2
  go_ret
  exact ⟨ret_int Hr.out, rfl⟩
theorem rot_lit (x : W) (n s : Nat) (k : Int) (w : World) (hk : k = -(n : Int)) (hn : 1 ≤ n) (hn' : n ≤ 31) (hs : s + n = 32) :
    Calls Tryd.prog 80 #[.int .u32 (tI x), .int .i64 k] w fun e w' => e = .returned (.int .u32 (tI (rotr x n))) ∧ w = w' := by
  subst hk; exact rot_any x n s w hn hn' hs
set_option maxHeartbeats 400000 in
theorem mix_any (x : W) (i j k : Nat) (w : World) (hi : 1 ≤ i) (hi' : i ≤ 31) (hj : 1 ≤ j) (hj' : j ≤ 31) (hk : 1 ≤ k) (hk' : k ≤ 31) :
    Calls Tryd.prog 74 #[.int .u32 (tI x), .int .i64 (i : Int), .int .i64 (j : Int), .int .i64 (k : Int)] w fun e w' => e = .returned (.int .u32 (tI (mix x i j k))) ∧ w = w' := by
  have x1 := xor_go (rotr x i) (rotr x j)
  have x2 := xor_go (wxor (rotr x i) (rotr x j)) (rotr x k)
  go_enter Tryd.func74, Tryd.ntmps74
  go_wp2_with (first | (go_at_call 80; ((with_reducible refine (rot_any x i (32 - i) _ hi hi' (by omega)).mono ?_); rintro e w' ⟨rfl, rfl⟩)) | (go_at_call 80; ((with_reducible refine (rot_any x j (32 - j) _ hj hj' (by omega)).mono ?_); rintro e w' ⟨rfl, rfl⟩)) | (go_at_call 80; ((with_reducible refine (rot_any x k (32 - k) _ hk hk' (by omega)).mono ?_); rintro e w' ⟨rfl, rfl⟩)))
  go_ret
  exact ⟨rfl, rfl⟩
end Go.Proofs.YtbgieephehfgpabDoor
/-
  An array of 64 words in memory, filled from the front: what its cells hold, what a store makes of it. No conditions.
-/
namespace Go.Proofs.YtbgieephehfgpabDoor
open Go Go.RowKit Sha
namespace Sha
def vW (x : W) : Value := .int .u32 (tI x)
/-- the array that begins with these words, zeros behind them -/
def Arr (p : List W) : Array Value := ((p ++ List.replicate (64 - p.length) 0#32).map vW).toArray
theorem Arr_size (p : List W) (h : p.length ≤ 64) : (Arr p).size = 64 := by simp [Arr]; omega
theorem Arr_get (p : List W) (i : Nat) (h : i < p.length) : (Arr p)[i]? = some (vW (p.getD i 0#32)) := by
  unfold Arr
  rw [List.getElem?_toArray, List.getElem?_map, List.getElem?_append_left h]
  simp [List.getD, h]
theorem Arr_zero (p : List W) (i : Nat) (h : p.length ≤ i) (h' : i < 64) : (Arr p)[i]? = some (vW 0#32) := by
  unfold Arr
  rw [List.getElem?_toArray, List.getElem?_map, List.getElem?_append_right h, List.getElem?_replicate, if_pos (by omega)]
  rfl
theorem Arr_snoc0 (p : List W) (h : p.length < 64) : Arr (p ++ [0#32]) = Arr p := by
  unfold Arr
  congr 2
  rw [List.append_assoc]
  congr 1
  rw [show 64 - p.length = (64 - (p ++ [0#32]).length) + 1 by simp; omega, List.replicate_succ]
  rfl
theorem Arr_set (p : List W) (x y : W) : (Arr (p ++ [x])).setIfInBounds p.length (vW y) = Arr (p ++ [y]) := by
  unfold Arr
  apply Array.ext'
  simp
theorem Arr_setAt (p : List W) (t : Nat) (h : p.length = t) (x y : W) : (Arr (p ++ [x])).setIfInBounds t (vW y) = Arr (p ++ [y]) := by
  subst h; exact Arr_set p x y
theorem all4 (k : IntKind) (a b c d : Int) : (#[.int k a, .int k b, .int k c, .int k d] : Array Value).all (·.oneCell') = true := by
  rw [show (#[.int k a, .int k b, .int k c, .int k d] : Array Value) = [.int k a, .int k b, .int k c, .int k d].toArray from rfl, List.all_toArray]
  rfl
theorem Arr_one (p : List W) : (Arr p).all (·.oneCell') = true := by
  unfold Arr
  simp only [List.all_toArray, List.all_map, List.all_eq_true]
  intro x _
  rfl
theorem Arr_nil : Arr [] = (List.replicate 64 (Value.int .u32 0)).toArray := by
  unfold Arr; simp [vW, tI]
end Sha
end Go.Proofs.YtbgieephehfgpabDoor
/-
  Words for slices that are read: what a slice's elements are in memory ('Rd'), that this holds on when blocks are made, and that Go's string(b) of a slice of bytes gives these bytes. No conditions.
-/
namespace Go.Proofs.YtbgieephehfgpabDoor
open Go Go.RowKit
/-- the slice value v reads as the list l, its elements written by mk -/
def Rd {α : Type} (mk : α → Value) (w : World) (v : Value) (l : List α) : Prop :=
  ∃ a cap, v = .slice a l.length cap ∧ l.length ≤ cap ∧ (l = [] ∨ ∃ b off, a = some ⟨b, off, none⟩ ∧ b < w.heap.size ∧ ∀ i x, l[i]? = some x → w.cell? ⟨b, off + i, none⟩ = some (mk x))
def mkB (x : UInt8) : Value := .int .u8 (x.toNat : Int)
abbrev RdB := Rd mkB
theorem Rd.below {α : Type} {mk : α → Value} {w w' : World} {v : Value} {l : List α} (h : Rd mk w v l) (hb : Below w.heap.size w w') : Rd mk w' v l := by
  obtain ⟨a, cap, hv, hc, h⟩ := h
  refine ⟨a, cap, hv, hc, ?_⟩
  rcases h with h | ⟨b, off, ha, hlt, hcell⟩
  · exact .inl h
  · exact .inr ⟨b, off, ha, Nat.lt_of_lt_of_le hlt hb.size, fun i x hx => (hb.cell (p := ⟨b, off + i, none⟩) hlt).trans (hcell i x hx)⟩
theorem strOf_map (l : List UInt8) : strOfNums (l.map fun x => (x.toNat : Int)) = ⟨l.toArray⟩ := by
  unfold strOfNums
  congr 1
  simp [List.map_map, Function.comp_def]
theorem RdB.conv {P : Program} {w : World} {v : Value} {l : List UInt8} (h : RdB w v l) (src dst e : TypeId) (hs : P.underlying src = some (.slice e)) (he : P.underlying e = some (.int .u8)) (hd : P.underlying dst = some .string) :
    (convert src dst v).run P w = .ok (.string ⟨l.toArray⟩) w := by
  obtain ⟨a, cap, rfl, hc, h⟩ := h
  rcases h with rfl | ⟨b, off, rfl, hlt, hcell⟩
  · cases a with
    | none => exact run_convert_bytes_nil w src e hs he 0 cap dst hd
    | some a =>
      rw [run_convert_bytes_string w src dst e _ _ _ hs he hd]
      rw [run_bytesToString w _ _ cap [] (by have h0 := run_loadCells_list (P := P) w a [] (by simp); simpa using h0)]
      rfl
  · rw [run_convert_bytes_arg w src e hs he b off l.length cap (l.map fun x => (x.toNat : Int)) (by simp) ?_ dst hd, strOf_map]
    intro i hi
    have hx : l[i]? = some l[i] := List.getElem?_eq_getElem hi
    rw [hcell i _ hx]
    simp [mkB, List.getD, hi]
end Go.Proofs.YtbgieephehfgpabDoor
/-
  What the program's schedule returns: the message schedule of a block. Conditions: the block has 64 bytes.
-/
namespace Go.Proofs.YtbgieephehfgpabDoor
open Go Go.RowKit Sha
theorem info64 : (Tryd.prog.info? 107).map (·.size) = some 64 := by kernel_rfl
set_option maxRecDepth 100000 in
set_option maxHeartbeats 1000000 in
theorem sched_any (b off cap : Nat) (l : List UInt8) (w : World) (hc : 64 ≤ cap) (hb : b < w.heap.size) (hcell : ∀ i, i < 64 → w.cell? ⟨b, off + i, none⟩ = some (mkB (l.getD i 0))) :
    Calls Tryd.prog 73 #[.slice (some ⟨b, off, none⟩) 64 cap] w fun e w' => e = .returned (.agg (Arr (sched l 64))) ∧ Below w.heap.size w w' := by
  go_enter Tryd.func73, Tryd.ntmps73
  go_wp2
  go_loopw [11] (fun i wr => ∃ t : Nat, t ≤ 64 ∧ i = .int .i64 (t : Int) ∧ Blk wr (w.heap.size + 1) (Arr (sched l t)) 107 ∧ Blk wr w.heap.size (Arr []) 107 ∧ Below w.heap.size w wr) (fun i _ => 64 - (intOf i).toNat)
  case atStart =>
    refine ⟨0, by omega, rfl, ?_, ?_, ((Below.refl _ _).alloc (Nat.le_refl _) _).alloc (by simp) _⟩
    · have h := blk_new (w.alloc (.cells (Arr []) 107)) (Arr []) 107
      rw [World.size_alloc] at h
      rw [Arr_nil] at h
      rw [show sched l 0 = [] from rfl, Arr_nil]
      exact h
    · have h := blk_alloc (blk_new w (Arr []) 107) (.cells (Arr []) 107)
      rw [Arr_nil] at h ⊢
      exact h
  case round =>
    obtain ⟨t, ht, rfl, hb1, hb0, hB⟩ := hrel
    have hw1 : w.heap.size + 1 < wr.heap.size := blk_lt hb1
    by_cases h64 : t < 64
    · have d64 : decide ((t : Int) < 64) = true := by simp; omega
      by_cases h16 : t < 16
      · have d16 : decide ((t : Int) < 16) = true := by simp; omega
        have e4 : 4 * t + 4 - 4 * t = 4 := by omega
        obtain ⟨wo, rfl⟩ : ∃ wo : World, wo = wr := ⟨_, rfl⟩
        go_wp2
        go_loopw [6, 24] (fun _ i wx => ∃ j : Nat, j ≤ 4 ∧ i = .int .i64 (j : Int) ∧ Blk wx (w.heap.size + 1) (Arr (sched l t ++ [word4 l t j])) 107 ∧ Blk wx w.heap.size (Arr []) 107 ∧ Below w.heap.size w wx) (fun _ i _ => 4 - (intOf i).toNat)
        case atStart => exact ⟨0, by omega, rfl, by rw [show word4 l t 0 = 0#32 from rfl, Arr_snoc0 _ (by rw [sched_len]; omega)]; exact hb1, hb0, hB⟩
        case round =>
          obtain ⟨j, hj, rfl, hx1, hx0, hBx⟩ := hrel
          by_cases hj4 : j < 4
          · have dj4 : decide ((j : Int) < 4) = true := by simp; omega
            have hc0 := (hBx.cell (p := ⟨b, off + (4 * t + j), none⟩) hb).trans (hcell (4 * t + j) (by omega))
            rw [← Nat.add_assoc] at hc0
            have hw4 : word4 l t (j + 1) = push8 (word4 l t j) (l.getD (4 * t + j) 0).toNat := rfl
            generalize l.getD (4 * t + j) 0 = x at *
            have hc0' : wr.cell? ⟨b, off + 4 * t + j, none⟩ = some (.int .u8 (x.toNat : Int)) := hc0
            have hc1 : wr.cell? ⟨w.heap.size + 1, t, none⟩ = some (.int .u32 (tI (word4 l t j))) := by
              rw [blk_cell hx1 t, Arr_get _ _ (by simp [sched_len])]
              simp [List.getD, sched_len, vW]
            have hf1 := blk_free hx1 t
            obtain ⟨hxb0, hxb1⟩ := byte_bd x
            have hp8 := push8_go (word4 l t j) x
            have hset := blk_set hx1 t (vW (push8 (word4 l t j) x.toNat))
            rw [Arr_setAt _ t (sched_len l t)] at hset
            have hfar := blk_far hx0 (p := ⟨w.heap.size + 1, t, none⟩) (by simp) (vW (push8 (word4 l t j) x.toNat))
            rw [← hw4] at hp8 hset hfar
            generalize tI (word4 l t j) = y at *
            have Hset := Lib.hid hset
            have Hfar := Lib.hid hfar
            clear hc0 hset hfar hw4
            go_wp2
            go_roundw
            case rel => exact ⟨j + 1, by omega, by go_num, Hset.out, Hfar.out, hBx.setCell (by simp) _⟩
            case measure => simp [intOf]; omega
          · obtain rfl : j = 4 := by omega
            have hs1 : sched l (t + 1) = sched l t ++ [word4 l t 4] := by rw [sched, if_pos h16]
            rw [← hs1] at hx1
            go_wp2
            go_roundw
            case rel => exact ⟨t + 1, by omega, by go_num, hx1, hx0, hBx⟩
            case measure => simp [intOf]; omega
      · obtain ⟨u, rfl⟩ : ∃ u, t = u + 16 := ⟨t - 16, by omega⟩
        have d64 : decide ((u : Int) + 16 < 64) = true := by simp; omega
        have d16 : decide ((u : Int) + 16 < 16) = false := by simp; omega
        have hget : ∀ i, i < u + 16 → wr.cell? ⟨w.heap.size + 1, i, none⟩ = some (vW ((sched l (u + 16)).getD i 0#32)) := fun i hi => (blk_cell hb1 i).trans (Arr_get _ _ (by rw [sched_len]; exact hi))
        have g1 := hget (u + 1) (by omega)
        have g14 := hget (u + 14) (by omega)
        have g0 := hget u (by omega)
        have g9 := hget (u + 9) (by omega)
        clear hget
        have hcz : wr.cell? ⟨w.heap.size + 1, u + 16, none⟩ = some (.int .u32 (tI 0#32)) := (blk_cell hb1 _).trans (Arr_zero _ _ (by rw [sched_len]; omega) (by omega))
        have hfz := blk_free hb1 (u + 16)
        have hs1 : sched l (u + 16 + 1) = sched l (u + 16) ++ [nextW (sched l (u + 16)) (u + 16)] := by rw [sched, if_neg h16]
        have hnw : nextW (sched l (u + 16)) (u + 16) = wadd (wadd (wadd ((sched l (u + 16)).getD u 0#32) (s0 ((sched l (u + 16)).getD (u + 1) 0#32))) ((sched l (u + 16)).getD (u + 9) 0#32)) (s1 ((sched l (u + 16)).getD (u + 14) 0#32)) := rfl
        have hb1' := hb1
        rw [← Arr_snoc0 _ (by rw [sched_len]; omega)] at hb1'
        have hset := blk_set hb1' (u + 16) (vW (nextW (sched l (u + 16)) (u + 16)))
        rw [Arr_setAt _ _ (sched_len l (u + 16)), ← hs1] at hset
        have hfar := blk_far hb0 (p := ⟨w.heap.size + 1, u + 16, none⟩) (by simp) (vW (nextW (sched l (u + 16)) (u + 16)))
        rw [hnw] at hset hfar
        clear hnw hs1 hb1' hb1 hb0
        generalize (sched l (u + 16)).getD (u + 1) 0#32 = p1 at *
        generalize (sched l (u + 16)).getD (u + 14) 0#32 = p14 at *
        generalize (sched l (u + 16)).getD u 0#32 = p0 at *
        generalize (sched l (u + 16)).getD (u + 9) 0#32 = p9 at *
        have a1 := xor_go (rotr p1 7) (rotr p1 18)
        have a2 := xor_go (wxor (rotr p1 7) (rotr p1 18)) (shr p1 3)
        have a3 := xor_go (rotr p14 17) (rotr p14 19)
        have a4 := xor_go (wxor (rotr p14 17) (rotr p14 19)) (shr p14 10)
        have a5 : tI p1 / 8 = tI (shr p1 3) := shr_go p1 3
        have a6 : tI p14 / 1024 = tI (shr p14 10) := shr_go p14 10
        have a7 := add_go p0 (s0 p1)
        have a8 := add_go (wadd p0 (s0 p1)) p9
        have a9 := add_go (wadd (wadd p0 (s0 p1)) p9) (s1 p14)
        rw [show wxor (wxor (rotr p1 7) (rotr p1 18)) (shr p1 3) = s0 p1 from rfl] at a2
        rw [show wxor (wxor (rotr p14 17) (rotr p14 19)) (shr p14 10) = s1 p14 from rfl] at a4
        have Hset := Lib.hid hset
        have Hfar := Lib.hid hfar
        clear hset hfar
        replace g1 : wr.cell? ⟨w.heap.size + 1, u + 1, none⟩ = some (.int .u32 (tI p1)) := g1
        replace g14 : wr.cell? ⟨w.heap.size + 1, u + 14, none⟩ = some (.int .u32 (tI p14)) := g14
        replace g0 : wr.cell? ⟨w.heap.size + 1, u, none⟩ = some (.int .u32 (tI p0)) := g0
        replace g9 : wr.cell? ⟨w.heap.size + 1, u + 9, none⟩ = some (.int .u32 (tI p9)) := g9
        go_wp2
        go_quiet (fail)
        go_wp2_with (first | (go_at_call 80; ((with_reducible refine (rot_lit p1 7 25 (-7) _ (by omega) (by omega) (by omega) (by omega)).mono ?_); rintro e w' ⟨rfl, rfl⟩)) | (go_at_call 80; ((with_reducible refine (rot_lit p1 18 14 (-18) _ (by omega) (by omega) (by omega) (by omega)).mono ?_); rintro e w' ⟨rfl, rfl⟩)) | (go_at_call 80; ((with_reducible refine (rot_lit p14 17 15 (-17) _ (by omega) (by omega) (by omega) (by omega)).mono ?_); rintro e w' ⟨rfl, rfl⟩)) | (go_at_call 80; ((with_reducible refine (rot_lit p14 19 13 (-19) _ (by omega) (by omega) (by omega) (by omega)).mono ?_); rintro e w' ⟨rfl, rfl⟩)))
        go_region
        go_wp2
        go_roundw
        case rel => exact ⟨u + 16 + 1, by omega, by go_num, Hset.out, Hfar.out, (Below.setCell (w := wr) hB (by simp) _).trans ⟨rfl, rfl, rfl, Nat.le_refl _, fun _ _ => rfl⟩⟩
        case measure => simp [intOf]; omega
    · obtain rfl : t = 64 := by omega
      have hi : (Tryd.prog.info? 107).map (·.size) = some (Arr (sched l 64)).size := by rw [info64, Arr_size _ (by rw [sched_len]; omega)]
      have hsz : (Arr []).size = (Arr (sched l 64)).size := by rw [Arr_size _ (by simp), Arr_size _ (by rw [sched_len]; omega)]
      go_wp2_with (first | (with_reducible refine wpList_load_row rfl 107 (.tmp 3) rfl (w.heap.size + 1) rfl 107 _ _ _ hb1 Tryd.underlying107 rfl hi ?_) | (with_reducible refine wpList_store_row rfl 107 (.tmp 2) (.tmp 78) rfl w.heap.size (Arr (sched l 64)) rfl rfl 107 _ hb0 hi hsz (Arr_one _) ?_))
      exact bodyPost_ret (v := .agg (Arr (sched l 64))) (results_cell_row Tryd.results73 _ _ w.heap.size 107 _ _ _ rfl (blk_setRow hb0 _) Tryd.underlying107 rfl hi) rfl ⟨rfl, below_setRow hB (Nat.le_refl _) _⟩
/-- the same, the schedule under a name of its own -/
theorem sched_as (ws : List W) (b off cap : Nat) (l : List UInt8) (w : World) (hws : Hid (ws = sched l 64)) (hc : 64 ≤ cap) (hb : b < w.heap.size) (hcell : ∀ i, i < 64 → w.cell? ⟨b, off + i, none⟩ = some (mkB (l.getD i 0))) :
    Calls Tryd.prog 73 #[.slice (some ⟨b, off, none⟩) 64 cap] w fun e w' => e = .returned (.agg (Arr ws)) ∧ Below w.heap.size w w' := by
  refine (sched_any b off cap l w hc hb hcell).mono ?_
  rintro e w' ⟨he, hb'⟩
  exact ⟨by rw [he, hws.out], hb'⟩
end Go.Proofs.YtbgieephehfgpabDoor
/-
  An element of an array by value, at an index that is a variable. Conditions: the index is in range, the elements take one cell.
-/
namespace Go.Proofs.YtbgieephehfgpabDoor
open Go Go.RowKit Sha
theorem run_index_arr {P : Program} (w : World) (t e : TypeId) (n : Nat) (cs : Array Value) (k : IntKind) (i : Nat) (v : Value) (u : TypeDesc) (h : P.underlying t = some (.array n e)) (hi : i < n)
    (hu : P.underlying e = some u) (hd : u.isRow = false) (hs : (P.info? e).map (·.size) = some 1) (hv : cs[i]? = some v) :
    (Instr.index t (.agg cs) (.int k (i : Int))).run P w = .ok v w := by
  cases hq : P.info? e with
  | none => simp [hq] at hs
  | some z =>
    have hz : z.size = 1 := by simpa [hq] using hs
    have hagg : (isAgg e).run P w = .ok false w := by
      unfold isAgg
      rw [Sem.run_bind, run_underlying hu w]
      cases u <;> simp_all [TypeDesc.isRow]
    simp [Instr.index, run_underlying h, asIntOf, hi, sizeOf, typeInfo, hq, hz, part, hagg, hv, go_sem]
theorem run_arrayAt {P : Program} (w : World) (t e : TypeId) (n len cap : Nat) (a : Option Addr) (h : P.underlying t = some (.array n e)) (hl : n ≤ len) :
    (Instr.arrayAt t (.slice a len cap)).run P w = .ok (.pointer a) w := by
  have h' : ¬ len < n := by omega
  simp [Instr.arrayAt, run_underlying h, h', go_sem]
end Go.Proofs.YtbgieephehfgpabDoor
