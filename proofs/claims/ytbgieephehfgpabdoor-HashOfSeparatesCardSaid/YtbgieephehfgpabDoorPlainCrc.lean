/-
  Plain mathematics of a check of 40 bits: the register as a vector of 40 bits, one bit, four bits, a byte, multiplication modulo the polynomial, and that shifting by n zero bytes is multiplication by the power. No program here. No conditions.
-/
namespace Go.Proofs.YtbgieephehfgpabDoor
namespace Crc
abbrev R := BitVec 40
def P : R := 0x0004820009#40
def top : R := 0x8000000000#40
/-- the register at the beginning -/
def ones : R := BitVec.allOnes 40
/-- multiply by x -/
def X (r : R) : R := (r <<< 1) ^^^ (if r.getLsbD 39 then P else 0#40)
/-- n times -/
def Xn : Nat → R → R
  | 0, r => r
  | n + 1, r => Xn n (X r)
theorem X_xor (a b : R) : X (a ^^^ b) = X a ^^^ X b := by
  unfold X
  rw [BitVec.shiftLeft_xor_distrib, BitVec.getLsbD_xor]
  cases a.getLsbD 39 <;> cases b.getLsbD 39 <;> simp <;> first | ac_rfl | skip
  rw [show a <<< 1 ^^^ P ^^^ (b <<< 1 ^^^ P) = (a <<< 1 ^^^ b <<< 1) ^^^ (P ^^^ P) by ac_rfl]; simp
theorem X_zero : X 0#40 = 0#40 := by decide
theorem Xn_zero (n : Nat) : Xn n 0#40 = 0#40 := by
  induction n with
  | zero => rfl
  | succ n ih => rw [Xn, X_zero, ih]
theorem Xn_xor (n : Nat) : ∀ a b : R, Xn n (a ^^^ b) = Xn n a ^^^ Xn n b := by
  induction n with
  | zero => intro a b; rfl
  | succ n ih => intro a b; rw [Xn, X_xor, ih]; rfl
theorem Xn_add (m n : Nat) : ∀ r : R, Xn (m + n) r = Xn n (Xn m r) := by
  induction m with
  | zero => intro r; rw [Nat.zero_add]; rfl
  | succ m ih => intro r; rw [show m + 1 + n = (m + n) + 1 by omega, Xn, ih]; rfl
theorem Xn_comm (m n : Nat) (r : R) : Xn m (Xn n r) = Xn n (Xn m r) := by
  rw [← Xn_add, ← Xn_add, Nat.add_comm]
theorem X_Xn (n : Nat) (r : R) : X (Xn n r) = Xn n (X r) := Xn_comm 1 n r
theorem Xn_succ' (n : Nat) (r : R) : Xn (n + 1) r = X (Xn n r) := by rw [X_Xn]; rfl
theorem X_inj0 (a : R) (h : X a = 0#40) : a = 0#40 := by
  have h0 : a.getLsbD 39 = false := by
    have := congrArg (fun r : R => r.getLsbD 0) h
    simp [X] at this
    by_cases c : a.getLsbD 39
    · simp [c, P] at this
    · simpa using c
  have h1 : a <<< 1 = 0#40 := by
    unfold X at h
    rw [h0] at h
    simpa using h
  apply BitVec.eq_of_getLsbD_eq
  intro i hi
  by_cases c : i = 39
  · subst c; rw [h0]; simp
  · have := congrArg (fun r : R => r.getLsbD (i + 1)) h1
    simp at this
    have h2 := this (by omega)
    simpa using h2
theorem Xn_inj0 (n : Nat) : ∀ a : R, Xn n a = 0#40 → a = 0#40 := by
  induction n with
  | zero => intro a h; exact h
  | succ n ih => intro a h; exact X_inj0 a (ih _ h)

/-- one bit -/
def stp (r : R) (b : Bool) : R := (r <<< 1) ^^^ (if (r.getLsbD 39 ^^ b) then P else 0#40)
theorem stp_eq (r : R) (b : Bool) : stp r b = X (r ^^^ (if b then top else 0#40)) := by
  unfold stp X
  cases b
  · simp
  · have e : (r ^^^ top) <<< 1 = r <<< 1 := by
      rw [BitVec.shiftLeft_xor_distrib, show top <<< 1 = 0#40 by decide]; simp
    simp only [if_true]
    rw [e, BitVec.getLsbD_xor, show top.getLsbD 39 = true by decide]
/-- the bits of a byte, the most significant one first -/
def byte8 (r : R) (n : Nat) : R :=
  stp (stp (stp (stp (stp (stp (stp (stp r (n.testBit 7)) (n.testBit 6)) (n.testBit 5)) (n.testBit 4)) (n.testBit 3)) (n.testBit 2)) (n.testBit 1)) (n.testBit 0)
/-- the register after four bits -/
def nib (r : R) (n : Nat) : R :=
  stp (stp (stp (stp r (n.testBit 3)) (n.testBit 2)) (n.testBit 1)) (n.testBit 0)
theorem byte8_nib (r : R) (n : Nat) : byte8 r n = nib (nib r (n / 16)) n := by
  have h : ∀ k, (n / 16).testBit k = n.testBit (k + 4) := by
    intro k; rw [show (16 : Nat) = 2 ^ 4 from rfl, Nat.testBit_div_two_pow]
  simp only [byte8, nib, h]

/-- the table -/
def tab : List Nat := [0x00000000, 0x04820009, 0x09040012, 0x0d86001b, 0x12080024, 0x168a002d, 0x1b0c0036, 0x1f8e003f, 0x24100048, 0x20920041, 0x2d14005a, 0x29960053, 0x3618006c, 0x329a0065, 0x3f1c007e, 0x3b9e0077]
def b4 (a b c d : Bool) : Nat := (if a then 8 else 0) + (if b then 4 else 0) + (if c then 2 else 0) + (if d then 1 else 0)
theorem nib_bits (r : R) (a b c d : Bool) : stp (stp (stp (stp r a) b) c) d =
    (r <<< 4) ^^^ BitVec.ofNat 40 (tab.getD (b4 (r.getLsbD 39 ^^ a) (r.getLsbD 38 ^^ b) (r.getLsbD 37 ^^ c) (r.getLsbD 36 ^^ d)) 0) := by
  have g1 : ∀ (x : R) (e : Bool), (stp x e).getLsbD 39 = x.getLsbD 38 := by
    intro x e; unfold stp; cases (x.getLsbD 39 ^^ e) <;> simp [P]
  have g2 : ∀ (x : R) (e : Bool), (stp x e).getLsbD 38 = x.getLsbD 37 := by
    intro x e; unfold stp; cases (x.getLsbD 39 ^^ e) <;> simp [P]
  have g3 : ∀ (x : R) (e : Bool), (stp x e).getLsbD 37 = x.getLsbD 36 := by
    intro x e; unfold stp; cases (x.getLsbD 39 ^^ e) <;> simp [P]
  have s1 : stp r a = (r <<< 1) ^^^ (if (r.getLsbD 39 ^^ a) then P else 0#40) := rfl
  have s2 : stp (stp r a) b = ((stp r a) <<< 1) ^^^ (if (r.getLsbD 38 ^^ b) then P else 0#40) := by rw [← g1 r a]; rfl
  have s3 : stp (stp (stp r a) b) c = ((stp (stp r a) b) <<< 1) ^^^ (if (r.getLsbD 37 ^^ c) then P else 0#40) := by
    rw [← g2 r a, ← g1 (stp r a) b]; rfl
  have s4 : stp (stp (stp (stp r a) b) c) d = ((stp (stp (stp r a) b) c) <<< 1) ^^^ (if (r.getLsbD 36 ^^ d) then P else 0#40) := by
    rw [← g3 r a, ← g2 (stp r a) b, ← g1 (stp (stp r a) b) c]; rfl
  rw [s4, s3, s2, s1]
  have e4 : r <<< 4 = (((r <<< 1) <<< 1) <<< 1) <<< 1 := by simp only [← BitVec.shiftLeft_add]
  rw [e4]
  simp only [BitVec.shiftLeft_xor_distrib, BitVec.xor_assoc]
  congr 1
  generalize (r.getLsbD 39 ^^ a) = f3
  generalize (r.getLsbD 38 ^^ b) = f2
  generalize (r.getLsbD 37 ^^ c) = f1
  generalize (r.getLsbD 36 ^^ d) = f0
  revert f3 f2 f1 f0
  decide

/-- Σ_{i<n} b_i X^i v -/
def S : Nat → R → R → R
  | 0, _, _ => 0#40
  | n + 1, b, v => S n b v ^^^ (if b.getLsbD n then Xn n v else 0#40)
def act (b v : R) : R := S 40 b v
theorem xor4 (a b c d : R) : (a ^^^ b) ^^^ (c ^^^ d) = (a ^^^ c) ^^^ (b ^^^ d) := by ac_rfl
theorem S_xor (n : Nat) (b v w : R) : S n b (v ^^^ w) = S n b v ^^^ S n b w := by
  induction n with
  | zero => simp [S]
  | succ n ih =>
    simp only [S]
    rw [ih, xor4]
    congr 1
    by_cases h : b.getLsbD n <;> simp [h, Xn_xor]
theorem S_xor_left (n : Nat) (b c v : R) : S n (b ^^^ c) v = S n b v ^^^ S n c v := by
  induction n with
  | zero => simp [S]
  | succ n ih =>
    simp only [S]
    rw [ih, xor4]
    congr 1
    rw [BitVec.getLsbD_xor]
    cases b.getLsbD n <;> cases c.getLsbD n <;> simp
theorem S_zero (n : Nat) (b : R) : S n b 0#40 = 0#40 := by
  induction n with
  | zero => rfl
  | succ n ih => simp [S, ih, Xn_zero]
theorem S_Xn (n m : Nat) (b v : R) : S n b (Xn m v) = Xn m (S n b v) := by
  induction n with
  | zero => simp [S, Xn_zero]
  | succ n ih =>
    simp only [S, Xn_xor, ih]
    congr 1
    by_cases h : b.getLsbD n
    · simp [h, Xn_comm n m]
    · simp [h, Xn_zero]
theorem S_S (n m : Nat) (b c v : R) : S n b (S m c v) = S m c (S n b v) := by
  induction m with
  | zero => simp [S, S_zero]
  | succ m ih =>
    simp only [S, S_xor, ih]
    congr 1
    by_cases h : c.getLsbD m
    · simp [h, S_Xn]
    · simp [h, S_zero]
theorem Xn_one : ∀ i : Fin 40, Xn i.1 1#40 = 1#40 <<< i.1 := by decide
theorem S_one (n : Nat) (hn : n ≤ 40) (b : R) : ∀ j, (S n b 1#40).getLsbD j = (decide (j < n) && b.getLsbD j) := by
  induction n with
  | zero => intro j; simp [S]
  | succ n ih =>
    intro j
    have e := Xn_one ⟨n, by omega⟩
    simp only at e
    simp only [S, BitVec.getLsbD_xor, ih (by omega) j]
    have h1 : (1#40 <<< n).getLsbD j = decide (j = n) := by
      simp [BitVec.getLsbD_shiftLeft]
      by_cases c : j = n
      · subst c; simp; omega
      · simp [c]; omega
    by_cases c : j = n
    · subst c
      cases hb : b.getLsbD j <;> simp [e, h1]
    · have h2 : decide (j < n + 1) = decide (j < n) := by simp; omega
      rw [h2]
      cases hb : b.getLsbD n <;> simp [e, h1, c]
theorem act_one (b : R) : act b 1#40 = b := by
  apply BitVec.eq_of_getLsbD_eq
  intro i hi
  unfold act
  rw [S_one 40 (by omega)]
  simp [hi]
theorem act_comm (b v : R) : act b v = act v b := by
  have h : act b (act v 1#40) = act v (act b 1#40) := S_S 40 40 b v 1#40
  rwa [act_one, act_one] at h
theorem act_act (p q v : R) : act (act p q) v = act p (act q v) := by
  rw [act_comm (act p q) v, act_comm q v]
  exact S_S 40 40 v p q
theorem act_Xn (n : Nat) (b v : R) : act b (Xn n v) = Xn n (act b v) := S_Xn 40 n b v
theorem act_Xn_left (n : Nat) (b v : R) : act (Xn n b) v = Xn n (act b v) := by
  rw [act_comm, act_Xn, act_comm]
theorem act_pow8 (v : R) : act (256#40) v = Xn 8 v := by
  have h : (256#40 : R) = Xn 8 1#40 := by decide
  rw [h, act_Xn_left]
  congr 1
  rw [act_comm, act_one]
/-- the loop of times: bits n-1 .. 0 of b are still to come -/
def horner (b a : R) : Nat → R → R
  | 0, out => out
  | n + 1, out => horner b a n (X out ^^^ (if b.getLsbD n then a else 0#40))
theorem horner_eq (b a : R) (n : Nat) : ∀ out, horner b a n out = Xn n out ^^^ S n b a := by
  induction n with
  | zero => intro out; simp [horner, S, Xn]
  | succ n ih =>
    intro out
    simp only [horner, S]
    rw [ih, Xn_xor]
    have h : Xn n (if b.getLsbD n then a else 0#40) = (if b.getLsbD n then Xn n a else 0#40) := by
      by_cases c : b.getLsbD n <;> simp [c, Xn_zero]
    rw [h]
    show Xn n (X out) ^^^ _ ^^^ _ = Xn n (X out) ^^^ _
    ac_rfl
def times (a b : R) : R := horner b a 40 0#40
theorem times_eq (a b : R) : times a b = act b a := by
  unfold times; rw [horner_eq, Xn_zero]; simp [act]
/-- the loop of Join -/
def joinLoop : Nat → R → R → R
  | n, out, power => if h : n = 0 then out else joinLoop (n / 2) (if n % 2 = 1 then times out power else out) (times power power)
termination_by n => n
theorem joinLoop_eq (n : Nat) : ∀ (m : Nat) (out power : R), (∀ v, act power v = Xn m v) → joinLoop n out power = Xn (m * n) out := by
  induction n using Nat.strongRecOn with
  | _ n ih =>
    intro m out power hp
    rw [joinLoop]
    by_cases h : n = 0
    · subst h; simp [Xn]
    · rw [dif_neg h]
      rw [ih (n / 2) (by omega) (m + m)]
      · by_cases c : n % 2 = 1
        · rw [if_pos c, times_eq, hp, ← Xn_add]
          congr 1
          have : n = 2 * (n / 2) + 1 := by omega
          conv => rhs; rw [this]
          rw [Nat.mul_add, Nat.add_mul, ← Nat.mul_assoc, Nat.mul_comm m 2, Nat.two_mul, Nat.add_mul, Nat.mul_one]
          omega
        · rw [if_neg c]
          congr 1
          have : n = 2 * (n / 2) := by omega
          conv => rhs; rw [this]
          rw [← Nat.mul_assoc, Nat.mul_comm m 2, Nat.two_mul]
      · intro v
        rw [times_eq, act_act, hp, hp, ← Xn_add]
theorem join_eq (n : Nat) (a : R) : joinLoop n a 256#40 = Xn (8 * n) a := joinLoop_eq n 8 a 256#40 act_pow8

end Crc
end Go.Proofs.YtbgieephehfgpabDoor
