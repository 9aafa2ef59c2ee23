/-
  Plain laws of the check of 40 bits: it is linear, checks of pieces are joined, one bit flipped is one power of x. No conditions.
-/
import Derived.Test.YtbgieephehfgpaaDoorWords
import Derived.Test.YtbgieephehfgpaaDoorCrcJoin
namespace Go.Proofs.YtbgieephehfgpaaDoor
open Go Go.RowKit
namespace Crc
theorem stp_lin (r s : R) (b c : Bool) : stp (r ^^^ s) (b ^^ c) = stp r b ^^^ stp s c := by
  rw [stp_eq, stp_eq, stp_eq, ← X_xor]
  congr 1
  cases b <;> cases c <;> simp <;> first | ac_rfl | skip
  rw [show r ^^^ top ^^^ (s ^^^ top) = (r ^^^ s) ^^^ (top ^^^ top) by ac_rfl]; simp
theorem byte8_lin (r s : R) (n m : Nat) : byte8 (r ^^^ s) (n ^^^ m) = byte8 r n ^^^ byte8 s m := by
  unfold byte8
  simp only [Nat.testBit_xor, stp_lin]
theorem stp_X (r : R) : stp r false = X r := by rw [stp_eq]; simp
theorem byte8_zero (r : R) : byte8 r 0 = Xn 8 r := by
  unfold byte8
  simp only [Nat.zero_testBit, stp_X]
  rfl
theorem adds_append (r : R) (l m : List UInt8) : adds r (l ++ m) = adds (adds r l) m := by
  unfold adds; rw [List.foldl_append]
theorem adds_cons (r : R) (b : UInt8) (m : List UInt8) : adds r (b :: m) = adds (byte8 r b.toNat) m := rfl
theorem adds_lin (r s : R) (l : List UInt8) : adds (r ^^^ s) l = adds r l ^^^ Xn (8 * l.length) s := by
  induction l generalizing r s with
  | nil => rfl
  | cons b l ih =>
    rw [adds_cons, adds_cons]
    have h := byte8_lin r s b.toNat 0
    rw [Nat.xor_zero, byte8_zero] at h
    rw [h, ih, ← Xn_add]
    congr 2
    simp; omega
theorem adds_at (r : R) (l : List UInt8) : adds r l = adds 0#40 l ^^^ Xn (8 * l.length) r := by
  have := adds_lin 0#40 r l
  rwa [BitVec.zero_xor] at this
/-- checks of pieces are joined -/
theorem crc_join (a b : List UInt8) : Xn (8 * b.length) (crc a) ^^^ crc b = crc (a ++ b) := by
  unfold crc
  rw [adds_append, Xn_xor, adds_at (adds ones a) b, adds_at ones b]
  have e : ∀ p q r s : R, p ^^^ q ^^^ (r ^^^ q ^^^ s) = r ^^^ p ^^^ s := by
    intro p q r s
    rw [show p ^^^ q ^^^ (r ^^^ q ^^^ s) = (r ^^^ p ^^^ s) ^^^ (q ^^^ q) by ac_rfl]; simp
  exact e _ _ _ _
theorem crc_adds (a b : List UInt8) : adds (adds ones a) b ^^^ ones = crc (a ++ b) := by
  unfold crc; rw [adds_append]
theorem low_toI (r : R) : low (toI r) = r := by
  apply BitVec.eq_of_toNat_eq
  have h := r.isLt
  unfold low toI
  rw [BitVec.toNat_ofInt]
  omega
/-- the exclusive or of bytes, the second list cut or extended by zero bytes -/
def xorL : List UInt8 → List UInt8 → List UInt8
  | [], _ => []
  | a :: l, [] => a :: xorL l []
  | a :: l, b :: m => (a ^^^ b) :: xorL l m
theorem xorL_len (l : List UInt8) : ∀ m, (xorL l m).length = l.length := by
  induction l with
  | nil => intro m; rfl
  | cons a l ih => intro m; cases m <;> simp [xorL, ih]
theorem xorL_nil (l : List UInt8) : xorL l [] = l := by
  induction l with
  | nil => rfl
  | cons a l ih => rw [xorL, ih]
theorem adds_xorL (l : List UInt8) : ∀ (m : List UInt8) (r s : R), m.length = l.length → adds (r ^^^ s) (xorL l m) = adds r l ^^^ adds s m := by
  induction l with
  | nil => intro m r s h; cases m with
    | nil => rfl
    | cons b m => simp at h
  | cons a l ih =>
    intro m r s h
    cases m with
    | nil => simp at h
    | cons b m =>
      rw [xorL, adds_cons, adds_cons, adds_cons, UInt8.toNat_xor, byte8_lin]
      exact ih m _ _ (by simpa using h)
theorem crc_linear (a y z : List UInt8) (hy : y.length = a.length) (hz : z.length = a.length) : crc (xorL (xorL a y) z) = crc a ^^^ crc y ^^^ crc z := by
  have h1 := adds_xorL a y (ones ^^^ ones) ones hy
  have h2 := adds_xorL (xorL a y) z (ones ^^^ ones ^^^ ones) (ones ^^^ ones) (by rw [xorL_len]; exact hz)
  unfold crc
  have e0 : (ones ^^^ ones : R) = 0#40 := by simp
  have e1 := adds_xorL a y ones 0#40 hy
  have e2 := adds_xorL (xorL a y) z ones 0#40 (by rw [xorL_len]; exact hz)
  rw [BitVec.xor_zero] at e1 e2
  rw [e2, e1, adds_at ones y, adds_at ones z]
  rw [hy, hz]
  generalize adds ones a = A
  generalize adds 0#40 y = Y
  generalize adds 0#40 z = Z
  generalize Xn (8 * a.length) ones = K
  rw [show A ^^^ ones ^^^ (Y ^^^ K ^^^ ones) ^^^ (Z ^^^ K ^^^ ones) = (A ^^^ Y ^^^ Z ^^^ ones) ^^^ (K ^^^ K) ^^^ (ones ^^^ ones) by ac_rfl]
  simp
/-- a byte whose bit j (the highest is 0) is flipped -/
def flipB (x : UInt8) (j : Nat) : UInt8 := x ^^^ UInt8.ofNat (1 <<< (7 - j))
theorem flip8 : ∀ j : Fin 8, byte8 0#40 (1 <<< (7 - j.1)) = Xn (8 - j.1) top := by decide +kernel
theorem byte8_flip (r : R) (x : UInt8) (j : Nat) (hj : j < 8) : byte8 r (flipB x j).toNat = byte8 r x.toNat ^^^ Xn (8 - j) top := by
  have h := flip8 ⟨j, hj⟩
  simp only at h
  have hb : 1 <<< (7 - j) < 256 := by
    rw [Nat.one_shiftLeft]
    exact Nat.lt_of_lt_of_le (Nat.pow_lt_pow_right (by omega) (show 7 - j < 8 by omega)) (by decide)
  unfold flipB
  rw [UInt8.toNat_xor, UInt8.toNat_ofNat', Nat.mod_eq_of_lt hb, ← h]
  have := byte8_lin r 0#40 x.toNat (1 <<< (7 - j))
  rwa [BitVec.xor_zero] at this
theorem adds_flip (l : List UInt8) : ∀ (r : R) (i j : Nat) (x : UInt8), j < 8 → l[i]? = some x → adds r (l.set i (flipB x j)) = adds r l ^^^ Xn (8 * l.length - (8 * i + j)) top := by
  induction l with
  | nil => intro r i j x hj h; simp at h
  | cons b l ih =>
    intro r i j x hj h
    cases i with
    | zero =>
      simp at h
      subst h
      rw [List.set_cons_zero, adds_cons, byte8_flip _ _ _ hj, adds_lin, ← Xn_add, adds_cons]
      congr 2
      simp; omega
    | succ i =>
      rw [List.set_cons_succ, adds_cons, adds_cons, ih _ i j x hj (by simpa using h)]
      congr 2
      simp; omega
/-- the flipped bits of a pattern, among its first n -/
def patR (p : Nat) (M : Nat) : Nat → R
  | 0 => 0#40
  | k + 1 => patR p M k ^^^ (if p.testBit k && decide (k < M) then 1#40 <<< (39 - k) else 0#40)
theorem top_one : top = Xn 39 1#40 := by decide +kernel
theorem flip_at (M k : Nat) (hk : k < 40) (hM : k < M) : Xn (M - k) top = Xn M (1#40 <<< (39 - k)) := by
  have e := Xn_one ⟨39 - k, by omega⟩
  simp only at e
  rw [← e, top_one, ← Xn_add, ← Xn_add]
  congr 1
  omega
theorem patR_bit (p M n : Nat) (hn : n ≤ 40) (j : Nat) (hj : j < 40) : (patR p M n).getLsbD j = (decide (39 - j < n) && (p.testBit (39 - j) && decide (39 - j < M))) := by
  induction n with
  | zero => simp [patR]
  | succ n ih =>
    rw [patR, BitVec.getLsbD_xor, ih (by omega)]
    have h1 : (1#40 <<< (39 - n)).getLsbD j = decide (j = 39 - n) := by
      simp [BitVec.getLsbD_shiftLeft]
      by_cases c : j = 39 - n
      · subst c; simp; omega
      · simp [c]; omega
    by_cases c : j = 39 - n
    · have e : 39 - j = n := by omega
      rw [e]
      cases hp : (p.testBit n && decide (n < M)) <;> simp [c]
      omega
    · have e : decide (39 - j < n + 1) = decide (39 - j < n) := by simp; omega
      rw [e]
      cases hp : (p.testBit n && decide (n < M)) <;> simp [h1, c]
theorem patR_zero (p M n : Nat) (hn : n ≤ 40) : patR p M n = 0#40 ↔ ∀ k, k < n → k < M → p.testBit k = false := by
  constructor
  · intro h k hk hM
    have := patR_bit p M n hn (39 - k) (by omega)
    rw [h, show 39 - (39 - k) = k by omega] at this
    simp [hk, hM] at this
    exact this
  · intro h
    apply BitVec.eq_of_getLsbD_eq
    intro j hj
    rw [patR_bit p M n hn j hj]
    simp
    intro h1 h2
    rcases Nat.lt_or_ge (39 - j) M with hm | hm
    · rw [h _ h1 hm] at h2; simp at h2
    · exact hm
theorem crc_eq_iff (a b : List UInt8) (v : R) (n : Nat) (h : adds ones b = adds ones a ^^^ Xn n v) : crc a = crc b ↔ v = 0#40 := by
  unfold crc
  rw [h]
  constructor
  · intro e
    apply Xn_inj0 n
    have : adds ones a = adds ones a ^^^ Xn n v := by
      have e2 := congrArg (fun r => r ^^^ ones) e
      simp only [BitVec.xor_assoc, BitVec.xor_self, BitVec.xor_zero] at e2
      exact e2
    have e3 := congrArg (fun r => adds ones a ^^^ r) this
    simp only [← BitVec.xor_assoc, BitVec.xor_self, BitVec.zero_xor] at e3
    exact e3.symm
  · rintro rfl
    rw [Xn_zero, BitVec.xor_zero]
end Crc
end Go.Proofs.YtbgieephehfgpaaDoor
