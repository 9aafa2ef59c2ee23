/-
  What the reference's Join returns, and the program's Join at plain integers. Conditions: n from 0 to 10^6 (reference), to 2^63 - 1 (program).
-/
import Derived.Test.YtbgieephehfgpaaDoorRefCrc
import Derived.Test.YtbgieephehfgpaaDoorPlainLaws
namespace Go.Proofs.YtbgieephehfgpaaDoor
open Go Go.RowKit Crc
theorem step_zero (r : R) (w : World) :
    Calls Tryd.prog 36 #[.int .u64 (toI r), .int .u64 0] w fun e w' => e = .returned (.int .u64 (toI (X r))) ∧ w = w' := by
  have h := step_any r false w
  rw [stp_X] at h
  exact h
set_option maxHeartbeats 1000000 in
theorem refjoin_nat (a b : Int) (n : Nat) (w : World) (hn : n ≤ 1000000) :
    Calls Tryd.prog 25 #[.int .i64 a, .int .i64 b, .int .i64 (n : Int)] w fun e w' => e = .returned (.int .i64 (toI (Xn (8 * n) (low a) ^^^ low b))) ∧ w = w' := by
  have ma := mask_low a
  have mb := mask_low b
  have hn0 : decide ((n : Int) < 0) = false := by simp
  have e8 : IntKind.i64.wrap (8 * (n : Int)) = 8 * (n : Int) := IntWalk.i64_in _ (by omega)
  go_enter Tryd.func25, Tryd.ntmps25
  go_wp2
  go_loop [7, 8] (fun r i => ∃ k : Nat, k ≤ 8 * n ∧ i = .int .i64 (k : Int) ∧ r = .int .u64 (toI (Xn k (low a)))) (fun _ i => 8 * n - (intOf i).toNat)
  case atStart => exact ⟨0, by omega, rfl, rfl⟩
  case round =>
    obtain ⟨k, hk, rfl, rfl⟩ := hrel
    have hs := Xn_succ' k (low a)
    by_cases hlt : k < 8 * n
    · have Hs := Lib.hid hs
      clear hs
      generalize Xn k (low a) = r at *
      go_wp2_with (go_at_call 36; ((with_reducible refine (step_zero r _).mono ?_); rintro e w' ⟨rfl, rfl⟩))
      go_round
      case rel => exact ⟨k + 1, by omega, by go_num, by rw [Hs.out]⟩
      case measure => simp [intOf]; omega
    · obtain rfl : k = 8 * n := by omega
      have hx := xor_toI (Xn (8 * n) (low a)) (low b)
      have hx0 := toI_lo (Xn (8 * n) (low a) ^^^ low b)
      have hx1 := toI_hi (Xn (8 * n) (low a) ^^^ low b)
      clear hs
      generalize hr : Xn (8 * n) (low a) = r at *
      have Hr := Lib.hid hr
      clear hr
      have ek : decide (((8 * n : Nat) : Int) < 8 * (n : Int)) = false := by simp
      go_wp2
      go_ret
      exact ⟨by rw [Hr.out]; rfl, rfl⟩
set_option maxHeartbeats 1000000 in
theorem refjoin_neg (a b n : Int) (w : World) (hn : n < 0) :
    Calls Tryd.prog 25 #[.int .i64 a, .int .i64 b, .int .i64 n] w fun e w' => e = .returned (.int .i64 0) ∧ w = w' := by
  go_enter Tryd.func25, Tryd.ntmps25
  go_wp2
  go_ret
  exact ⟨rfl, rfl⟩
/-- the program's Join, what it comes to given as an equation -/
theorem join_as (a b n : Int) (N : Nat) (y : Int) (w : World) (hN : n = (N : Int)) (hn : N ≤ 9223372036854775807) (hy : toI (Xn (8 * N) (low a) ^^^ low b) = y) (hT : Tabs w) :
    Calls Tryd.prog 24 #[.int .i64 a, .int .i64 b, .int .i64 n] w fun e w' => e = .returned (.int .i64 y) ∧ w = w' := by
  subst hN
  have h := join_nat a b N w hn hT
  rw [join_eq, hy] at h
  exact h
theorem low_zero : low 0 = 0#40 := by decide
theorem i64_xor_toI (a b : R) : bits .xor .i64 (toI a) (toI b) = toI (a ^^^ b) := by
  have ha := a.isLt
  have hb := b.isLt
  have hx := (a ^^^ b).isLt
  rw [BitVec.toNat_xor] at hx
  have key : (BitVec.ofInt 64 (toI a) ^^^ BitVec.ofInt 64 (toI b)).toNat = a.toNat ^^^ b.toNat := by
    rw [BitVec.toNat_xor, BitVec.toNat_ofInt, BitVec.toNat_ofInt]
    unfold toI
    congr 1 <;> omega
  show IntKind.i64.wrap ((BitVec.ofInt 64 (toI a) ^^^ BitVec.ofInt 64 (toI b)).toNat : Nat) = _
  rw [key, IntKind.wrap_i64]
  unfold toI
  rw [BitVec.toNat_xor]
  omega
end Go.Proofs.YtbgieephehfgpaaDoor
