/-
  What the program's hash.Join returns. Conditions: the tables are as the program's text lays them.
-/
import Derived.Test.YtbgieephehfgpabDoorCrcTimes
namespace Go.Proofs.YtbgieephehfgpabDoor
open Go Go.RowKit Crc
/-- the lowest 40 bits of an int -/
def Crc.low (a : Int) : R := BitVec.ofInt 40 a
theorem Crc.toI_low (a : Int) : toI (low a) = a % 1099511627776 := by
  unfold toI low
  rw [BitVec.toNat_ofInt]
  omega
theorem Crc.mask_low (a : Int) : bits .and .u64 (IntKind.u64.wrap a) 1099511627775 = toI (low a) := by
  rw [IntKind.wrap_u64, and_mask _ (by omega) (by omega), toI_low]; omega
theorem Crc.odd_go (k : Nat) : (bits .and .i64 (k : Int) 1 == 1) = decide (k % 2 = 1) := by
  rw [i64_and1, Bool.eq_iff_iff, beq_iff_eq, decide_eq_true_eq]
  omega
/-- what Join returns -/
def Crc.joinI (a b n : Int) : Int := if n < 0 then 0 else toI (joinLoop n.toNat (low a) 256#40 ^^^ low b)

set_option maxHeartbeats 1000000 in
theorem join_neg (a b n : Int) (w : World) (hn : n < 0) :
    Calls Tryd.prog 46 #[.int .i64 a, .int .i64 b, .int .i64 n] w fun e w' => e = .returned (.int .i64 0) ∧ w = w' := by
  go_enter Tryd.func46, Tryd.ntmps46
  go_wp2
  go_ret
  exact ⟨rfl, rfl⟩

set_option maxHeartbeats 1000000 in
theorem join_nat (a b : Int) (n : Nat) (w : World) (hn : n ≤ 9223372036854775807) (hT : Tabs w) :
    Calls Tryd.prog 46 #[.int .i64 a, .int .i64 b, .int .i64 (n : Int)] w fun e w' => e = .returned (.int .i64 (toI (joinLoop n (low a) 256#40 ^^^ low b))) ∧ w = w' := by
  have ma := mask_low a
  have mb := mask_low b
  have hn0 : decide ((n : Int) < 0) = false := by simp
  go_enter Tryd.func46, Tryd.ntmps46
  go_wp2
  go_loop [2, 7, 8] (fun m o p => ∃ k : Nat, k ≤ n ∧ m = .int .i64 (k : Int) ∧ ∃ out pw : R, o = .int .u64 (toI out) ∧ p = .int .u64 (toI pw) ∧ joinLoop k out pw = joinLoop n (low a) 256#40) (fun m _ _ => (intOf m).toNat)
  case atStart => exact ⟨n, Nat.le_refl _, rfl, low a, 256#40, rfl, rfl, rfl⟩
  case round =>
    obtain ⟨k, hk, rfl, out, pw, rfl, rfl, hj⟩ := hrel
    by_cases hk0 : k = 0
    · subst hk0
      rw [joinLoop, dif_pos rfl] at hj
      have hx := xor_toI out (low b)
      have hx0 := toI_lo (out ^^^ low b)
      have hx1 := toI_hi (out ^^^ low b)
      have Hj := Lib.hid hj
      clear hj
      go_wp2
      go_ret
      exact ⟨ret_int (by rw [Hj.out]), rfl⟩
    · have hk1 : 0 < k := by omega
      have hodd := odd_go k
      rw [joinLoop, dif_neg hk0] at hj
      cases ho : decide (k % 2 = 1)
      all_goals
        rw [ho] at hodd
      · have hj' : joinLoop (k / 2) out (times pw pw) = joinLoop n (low a) 256#40 := by simpa [of_decide_eq_false ho] using hj
        have Hj := Lib.hid hj'
        clear hj hj' ho hk0
        go_wp2_with (go_at_call 66; ((with_reducible refine (times_any _ _ _ hT).mono ?_); rintro e w' ⟨rfl, rfl⟩))
        go_round
        case rel => exact ⟨k / 2, by omega, by go_num, out, _, rfl, rfl, Hj.out⟩
        case measure => simp [intOf]; omega
      · have hj' : joinLoop (k / 2) (times out pw) (times pw pw) = joinLoop n (low a) 256#40 := by simpa [of_decide_eq_true ho] using hj
        have Hj := Lib.hid hj'
        clear hj hj' ho hk0
        go_wp2_with (go_at_call 66; ((with_reducible refine (times_any _ _ _ hT).mono ?_); rintro e w' ⟨rfl, rfl⟩))
        go_round
        case rel => exact ⟨k / 2, by omega, by go_num, _, _, rfl, rfl, Hj.out⟩
        case measure => simp [intOf]; omega
end Go.Proofs.YtbgieephehfgpabDoor
