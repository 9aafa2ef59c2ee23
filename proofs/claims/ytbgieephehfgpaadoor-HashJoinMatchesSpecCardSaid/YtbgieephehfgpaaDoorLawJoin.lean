/-
  The functions of the laws HashJoinMatchesSpec and HashShifts return true. Condition: the tables are as the program's text lays them.
-/
import Derived.Test.YtbgieephehfgpaaDoorSanity
import Derived.Test.YtbgieephehfgpaaDoorRefJoin
namespace Go.Proofs.YtbgieephehfgpaaDoor
open Go Go.RowKit Sha Crc
set_option maxHeartbeats 4000000 in
theorem lawjoin_any (a b n : Int) (w : World) (hn : -9223372036854775808 ≤ n) (hT : Tabs w) :
    Calls Tryd.prog 6 #[.int .i64 a, .int .i64 b, .int .i64 n] w fun e w' => e = .returned (.bool true) ∧ Below w.heap.size w w' := by
  by_cases h3 : 300 < n
  · go_enter Tryd.func6, Tryd.ntmps6
    go_wp2_with (go_at_call 13; ((with_reducible refine (sanity_any w hT).mono ?_); rintro e w1 ⟨rfl, hw1⟩))
    go_ret
    exact ⟨rfl, hw1⟩
  · by_cases h0 : n < 0
    · go_enter Tryd.func6, Tryd.ntmps6
      go_wp2_with (first
        | (go_at_call 13; ((with_reducible refine (sanity_any w hT).mono ?_); rintro e w1 ⟨rfl, hw1⟩))
        | (go_at_call 24; ((with_reducible refine (join_neg a b n w1 h0).mono ?_); rintro e w2 ⟨rfl, rfl⟩))
        | (go_at_call 25; ((with_reducible refine (refjoin_neg a b n w1 h0).mono ?_); rintro e w2 ⟨rfl, rfl⟩)))
      go_ret
      exact ⟨rfl, hw1⟩
    · obtain ⟨N, rfl⟩ := Int.eq_ofNat_of_zero_le (show 0 ≤ n by omega)
      have hN : N ≤ 300 := by omega
      clear hn h0
      have hj := fun W (hW : Tabs W) => join_as a b (N : Int) N _ W rfl (by omega) rfl hW
      have hr := fun W => refjoin_nat a b N W (by omega)
      generalize toI (Xn (8 * N) (low a) ^^^ low b) = y at *
      go_enter Tryd.func6, Tryd.ntmps6
      go_wp2_with (first
        | (go_at_call 13; ((with_reducible refine (sanity_any w hT).mono ?_); rintro e w1 ⟨rfl, hw1⟩; have hT1 := hT.below hw1))
        | (go_at_call 24; ((with_reducible refine (hj w1 hT1).mono ?_); rintro e w2 ⟨rfl, rfl⟩))
        | (go_at_call 25; ((with_reducible refine (hr w1).mono ?_); rintro e w2 ⟨rfl, rfl⟩)))
      go_ret
      exact ⟨rfl, hw1⟩
set_option maxHeartbeats 4000000 in
theorem lawshifts_any (a b n m : Int) (w : World) (hT : Tabs w) :
    Calls Tryd.prog 8 #[.int .i64 a, .int .i64 b, .int .i64 n, .int .i64 m] w fun e w' => e = .returned (.bool true) ∧ Below w.heap.size w w' := by
  obtain ⟨N, hN⟩ : ∃ N : Nat, (N : Int) = n % 1099511627776 := ⟨(n % 1099511627776).toNat, Int.toNat_of_nonneg (by omega)⟩
  obtain ⟨M, hM⟩ : ∃ M : Nat, (M : Int) = m % 1099511627776 := ⟨(m % 1099511627776).toNat, Int.toNat_of_nonneg (by omega)⟩
  have hN1 : N < 1099511627776 := by omega
  have hM1 : M < 1099511627776 := by omega
  have mn : bits .and .i64 n 1099511627775 = (N : Int) := by rw [i64_and40, hN]
  have mm : bits .and .i64 m 1099511627775 = (M : Int) := by rw [i64_and40, hM]
  have mb : bits .and .i64 b 1099511627775 = toI (low b) := by rw [i64_and40, toI_low]
  have hl0 : low 0 = 0#40 := by decide
  have hj1 := fun W (hW : Tabs W) => join_as a 0 ((N : Int) + (M : Int)) (N + M) (toI (Xn (8 * M) (Xn (8 * N) (low a)))) W (by omega) (by omega) (by rw [hl0, BitVec.xor_zero, ← Xn_add]; congr 2; omega) hW
  have hj2 := fun W (hW : Tabs W) => join_as a 0 (N : Int) N (toI (Xn (8 * N) (low a))) W rfl (by omega) (by rw [hl0, BitVec.xor_zero]) hW
  have hj3 := fun W (hW : Tabs W) => join_as (toI (Xn (8 * N) (low a))) 0 (M : Int) M (toI (Xn (8 * M) (Xn (8 * N) (low a)))) W rfl (by omega) (by rw [hl0, BitVec.xor_zero, low_toI]) hW
  have hj4 := fun W (hW : Tabs W) => join_as a b ((N : Int) + (M : Int)) (N + M) (toI (Xn (8 * M) (Xn (8 * N) (low a)) ^^^ low b)) W (by omega) (by omega) (by rw [← Xn_add]; congr 3; omega) hW
  have hj5 := fun W (hW : Tabs W) => join_as 0 b (N : Int) N (toI (low b)) W rfl (by omega) (by rw [hl0, Xn_zero, BitVec.zero_xor]) hW
  have hx := i64_xor_toI (Xn (8 * M) (Xn (8 * N) (low a))) (low b)
  generalize toI (Xn (8 * M) (Xn (8 * N) (low a)) ^^^ low b) = y4 at *
  generalize toI (Xn (8 * M) (Xn (8 * N) (low a))) = y1 at *
  generalize toI (Xn (8 * N) (low a)) = y2 at *
  generalize toI (low b) = y5 at *
  clear hN hM hl0
  go_enter Tryd.func8, Tryd.ntmps8
  go_wp2_with (first
    | (go_at_call 13; ((with_reducible refine (sanity_any w hT).mono ?_); rintro e w1 ⟨rfl, hw1⟩; have hT1 := hT.below hw1))
    | (go_at_call 24; ((with_reducible refine (hj1 w1 hT1).mono ?_); rintro e w2 ⟨rfl, rfl⟩))
    | (go_at_call 24; ((with_reducible refine (hj2 w1 hT1).mono ?_); rintro e w2 ⟨rfl, rfl⟩))
    | (go_at_call 24; ((with_reducible refine (hj3 w1 hT1).mono ?_); rintro e w2 ⟨rfl, rfl⟩))
    | (go_at_call 24; ((with_reducible refine (hj4 w1 hT1).mono ?_); rintro e w2 ⟨rfl, rfl⟩))
    | (go_at_call 24; ((with_reducible refine (hj5 w1 hT1).mono ?_); rintro e w2 ⟨rfl, rfl⟩)))
  go_ret
  exact ⟨rfl, hw1⟩
end Go.Proofs.YtbgieephehfgpaaDoor
