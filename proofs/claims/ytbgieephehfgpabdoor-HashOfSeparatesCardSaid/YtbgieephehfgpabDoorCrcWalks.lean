/-
  What the program's functions of the check return, each call walked. Conditions: the registers are below 2^40, the tables are as the program's text lays them.
-/
import Derived.Test.YtbgieephehfgpabDoorBase
namespace Go.Proofs.YtbgieephehfgpabDoor
open Go Go.RowKit Crc

set_option maxHeartbeats 400000 in
theorem nibble_any (r : R) (n : Int) (w : World) (hn : 0 ≤ n ∧ n < 256) (hT : Tabs w) :
    Calls Tryd.prog 65 #[.agg #[.int .u64 (toI r)], .int .u8 n] w fun e w' => e = .returned (.agg #[.int .u64 (toI (nib r n.toNat))]) ∧ Below w.heap.size w w' := by
  obtain ⟨h2, h3⟩ := hn
  have h0 := toI_lo r
  have h1 := toI_hi r
  have ej := idx_go r n h2 h3
  have hj := idx_lt r n.toNat
  have hc := hT.nib _ hj
  have hg := nib_go r n.toNat
  have hz := lt_of_cell hc
  generalize idx r n.toNat = j at *
  generalize nibs.getD j 0 = t at *
  generalize toI r = x at *
  have Hg := Lib.hid hg
  clear hg hT
  have hz1 : 1 < w.heap.size := hz
  have hz2 : 1 < w.heap.size + 1 := by omega
  clear hz
  go_enter Tryd.func65, Tryd.ntmps65
  go_wp2
  go_region
  go_wp2
  exact bodyPost_ret (v := .agg #[.int .u64 (bits .xor .u64 (bits .and .u64 (x * 16) 1099511627775) t)]) (by simp [results, Tryd.results65, go_sem]) rfl ⟨ret_agg1 Hg.out, (((Below.refl _ _).alloc (Nat.le_refl _) _).alloc (by simp) _).drew⟩

theorem value_any (r : R) (w : World) :
    Calls Tryd.prog 44 #[.agg #[.int .u64 (toI r)]] w fun e w' => e = .returned (.int .i64 (toI (r ^^^ ones))) ∧ Below w.heap.size w w' := by
  have h0 := toI_lo r
  have h1 := toI_hi r
  have hx : bits .xor .u64 (toI r) 1099511627775 = toI (r ^^^ ones) := xor_toI r ones
  have h2 := toI_lo (r ^^^ ones)
  have h3 := toI_hi (r ^^^ ones)
  generalize toI r = x at *
  generalize toI (r ^^^ ones) = y at *
  go_enter Tryd.func44, Tryd.ntmps44
  go_wp2
  go_ret
  exact ⟨rfl, below_alloc1 _ _⟩

theorem begin_any (w : World) :
    Calls Tryd.prog 42 #[] w fun e w' => e = .returned (.agg #[.int .u64 (toI ones)]) ∧ Below w.heap.size w w' := by
  go_enter Tryd.func42, Tryd.ntmps42
  go_wp2
  exact bodyPost_ret (v := .agg #[.int .u64 1099511627775]) (by simp [results, Tryd.results42, go_sem]) rfl ⟨rfl, below_alloc1 _ _⟩
end Go.Proofs.YtbgieephehfgpabDoor
