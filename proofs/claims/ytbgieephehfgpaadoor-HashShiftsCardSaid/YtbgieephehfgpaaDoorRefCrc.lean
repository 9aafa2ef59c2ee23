/-
  What the reference's step and Crc40 return: the register after a bit, the check of the bytes. Conditions: at most 10^9 bytes.
-/
import Derived.Test.YtbgieephehfgpaaDoorCrc40
namespace Go.Proofs.YtbgieephehfgpaaDoor
open Go Go.RowKit Crc
theorem and1_u64 (a : Nat) (h : a < 18446744073709551616) : bits .and .u64 (a : Int) 1 = ((a % 2 : Nat) : Int) := by
  rw [u64_and (a : Int) 1 (by omega) (by omega) (by omega) (by omega)]
  simp [Nat.and_one_is_mod]
theorem shr39 (r : R) : bits .and .u64 (toI r / 549755813888) 1 = if r.getLsbD 39 then 1 else 0 := by
  have h1 : toI r / 549755813888 = ((r.toNat / 549755813888 : Nat) : Int) := by unfold toI; omega
  rw [h1, and1_u64 _ (by have := r.isLt; omega)]
  have h2 : r.getLsbD 39 = decide (r.toNat / 549755813888 % 2 = 1) := by
    rw [← BitVec.testBit_toNat, Nat.testBit_eq_decide_div_mod_eq]
  rw [h2]
  rcases Nat.mod_two_eq_zero_or_one (r.toNat / 549755813888) with h | h <;> simp [h]
theorem P_toI : toI P = 75628553 := by decide
set_option maxRecDepth 100000 in
set_option maxHeartbeats 1000000 in
theorem step_any (r : R) (b : Bool) (w : World) :
    Calls Tryd.prog 36 #[.int .u64 (toI r), .int .u64 (if b then 1 else 0)] w fun e w' => e = .returned (.int .u64 (toI (stp r b))) ∧ w = w' := by
  have h39 := shr39 r
  have ew : IntKind.u64.wrap (toI r * 2) = toI r * 2 := IntWalk.u64_in _ (by have := toI_lo r; have := toI_hi r; omega)
  have hs := sh1_go r
  have hx : bits .xor .u64 (toI (r <<< 1)) 75628553 = toI ((r <<< 1) ^^^ P) := by rw [← P_toI]; exact xor_toI _ _
  have hst : stp r b = (r <<< 1) ^^^ (if (r.getLsbD 39 ^^ b) then P else 0#40) := rfl
  have x00 : bits .xor .u64 0 0 = 0 := by decide
  have x01 : bits .xor .u64 0 1 = 1 := by decide
  have x10 : bits .xor .u64 1 0 = 1 := by decide
  have x11 : bits .xor .u64 1 1 = 0 := by decide
  generalize stp r b = s at *
  cases hb : b <;> cases hr : r.getLsbD 39 <;> rw [hb, hr] at hst <;> rw [hr] at h39 <;> simp at hst h39 <;>
    (have Hst := Lib.hid hst
     clear hst hb hr
     go_enter Tryd.func36, Tryd.ntmps36
     go_wp2
     go_ret
     exact ⟨by rw [Hst.out]; rfl, rfl⟩)
/-- the register after the first bits of a byte -/
def Crc.bits8 (r : R) (n : Nat) : Nat → R
  | 0 => r
  | k + 1 => stp (bits8 r n k) (n.testBit (7 - k))
theorem bits8_byte8 (r : R) (n : Nat) : bits8 r n 8 = byte8 r n := rfl
theorem bit_at (n k : Nat) (hn : n < 256) : bits .and .u64 ((n : Int) / 2 ^ k) 1 = if n.testBit k then 1 else 0 := by
  have h1 : (n : Int) / 2 ^ k = ((n / 2 ^ k : Nat) : Int) := by simp
  rw [h1, and1_u64 _ (Nat.lt_of_le_of_lt (Nat.div_le_self _ _) (by omega))]
  rw [Nat.testBit_eq_decide_div_mod_eq]
  rcases Nat.mod_two_eq_zero_or_one (n / 2 ^ k) with h | h <;> simp [h]
theorem ones_toI : toI ones = 1099511627775 := by decide
set_option maxRecDepth 100000 in
set_option maxHeartbeats 1000000 in
theorem refcrc_any (v : Value) (l : List UInt8) (w : World) (hr : RdB w v l) (hs : l.length ≤ 1000000000) :
    Calls Tryd.prog 15 #[v] w fun e w' => e = .returned (.int .i64 (toI (crc l))) ∧ w = w' := by
  obtain ⟨va, vcap, rfl, hvc, hvcell⟩ := hr
  go_enter Tryd.func15, Tryd.ntmps15
  go_wp2
  go_loopw [3, 4, 5] (fun x i _ wr => ∃ k : Nat, k ≤ l.length ∧ i = .int .i64 (k : Int) ∧ x = .int .u64 (toI (adds ones (l.take k))) ∧ w = wr) (fun _ i _ _ => l.length - (intOf i).toNat)
  case atStart => exact ⟨0, by omega, rfl, by rw [List.take_zero]; show _ = Value.int .u64 (toI ones); rw [ones_toI], rfl⟩
  case round =>
    obtain ⟨k, hk, rfl, rfl, rfl⟩ := hrel
    by_cases h : k < l.length
    · rcases hvcell with hnil | ⟨b, off, rfl, hbl, hcell⟩
      · subst hnil; simp at h
      · obtain ⟨x, hx⟩ : ∃ x, l[k]? = some x := ⟨_, List.getElem?_eq_getElem h⟩
        have hcx : w.cell? ⟨b, off + k, none⟩ = some (.int .u8 (x.toNat : Int)) := hcell k x hx
        have hnext : adds ones (l.take (k + 1)) = bits8 (adds ones (l.take k)) x.toNat 8 := by
          rw [bits8_byte8, List.take_add_one, hx]; simp [adds, List.foldl_append]
        generalize adds ones (l.take k) = r at *
        have Hnext := Lib.hid hnext
        clear hnext hx hcell
        go_wp2
        have hbd := byte_bd x
        go_loopw [3, 5] (fun y j wr => ∃ q : Nat, q ≤ 8 ∧ j = .int .i64 (q : Int) ∧ y = .int .u64 (toI (bits8 r x.toNat q)) ∧ w = wr) (fun _ j _ => 8 - (intOf j).toNat)
        case atStart => exact ⟨0, by omega, rfl, rfl, rfl⟩
        case round =>
          obtain ⟨q, hq, rfl, rfl, rfl⟩ := hrel
          by_cases h8 : q < 8
          · have hst : bits8 r x.toNat (q + 1) = stp (bits8 r x.toNat q) (x.toNat.testBit (7 - q)) := rfl
            have hba := bit_at x.toNat (7 - q) x.toNat_lt
            obtain ⟨z, hz⟩ : ∃ z : Nat, z = 7 - q := ⟨_, rfl⟩
            have hz1 : (7 : Int) - (q : Int) = (z : Int) := by omega
            have hz2 : z < 64 := by omega
            rw [← hz] at hba hst
            clear hz
            generalize bits8 r x.toNat q = y at *
            generalize x.toNat.testBit z = bb at *
            have Hst := Lib.hid hst
            clear hst
            go_wp2_with (first | (go_at_call 36; ((with_reducible refine (step_any y bb w).mono ?_); rintro e w1 ⟨rfl, rfl⟩)))
            exact ⟨⟨q + 1, by omega, by go_num, by rw [Hst.out], trivial⟩, by simp [intOf]; omega⟩
          · obtain rfl : q = 8 := by omega
            go_wp2
            go_roundw
            case rel => exact ⟨k + 1, by omega, by go_num, by rw [Hnext.out], trivial⟩
            case measure => simp [intOf]; omega
    · obtain rfl : k = l.length := by omega
      rw [List.take_length]
      have hx : bits .xor .u64 (toI (adds ones l)) 1099511627775 = toI (crc l) := by rw [← ones_toI]; exact xor_toI _ _
      have h0 := toI_lo (crc l)
      have h1 := toI_hi (crc l)
      go_wp2
      go_ret
      exact ⟨rfl, rfl⟩
end Go.Proofs.YtbgieephehfgpaaDoor
