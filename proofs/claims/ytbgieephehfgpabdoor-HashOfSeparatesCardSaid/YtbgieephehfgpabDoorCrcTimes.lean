/-
  What the program's times returns: the product of two polynomials modulo the polynomial. Conditions: both are below 2^40, the tables are as the program's text lays them.
-/
import Derived.Test.YtbgieephehfgpabDoorCrcWalks
namespace Go.Proofs.YtbgieephehfgpabDoor
open Go Go.RowKit Crc
set_option maxRecDepth 10000 in
set_option maxHeartbeats 1000000 in
theorem times_any (a b : R) (w : World) (hT : Tabs w) :
    Calls Tryd.prog 66 #[.int .u64 (toI a), .int .u64 (toI b)] w fun e w' => e = .returned (.int .u64 (toI (times a b))) ∧ w = w' := by
  have hc := hT.nib 1 (by omega)
  have ha0 := toI_lo a
  have ha1 := toI_hi a
  have hb0 := toI_lo b
  have hb1 := toI_hi b
  clear hT
  go_enter Tryd.func66, Tryd.ntmps66
  go_wp2
  go_loop [5, 6] (fun o i => ∃ n : Nat, n ≤ 40 ∧ i = .int .i64 ((n : Int) - 1) ∧ ∃ out : R, o = .int .u64 (toI out) ∧ horner b a n out = times a b) (fun _ i => (intOf i + 1).toNat)
  case atStart => exact ⟨40, by omega, rfl, 0#40, rfl, rfl⟩
  case round =>
    obtain ⟨n, hn, rfl, out, rfl, ho⟩ := hrel
    have ho0 := toI_lo out
    have ho1 := toI_hi out
    have Ho := Lib.hid ho
    clear ho
    cases n with
    | zero =>
      go_wp2
      go_ret
      exact ⟨ret_int (by rw [← Ho.out]; rfl), rfl⟩
    | succ n =>
      have en : ((n + 1 : Nat) : Int) - 1 = (n : Int) := by omega
      rw [en]
      clear en
      have hstep : horner b a n (X out ^^^ (if b.getLsbD n then a else 0#40)) = times a b := Ho.out
      have hxa := xor_toI (X out) a
      have tb := bit_go b n
      have t1 := msb_go out
      have t2 := sh1_go out
      have t3 := X_go1 out
      have t0 := X_go0 out
      have hXa := toI_lo (X out)
      have hXb := toI_hi (X out)
      generalize nibs.getD 1 0 = t at *
      cases hb : b.getLsbD n <;> cases h39 : out.getLsbD 39
      all_goals
        simp only [hb, if_true, Bool.false_eq_true, if_false, BitVec.xor_zero] at hstep
        rw [hb] at tb
        rw [h39] at t1
      · have t0 := t0 h39
        rw [t0] at t1
        have Hs := Lib.hid hstep
        clear t3 t2 hstep hb h39 Ho hxa
        go_wp2
        go_round
        case rel => exact ⟨n, by omega, rfl, X out, rfl, Hs.out⟩
        case measure => simp [intOf]
      · have t3 := t3 h39
        have Hs := Lib.hid hstep
        clear t0 hstep hb h39 Ho hxa
        go_wp2
        go_round
        case rel => exact ⟨n, by omega, rfl, X out, rfl, Hs.out⟩
        case measure => simp [intOf]
      · have t0 := t0 h39
        rw [t0] at t1
        have Hs := Lib.hid hstep
        clear t3 t2 hstep hb h39 Ho
        go_wp2
        go_round
        case rel => exact ⟨n, by omega, rfl, X out ^^^ a, rfl, Hs.out⟩
        case measure => simp [intOf]
      · have t3 := t3 h39
        have Hs := Lib.hid hstep
        clear t0 hstep hb h39 Ho
        go_wp2
        go_round
        case rel => exact ⟨n, by omega, rfl, X out ^^^ a, rfl, Hs.out⟩
        case measure => simp [intOf]
end Go.Proofs.YtbgieephehfgpabDoor
