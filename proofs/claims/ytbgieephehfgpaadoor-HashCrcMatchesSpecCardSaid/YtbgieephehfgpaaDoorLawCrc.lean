/-
  The law HashCrcMatchesSpec's function returns true. Condition: the tables are as the program's text lays them.
-/
import Derived.Test.YtbgieephehfgpaaDoorSanity
import Derived.Test.YtbgieephehfgpaaDoorRefCrc
import Derived.Test.YtbgieephehfgpaaDoorConvStr
namespace Go.Proofs.YtbgieephehfgpaaDoor
open Go Go.RowKit Sha Crc
set_option maxRecDepth 100000 in
set_option maxHeartbeats 4000000 in
theorem lawcrc_any (v : Value) (l : List UInt8) (w : World) (hr : RdB w v l) (hlm : l.length < 9223372036854775808) (hT : Tabs w) :
    Calls Tryd.prog 3 #[v] w fun e w' => e = .returned (.bool true) ∧ Below w.heap.size w w' := by
  have hcv : ∀ W, Below w.heap.size w W → (convert 22 9 v).run Tryd.prog W = .ok (.string ⟨l.toArray⟩) W :=
    fun W hW => RdB.conv (Rd.below hr hW) _ _ 5 Tryd.underlying22 Tryd.underlying5 Tryd.underlying9
  obtain ⟨va, vcap, hv, hvc, hvcell⟩ := id hr
  clear hvcell
  subst hv
  have Hr := Lib.hid hr
  clear hr
  have Hlm := Lib.hid hlm
  clear hlm
  have h0 := toI_lo (crc l)
  have h1 := toI_hi (crc l)
  go_enter Tryd.func3, Tryd.ntmps3
  by_cases hle : l.length ≤ 600
  · have hd : ((600 : Int) < (l.length : Int)) = False := by simp; omega
    have Hle := Lib.hid hle
    clear hle
    go_wp2_with (first
      | (go_at_call 13; ((with_reducible refine (sanity_any w hT).mono ?_); rintro e w1 ⟨rfl, hw1⟩; have hT1 := hT.below hw1; have hr1 := Rd.below Hr.out hw1))
      | (go_at_call 14; ((with_reducible refine (crc40_any _ l w1 hr1 (Nat.le_trans Hle.out (by decide)) hT1).mono ?_); rintro e w2 ⟨rfl, hw2⟩; have hB2 := hw1.trans (hw2.mono hw1.size); obtain ⟨v3, w3, hc3, hr3, hw3⟩ := conv_str w2 l; have hB3 := hB2.trans (hw3.mono hB2.size)))
      | (go_at_call 15; ((with_reducible refine (refcrc_any v3 l w3 hr3 (Nat.le_trans Hle.out (by decide))).mono ?_); rintro e w4 ⟨rfl, rfl⟩; have hcv3 := hcv w3 hB3)))
    go_ret
    exact ⟨rfl, hB3⟩
  · have hd : ((600 : Int) < (l.length : Int)) = True := by simp; omega
    clear hle
    go_wp2_with (first
      | (go_at_call 13; ((with_reducible refine (sanity_any w hT).mono ?_); rintro e w1 ⟨rfl, hw1⟩; have hT1 := hT.below hw1; have hr1 := Rd.below Hr.out hw1)))
    go_ret
    exact ⟨rfl, hw1⟩
end Go.Proofs.YtbgieephehfgpaaDoor
