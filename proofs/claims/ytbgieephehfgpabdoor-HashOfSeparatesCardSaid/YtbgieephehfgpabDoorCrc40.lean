/-
  What the program's hash.Crc40 returns: the check of the bytes. Conditions: at most 2^47 - 4096 bytes, the tables are as the program's text lays them.
-/
import Derived.Test.YtbgieephehfgpabDoorCrcAdd
import Derived.Test.YtbgieephehfgpabDoorRead
namespace Go.Proofs.YtbgieephehfgpabDoor
open Go Go.RowKit Crc
/-- the check of bytes -/
def Crc.crc (l : List UInt8) : R := adds ones l ^^^ ones
set_option maxHeartbeats 1000000 in
theorem crc40_any (v : Value) (l : List UInt8) (w : World) (hr : RdB w v l) (hs : l.length ≤ 140737488351232) (hT : Tabs w) :
    Calls Tryd.prog 41 #[v] w fun e w' => e = .returned (.int .i64 (toI (crc l))) ∧ Below w.heap.size w w' := by
  have hcv : ∀ W, Below w.heap.size w W → (convert 31 9 v).run Tryd.prog W = .ok (.string ⟨l.toArray⟩) W :=
    fun W hW => RdB.conv (Rd.below hr hW) _ _ 5 Tryd.underlying31 Tryd.underlying5 Tryd.underlying9
  have hw0 : Below w.heap.size w w.drew := (Below.refl _ _).drew
  have hT0 := hT.drew
  go_enter Tryd.func41, Tryd.ntmps41
  go_wp2
  go_region_with (first | (go_at_call 42; ((with_reducible refine (begin_any _).mono ?_); rintro e w1 ⟨rfl, hw1⟩; have hB1 : Below w.heap.size w w1 := hw0.trans hw1; have hT1 := Tabs.below hT0 hw1)) | (go_at_call 43; ((with_reducible refine (add_any _ _ _ (by simpa [ByteArray.size] using hs) (by assumption)).mono ?_); rintro e w2 ⟨rfl, hw2⟩; have hB2 : Below w.heap.size w w2 := Below.trans (by assumption) (hw2.mono hB1.size))) | (go_at_call 44; ((with_reducible refine (value_any _ _).mono ?_); rintro e w3 ⟨rfl, hw3⟩)))
  all_goals
    go_wp2
    go_ret
    exact ⟨rfl, hB2.trans (hw3.mono hB2.size)⟩
end Go.Proofs.YtbgieephehfgpabDoor
