/-
  Plain mathematics of wire: an integer's bytes, a string's bytes. No conditions.
-/
import Derived.Test.YtbgieephehfgpabDoorHashSum
namespace Go.Proofs.YtbgieephehfgpabDoor
open Go Go.RowKit
namespace Wire
/-- groups of seven bits, the lowest first -/
def groups : Nat → Nat → List UInt8
  | 0, z => [UInt8.ofNat z]
  | f + 1, z => if z > 127 then UInt8.ofNat (z % 128 + 128) :: groups f (z / 128) else [UInt8.ofNat z]
/-- a length's bytes -/
def intB (n : Nat) : List UInt8 := groups 9 (2 * n)
def bytesB (l : List UInt8) : List UInt8 := intB l.length ++ l
theorem groups_len (f z : Nat) : (groups f z).length ≤ f + 1 := by
  induction f generalizing z with
  | zero => simp [groups]
  | succ f ih =>
    rw [groups]
    split
    · have := ih (z / 128); simp; omega
    · simp
theorem intB_len (n : Nat) : (intB n).length ≤ 10 := groups_len 9 _
end Wire
end Go.Proofs.YtbgieephehfgpabDoor
