/-
  An element of an array by value, at an index that is a variable. Conditions: the index is in range, the elements take one cell.
-/
import Derived.Test.YtbgieephehfgpabDoorShaSched
import Derived.Deep.MidRow
namespace Go.Proofs.YtbgieephehfgpabDoor
open Go Go.RowKit Sha
theorem run_index_arr {P : Program} (w : World) (t e : TypeId) (n : Nat) (cs : Array Value) (k : IntKind) (i : Nat) (v : Value) (u : TypeDesc) (h : P.underlying t = some (.array n e)) (hi : i < n)
    (hu : P.underlying e = some u) (hd : u.isRow = false) (hs : (P.info? e).map (·.size) = some 1) (hv : cs[i]? = some v) :
    (Instr.index t (.agg cs) (.int k (i : Int))).run P w = .ok v w := by
  cases hq : P.info? e with
  | none => simp [hq] at hs
  | some z =>
    have hz : z.size = 1 := by simpa [hq] using hs
    have hagg : (isAgg e).run P w = .ok false w := by
      unfold isAgg
      rw [Sem.run_bind, run_underlying hu w]
      cases u <;> simp_all [TypeDesc.isRow]
    simp [Instr.index, run_underlying h, asIntOf, hi, sizeOf, typeInfo, hq, hz, part, hagg, hv, go_sem]
theorem run_arrayAt {P : Program} (w : World) (t e : TypeId) (n len cap : Nat) (a : Option Addr) (h : P.underlying t = some (.array n e)) (hl : n ≤ len) :
    (Instr.arrayAt t (.slice a len cap)).run P w = .ok (.pointer a) w := by
  have h' : ¬ len < n := by omega
  simp [Instr.arrayAt, run_underlying h, h', go_sem]
end Go.Proofs.YtbgieephehfgpabDoor
