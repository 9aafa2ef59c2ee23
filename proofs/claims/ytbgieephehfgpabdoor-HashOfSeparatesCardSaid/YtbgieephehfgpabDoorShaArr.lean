/-
  An array of 64 words in memory, filled from the front: what its cells hold, what a store makes of it. No conditions.
-/
import Derived.Test.YtbgieephehfgpabDoorShaRot
namespace Go.Proofs.YtbgieephehfgpabDoor
open Go Go.RowKit Sha
namespace Sha
def vW (x : W) : Value := .int .u32 (tI x)
/-- the array that begins with these words, zeros behind them -/
def Arr (p : List W) : Array Value := ((p ++ List.replicate (64 - p.length) 0#32).map vW).toArray
theorem Arr_size (p : List W) (h : p.length ≤ 64) : (Arr p).size = 64 := by simp [Arr]; omega
theorem Arr_get (p : List W) (i : Nat) (h : i < p.length) : (Arr p)[i]? = some (vW (p.getD i 0#32)) := by
  unfold Arr
  rw [List.getElem?_toArray, List.getElem?_map, List.getElem?_append_left h]
  simp [List.getD, h]
theorem Arr_zero (p : List W) (i : Nat) (h : p.length ≤ i) (h' : i < 64) : (Arr p)[i]? = some (vW 0#32) := by
  unfold Arr
  rw [List.getElem?_toArray, List.getElem?_map, List.getElem?_append_right h, List.getElem?_replicate, if_pos (by omega)]
  rfl
theorem Arr_snoc0 (p : List W) (h : p.length < 64) : Arr (p ++ [0#32]) = Arr p := by
  unfold Arr
  congr 2
  rw [List.append_assoc]
  congr 1
  rw [show 64 - p.length = (64 - (p ++ [0#32]).length) + 1 by simp; omega, List.replicate_succ]
  rfl
theorem Arr_set (p : List W) (x y : W) : (Arr (p ++ [x])).setIfInBounds p.length (vW y) = Arr (p ++ [y]) := by
  unfold Arr
  apply Array.ext'
  simp
theorem Arr_setAt (p : List W) (t : Nat) (h : p.length = t) (x y : W) : (Arr (p ++ [x])).setIfInBounds t (vW y) = Arr (p ++ [y]) := by
  subst h; exact Arr_set p x y
theorem all4 (k : IntKind) (a b c d : Int) : (#[.int k a, .int k b, .int k c, .int k d] : Array Value).all (·.oneCell') = true := by
  rw [show (#[.int k a, .int k b, .int k c, .int k d] : Array Value) = [.int k a, .int k b, .int k c, .int k d].toArray from rfl, List.all_toArray]
  rfl
theorem Arr_one (p : List W) : (Arr p).all (·.oneCell') = true := by
  unfold Arr
  simp only [List.all_toArray, List.all_map, List.all_eq_true]
  intro x _
  rfl
theorem Arr_nil : Arr [] = (List.replicate 64 (Value.int .u32 0)).toArray := by
  unfold Arr; simp [vW, tI]
end Sha
end Go.Proofs.YtbgieephehfgpabDoor
