/-
  The rest of a region that is one forced sequence, walked as a list. No conditions.
-/
import Derived.Test.YtbgieephehfgpabDoorBase
import Derived.StillTail
namespace Go.Proofs.YtbgieephehfgpabDoor
open Go
theorem rest_from {P : Program} {Q : Exit → Act → World → Prop} {l : List Oper} {listed : Array Bool} {a : Act} {w : World} {g : Nat} (n : Nat) (hg : g = (l.drop n).length)
    (hs : Region.seqB .any l.toArray g n listed = true) (h : wpList P l.toArray Q (l.drop n) a w) : wpAny P .any l.toArray Q g listed a w := by
  subst hg
  exact wpAny_of_seq (l.drop n) n listed a w (fun j => by simp [List.getElem?_drop]) hs h
end Go.Proofs.YtbgieephehfgpabDoor
