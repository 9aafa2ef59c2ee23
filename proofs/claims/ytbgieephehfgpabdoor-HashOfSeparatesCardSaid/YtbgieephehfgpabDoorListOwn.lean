/-
  Words for slices of the call's own: their form, a literal, a store. No conditions.
-/
import Derived.Test.YtbgieephehfgpabDoorAppR
namespace Go.Proofs.YtbgieephehfgpabDoor
open Go Go.RowKit
theorem ownOf_slice {α : Type} {mk : α → Value} {e : TypeId} {w : World} {base : Nat} {v : Value} {l : List α} (h : OwnOf mk e w base v l) (hl : l ≠ []) : ∃ g cap, v = .slice (some ⟨g, 0, none⟩) l.length cap ∧ base ≤ g ∧ g < w.heap.size := by
  rcases h.2 with ⟨_, h0⟩ | ⟨g, cap, cur, rfl, hb, hg, _⟩
  · exact absurd (List.length_eq_zero_iff.1 h0) hl
  · exact ⟨g, cap, rfl, hb, blk_lt hg⟩
/-- a slice that a call has written out -/
theorem ownOf_lit {α : Type} {mk : α → Value} {e : TypeId} (w : World) (base : Nat) (l : List α) (cs : Array Value) (n : Nat) (hcs : cs.toList = l.map mk) (hn : l.length = n) (hb : base ≤ w.heap.size) (hm : n ≤ maxLen) :
    OwnOf mk e (w.alloc (.cells cs e)) base (.slice (some ⟨w.heap.size, 0, none⟩) n n) l := by
  have hs : cs.size = n * 1 := by rw [← Array.length_toList, hcs, List.length_map, hn]; omega
  have := World.ownsRow_lit (base := base) (e := e) (size := 1) w cs n hb hm hs
  rw [hcs, ← hn] at this
  rw [← hn]
  exact this
/-- a store into a slice of the call's own -/
theorem ownOf_set {α : Type} {mk : α → Value} {e : TypeId} {w : World} {base g n cap : Nat} {l : List α} (h : OwnOf mk e w base (.slice (some ⟨g, 0, none⟩) n cap) l) (hn : n = l.length) (i : Nat) (x : α) :
    OwnOf mk e (w.setCell ⟨g, i, none⟩ (mk x)) base (.slice (some ⟨g, 0, none⟩) n cap) (l.set i x) := by
  subst hn
  have := (World.ownsRow.stored h i (mk x)).1
  show World.ownsRow _ _ _ _ _ _ _
  rw [List.length_set, List.map_set]
  exact this
theorem ownOf_cell {α : Type} {mk : α → Value} {e : TypeId} {w : World} {base g n cap : Nat} {l : List α} (h : OwnOf mk e w base (.slice (some ⟨g, 0, none⟩) n cap) l) (i : Nat) (x : α) (hx : l[i]? = some x) : w.cell? ⟨g, i, none⟩ = some (mk x) := by
  have := h.cells (g := g) rfl i (mk x) (by rw [List.getElem?_map, hx]; rfl)
  rw [Addr.add_mid, Nat.zero_add] at this
  exact this
theorem ownOf_free {α : Type} {mk : α → Value} {e : TypeId} {w : World} {base g n cap : Nat} {l : List α} (h : OwnOf mk e w base (.slice (some ⟨g, 0, none⟩) n cap) l) (i : Nat) : w.frozen? ⟨g, i, none⟩ = false := by
  rcases h.2 with ⟨h', _⟩ | ⟨g', cap', cur, h', hb, hg, _⟩
  · simp at h'
  · simp only [Value.slice.injEq, Option.some.injEq, Addr.mk.injEq, and_true] at h'
    obtain ⟨rfl, _, rfl⟩ := h'
    exact blk_free hg i
end Go.Proofs.YtbgieephehfgpabDoor
