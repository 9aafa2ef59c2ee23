/-
  Words for slices of bytes that a call makes by append ('Own'): what is appended, how they read. No conditions.
-/
import Derived.Test.YtbgieephehfgpabDoorBegin
namespace Go.Proofs.YtbgieephehfgpabDoor
open Go Go.RowKit
abbrev Own (w : World) (base : Nat) (v : Value) (l : List UInt8) : Prop := w.ownsRow base 5 1 v l.length (l.map mkB)
theorem info_u8 : (Tryd.prog.info? 5).map (fun i => (i.zero, i.size, i.bytes)) = some (some (.int .u8 0), 1, 1) := by kernel_rfl
theorem own_nil (w : World) (base : Nat) : Own w base (.slice none 0 0) [] := World.ownsRow_nil _ _ _ _
theorem own_slice {w : World} {base : Nat} {v : Value} {l : List UInt8} (h : Own w base v l) (hl : l ≠ []) : ∃ g cap, v = .slice (some ⟨g, 0, none⟩) l.length cap ∧ base ≤ g ∧ g < w.heap.size := by
  rcases h.2 with ⟨_, h0⟩ | ⟨g, cap, cur, rfl, hb, hg, _⟩
  · exact absurd (List.length_eq_zero_iff.1 h0) hl
  · exact ⟨g, cap, rfl, hb, blk_lt hg⟩
theorem own_len {w : World} {base : Nat} {v : Value} {l : List UInt8} (h : Own w base v l) : ∃ ao cap, v = .slice ao l.length cap := by
  rcases h.2 with ⟨rfl, h0⟩ | ⟨g, cap, cur, rfl, hb, hg, _⟩
  · exact ⟨none, 0, by rw [h0]⟩
  · exact ⟨_, cap, rfl⟩
theorem own_rd {w : World} {base : Nat} {v : Value} {l : List UInt8} (h : Own w base v l) : RdB w v l := by
  have hx := fun g => h.cells (g := g)
  rcases h.2 with ⟨rfl, h0⟩ | ⟨g, cap, cur, rfl, hb, hg, hc, _⟩
  · exact ⟨none, 0, by rw [h0], by omega, .inl (List.length_eq_zero_iff.1 h0)⟩
  · refine ⟨_, cap, rfl, hc, .inr ⟨g, 0, rfl, blk_lt hg, fun i x hi => ?_⟩⟩
    have := hx g rfl i (mkB x) (by rw [List.getElem?_map, hi]; rfl)
    rw [Addr.add_mid] at this
    exact this
theorem own_kept {w w' : World} {base : Nat} {v : Value} {l : List UInt8} (h : Own w base v l) (hb : Below w.heap.size w w') : Own w' base v l := by
  refine ⟨h.1, ?_⟩
  rcases h.2 with hn | ⟨g, cap, cur, rfl, hbb, hgg, rest⟩
  · exact .inl hn
  · exact .inr ⟨g, cap, cur, rfl, hbb, blk_kept hgg hb, rest⟩
theorem own_far {w w' : World} {base : Nat} {v : Value} {l : List UInt8} (h : Own w base v l) (hb : ∀ g, base ≤ g → g < w.heap.size → w'.heap[g]? = w.heap[g]?) : Own w' base v l := by
  refine ⟨h.1, ?_⟩
  rcases h.2 with hn | ⟨g, cap, cur, rfl, hbb, hgg, rest⟩
  · exact .inl hn
  · exact .inr ⟨g, cap, cur, rfl, hbb, (hb g hbb (blk_lt hgg)).trans hgg, rest⟩
theorem own_mono {w : World} {base base' : Nat} {v : Value} {l : List UInt8} (h : Own w base v l) (hb : base' ≤ base) : Own w base' v l := by
  refine ⟨h.1, ?_⟩
  rcases h.2 with hn | ⟨g, cap, cur, rfl, hbb, rest⟩
  · exact .inl hn
  · exact .inr ⟨g, cap, cur, rfl, by omega, rest⟩
/-- a slice of bytes that a call has written out -/
theorem own_lit (w : World) (base : Nat) (l : List UInt8) (cs : Array Value) (n : Nat) (hcs : cs.toList = l.map mkB) (hn : l.length = n) (hb : base ≤ w.heap.size) (hm : n ≤ maxLen) :
    Own (w.alloc (.cells cs 5)) base (.slice (some ⟨w.heap.size, 0, none⟩) n n) l := by
  have hs : cs.size = n * 1 := by rw [← Array.length_toList, hcs, List.length_map, hn]; omega
  have := World.ownsRow_lit (base := base) (e := 5) (size := 1) w cs n hb hm hs
  rw [hcs, ← hn] at this
  rw [← hn]
  exact this
theorem blk_grown {w w' : World} {b : Nat} {x : Obj} {row : Option Nat} (h : w.heap[b]? = some x) (hg : w.grownBy w' row) (hne : some b ≠ row) : w'.heap[b]? = some x := (hg.block b (blk_lt h) hne).trans h
/-- behind an append, as seen from below the base: nothing has changed -/
structure Grew (base : Nat) (w w' : World) (row : Option Nat) : Prop where
  below : ∀ (B : Nat) (a : World), Below B a w → B ≤ base → Below B a w'
  size : w.heap.size ≤ w'.heap.size
  kept : ∀ b x, w.heap[b]? = some x → b < base → w'.heap[b]? = some x
/-- append(s, b), the byte lying in a block of its own -/
theorem wp_appB1 {ops : Array Oper} {rest : List Oper} {o : Oper} {a : Act} {w : World} {Q : Exit → Act → World → Prop} (hgd : o.guard = none) (s x : Operand)
    (ho : o.op = .call { callee := .builtin .append, args := #[s, x], argTypes := #[31, 31] }) (base : Nat) (v : Value) (l : List UInt8) (hs : a.eval s = v) (hown : Own w base v l)
    (b : UInt8) (y : Int) (hy : y = (b.toNat : Int)) (hx : a.eval x = .slice (some ⟨w.heap.size, 0, none⟩) 1 1) (hlen : l.length < 1000000000000) (hbase : base ≤ w.heap.size)
    (h : ∀ v' w', Own w' base v' (l ++ [b]) → Grew base w w' v.ownBlock → (∃ g cap, v' = .slice (some ⟨g, 0, none⟩) (l.length + 1) cap ∧ base ≤ g) → wpList Tryd.prog ops Q rest (a.put o.dst v') w') :
    wpList Tryd.prog ops Q (o :: rest) a (w.alloc (.cells #[.int .u8 y] 5)) := by
  obtain ⟨i0, hi, hz0, hz1, hz2⟩ := info_parts info_u8
  subst hy
  refine wpList_append_own _ hgd s x 31 ho base 5 i0 (.int .u8 0) 1 1 Tryd.underlying31 hi hz0 hz1 hz2 rfl (by decide) v l.length (l.map mkB) hs (hown.alloc _) ⟨w.heap.size, 0, none⟩ 1 1 [mkB b] hx rfl (cell_one_new _ _ _) (by intro u hu; simp at hu; subst hu; rfl) (by unfold maxLen; omega) (by omega) (by simp; omega) ?_
  intro v' w' hown' hg hnil
  have hO : Own w' base v' (l ++ [b]) := by
    have e : (l ++ [b]).map mkB = l.map mkB ++ [mkB b] := by simp
    have e2 : (l ++ [b]).length = l.length + 1 := by simp
    show w'.ownsRow _ _ _ _ _ _
    rw [e, e2]
    exact hown'
  obtain ⟨g, cap, hv, hg2, _⟩ := own_slice hO (by simp)
  have hrow : ∀ j, v.ownBlock = some j → base ≤ j := fun j hj => (hown.lt j hj).1
  refine h v' w' hO ⟨?_, ?_, ?_⟩ ⟨g, cap, by rw [hv]; simp, hg2⟩
  · intro B a0 hB hBb
    exact (hB.alloc (by have := hB.size; omega) _).grown hg (by simp; omega) (fun j hj => Nat.le_trans hBb (hrow j hj))
  · have := hg.size
    rw [World.size_alloc] at this
    omega
  · intro k z hk hkb
    exact blk_grown (blk_alloc hk _) hg (fun e => by have := hrow k e.symm; omega)
end Go.Proofs.YtbgieephehfgpabDoor
