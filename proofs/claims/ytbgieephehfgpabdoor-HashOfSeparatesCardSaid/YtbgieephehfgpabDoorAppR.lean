/-
  append(own, arg...): a slice of the call's own, made longer by the elements of a slice that is read. Conditions: less than 10^12 elements.
-/
import Derived.Test.YtbgieephehfgpabDoorOwn
import Derived.Test.YtbgieephehfgpabDoorWords
import Derived.Laws.AppendOwnNone
import Derived.OwnWalk
import Derived.Laws.OwnMore
namespace Go.Proofs.YtbgieephehfgpabDoor
open Go Go.RowKit
/-- a slice of the call's own whose elements are written by mk -/
abbrev OwnOf {α : Type} (mk : α → Value) (e : TypeId) (w : World) (base : Nat) (v : Value) (l : List α) : Prop := w.ownsRow base e 1 v l.length (l.map mk)
theorem ownOf_nil {α : Type} (mk : α → Value) (e : TypeId) (w : World) (base : Nat) : OwnOf mk e w base (.slice none 0 0) [] := World.ownsRow_nil _ _ _ _
theorem ownOf_rd {α : Type} {mk : α → Value} {e : TypeId} {w : World} {base : Nat} {v : Value} {l : List α} (h : OwnOf mk e w base v l) : Rd mk w v l := by
  have hx := fun g => h.cells (g := g)
  rcases h.2 with ⟨rfl, h0⟩ | ⟨g, cap, cur, rfl, hb, hg, hc, _⟩
  · exact ⟨none, 0, by rw [h0], by omega, .inl (List.length_eq_zero_iff.1 h0)⟩
  · refine ⟨_, cap, rfl, hc, .inr ⟨g, 0, rfl, blk_lt hg, fun i x hi => ?_⟩⟩
    have := hx g rfl i (mk x) (by rw [List.getElem?_map, hi]; rfl)
    rw [Addr.add_mid] at this
    exact this
theorem ownOf_kept {α : Type} {mk : α → Value} {e : TypeId} {w w' : World} {base : Nat} {v : Value} {l : List α} (h : OwnOf mk e w base v l) (hb : Below w.heap.size w w') : OwnOf mk e w' base v l := by
  refine ⟨h.1, ?_⟩
  rcases h.2 with hn | ⟨g, cap, cur, rfl, hbb, hgg, rest⟩
  · exact .inl hn
  · exact .inr ⟨g, cap, cur, rfl, hbb, blk_kept hgg hb, rest⟩
theorem ownOf_mono {α : Type} {mk : α → Value} {e : TypeId} {w : World} {base base' : Nat} {v : Value} {l : List α} (h : OwnOf mk e w base v l) (hb : base' ≤ base) : OwnOf mk e w base' v l := by
  refine ⟨h.1, ?_⟩
  rcases h.2 with hn | ⟨g, cap, cur, rfl, hbb, rest⟩
  · exact .inl hn
  · exact .inr ⟨g, cap, cur, rfl, by omega, rest⟩
theorem run_append_own_none' {P : Program} {w : World} (base : Nat) (t ty e : TypeId) (i : TypeInfo) (size c : Nat) (ht : P.underlying t = some (.slice e)) (hi : P.info? e = some i)
    (v : Value) (n : Nat) (xs : List Value) (hown : w.ownsRow base e size v n xs) :
    (Builtin.append_ #[t, t] ty #[v, .slice none 0 c]).run P w = .ok v w := by
  rcases hown.2 with ⟨rfl, rfl⟩ | ⟨g, cap, cur, rfl, _, _, hnc, _⟩
  · simp [Builtin.append_, run_underlying ht, sizeOf, typeInfo, hi, Builtin.lenOf, Builtin.firstCells]
  · simp [Builtin.append_, run_underlying ht, sizeOf, typeInfo, hi, Builtin.lenOf, Builtin.firstCells, hnc, storeCells]
theorem wpList_append_none {P : Program} {w : World} {ops : Array Oper} {rest : List Oper} {o : Oper} {a : Act} {Q : Exit → Act → World → Prop} (hgd : o.guard = none) (s x : Operand) (t : TypeId)
    (ho : o.op = .call { callee := .builtin .append, args := #[s, x], argTypes := #[t, t] })
    (base : Nat) (e : TypeId) (i : TypeInfo) (size c : Nat) (ht : P.underlying t = some (.slice e)) (hi : P.info? e = some i)
    (v : Value) (n : Nat) (xs : List Value) (hs : a.eval s = v) (hown : w.ownsRow base e size v n xs) (hx : a.eval x = .slice none 0 c)
    (h : wpList P ops Q rest (a.put o.dst v) w) : wpList P ops Q (o :: rest) a w := by
  refine wpList_plain hgd fun K hK => ?_
  have hrun := run_append_own_none' (P := P) (w := w) base t o.type e i size c ht hi v n xs hown
  unfold Oper.wp
  simp [execOp, ho, resolve, invoke, builtin, hs, hx, hrun, Result.andThen]
  exact hK _ _ h
/-- append(s, x...), x a slice that reads -/
theorem wp_appR {α : Type} {mk : α → Value} {t e : TypeId} {z : Value} {bytes : Nat} (hmk : ∀ x, (mk x).oneCell' = true) (ht : Tryd.prog.underlying t = some (.slice e)) (hinfo : (Tryd.prog.info? e).map (fun i => (i.zero, i.size, i.bytes)) = some (some z, 1, bytes)) (hzc : z.cells.size = 1) (hby : bytes ≤ 64)
    {ops : Array Oper} {rest : List Oper} {o : Oper} {a : Act} {w : World} {Q : Exit → Act → World → Prop} (hgd : o.guard = none) (s x : Operand)
    (ho : o.op = .call { callee := .builtin .append, args := #[s, x], argTypes := #[t, t] }) (base : Nat) (v : Value) (l : List α) (hs : a.eval s = v) (hown : OwnOf mk e w base v l)
    (vx : Value) (m : List α) (hx : a.eval x = vx) (hrd : Rd mk w vx m) (hlen : l.length + m.length < 1000000000000) (hbase : base ≤ w.heap.size)
    (h : ∀ v' w', OwnOf mk e w' base v' (l ++ m) → Grew base w w' v.ownBlock → wpList Tryd.prog ops Q rest (a.put o.dst v') w') :
    wpList Tryd.prog ops Q (o :: rest) a w := by
  obtain ⟨i0, hi, hz0, hz1, hz2⟩ := info_parts hinfo
  have hrow : ∀ j, v.ownBlock = some j → base ≤ j := fun j hj => (hown.lt j hj).1
  have hb2 : (l.length + m.length) * bytes ≤ 140737488355328 := Nat.le_trans (Nat.mul_le_mul_left _ hby) (by omega)
  have key : ∀ v' w', w'.ownsRow base e 1 v' (l.length + m.length) (l.map mk ++ m.map mk) → w.grownBy w' v.ownBlock → wpList Tryd.prog ops Q rest (a.put o.dst v') w' := by
    intro v' w' hown' hg
    have hO : OwnOf mk e w' base v' (l ++ m) := by
      have e1 : (l ++ m).map mk = l.map mk ++ m.map mk := by rw [List.map_append]
      have e2 : (l ++ m).length = l.length + m.length := by rw [List.length_append]
      show w'.ownsRow _ _ _ _ _ _
      rw [e1, e2]
      exact hown'
    refine h v' w' hO ⟨?_, hg.size, ?_⟩
    · intro B a0 hB hBb
      exact hB.grown hg (by omega) (fun j hj => Nat.le_trans hBb (hrow j hj))
    · intro k z hk hkb
      exact blk_grown hk hg (fun e => by have := hrow k e.symm; omega)
  obtain ⟨ao, cap, rfl, hc, hcase⟩ := hrd
  have hones : ∀ u ∈ m.map mk, u.oneCell' = true := by
    intro u hu
    obtain ⟨y, _, rfl⟩ := List.mem_map.1 hu
    exact hmk y
  cases ao with
  | none =>
    have hm0 : m = [] := by
      rcases hcase with h0 | ⟨b, off, h0, _⟩
      · exact h0
      · cases h0
    subst hm0
    exact wpList_append_none hgd s x t ho base e i0 1 cap ht hi v l.length (l.map mk) hs hown hx (key v w (by simpa using hown) ⟨rfl, rfl, rfl, Nat.le_refl _, fun _ _ _ => rfl⟩)
  | some ad =>
    refine wpList_append_own _ hgd s x t ho base e i0 z 1 bytes ht hi hz0 hz1 hz2 hzc (by decide) v l.length (l.map mk) hs hown ad m.length cap (m.map mk) hx (by simp) ?_ hones (by unfold maxLen; omega) hb2 hbase (fun v' w' h1 h2 _ => key v' w' h1 h2)
    intro j u hj
    rcases hcase with h0 | ⟨b, off, h0, _, hcell⟩
    · subst h0; simp at hj
    · cases h0
      rw [List.getElem?_map] at hj
      obtain ⟨y, hy, rfl⟩ := Option.map_eq_some_iff.1 hj
      have := hcell j y hy
      rw [Addr.add_lit]
      exact this
/-- append(s, x), the one element lying in a block of its own -/
theorem wp_app1 {α : Type} {mk : α → Value} {t e : TypeId} {z : Value} {bytes : Nat} (hmk : ∀ x, (mk x).oneCell' = true) (ht : Tryd.prog.underlying t = some (.slice e)) (hinfo : (Tryd.prog.info? e).map (fun i => (i.zero, i.size, i.bytes)) = some (some z, 1, bytes)) (hzc : z.cells.size = 1) (hby : bytes ≤ 64)
    {ops : Array Oper} {rest : List Oper} {o : Oper} {a : Act} {w : World} {Q : Exit → Act → World → Prop} (hgd : o.guard = none) (s x : Operand)
    (ho : o.op = .call { callee := .builtin .append, args := #[s, x], argTypes := #[t, t] }) (base : Nat) (v : Value) (l : List α) (hs : a.eval s = v) (hown : OwnOf mk e w base v l)
    (b : α) (y : Value) (hy : y = mk b) (hx : a.eval x = .slice (some ⟨w.heap.size, 0, none⟩) 1 1) (hlen : l.length < 1000000000000) (hbase : base ≤ w.heap.size)
    (h : ∀ v' w', OwnOf mk e w' base v' (l ++ [b]) → Grew base w w' v.ownBlock → (∃ g cap, v' = .slice (some ⟨g, 0, none⟩) (l.length + 1) cap ∧ base ≤ g) → wpList Tryd.prog ops Q rest (a.put o.dst v') w') :
    wpList Tryd.prog ops Q (o :: rest) a (w.alloc (.cells #[y] e)) := by
  obtain ⟨i0, hi, hz0, hz1, hz2⟩ := info_parts hinfo
  subst hy
  have hb2 : (l.length + 1) * bytes ≤ 140737488355328 := Nat.le_trans (Nat.mul_le_mul_left _ hby) (by omega)
  refine wpList_append_own _ hgd s x t ho base e i0 z 1 bytes ht hi hz0 hz1 hz2 hzc (by decide) v l.length (l.map mk) hs (hown.alloc _) ⟨w.heap.size, 0, none⟩ 1 1 [mk b] hx rfl (cell_one_new _ _ _) (by intro u hu; simp at hu; subst hu; exact hmk b) (by unfold maxLen; omega) hb2 (by simp; omega) ?_
  intro v' w' hown' hg hnil
  have hO : OwnOf mk e w' base v' (l ++ [b]) := by
    have e1 : (l ++ [b]).map mk = l.map mk ++ [mk b] := by simp
    have e2 : (l ++ [b]).length = l.length + 1 := by simp
    show w'.ownsRow _ _ _ _ _ _
    rw [e1, e2]
    exact hown'
  have hsl : ∃ g cap, v' = .slice (some ⟨g, 0, none⟩) (l.length + 1) cap ∧ base ≤ g := by
    rcases hown'.2 with ⟨_, h0⟩ | ⟨g, cap, cur, rfl, hb, hg, _⟩
    · omega
    · exact ⟨g, cap, rfl, hb⟩
  have hrow : ∀ j, v.ownBlock = some j → base ≤ j := fun j hj => (hown.lt j hj).1
  refine h v' w' hO ⟨?_, ?_, ?_⟩ hsl
  · intro B a0 hB hBb
    exact (hB.alloc (by have := hB.size; omega) _).grown hg (by simp; omega) (fun j hj => Nat.le_trans hBb (hrow j hj))
  · have := hg.size
    rw [World.size_alloc] at this
    omega
  · intro k z hk hkb
    exact blk_grown (blk_alloc hk _) hg (fun e => by have := hrow k e.symm; omega)
/-- make([]T, n) -/
theorem wp_make {α : Type} {mk : α → Value} {t e : TypeId} {z : Value} {bytes : Nat} (ht : Tryd.prog.underlying t = some (.slice e)) (hinfo : (Tryd.prog.info? e).map (fun i => (i.zero, i.size, i.bytes)) = some (some z, 1, bytes)) (hzc : z.cells = #[z]) (hby : bytes ≤ 64) (x0 : α) (hx0 : z = mk x0)
    {ops : Array Oper} {rest : List Oper} {o : Oper} {a : Act} {w : World} {Q : Exit → Act → World → Prop} (hgd : o.guard = none) (l c : Operand) (ho : o.op = Op.makeSlice t l c)
    (base : Nat) (kl kc : IntKind) (L C : Int) (n : Nat) (hl : a.eval l = .int kl L) (hc : a.eval c = .int kc C) (hL : L = (n : Int)) (hC : C = (n : Int)) (hn : n < 1000000000000) (hbase : base ≤ w.heap.size)
    (h : ∀ w', OwnOf mk e w' base (.slice (some ⟨w.heap.size, 0, none⟩) n n) (List.replicate n x0) → Grew base w w' none → wpList Tryd.prog ops Q rest (a.put o.dst (.slice (some ⟨w.heap.size, 0, none⟩) n n)) w') :
    wpList Tryd.prog ops Q (o :: rest) a w := by
  obtain ⟨i0, hi, hz0, hz1, hz2⟩ := info_parts hinfo
  have hb2 : i0.bytes * n ≤ 281474976710656 := by
    rw [hz2]
    exact Nat.le_trans (Nat.mul_le_mul_right _ hby) (by omega)
  refine wpList_make_full w hgd l c t ho base e i0 z 1 ht hi hz0 hz1 kl kc L C n hl hc hL hC hb2 (by unfold maxLen; omega) hbase ?_
  intro w' hown hg
  refine h w' ?_ ⟨fun B a0 hB hBb => hB.grown hg (by omega) (fun j hj => by cases hj), hg.size, fun b x hb _ => blk_grown hb hg (by simp)⟩
  have e1 : (madeCells z.cells (n * 1)).toList = (List.replicate n x0).map mk := by
    rw [hzc, Nat.mul_one, toList_madeCells_one, hx0, List.map_replicate]
  show w'.ownsRow _ _ _ _ _ _
  rw [← e1, List.length_replicate]
  exact hown
theorem info_int : (Tryd.prog.info? 3).map (fun i => (i.zero, i.size, i.bytes)) = some (some (.int .i64 0), 1, 8) := by kernel_rfl
theorem mkB_one (x : UInt8) : (mkB x).oneCell' = true := rfl
theorem mkI_one (x : Int) : (mkI x).oneCell' = true := rfl
end Go.Proofs.YtbgieephehfgpabDoor
