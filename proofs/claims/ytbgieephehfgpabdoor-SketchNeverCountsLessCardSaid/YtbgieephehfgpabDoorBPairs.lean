/-
  What the law's more leaves: a slice of keys and numbers, in which one key counts once more. Conditions: the slice is the caller's own, its numbers are from 0 to 15, it is not beyond a thousand long.
-/
import Derived.Test.YtbgieephehfgpabDoorJB8
namespace Go.Proofs.YtbgieephehfgpabDoor
open Go Go.RowKit
def flatP (l : List (List UInt8 × Int)) : List Value := l.flatMap fun e => [.string ⟨e.1.toArray⟩, .int .i64 e.2]
theorem flatP_cons (e : List UInt8 × Int) (l : List (List UInt8 × Int)) : flatP (e :: l) = .string ⟨e.1.toArray⟩ :: .int .i64 e.2 :: flatP l := rfl
theorem flatP_len (l : List (List UInt8 × Int)) : (flatP l).length = l.length * 2 := by
  induction l with
  | nil => rfl
  | cons e t ih => rw [flatP_cons, List.length_cons, List.length_cons, ih, List.length_cons]; omega
theorem flatP_app (l m : List (List UInt8 × Int)) : flatP (l ++ m) = flatP l ++ flatP m := by simp [flatP]
theorem flatP_at0 (l : List (List UInt8 × Int)) : ∀ (k : Nat) (e : List UInt8 × Int), l[k]? = some e → (flatP l)[k * 2]? = some (.string ⟨e.1.toArray⟩) := by
  induction l with
  | nil => intro k e h; simp at h
  | cons a t ih =>
    intro k e h
    cases k with
    | zero => simp at h; subst h; rfl
    | succ k =>
      rw [flatP_cons, show (k + 1) * 2 = k * 2 + 1 + 1 by omega, List.getElem?_cons_succ, List.getElem?_cons_succ]
      exact ih k e (by simpa using h)
theorem flatP_at1 (l : List (List UInt8 × Int)) : ∀ (k : Nat) (e : List UInt8 × Int), l[k]? = some e → (flatP l)[k * 2 + 1]? = some (.int .i64 e.2) := by
  induction l with
  | nil => intro k e h; simp at h
  | cons a t ih =>
    intro k e h
    cases k with
    | zero => simp at h; subst h; rfl
    | succ k =>
      rw [flatP_cons, show (k + 1) * 2 + 1 = k * 2 + 1 + 1 + 1 by omega, List.getElem?_cons_succ, List.getElem?_cons_succ]
      exact ih k e (by simpa using h)
theorem flatP_set (l : List (List UInt8 × Int)) (n : Int) : ∀ (k : Nat) (e : List UInt8 × Int), l[k]? = some e → (flatP l).set (k * 2 + 1) (.int .i64 n) = flatP (l.set k (e.1, n)) := by
  induction l with
  | nil => intro k e h; simp at h
  | cons a t ih =>
    intro k e h
    cases k with
    | zero => simp at h; subst h; rfl
    | succ k =>
      rw [flatP_cons, show (k + 1) * 2 + 1 = k * 2 + 1 + 1 + 1 by omega, List.set_cons_succ, List.set_cons_succ, List.set_cons_succ, flatP_cons, ih k e (by simpa using h)]
abbrev OwnP (w : World) (base : Nat) (v : Value) (l : List (List UInt8 × Int)) : Prop := w.ownsRow base 50 2 v l.length (flatP l)
theorem info_cnt : (Tryd.prog.info? 50).map (fun i => (i.zero, i.size, i.bytes)) = some (some (.agg #[.string ⟨#[]⟩, .int .i64 0]), 2, 24) := by kernel_rfl
theorem ownP_nil (w : World) (base : Nat) : OwnP w base (.slice none 0 0) [] := World.ownsRow_nil _ _ _ _
theorem ownP_slice {w : World} {base : Nat} {v : Value} {l : List (List UInt8 × Int)} (h : OwnP w base v l) : ∃ x cap, v = .slice x l.length cap ∧ l.length ≤ cap := by
  rcases h.2 with ⟨rfl, h0⟩ | ⟨g, cap, cur, rfl, _, _, hc, _⟩
  · exact ⟨none, 0, by rw [h0], by omega⟩
  · exact ⟨_, cap, rfl, hc⟩
theorem ownP_form {w : World} {base : Nat} {x : Option Addr} {n cap : Nat} {l : List (List UInt8 × Int)} (h : OwnP w base (.slice x n cap) l) (hl : 0 < l.length) : ∃ g, x = some ⟨g, 0, none⟩ ∧ base ≤ g ∧ g < w.heap.size := by
  rcases h.2 with ⟨_, h0⟩ | ⟨g, cap, cur, he, hb, hg, _⟩
  · omega
  · cases he; exact ⟨g, rfl, hb, blk_lt hg⟩
theorem ownP_key {w : World} {base g cap : Nat} {l : List (List UInt8 × Int)} (h : OwnP w base (.slice (some ⟨g, 0, none⟩) l.length cap) l) (k : Nat) (e : List UInt8 × Int) (he : l[k]? = some e) : w.cell? ⟨g, k * 2, none⟩ = some (.string ⟨e.1.toArray⟩) := by
  have hk := (List.getElem?_eq_some_iff.1 he).1
  rw [h.cellAt (k * 2) (by omega), flatP_at0 l k e he]
theorem ownP_num {w : World} {base g cap : Nat} {l : List (List UInt8 × Int)} (h : OwnP w base (.slice (some ⟨g, 0, none⟩) l.length cap) l) (k : Nat) (e : List UInt8 × Int) (he : l[k]? = some e) : w.cell? ⟨g, k * 2 + 1, none⟩ = some (.int .i64 e.2) := by
  have hk := (List.getElem?_eq_some_iff.1 he).1
  rw [h.cellAt (k * 2 + 1) (by omega), flatP_at1 l k e he]
theorem ownP_set {w : World} {base g cap : Nat} {l : List (List UInt8 × Int)} (h : OwnP w base (.slice (some ⟨g, 0, none⟩) l.length cap) l) (k : Nat) (e : List UInt8 × Int) (he : l[k]? = some e) (n : Int) :
    OwnP (w.setCell ⟨g, k * 2 + 1, none⟩ (.int .i64 n)) base (.slice (some ⟨g, 0, none⟩) l.length cap) (l.set k (e.1, n)) ∧ w.grownBy (w.setCell ⟨g, k * 2 + 1, none⟩ (.int .i64 n)) (some g) := by
  have h1 := h.stored (k * 2 + 1) (.int .i64 n)
  rw [flatP_set l n k e he] at h1
  refine ⟨?_, h1.2⟩
  show World.ownsRow _ _ _ _ _ _ _
  rw [List.length_set]
  exact h1.1
theorem ownP_key' {w : World} {base g n cap : Nat} {l : List (List UInt8 × Int)} (h : OwnP w base (.slice (some ⟨g, 0, none⟩) n cap) l) (hn : l.length = n) (k : Nat) (x : List UInt8) (y : Int) (he : l[k]? = some (x, y)) : w.cell? ⟨g, k * 2, none⟩ = some (.string ⟨x.toArray⟩) := by
  subst hn; exact ownP_key h k (x, y) he
theorem ownP_num' {w : World} {base g n cap : Nat} {l : List (List UInt8 × Int)} (h : OwnP w base (.slice (some ⟨g, 0, none⟩) n cap) l) (hn : l.length = n) (k : Nat) (x : List UInt8) (y : Int) (he : l[k]? = some (x, y)) : w.cell? ⟨g, k * 2 + 1, none⟩ = some (.int .i64 y) := by
  subst hn; exact ownP_num h k (x, y) he
theorem grown_alloc {w w' : World} {o : Obj} {row : Option Nat} (h : (w.alloc o).grownBy w' row) : w.grownBy w' row :=
  ⟨h.os, h.tape, h.output, by have := h.size; rw [World.size_alloc] at this; omega, fun k hk hne => (h.block k (by rw [World.size_alloc]; omega) hne).trans (Array.getElem?_push_lt hk ▸ (Array.getElem?_eq_getElem hk).symm)⟩
theorem wp_appP1 {ops : Array Oper} {rest : List Oper} {o : Oper} {a : Act} {w : World} {Q : Exit → Act → World → Prop} (hgd : o.guard = none) (s x : Operand)
    (ho : o.op = .call { callee := .builtin .append, args := #[s, x], argTypes := #[47, 47] }) (base : Nat) (v : Value) (l : List (List UInt8 × Int)) (hs : a.eval s = v) (hown : OwnP w base v l)
    (z : List UInt8) (n : Int) (hx : a.eval x = .slice (some ⟨w.heap.size, 0, none⟩) 1 1) (hlen : l.length < 100000000000) (hbase : base ≤ w.heap.size)
    (h : ∀ v' w', OwnP w' base v' (l ++ [(z, n)]) → w.grownBy w' v.ownBlock → wpList Tryd.prog ops Q rest (a.put o.dst v') w') :
    wpList Tryd.prog ops Q (o :: rest) a (w.alloc (.cells #[.string ⟨z.toArray⟩, .int .i64 n] 50)) := by
  obtain ⟨i0, hi, hz0, hz1, hz2⟩ := info_parts info_cnt
  have hcl : ∀ j u, ([.string ⟨z.toArray⟩, .int .i64 n] : List Value)[j]? = some u → (w.alloc (.cells #[.string ⟨z.toArray⟩, .int .i64 n] 50)).cell? ((⟨w.heap.size, 0, none⟩ : Addr).add j) = some u := by
    intro j u hj
    rw [Addr.add_mid, Nat.zero_add, blk_cell (blk_new w _ 50), ← Array.getElem?_toList]
    exact hj
  refine wpList_append_own _ hgd s x 47 ho base 50 i0 (.agg #[.string ⟨#[]⟩, .int .i64 0]) 2 24 Tryd.underlying47 hi hz0 hz1 hz2 rfl (by decide) v l.length (flatP l) hs (hown.alloc _) ⟨w.heap.size, 0, none⟩ 1 1 [.string ⟨z.toArray⟩, .int .i64 n] hx rfl hcl (by intro u hu; simp at hu; rcases hu with rfl | rfl <;> rfl) (by unfold maxLen; omega) (by omega) (by simp; omega) ?_
  intro v' w' hown' hg hnil
  refine h v' w' ?_ (grown_alloc hg)
  show w'.ownsRow _ _ _ _ _ _
  rw [flatP_app, show (l ++ [(z, n)]).length = l.length + 1 by simp]
  exact hown'
set_option maxRecDepth 100000 in
set_option maxHeartbeats 4000000 in
theorem more_any (l : List (List UInt8 × Int)) (z : List UInt8) (v : Value) (base : Nat) (w : World) (hown : OwnP w base v l) (hb : base ≤ w.heap.size) (hn : ∀ e ∈ l, 0 ≤ e.2 ∧ e.2 ≤ 15) (hl : l.length ≤ 100000) :
    Calls Tryd.prog 24 #[v, .string ⟨z.toArray⟩] w fun e w' => ∃ v', e = .returned v' ∧ OwnP w' base v' (Sk.more l z) ∧ w.grownBy w' v.ownBlock := by
  obtain ⟨x, cap, rfl, hcap⟩ := ownP_slice hown
  have hnew := Sk.more_new l z
  have hhit := Sk.more_hit l z
  have Hown := Lib.hid hown
  have Hnew := Lib.hid hnew
  have Hhit := Lib.hid hhit
  have Hn := Lib.hid hn
  clear hnew hhit hown hn
  go_enter Tryd.func24, Tryd.ntmps24
  go_wp2
  go_loopw [5] (fun i wr => ∃ j : Nat, j ≤ l.length ∧ i = .int .i64 (j : Int) ∧ (∀ e ∈ l.take j, e.1 ≠ z) ∧ w = wr) (fun i _ => l.length - (intOf i).toNat)
  case atStart => exact ⟨0, by omega, rfl, by simp, rfl⟩
  case round =>
    obtain ⟨j, hj, rfl, hall, rfl⟩ := hrel
    by_cases hlt : j < l.length
    · obtain ⟨e, he⟩ : ∃ e, l[j]? = some e := ⟨_, List.getElem?_eq_getElem hlt⟩
      obtain ⟨g, rfl, hgb, hgl⟩ := ownP_form Hown.out (by omega)
      have hck := ownP_key Hown.out j e he
      have hcn := ownP_num Hown.out j e he
      have hfr := Hown.out.frozenAt (j * 2 + 1)
      have hse := fun n => ownP_set Hown.out j e he n
      have hne := Hn.out e (List.mem_of_getElem? he)
      obtain ⟨ek, en⟩ := e
      dsimp only at hck hcn hse hne
      have Hse := Lib.hid hse
      have Hall := Lib.hid hall
      have He := Lib.hid he
      clear hse hall he
      by_cases hz : ek = z
      · subst hz
        have hit := Hhit.out en j He.out (fun i e hi hie => Hall.out e (List.mem_of_getElem? (i := i) (by rw [List.getElem?_take, if_pos hi]; exact hie)))
        have Hit := Lib.hid hit
        clear hit
        have hd : (ek == ek) = true := by simp
        have hw : IntKind.i64.wrap (en + 1) = en + 1 := by rw [IntWalk.i64_in _ (by omega)]
        go_wp2
        all_goals go_ret
        all_goals refine ⟨_, rfl, ?_, (Hse.out _).2⟩
        all_goals first | (rw [Hit.out, show min (en + 1) 15 = en + 1 by omega]; exact (Hse.out _).1) | (rw [Hit.out, show min (en + 1) 15 = 15 by omega]; exact (Hse.out _).1)
      · have hd : (ek == z) = false := by simpa using hz
        go_wp2
        go_roundw
        case rel =>
          refine ⟨j + 1, by omega, by go_num, ?_, trivial⟩
          intro e' he'
          rw [List.take_add_one, He.out] at he'
          rcases List.mem_append.1 he' with h1 | h1
          · exact Hall.out e' h1
          · simp at h1; subst h1; exact hz
        case measure => simp [intOf]; omega
    · have hjl : j = l.length := by omega
      subst hjl
      rw [List.take_length] at hall
      have hmn := Hnew.out hall
      have Hmn := Lib.hid hmn
      clear hmn hall
      go_wp2_with (at_builtin; refine wp_appP1 rfl (.tmp 31) (.tmp 34) rfl base _ l rfl Hown.out z 1 rfl (by omega) hb ?_; intro v1 w1 hown1 hg1)
      go_ret
      rw [Hmn.out]
      exact ⟨_, rfl, hown1, hg1⟩
theorem ownP_kept {w w' : World} {base : Nat} {v : Value} {l : List (List UInt8 × Int)} (h : OwnP w base v l) (hb : Below w.heap.size w w') : OwnP w' base v l := by
  refine ⟨h.1, ?_⟩
  rcases h.2 with hn | ⟨g, cap, cur, rfl, hbb, hgg, rest⟩
  · exact .inl hn
  · exact .inr ⟨g, cap, cur, rfl, hbb, blk_kept hgg hb, rest⟩
theorem apartP {w : World} {bs B g n cap : Nat} {c : List Int} {v : Value} {l : List (List UInt8 × Int)} (h1 : OwnI w bs (.slice (some ⟨g, 0, none⟩) n cap) c) (h2 : OwnP w B v l) : (Value.slice (some ⟨g, 0, none⟩) n cap).ownBlock ≠ v.ownBlock := by
  rcases h1.2 with ⟨h, _⟩ | ⟨g1, cap1, cur1, h, hb1, hg1, _⟩
  · simp at h
  · rcases h2.2 with ⟨rfl, _⟩ | ⟨g2, cap2, cur2, rfl, hb2, hg2, _⟩
    · simp [Value.ownBlock]
    · simp only [Value.slice.injEq, Option.some.injEq, Addr.mk.injEq, and_true] at h
      obtain ⟨rfl, _, rfl⟩ := h
      simp only [Value.ownBlock, ne_eq, Option.some.injEq]
      rintro rfl
      rw [hg1] at hg2
      cases hg2
/-- what the law's loops hold: the sketch's box, its cells, the numbered keys -/
structure NS (w0 : World) (B N : Nat) (k : Sk.K) (g cap bs : Nat) (L : List (List UInt8 × Int)) (lv : Value) (wr : World) : Prop where
  box : Blk wr N #[.int .i64 k.w, .int .i64 k.s, .int .i64 k.a, .slice (some ⟨g, 0, none⟩) k.c.length cap] 38
  own : OwnI wr bs (.slice (some ⟨g, 0, none⟩) k.c.length cap) k.c
  lst : OwnP wr B lv L
  bel : Below w0.heap.size w0 wr
theorem NS.kept {w0 : World} {B N : Nat} {k : Sk.K} {g cap bs : Nat} {L : List (List UInt8 × Int)} {lv : Value} {wr w' : World} (h : NS w0 B N k g cap bs L lv wr) (hb : Below wr.heap.size wr w') : NS w0 B N k g cap bs L lv w' :=
  ⟨blk_kept h.box hb, ownOf_kept h.own hb, ownP_kept h.lst hb, h.bel.trans (hb.mono h.bel.size)⟩
/-- the list alone has grown or been written -/
theorem NS.grown {w0 : World} {B N : Nat} {k : Sk.K} {g cap bs : Nat} {L L' : List (List UInt8 × Int)} {lv lv' : Value} {wr w' : World} (h : NS w0 B N k g cap bs L lv wr) (hN : N < B) (hw : w0.heap.size ≤ B) (hl : OwnP w' B lv' L') (hg : wr.grownBy w' lv.ownBlock) : NS w0 B N k g cap bs L' lv' w' :=
  ⟨blk_grown h.box hg (fun e => by have := (h.lst.lt N e.symm).1; omega), h.own.kept hg (.inr (apartP h.own h.lst)), hl, h.bel.grown hg h.bel.size (fun j hj => Nat.le_trans hw (h.lst.lt j hj).1)⟩
def halvesUp (L : List (List UInt8 × Int)) (m : Nat) : List (List UInt8 × Int) := Sk.halves (L.take m) ++ L.drop m
theorem halvesUp_len (L : List (List UInt8 × Int)) (m : Nat) : (halvesUp L m).length = L.length := by simp [halvesUp, Sk.halves]; omega
theorem halvesUp_zero (L : List (List UInt8 × Int)) : halvesUp L 0 = L := by simp [halvesUp, Sk.halves]
theorem halvesUp_all (L : List (List UInt8 × Int)) : halvesUp L L.length = Sk.halves L := by simp [halvesUp]
theorem halvesUp_at (L : List (List UInt8 × Int)) (m : Nat) (e : List UInt8 × Int) (h : L[m]? = some e) : (halvesUp L m)[m]? = some e := by
  have hm := (List.getElem?_eq_some_iff.1 h).1
  unfold halvesUp
  rw [List.getElem?_append_right (by simp [Sk.halves]; omega)]
  simp [Sk.halves, Nat.min_eq_left (Nat.le_of_lt hm), h]
theorem halvesUp_set (L : List (List UInt8 × Int)) (m : Nat) (e : List UInt8 × Int) (h : L[m]? = some e) : (halvesUp L m).set m (e.1, e.2 / 2) = halvesUp L (m + 1) := by
  have hm := (List.getElem?_eq_some_iff.1 h).1
  have he : L[m] = e := (List.getElem?_eq_some_iff.1 h).2
  unfold halvesUp
  rw [List.set_append_right _ _ (by simp [Sk.halves]; omega), List.drop_eq_getElem_cons hm, he, List.take_add_one, h]
  simp [Sk.halves, Nat.min_eq_left (Nat.le_of_lt hm)]
end Go.Proofs.YtbgieephehfgpabDoor
