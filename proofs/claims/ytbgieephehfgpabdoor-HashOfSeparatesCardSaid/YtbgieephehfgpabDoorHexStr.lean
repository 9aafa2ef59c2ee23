/-
  What the law's hex returns. Conditions: strings of at most 10^6 bytes.
-/
import Derived.Test.YtbgieephehfgpabDoorHex
import Derived.Deep.RegionLaw
import Derived.Deep.AppendLies
namespace Go.Proofs.YtbgieephehfgpabDoor
open Go Go.RowKit Sha
def digits : List UInt8 := [48, 49, 50, 51, 52, 53, 54, 55, 56, 57, 97, 98, 99, 100, 101, 102]
def hexB (b : UInt8) : List UInt8 := [digits.getD (b.toNat / 16) 0, digits.getD (b.toNat % 16) 0]
def hexL (l : List UInt8) : List UInt8 := l.flatMap hexB
theorem hexL_len (l : List UInt8) : (hexL l).length = 2 * l.length := by
  induction l with
  | nil => rfl
  | cons x l ih => simp [hexL, hexB] at ih ⊢; omega
theorem digits_at (i : Nat) (h : i < 16) : digits[i]? = some (digits.getD i 0) := by
  have hl : digits.length = 16 := rfl
  rw [List.getElem?_eq_getElem (by omega)]
  simp [List.getD, hl, h]
theorem run_index_str {P : Program} (W : World) (t : TypeId) (l : List UInt8) (k : IntKind) (i : Nat) (x : UInt8) (hu : P.underlying t = some .string) (hx : l[i]? = some x) :
    (Instr.index t (.string ⟨l.toArray⟩) (.int k (i : Int))).run P W = .ok (.int .u8 (x.toNat : Int)) W := by
  have hi : i < l.length := (List.getElem?_eq_some_iff.1 hx).1
  have hg : l[i] = x := (List.getElem?_eq_some_iff.1 hx).2
  have hb : (⟨l.toArray⟩ : ByteArray)[i]? = some x := by
    rw [getElem?_pos (⟨l.toArray⟩ : ByteArray) i (by simp [ByteArray.size]; omega)]
    exact congrArg some hg
  simp [Instr.index, run_underlying hu, asIntOf, go_sem, hb]
/-- append(s, bytes...), the bytes lying in a block of their own, in a region that draws its order -/
theorem step_appBs {ops : Array Oper} {o : Oper} {a : Act} {w : World} {K : Act → World → Prop} {Q : Exit → Act → World → Prop} {E : Prop} (hgd : o.guard = none) (s x : Operand)
    (ho : o.op = .call { callee := .builtin .append, args := #[s, x], argTypes := #[31, 31] }) (base : Nat) (v : Value) (l : List UInt8) (hs : a.eval s = v) (hown : Own w base v l)
    (bs : List UInt8) (cs : Array Value) (hcs : cs.toList = bs.map mkB) (n : Nat) (hn : bs.length = n) (hx : a.eval x = .slice (some ⟨w.heap.size, 0, none⟩) n n) (hpos : 0 < n) (hlen : l.length + n < 1000000000000) (hbase : base ≤ w.heap.size)
    (h : ∀ v' w', Own w' base v' (l ++ bs) → Grew base w w' v.ownBlock → K (a.put o.dst v') w') :
    if Region.wanted o (yielded ops a.tmps) = true then Oper.wp Tryd.prog o a (w.alloc (.cells cs 5)) K Q else E := by
  obtain ⟨i0, hi, hz0, hz1, hz2⟩ := info_parts info_u8
  have hcl : ∀ j u, (bs.map mkB)[j]? = some u → (w.alloc (.cells cs 5)).cell? ((⟨w.heap.size, 0, none⟩ : Addr).add j) = some u := by
    intro j u hj
    rw [Addr.add_mid, Nat.zero_add, blk_cell (blk_new w cs 5), ← Array.getElem?_toList, hcs]
    exact hj
  refine step_append_lies (w.alloc (.cells cs 5)) hgd s x 31 ho base 5 i0 (.int .u8 0) 1 1 Tryd.underlying31 hi hz0 hz1 hz2 rfl (by decide) v l.length (l.map mkB) hs (hown.alloc _) ⟨w.heap.size, 0, none⟩ n n (bs.map mkB) hx (by rw [List.length_map, hn]; omega) hcl (by intro u hu; obtain ⟨b, _, rfl⟩ := List.mem_map.1 hu; rfl) hpos (by unfold maxLen; omega) (by omega) (by simp; omega) _ rfl ?_
  intro g cap w' hown' hg _ _
  have hO : Own w' base (.slice (some ⟨g, 0, none⟩) (l.length + n) cap) (l ++ bs) := by
    have e : (l ++ bs).map mkB = l.map mkB ++ bs.map mkB := by simp
    have e2 : (l ++ bs).length = l.length + n := by rw [List.length_append, hn]
    show w'.ownsRow _ _ _ _ _ _
    rw [e, e2]
    exact hown'
  have hrow : ∀ j, v.ownBlock = some j → base ≤ j := fun j hj => (hown.lt j hj).1
  refine h _ w' hO ⟨?_, ?_, ?_⟩
  · intro B a0 hB hBb
    exact (hB.alloc (by omega) _).grown hg (by simp; omega) (fun j hj => Nat.le_trans hBb (hrow j hj))
  · have := hg.size
    rw [World.size_alloc] at this
    omega
  · intro k z hk hkb
    exact blk_grown (blk_alloc hk _) hg (fun e => by have := hrow k e.symm; omega)
set_option maxRecDepth 100000 in
set_option maxHeartbeats 1000000 in
theorem hex_any (l : List UInt8) (w : World) (hl : l.length ≤ 1000000) :
    Calls Tryd.prog 47 #[.string ⟨l.toArray⟩] w fun e w' => e = .returned (.string ⟨(hexL l).toArray⟩) ∧ Below w.heap.size w w' := by
  have hsz : (⟨l.toArray⟩ : ByteArray).size = l.length := by simp [ByteArray.size]
  go_enter Tryd.func47, Tryd.ntmps47
  go_wp2
  go_loopw [4, 5] (fun o i wr => ∃ k : Nat, k ≤ l.length ∧ i = .int .i64 (k : Int) ∧ Own wr w.heap.size o (hexL (l.take k)) ∧ Below w.heap.size w wr) (fun _ i _ => l.length - (intOf i).toNat)
  case atStart => exact ⟨0, by omega, rfl, own_nil _ _, Below.refl _ _⟩
  case round =>
    obtain ⟨k, hk, rfl, hown, hB⟩ := hrel
    by_cases h : k < l.length
    · obtain ⟨x, hx⟩ : ∃ x, l[k]? = some x := ⟨_, List.getElem?_eq_getElem h⟩
      obtain ⟨q, hq⟩ : ∃ q, q = x.toNat / 16 := ⟨_, rfl⟩
      obtain ⟨r, hr⟩ : ∃ r, r = x.toNat % 16 := ⟨_, rfl⟩
      have hx1 := fun W => run_index_str (P := Tryd.prog) W 9 l .i64 k x Tryd.underlying9 hx
      have hx2 : ∀ W, (Instr.index 9 (.string ⟨#[48, 49, 50, 51, 52, 53, 54, 55, 56, 57, 97, 98, 99, 100, 101, 102]⟩) (.int .u8 (q : Int))).run Tryd.prog W = .ok (.int .u8 ((digits.getD q 0).toNat : Int)) W := fun W => run_index_str (P := Tryd.prog) W 9 digits .u8 q (digits.getD q 0) Tryd.underlying9 (digits_at _ (by have := x.toNat_lt; omega))
      have hx3 : ∀ W, (Instr.index 9 (.string ⟨#[48, 49, 50, 51, 52, 53, 54, 55, 56, 57, 97, 98, 99, 100, 101, 102]⟩) (.int .u8 (r : Int))).run Tryd.prog W = .ok (.int .u8 ((digits.getD r 0).toNat : Int)) W := fun W => run_index_str (P := Tryd.prog) W 9 digits .u8 r (digits.getD r 0) Tryd.underlying9 (digits_at _ (by omega))
      have e2 : (x.toNat : Int) / 16 = (q : Int) := by omega
      have e3 : (x.toNat : Int) % 16 = (r : Int) := by omega
      have e4 : (x.toNat : Int).tmod 16 = (r : Int) := by rw [Int.tmod_eq_emod_of_nonneg (by omega)]; omega
      have ew2 : IntKind.u8.wrap (q : Int) = q := IntWalk.u8_in _ (by have := x.toNat_lt; omega)
      have ew3 : IntKind.u8.wrap (r : Int) = r := IntWalk.u8_in _ (by omega)
      have hhx : hexB x = [digits.getD q 0, digits.getD r 0] := by rw [hq, hr]; rfl
      have ht : hexL (l.take (k + 1)) = hexL (l.take k) ++ hexB x := by rw [List.take_add_one, hx]; simp [hexL]
      have hbd := byte_bd x
      go_wp2
      have hlen : (hexL (l.take k)).length + 2 < 1000000000000 := by have := hexL_len (l.take k); simp at this; omega
      have hcs : (#[.int .u8 ((digits.getD q 0).toNat : Int), .int .u8 ((digits.getD r 0).toNat : Int)] : Array Value).toList = (hexB x).map mkB := by rw [hhx]; rfl
      have Hcs := Lib.hid hcs
      have Ht := Lib.hid ht
      generalize digits.getD q 0 = y1 at *
      generalize digits.getD r 0 = y2 at *
      clear hcs ht hhx hq hr
      go_region_law (refine step_appBs (w := wr.drew) rfl (.tmp 12) (.tmp 25) rfl w.heap.size _ (hexL (l.take k)) (by simp [Act.eval]) hown (hexB x) _ Hcs.out 2 rfl (by simp [Act.eval]) (by decide) hlen hB.size ?_; intro v1 w1 hown1 hg1)
      all_goals
        go_wp2_with fail
        exact ⟨⟨k + 1, by omega, by go_num, by rw [Ht.out]; exact hown1, hg1.below _ _ hB.drew (Nat.le_refl _)⟩, by simp [intOf]; omega⟩
    · obtain rfl : k = l.length := by omega
      rw [List.take_length] at hown
      have hcv := RdB.conv (P := Tryd.prog) (own_rd hown) 31 9 5 Tryd.underlying31 Tryd.underlying5 Tryd.underlying9
      go_wp2
      go_ret
      exact ⟨rfl, hB⟩
end Go.Proofs.YtbgieephehfgpabDoor
