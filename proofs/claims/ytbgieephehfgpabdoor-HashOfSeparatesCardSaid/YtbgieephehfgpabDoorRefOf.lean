/-
  What the reference's Int, Bytes, Input, Short and Of return: the same lists of bytes as the program's. Conditions: sizes; the reference's table is as its text lays it.
-/
import Derived.Test.YtbgieephehfgpabDoorOf
import Derived.Test.YtbgieephehfgpabDoorAppR
import Derived.Test.YtbgieephehfgpabDoorListOwn
import Derived.Test.YtbgieephehfgpabDoorRefSum
namespace Go.Proofs.YtbgieephehfgpabDoor
open Go Go.RowKit Sha Wire
theorem rbyte (z : Nat) : (z : Int) % 128 + 128 = ((UInt8.ofNat (z % 128 + 128)).toNat : Int) := by
  rw [UInt8.toNat_ofNat']
  omega
set_option maxRecDepth 100000 in
set_option maxHeartbeats 1000000 in
theorem rint_any (n : Nat) (w : World) (hn : n ≤ 1000000000000) :
    Calls Tryd.prog 69 #[.int .i64 (n : Int)] w fun e w' => (∃ v, e = .returned v ∧ Own w' w.heap.size v (intB n)) ∧ Below w.heap.size w w' := by
  have e1 : IntKind.u64.wrap (n : Int) = n := by rw [IntWalk.u64_in _ (by omega)]
  have e3 : IntKind.u64.wrap ((n : Int) * 2) = ((2 * n : Nat) : Int) := by rw [IntWalk.u64_in _ (by omega)]; omega
  have e4 : decide ((n : Int) < 0) = false := by simp
  go_enter Tryd.func69, Tryd.ntmps69
  go_wp2
  go_loopw [3, 4] (fun x o wr => ∃ (z f : Nat) (don : List UInt8), x = .int .u64 (z : Int) ∧ z < 128 ^ (f + 1) ∧ z ≤ 2000000000000 ∧ don.length + f = 9 ∧ intB n = don ++ groups f z ∧ Own wr w.heap.size o don ∧ Below w.heap.size w wr) (fun x _ _ => natOfV x)
  case atStart => exact ⟨2 * n, 9, [], by go_num, by omega, by omega, rfl, rfl, own_nil _ _, Below.refl _ _⟩
  case round =>
    clear e1 e3 e4
    obtain ⟨z, f, don, rfl, hz, hzb, hd, hl, hown, hB⟩ := hrel
    by_cases h : z > 127
    · cases f with
      | zero => omega
      | succ f =>
        have hl2 : intB n = (don ++ [UInt8.ofNat (z % 128 + 128)]) ++ groups f (z / 128) := by rw [hl, groups, if_pos h, List.append_assoc]; rfl
        have hz2 : z / 128 < 128 ^ (f + 1) := Nat.div_lt_of_lt_mul (by rw [Nat.pow_succ] at hz; omega)
        have Hrb := Lib.hid (rbyte z)
        have Hl := Lib.hid hl2
        have Hz := Lib.hid hz2
        clear hl hl2 hz hz2
        go_wp2_with (with_reducible refine wp_appB1 rfl (.tmp 17) (.tmp 22) rfl w.heap.size _ don rfl hown (UInt8.ofNat (z % 128 + 128)) _ Hrb.out rfl (by omega) hB.size ?_; intro v1 w1 hown1 hg1 hv1)
        go_roundw
        case rel => exact ⟨z / 128, f, _, by go_num, Hz.out, by omega, by simp; omega, Hl.out, hown1, hg1.below _ _ hB (Nat.le_refl _)⟩
        case measure => simp [natOfV]; omega
    · have hg : groups f z = [UInt8.ofNat z] := by
        cases f with
        | zero => rfl
        | succ f => rw [groups, if_neg h]
      rw [hg] at hl
      have Hl := Lib.hid hl
      have hgb : ((UInt8.ofNat z).toNat : Int) = (z : Int) := by rw [gbyte]; omega
      clear hl hz hg
      go_wp2_with (with_reducible refine wp_appB1 rfl (.tmp 26) (.tmp 29) rfl w.heap.size _ don rfl hown (UInt8.ofNat z) _ hgb.symm rfl (by omega) hB.size ?_; intro v1 w1 hown1 hg1 hv1)
      go_ret
      exact ⟨⟨_, rfl, by rw [Hl.out]; exact hown1⟩, hg1.below _ _ hB (Nat.le_refl _)⟩
set_option maxRecDepth 100000 in
set_option maxHeartbeats 1000000 in
theorem rbytes_any (l : List UInt8) (w : World) (hn : l.length ≤ 1000000000) :
    Calls Tryd.prog 52 #[.string ⟨l.toArray⟩] w fun e w' => (∃ v, e = .returned v ∧ Own w' w.heap.size v (bytesB l)) ∧ Below w.heap.size w w' := by
  have hsz : (⟨l.toArray⟩ : ByteArray).size = l.length := by simp [ByteArray.size]
  have hb1 : (intB l.length).length + l.length < 1000000000000 := by have := intB_len l.length; omega
  go_enter Tryd.func52, Tryd.ntmps52
  go_wp2_with (first | (go_at_call 69; (with_reducible refine (rint_any l.length _ (by omega)).mono ?_); rintro e w1 ⟨⟨v1, rfl, hown⟩, hw1⟩) | (with_reducible refine wp_appS rfl (.tmp 5) (.tmp 6) rfl w.heap.size v1 (intB l.length) rfl hown l rfl hb1 hw1.size ?_; intro v2 w2 hown2 hg2))
  go_ret
  exact ⟨⟨_, rfl, hown2⟩, hg2.below _ _ hw1 (Nat.le_refl _)⟩
set_option maxRecDepth 100000 in
set_option maxHeartbeats 1000000 in
theorem rinput_any (tag : Int) (v : Value) (ps : List (List UInt8)) (w : World) (hr : Rd mkS w v ps) (hn : ps.length ≤ 1000) (hs : ∀ l ∈ ps, l.length ≤ 10000) :
    Calls Tryd.prog 15 #[.int .i64 tag, v] w fun e w' => (∃ v', e = .returned v' ∧ Own w' w.heap.size v' (ofIn tag ps)) ∧ Below w.heap.size w w' := by
  have Hr := Lib.hid hr
  obtain ⟨va, vcap, rfl, hvc, hvcell⟩ := hr
  have htag := tagB_go tag
  go_enter Tryd.func15, Tryd.ntmps15
  go_wp2
  go_loopw [5, 6] (fun x i wr => ∃ k : Nat, k ≤ ps.length ∧ i = .int .i64 (k : Int) ∧ Own wr w.heap.size x (ofIn tag (ps.take k)) ∧ Below w.heap.size w wr) (fun _ i _ => ps.length - (intOf i).toNat)
  case atStart => exact ⟨0, by omega, rfl, own_lit w w.heap.size [tagB tag] _ 1 (by simp [mkB, htag]) rfl (Nat.le_refl _) (by decide), below_alloc1 _ _⟩
  case round =>
    obtain ⟨k, hk, rfl, hown, hB⟩ := hrel
    by_cases h : k < ps.length
    · rcases hvcell with hnil | ⟨b, off, rfl, hbl, hcell⟩
      · subst hnil; simp at h
      · obtain ⟨x, hx⟩ : ∃ x, ps[k]? = some x := ⟨_, List.getElem?_eq_getElem h⟩
        have hxs := hs x (List.mem_of_getElem? hx)
        have hcx : wr.cell? ⟨b, off + k, none⟩ = some (.string ⟨x.toArray⟩) := (hB.cell (p := ⟨b, off + k, none⟩) hbl).trans (hcell k x hx)
        have hnext : ofIn tag (ps.take (k + 1)) = ofIn tag (ps.take k) ++ bytesB x := by
          rw [List.take_succ_eq_append_getElem h]; rw [List.getElem?_eq_getElem h] at hx; cases hx; exact ofIn_step _ _ _
        have hlen := ofIn_len tag ps hs k hk
        have hlen2 : (ofIn tag (ps.take k)).length + (bytesB x).length < 1000000000000 := by
          have := intB_len x.length
          simp [bytesB]; omega
        have hwb := rbytes_any x wr (by omega)
        have Hnext := Lib.hid hnext
        have Hlen := Lib.hid hlen2
        have Hwb := Lib.hid hwb
        clear hnext hx hlen hlen2 hwb hcell hxs
        generalize bytesB x = bx at *
        generalize ofIn tag (ps.take k) = d at *
        go_wp2_with (first
          | (go_at_call 52; (with_reducible refine Hwb.out.mono ?_); rintro e w1 ⟨⟨v1, rfl, hown1⟩, hw1⟩)
          | (with_reducible refine wp_appR mkB_one Tryd.underlying31 info_u8 rfl (by decide) rfl (.tmp 16) (.tmp 21) rfl w.heap.size _ d rfl (ownOf_kept hown hw1) v1 bx rfl (own_rd hown1) Hlen.out (Nat.le_trans hB.size hw1.size) ?_; intro v2 w2 hown2 hg2))
        go_roundw
        case rel => exact ⟨k + 1, by omega, by go_num, by rw [Hnext.out]; exact hown2, hg2.below _ _ (hB.trans (hw1.mono hB.size)) (Nat.le_refl _)⟩
        case measure => simp [intOf]; omega
    · obtain rfl : k = ps.length := by omega
      rw [List.take_length] at hown
      go_wp2
      go_ret
      exact ⟨⟨_, rfl, hown⟩, hB⟩
end Go.Proofs.YtbgieephehfgpabDoor
