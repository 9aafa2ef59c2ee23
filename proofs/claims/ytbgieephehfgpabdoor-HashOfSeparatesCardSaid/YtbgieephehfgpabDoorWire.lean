/-
  What the program's wire.Int and wire.Bytes return. Conditions: lengths of at most 10^12.
-/
import Derived.Test.YtbgieephehfgpabDoorPlainWire
import Derived.Lib.AppendStr
namespace Go.Proofs.YtbgieephehfgpabDoor
open Go Go.RowKit Wire Go.Lib
theorem strCells_map (l : List UInt8) : strCells ⟨l.toArray⟩ = l.map mkB := by
  simp [strCells]
  intro a _
  rfl
/-- append(s, t...), t a string -/
theorem wp_appS {ops : Array Oper} {rest : List Oper} {o : Oper} {a : Act} {w : World} {Q : Exit → Act → World → Prop} (hgd : o.guard = none) (s x : Operand)
    (ho : o.op = .call { callee := .builtin .append, args := #[s, x], argTypes := #[31, 9] }) (base : Nat) (v : Value) (l : List UInt8) (hs : a.eval s = v) (hown : Own w base v l)
    (m : List UInt8) (hx : a.eval x = .string ⟨m.toArray⟩) (hlen : l.length + m.length < 1000000000000) (hbase : base ≤ w.heap.size)
    (h : ∀ v' w', Own w' base v' (l ++ m) → Grew base w w' v.ownBlock → wpList Tryd.prog ops Q rest (a.put o.dst v') w') :
    wpList Tryd.prog ops Q (o :: rest) a w := by
  obtain ⟨i0, hi, hz0, hz1, hz2⟩ := info_parts info_u8
  have hsz : (⟨m.toArray⟩ : ByteArray).size = m.length := by simp [ByteArray.size]
  refine wpList_append_own_string _ hgd s x 31 9 ho base 5 i0 Tryd.underlying31 Tryd.underlying9 hi hz0 hz1 hz2 v l.length (l.map mkB) hs hown ⟨m.toArray⟩ hx (by rw [hsz]; unfold maxLen; omega) (by rw [hsz]; omega) hbase ?_
  intro v' w' hown' hg hnil
  have hO : Own w' base v' (l ++ m) := by
    have e : (l ++ m).map mkB = l.map mkB ++ strCells ⟨m.toArray⟩ := by rw [strCells_map, List.map_append]
    have e2 : (l ++ m).length = l.length + (⟨m.toArray⟩ : ByteArray).size := by rw [hsz, List.length_append]
    show w'.ownsRow _ _ _ _ _ _
    rw [e, e2]
    exact hown'
  have hrow : ∀ j, v.ownBlock = some j → base ≤ j := fun j hj => (hown.lt j hj).1
  refine h v' w' hO ⟨?_, hg.size, ?_⟩
  · intro B a0 hB hBb
    exact hB.grown hg (by omega) (fun j hj => Nat.le_trans hBb (hrow j hj))
  · intro k z hk hkb
    exact blk_grown hk hg (fun e => by have := hrow k e.symm; omega)
theorem gor128_all : ∀ x : Fin 256, bits .or .u8 (x.1 : Int) 128 = ((x.1 % 128 + 128 : Nat) : Int) := by decide +kernel
theorem gor128 (z : Nat) : bits .or .u8 ((z : Int) % 256) 128 = ((UInt8.ofNat (z % 128 + 128)).toNat : Int) := by
  have h := gor128_all ⟨z % 256, Nat.mod_lt _ (by omega)⟩
  have e : (z : Int) % 256 = ((z % 256 : Nat) : Int) := by omega
  rw [e, h, UInt8.toNat_ofNat']
  simp only
  omega
theorem gbyte (z : Nat) : ((UInt8.ofNat z).toNat : Int) = (z : Int) % 256 := by
  rw [UInt8.toNat_ofNat']
  omega
def natOfV : Value → Nat | .int _ n => n.toNat | _ => 0
set_option maxHeartbeats 1000000 in
theorem wint_any (n : Nat) (w : World) (hn : n ≤ 1000000000000) :
    Calls Tryd.prog 67 #[.int .i64 (n : Int)] w fun e w' => (∃ v, e = .returned v ∧ Own w' w.heap.size v (intB n)) ∧ Below w.heap.size w w' := by
  have e1 : IntKind.u64.wrap (n : Int) = n := by rw [IntWalk.u64_in _ (by omega)]
  have e2 : (n : Int) / 9223372036854775808 = 0 := by omega
  have e3 : bits .xor .u64 ((n : Int) * 2) 0 = ((2 * n : Nat) : Int) := by
    rw [Crc.xor_u64 _ _ (by omega) (by omega) (by omega) (by omega)]
    simp
    omega
  go_enter Tryd.func67, Tryd.ntmps67
  go_wp2
  go_loopw [3, 4] (fun x o wr => ∃ (z f : Nat) (don : List UInt8), x = .int .u64 (z : Int) ∧ z < 128 ^ (f + 1) ∧ z ≤ 2000000000000 ∧ don.length + f = 9 ∧ intB n = don ++ groups f z ∧ Own wr w.heap.size o don ∧ Below w.heap.size w wr) (fun x _ _ => natOfV x)
  case atStart => exact ⟨2 * n, 9, [], rfl, by omega, by omega, rfl, rfl, own_nil _ _, Below.refl _ _⟩
  case round =>
    clear e1 e2 e3
    obtain ⟨z, f, don, rfl, hz, hzb, hd, hl, hown, hB⟩ := hrel
    by_cases h : z > 127
    · cases f with
      | zero => omega
      | succ f =>
        have hl2 : intB n = (don ++ [UInt8.ofNat (z % 128 + 128)]) ++ groups f (z / 128) := by rw [hl, groups, if_pos h, List.append_assoc]; rfl
        have hz2 : z / 128 < 128 ^ (f + 1) := Nat.div_lt_of_lt_mul (by rw [Nat.pow_succ] at hz; omega)
        have hor := gor128 z
        have Hl := Lib.hid hl2
        have Hz := Lib.hid hz2
        clear hl hl2 hz hz2
        go_wp2_with (with_reducible refine wp_appB1 rfl (.tmp 16) (.tmp 20) rfl w.heap.size _ don rfl hown (UInt8.ofNat (z % 128 + 128)) _ rfl rfl (by omega) hB.size ?_; intro v1 w1 hown1 hg1 hv1)
        go_roundw
        case rel => exact ⟨z / 128, f, _, by go_num, Hz.out, by omega, by simp; omega, Hl.out, hown1, hg1.below _ _ hB (Nat.le_refl _)⟩
        case measure => simp [natOfV]; omega
    · have hg : groups f z = [UInt8.ofNat z] := by
        cases f with
        | zero => rfl
        | succ f => rw [groups, if_neg h]
      rw [hg] at hl
      have Hl := Lib.hid hl
      have hgb : ((UInt8.ofNat z).toNat : Int) = (z : Int) := by rw [gbyte]; omega
      clear hl hz hg
      go_wp2_with (with_reducible refine wp_appB1 rfl (.tmp 22) (.tmp 25) rfl w.heap.size _ don rfl hown (UInt8.ofNat z) _ hgb.symm rfl (by omega) hB.size ?_; intro v1 w1 hown1 hg1 hv1)

      go_ret
      exact ⟨⟨_, rfl, by rw [Hl.out]; exact hown1⟩, hg1.below _ _ hB (Nat.le_refl _)⟩
set_option maxHeartbeats 1000000 in
theorem wbytes_any (l : List UInt8) (w : World) (hn : l.length ≤ 1000000000) :
    Calls Tryd.prog 50 #[.string ⟨l.toArray⟩] w fun e w' => (∃ v, e = .returned v ∧ Own w' w.heap.size v (bytesB l)) ∧ Below w.heap.size w w' := by
  have hsz : (⟨l.toArray⟩ : ByteArray).size = l.length := by simp [ByteArray.size]
  have hb1 : (intB l.length).length + l.length < 1000000000000 := by have := intB_len l.length; omega
  go_enter Tryd.func50, Tryd.ntmps50
  go_wp2_with (first | (go_at_call 67; (with_reducible refine (wint_any l.length _ (by omega)).mono ?_); rintro e w1 ⟨⟨v1, rfl, hown⟩, hw1⟩) | (with_reducible refine wp_appS rfl (.tmp 5) (.tmp 6) rfl w.heap.size v1 (intB l.length) rfl hown l rfl hb1 hw1.size ?_; intro v2 w2 hown2 hg2))
  go_ret
  exact ⟨⟨_, rfl, hown2⟩, hg2.below _ _ hw1 (Nat.le_refl _)⟩
end Go.Proofs.YtbgieephehfgpabDoor
