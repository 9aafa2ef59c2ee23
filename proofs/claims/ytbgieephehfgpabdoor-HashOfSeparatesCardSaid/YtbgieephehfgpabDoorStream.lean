/-
  A stream of SHA-256 in memory, and Go's copy of a string into a part of it. No conditions.
-/
import Derived.Test.YtbgieephehfgpabDoorShaComp
namespace Go.Proofs.YtbgieephehfgpabDoor
open Go Go.RowKit Sha
namespace Sha
/-- a stream's cells -/
def sL (st : S8) (blk : List UInt8) (n : Nat) : List Value := (arr8 st).toList ++ blk.map mkB ++ [.int .u64 (n : Int)]
/-- a stream's value whose message is m -/
def Rep (m : List UInt8) (v : Value) : Prop := ∃ blk : List UInt8, blk.length = 64 ∧ v = .agg (sL (hb m (m.length / 64)) blk m.length).toArray ∧ blk.take (m.length % 64) = m.drop (64 * (m.length / 64))
theorem sL_len (st : S8) (blk : List UInt8) (n : Nat) (h : blk.length = 64) : (sL st blk n).length = 73 := by simp [sL, arr8, h]
theorem sL_n (st : S8) (blk : List UInt8) (n : Nat) (h : blk.length = 64) : (sL st blk n)[72]? = some (.int .u64 (n : Int)) := by
  unfold sL
  rw [List.getElem?_append_right (by simp [arr8, h])]
  simp [arr8, h]
theorem sL_blk (st : S8) (blk : List UInt8) (n i : Nat) (h : blk.length = 64) (hi : i < 64) : (sL st blk n)[8 + i]? = some (mkB (blk.getD i 0)) := by
  unfold sL
  rw [List.append_assoc, List.getElem?_append_right (by simp [arr8]), List.getElem?_append_left (by simp [arr8, h]; omega)]
  simp [arr8, List.getD, h, hi]
theorem sL_st (st : S8) (blk : List UInt8) (n i : Nat) (hi : i < 8) : (sL st blk n)[i]? = (arr8 st)[i]? := by
  unfold sL
  rw [List.append_assoc, List.getElem?_append_left (by simp [arr8]; omega), Array.getElem?_toList]
/-- bytes put in from place p on -/
theorem sL_splice (st : S8) (blk : List UInt8) (n p : Nat) (cs : List UInt8) (h : blk.length = 64) (hp : p + cs.length ≤ 64) :
    (sL st blk n).take (8 + p) ++ cs.map mkB ++ (sL st blk n).drop (8 + p + cs.length) = sL st (blk.take p ++ cs ++ blk.drop (p + cs.length)) n := by
  have h8 : (arr8 st).toList.length = 8 := rfl
  have hb : (blk.map mkB).length = 64 := by simp [h]
  unfold sL
  rw [List.append_assoc (arr8 st).toList, List.take_append, List.drop_append]
  rw [List.take_of_length_le (by omega), h8, show 8 + p - 8 = p by omega, show 8 + p + cs.length - 8 = p + cs.length by omega, List.drop_of_length_le (by rw [h8]; omega)]
  rw [List.take_append_of_le_length (by omega), List.drop_append_of_le_length (by omega)]
  simp [List.map_take, List.map_drop]
theorem sL_setn (st : S8) (blk : List UInt8) (n n' : Nat) (h : blk.length = 64) : (sL st blk n).toArray.setIfInBounds 72 (.int .u64 (n' : Int)) = (sL st blk n').toArray := by
  apply Array.ext'
  rw [Array.toList_setIfInBounds]
  unfold sL
  rw [List.set_append_right _ _ (by simp [arr8, h])]
  simp [arr8, h]
theorem sL_one (st : S8) (blk : List UInt8) (n : Nat) : ((sL st blk n).toArray).all (·.oneCell') = true := by
  rw [List.all_toArray]
  unfold sL
  rw [List.all_append, List.all_append]
  have h1 : (blk.map mkB).all (·.oneCell') = true := by
    rw [List.all_eq_true]
    intro v hv
    obtain ⟨b, _, rfl⟩ := List.mem_map.1 hv
    rfl
  have h2 := arr8_one st
  rw [← Array.toArray_toList (xs := arr8 st), List.all_toArray] at h2
  rw [h1, h2]
  rfl
theorem sL_set8 (s t : S8) (blk : List UInt8) (n : Nat) : ((((((((sL s blk n).toArray.setIfInBounds 0 (.int .u32 (tI t.a))).setIfInBounds 1 (.int .u32 (tI t.b))).setIfInBounds 2 (.int .u32 (tI t.c))).setIfInBounds 3 (.int .u32 (tI t.d))).setIfInBounds 4 (.int .u32 (tI t.e))).setIfInBounds 5 (.int .u32 (tI t.f))).setIfInBounds 6 (.int .u32 (tI t.g))).setIfInBounds 7 (.int .u32 (tI t.h)) = (sL t blk n).toArray := by
  apply Array.ext'
  simp [sL, arr8, vW]
/-- the block after some bytes -/
def blkN (blk rest : List UInt8) (p k : Nat) : List UInt8 := blk.take p ++ rest.take k ++ blk.drop (p + k)
theorem blkN_len (blk rest : List UInt8) (p k : Nat) (h : blk.length = 64) (hk : k ≤ rest.length) (hp : p + k ≤ 64) : (blkN blk rest p k).length = 64 := by
  unfold blkN
  simp [h]; omega
theorem blkN_sL (st : S8) (blk : List UInt8) (n p k : Nat) (rest : List UInt8) (h : blk.length = 64) (hk : k ≤ rest.length) (hp : p + k ≤ 64) :
    ((sL st blk n).toArray.toList.take (8 + p) ++ (rest.take k).map mkB ++ (sL st blk n).toArray.toList.drop (8 + p + k)).toArray = (sL st (blkN blk rest p k) n).toArray := by
  have hl : (rest.take k).length = k := by simp; omega
  have := sL_splice st blk n p (rest.take k) h (by omega)
  rw [hl] at this
  unfold blkN
  rw [← this]
theorem blkN_short (M rest blk : List UInt8) (N p k : Nat) (hN : M.length = N) (hp : p = N % 64) (hl : blk.length = 64) (hpart : blk.take (N % 64) = M.drop (64 * (N / 64))) (hk : k ≤ rest.length) (h : p + k < 64) :
    hb (M ++ rest.take k) ((N + k) / 64) = hb M (N / 64) ∧ (blkN blk rest p k).take ((N + k) % 64) = (M ++ rest.take k).drop (64 * ((N + k) / 64)) := by
  have e1 : (N + k) / 64 = N / 64 := by omega
  have e2 : (N + k) % 64 = p + k := by omega
  rw [e1, e2, hb_append _ _ _ (by omega)]
  refine ⟨rfl, ?_⟩
  rw [List.drop_append_of_le_length (by omega), ← hpart, ← hp]
  unfold blkN
  rw [List.take_append_of_le_length (by simp; omega), List.take_of_length_le (by simp; omega)]
theorem blkN_full (M rest blk : List UInt8) (N p k : Nat) (hN : M.length = N) (hp : p = N % 64) (hl : blk.length = 64) (hpart : blk.take (N % 64) = M.drop (64 * (N / 64))) (hk : k ≤ rest.length) (h : p + k = 64) :
    hb (M ++ rest.take k) ((N + k) / 64) = comp (hb M (N / 64)) (blkN blk rest p k) ∧ (blkN blk rest p k).take ((N + k) % 64) = (M ++ rest.take k).drop (64 * ((N + k) / 64)) := by
  have e1 : (N + k) / 64 = N / 64 + 1 := by omega
  have e2 : (N + k) % 64 = 0 := by omega
  rw [e1, e2]
  constructor
  · rw [hb, hb_append _ _ _ (by omega)]
    congr 1
    rw [List.drop_append_of_le_length (by omega), ← hpart, ← hp]
    unfold blkN
    rw [List.drop_of_length_le (by omega), List.append_nil, List.take_of_length_le (by simp; omega)]
  · rw [List.take_zero, List.drop_of_length_le (by simp; omega)]
end Sha
theorem run_sliceAt_arr64 {P : Program} (W : World) (b at_ : Nat) (t : TypeId) (ht : P.underlying t = some (.array (P.arrayLen t) (P.elem t))) (h64 : P.arrayLen t = 64) (hs : (P.info? (P.elem t)).map (·.size) = some 1) (h : at_ < 64) :
    (Instr.sliceAt t (.pointer (some ⟨b, 8, none⟩)) (some (.int .i64 (at_ : Int))) none none).run P W = .ok (.slice (some ⟨b, 8 + at_, none⟩) (64 - at_) (64 - at_)) W := by
  rw [run_sliceAt_array_l W t ⟨b, 8, none⟩ ht .i64 (at_ : Int) (by omega) (by rw [h64]; omega)]
  cases hq : P.info? (P.elem t) with
  | none => simp [hq] at hs
  | some i =>
    have hi : i.size = 1 := by simpa [hq] using hs
    simp [sizeOf, typeInfo, hq, hi, slicedAt, h64, Addr.add_mid]
    omega
theorem run_sliceAt_str {P : Program} (W : World) (l : List UInt8) (k : Nat) (t : TypeId) (hu : P.underlying t = some .string) (h : k ≤ l.length) :
    (Instr.sliceAt t (.string ⟨l.toArray⟩) (some (.int .i64 (k : Int))) none none).run P W = .ok (.string ⟨(l.drop k).toArray⟩) W := by
  have hsz : (⟨l.toArray⟩ : ByteArray).size = l.length := by simp [ByteArray.size]
  have h0 : (0 : Int) ≤ (k : Int) := by omega
  have h1 : (k : Int) ≤ (l.length : Int) := by omega
  rw [run_sliceAt_string W t _ _ _ _ hu]
  simp [Instr.slice, Instr.sliceBounds, Instr.sliceBound, asIntOf, run_underlying hu]
  rw [if_pos (by rw [hsz]; exact h)]
  congr 2
  apply ByteArray.ext
  apply Array.ext'
  simp [ByteArray.size]
  exact List.take_of_length_le (by simp)
theorem run_copy_str {P : Program} (w : World) (dT sT ty elem : TypeId) (g o dLen dCap : Nat) (s : ByteArray) (cur : Array Value) (t : TypeId) (cs : List Value)
    (hu : P.underlying dT = some (.slice elem)) (hs : (P.info? elem).map (·.size) = some 1)
    (hg : w.heap[g]? = some (.cells cur t (0, 0))) (hn : (s.data.toList.map fun b => Value.int .u8 (b.toNat : Int)).take (Nat.min s.size dLen) = cs) (hfit : o + cs.length ≤ cur.size) (hl : cs.length = Nat.min s.size dLen) :
    (Builtin.copy_ #[dT, sT] ty #[.slice (some ⟨g, o, none⟩) dLen dCap, .string s]).run P w =
      .ok (goInt cs.length) (w.setRow g (cur.toList.take o ++ cs ++ cur.toList.drop (o + cs.length)).toArray) := by
  have h1 : ∀ v ∈ cs, v.oneCell' = true := by
    intro v hv
    rw [← hn] at hv
    obtain ⟨b, _, rfl⟩ := List.mem_map.1 (List.mem_of_mem_take hv)
    rfl
  have hst := run_storeCells_at P g o t cs 0 cur w hg (by simpa using hfit) h1
  cases hq : P.info? elem with
  | none => simp [hq] at hs
  | some i =>
    simp [Builtin.copy_, run_underlying hu, Builtin.lenOf, Builtin.firstCells, sizeOf, typeInfo, hq]
    rw [hn, hst, ← hl]
    simp
/-- Go's copy of a string, as an operation of a plain region -/
theorem wpList_copy_str {P : Program} {w : World} {ops : Array Oper} {rest : List Oper} {o : Oper} {a : Act} {Q : Exit → Act → World → Prop} (hgd : o.guard = none) (d s : Operand) (dT sT : TypeId)
    (ho : o.op = .call { callee := .builtin .copy, args := #[d, s], argTypes := #[dT, sT] }) (elem : TypeId) (hu : P.underlying dT = some (.slice elem)) (hsz : (P.info? elem).map (·.size) = some 1)
    (g off dLen dCap : Nat) (str : ByteArray) (hd : a.eval d = .slice (some ⟨g, off, none⟩) dLen dCap) (hs : a.eval s = .string str)
    (cur : Array Value) (t : TypeId) (hg : w.heap[g]? = some (.cells cur t (0, 0))) (cs : List Value) (hn : (str.data.toList.map fun b => Value.int .u8 (b.toNat : Int)).take (Nat.min str.size dLen) = cs) (k : Nat) (hfit : off + k ≤ cur.size) (hl : cs.length = Nat.min str.size dLen) (hk : cs.length = k)
    (new : Array Value) (hnew : (cur.toList.take off ++ cs ++ cur.toList.drop (off + k)).toArray = new) (h : wpList P ops Q rest (a.put o.dst (.int .i64 (k : Int))) (w.setRow g new)) :
    wpList P ops Q (o :: rest) a w := by
  subst hnew hk
  refine wpList_plain hgd fun K hK => ?_
  unfold Oper.wp execOp
  simp only [ho, resolve, invoke, builtin, Sem.run_bind, Sem.run_pure, Result.andThen_ok, List.map_toArray, List.map_cons, List.map_nil, hd, hs, run_copy_str w dT sT o.type elem g off dLen dCap str cur t cs hu hsz hg hn hfit hl]
  exact hK _ _ h
end Go.Proofs.YtbgieephehfgpabDoor
