/-
  What the reference's Five, Bytes and Words return: a word's five bytes, the words' bytes, their check. Conditions: at most 10^6 words.
-/
import Derived.Test.YtbgieephehfgpaaDoorRefCrc
import Derived.Test.YtbgieephehfgpaaDoorAppR
namespace Go.Proofs.YtbgieephehfgpaaDoor
open Go Go.RowKit Crc
def Crc.fiveB (n : Int) (k : Nat) : UInt8 := UInt8.ofNat ((n % 1099511627776).toNat / 2 ^ (32 - 8 * k))
theorem five_eq (n : Int) : five n = (List.range 5).map (fiveB n) := rfl
theorem fiveB_go (n : Int) (k : Nat) (hk : k < 5) : n / 2 ^ (32 - 8 * k) % 256 = ((fiveB n k).toNat : Int) := by
  unfold fiveB
  rw [UInt8.toNat_ofNat']
  obtain ⟨m, hm⟩ : ∃ m : Nat, (m : Int) = n % 1099511627776 := ⟨(n % 1099511627776).toNat, Int.toNat_of_nonneg (by omega)⟩
  have hmt : (n % 1099511627776).toNat = m := by omega
  rw [hmt]
  have hor : k = 0 ∨ k = 1 ∨ k = 2 ∨ k = 3 ∨ k = 4 := by omega
  rcases hor with rfl | rfl | rfl | rfl | rfl
  · show n / 4294967296 % 256 = ((m / 4294967296 % 256 : Nat) : Int); omega
  · show n / 16777216 % 256 = ((m / 16777216 % 256 : Nat) : Int); omega
  · show n / 65536 % 256 = ((m / 65536 % 256 : Nat) : Int); omega
  · show n / 256 % 256 = ((m / 256 % 256 : Nat) : Int); omega
  · show n / 1 % 256 = ((m / 1 % 256 : Nat) : Int); omega
set_option maxHeartbeats 1000000 in
theorem five_any (n : Int) (w : World) :
    Calls Tryd.prog 38 #[.int .i64 n] w fun e w' => (∃ v, e = .returned v ∧ Own w' w.heap.size v (five n)) ∧ Below w.heap.size w w' := by
  go_enter Tryd.func38, Tryd.ntmps38
  go_wp2
  go_loopw [3, 4] (fun o i wr => ∃ k : Nat, k ≤ 5 ∧ i = .int .i64 (k : Int) ∧ Own wr w.heap.size o ((List.range k).map (fiveB n)) ∧ Below w.heap.size w wr) (fun _ i _ => 5 - (intOf i).toNat)
  case atStart => exact ⟨0, by omega, rfl, own_nil _ _, Below.refl _ _⟩
  case round =>
    obtain ⟨k, hk, rfl, hown, hB⟩ := hrel
    by_cases hlt : k < 5
    · have hbv := fiveB_go n k hlt
      obtain ⟨z, hz⟩ : ∃ z : Nat, z = 32 - 8 * k := ⟨_, rfl⟩
      have hz1 : (32 : Int) - 8 * (k : Int) = (z : Int) := by omega
      have hz2 : z < 64 := by omega
      rw [← hz] at hbv
      have hlen : ((List.range k).map (fiveB n)).length < 1000000000000 := by simp; omega
      have hsn : (List.range (k + 1)).map (fiveB n) = (List.range k).map (fiveB n) ++ [fiveB n k] := by rw [List.range_succ, List.map_append]; rfl
      have Hsn := Lib.hid hsn
      have Hbv := Lib.hid hbv
      have Hlen := Lib.hid hlen
      clear hsn hz hbv hlen
      go_wp2_with (with_reducible refine wp_appB1 rfl (.tmp 9) (.tmp 16) rfl w.heap.size _ ((List.range k).map (fiveB n)) rfl hown (fiveB n k) _ Hbv.out rfl Hlen.out hB.size ?_; intro v1 w1 hown1 hg1 hv1)
      go_roundw
      case rel => exact ⟨k + 1, by omega, by go_num, by rw [Hsn.out]; exact hown1, hg1.below _ _ hB (Nat.le_refl _)⟩
      case measure => simp [intOf]; omega
    · obtain rfl : k = 5 := by omega
      go_wp2
      go_ret
      exact ⟨⟨_, rfl, hown⟩, hB⟩
set_option maxRecDepth 100000 in
set_option maxHeartbeats 1000000 in
theorem refbytes_any (v : Value) (l : List Int) (w : World) (hr : Rd mkI w v l) (hs : l.length ≤ 1000000) :
    Calls Tryd.prog 23 #[v] w fun e w' => (∃ v', e = .returned v' ∧ Own w' w.heap.size v' (wordsB l)) ∧ Below w.heap.size w w' := by
  obtain ⟨va, vcap, rfl, hvc, hvcell⟩ := hr
  go_enter Tryd.func23, Tryd.ntmps23
  go_wp2
  go_loopw [3, 4] (fun o i wr => ∃ k : Nat, k ≤ l.length ∧ i = .int .i64 (k : Int) ∧ OwnOf mkB 5 wr w.heap.size o (wordsB (l.take k)) ∧ Below w.heap.size w wr) (fun _ i _ => l.length - (intOf i).toNat)
  case atStart => exact ⟨0, by omega, rfl, own_nil _ _, Below.refl _ _⟩
  case round =>
    obtain ⟨k, hk, rfl, hown, hB⟩ := hrel
    by_cases hlt : k < l.length
    · rcases hvcell with hnil | ⟨b, off, rfl, hbl, hcell⟩
      · subst hnil; simp at hlt
      · obtain ⟨x, hx⟩ : ∃ x, l[k]? = some x := ⟨_, List.getElem?_eq_getElem hlt⟩
        have hcx : wr.cell? ⟨b, off + k, none⟩ = some (.int .i64 x) := (hB.cell (p := ⟨b, off + k, none⟩) hbl).trans (hcell k x hx)
        have hsn : wordsB (l.take (k + 1)) = wordsB (l.take k) ++ five x := by
          rw [List.take_add_one, hx]; simp [wordsB]
        have h5 : (five x).length = 5 := by simp [five]
        have hwl : ∀ m : List Int, (wordsB m).length = 5 * m.length := by
          intro m
          induction m with
          | nil => rfl
          | cons a m ih => simp only [wordsB, List.flatMap_cons, List.length_append, List.length_cons] at ih ⊢; rw [ih]; simp [five]; omega
        have hlen : (wordsB (l.take k)).length + (five x).length < 1000000000000 := by rw [h5, hwl]; simp; omega
        have Hlen := Lib.hid hlen
        have Hsn := Lib.hid hsn
        clear hsn hlen hx hcell h5 hwl
        go_wp2_with (first
          | (go_at_call 38; ((with_reducible refine (five_any x wr).mono ?_); rintro e w1 ⟨⟨v1, rfl, hown1⟩, hw1⟩))
          | (with_reducible refine wp_appR mkB_one Tryd.underlying22 info_u8 rfl (by decide) rfl (.tmp 11) (.tmp 16) rfl w.heap.size _ (wordsB (l.take k)) rfl (ownOf_kept hown hw1) v1 (five x) rfl (own_rd hown1) Hlen.out (Nat.le_trans hB.size hw1.size) ?_; intro v2 w2 hown2 hg2))
        go_roundw
        case rel => exact ⟨k + 1, by omega, by go_num, by rw [Hsn.out]; exact hown2, hg2.below _ _ (hB.trans (hw1.mono hB.size)) (Nat.le_refl _)⟩
        case measure => simp [intOf]; omega
    · obtain rfl : k = l.length := by omega
      rw [List.take_length] at hown
      go_wp2
      go_ret
      exact ⟨⟨_, rfl, hown⟩, hB⟩
theorem wordsB_len (m : List Int) : (wordsB m).length = 5 * m.length := by
  induction m with
  | nil => rfl
  | cons a m ih => simp only [wordsB, List.flatMap_cons, List.length_append, List.length_cons] at ih ⊢; rw [ih]; simp [five]; omega
theorem refwords_any (v : Value) (l : List Int) (w : World) (hr : Rd mkI w v l) (hs : l.length ≤ 1000000) :
    Calls Tryd.prog 22 #[v] w fun e w' => e = .returned (.int .i64 (toI (crc (wordsB l)))) ∧ Below w.heap.size w w' := by
  have hb := refbytes_any v l w hr hs
  have hc := fun v1 w1 (h : RdB w1 v1 (wordsB l)) => refcrc_any v1 (wordsB l) w1 h (by rw [wordsB_len]; omega)
  generalize wordsB l = m at *
  go_enter Tryd.func22, Tryd.ntmps22
  go_wp2_with (first
    | (go_at_call 23; ((with_reducible refine hb.mono ?_); rintro e w1 ⟨⟨v1, rfl, hown1⟩, hw1⟩))
    | (go_at_call 15; ((with_reducible refine (hc v1 w1 (own_rd hown1)).mono ?_); rintro e w2 ⟨rfl, rfl⟩)))
  go_ret
  exact ⟨rfl, hw1⟩
end Go.Proofs.YtbgieephehfgpaaDoor
