/-
  What the program's hash.Words returns: the check of the words' bytes. Conditions: at most 10^6 words, the tables are as the program's text lays them.
-/
import Derived.Test.YtbgieephehfgpabDoorCrc40
namespace Go.Proofs.YtbgieephehfgpabDoor
open Go Go.RowKit Crc
/-- a word's five bytes -/
def Crc.five (n : Int) : List UInt8 := (List.range 5).map fun k => UInt8.ofNat ((n % 1099511627776).toNat / 2 ^ (32 - 8 * k))
def Crc.wordsB (l : List Int) : List UInt8 := l.flatMap five
/-- the register after the first nibbles of a word, the highest first -/
def Crc.nibs10 (r : R) (n : Int) : Nat → R
  | 0 => r
  | j + 1 => nib (nibs10 r n j) ((n / 2 ^ (36 - 4 * j)) % 16).toNat
theorem nib_mod (r : R) (a b : Nat) (h : a % 16 = b % 16) : nib r a = nib r b := by
  have key : ∀ k, k < 4 → a.testBit k = b.testBit k := by
    intro k hk
    have h1 := Nat.testBit_mod_two_pow a 4 k
    have h2 := Nat.testBit_mod_two_pow b 4 k
    rw [show (2 : Nat) ^ 4 = 16 from rfl] at h1 h2
    rw [h, h2] at h1
    simpa [hk] using h1.symm
  unfold nib
  rw [key 3 (by omega), key 2 (by omega), key 1 (by omega), key 0 (by omega)]
theorem two_nibs (r : R) (v a b : Nat) (h1 : a % 16 = v / 16 % 16) (h2 : b % 16 = v % 16) : nib (nib r a) b = byte8 r v := by
  rw [byte8_nib, nib_mod _ a (v / 16) h1, nib_mod _ b v h2]
theorem nibs10_five (r : R) (n : Int) : nibs10 r n 10 = adds r (five n) := by
  obtain ⟨m, hm⟩ : ∃ m : Nat, (m : Int) = n % 1099511627776 := ⟨(n % 1099511627776).toNat, Int.toNat_of_nonneg (by omega)⟩
  have hmt : (n % 1099511627776).toNat = m := by omega
  have hf : five n = [UInt8.ofNat (m / 4294967296), UInt8.ofNat (m / 16777216), UInt8.ofNat (m / 65536), UInt8.ofNat (m / 256), UInt8.ofNat (m / 1)] := by
    unfold five
    rw [hmt]
    rfl
  have hb : ∀ x : Nat, (UInt8.ofNat x).toNat = x % 256 := fun x => UInt8.toNat_ofNat'
  have s1 : ∀ q, nib (nib q ((n / 68719476736) % 16).toNat) ((n / 4294967296) % 16).toNat = byte8 q (UInt8.ofNat (m / 4294967296)).toNat := fun q => two_nibs q _ _ _ (by rw [hb]; omega) (by rw [hb]; omega)
  have s2 : ∀ q, nib (nib q ((n / 268435456) % 16).toNat) ((n / 16777216) % 16).toNat = byte8 q (UInt8.ofNat (m / 16777216)).toNat := fun q => two_nibs q _ _ _ (by rw [hb]; omega) (by rw [hb]; omega)
  have s3 : ∀ q, nib (nib q ((n / 1048576) % 16).toNat) ((n / 65536) % 16).toNat = byte8 q (UInt8.ofNat (m / 65536)).toNat := fun q => two_nibs q _ _ _ (by rw [hb]; omega) (by rw [hb]; omega)
  have s4 : ∀ q, nib (nib q ((n / 4096) % 16).toNat) ((n / 256) % 16).toNat = byte8 q (UInt8.ofNat (m / 256)).toNat := fun q => two_nibs q _ _ _ (by rw [hb]; omega) (by rw [hb]; omega)
  have s5 : ∀ q, nib (nib q ((n / 16) % 16).toNat) ((n / 1) % 16).toNat = byte8 q (UInt8.ofNat (m / 1)).toNat := fun q => two_nibs q _ _ _ (by rw [hb]; omega) (by rw [hb]; omega)
  rw [hf]
  show _ = byte8 (byte8 (byte8 (byte8 (byte8 r _) _) _) _) _
  rw [← s1, ← s2, ← s3, ← s4, ← s5]
  rfl
def mkI (n : Int) : Value := .int .i64 n
set_option maxRecDepth 100000 in
set_option maxHeartbeats 1000000 in
theorem words_any (v : Value) (l : List Int) (w : World) (hr : Rd mkI w v l) (hs : l.length ≤ 1000000) (hb : ∀ n ∈ l, -9223372036854775808 ≤ n ∧ n ≤ 9223372036854775807) (hT : Tabs w) :
    Calls Tryd.prog 45 #[v] w fun e w' => e = .returned (.int .i64 (toI (crc (wordsB l)))) ∧ Below w.heap.size w w' := by
  obtain ⟨va, vcap, rfl, hvc, hvcell⟩ := hr
  go_enter Tryd.func45, Tryd.ntmps45
  go_wp2_with (first | (go_at_call 42; ((with_reducible refine (begin_any _).mono ?_); rintro e w1 ⟨rfl, hw1⟩)))
  have hb3 := blk_new w1 #[.int .u64 (toI ones)] 76
  have hB1 : Below w.heap.size w (w1.alloc (.cells #[.int .u64 (toI ones)] 76)) := hw1.alloc hw1.size _
  have hN : w.heap.size ≤ w1.heap.size := hw1.size
  generalize w1.alloc (.cells #[.int .u64 (toI ones)] 76) = w2 at *
  generalize w1.heap.size = N at *
  go_loopw [5, 6, 10] (fun _ _ i wr => ∃ k : Nat, k ≤ l.length ∧ i = .int .i64 (k : Int) ∧ Blk wr N #[.int .u64 (toI (adds ones (wordsB (l.take k))))] 76 ∧ Below w.heap.size w wr) (fun _ _ i _ => l.length - (intOf i).toNat)
  case atStart => exact ⟨0, by omega, rfl, hb3, hB1⟩
  case round =>
    clear hb3 hB1
    obtain ⟨k, hk, rfl, hb3, hB⟩ := hrel
    by_cases hlt : k < l.length
    · rcases hvcell with hnil | ⟨b, off, rfl, hbl, hcell⟩
      · subst hnil; simp at hlt
      · obtain ⟨x, hx⟩ : ∃ x, l[k]? = some x := ⟨_, List.getElem?_eq_getElem hlt⟩
        have hxs := hb x (List.mem_of_getElem? hx)
        have hcx : wr.cell? ⟨b, off + k, none⟩ = some (.int .i64 x) := (hB.cell (p := ⟨b, off + k, none⟩) hbl).trans (hcell k x hx)
        have hnext : adds ones (wordsB (l.take (k + 1))) = nibs10 (adds ones (wordsB (l.take k))) x 10 := by
          rw [nibs10_five, List.take_add_one, hx]; simp [wordsB, adds, List.foldl_append]
        generalize adds ones (wordsB (l.take k)) = r at *
        have Hnext := Lib.hid hnext
        clear hnext hx hcell
        go_wp2
        obtain ⟨wo, rfl⟩ : ∃ wo : World, wo = wr := ⟨_, rfl⟩
        go_loopw [6] (fun s wr => ∃ (j : Nat) (z : Int), j ≤ 10 ∧ s = .int .i64 z ∧ z + 4 * (j : Int) = 36 ∧ Blk wr N #[.int .u64 (toI (nibs10 r x j))] 76 ∧ Below w.heap.size w wr) (fun s _ => (intOf s + 8).toNat)
        case atStart => exact ⟨0, 36, by omega, rfl, by omega, hb3, hB⟩
        case round =>
          clear hb3 hB hcx
          obtain ⟨j, z, hj, rfl, hz, hb3, hB⟩ := hrel
          have c0 := blk_cell hb3 0
          have f0 := blk_free hb3 0
          have hTr := hT.below hB
          by_cases h10 : j < 10
          · have hTd := hTr.drew
            have hnn : nibs10 r x (j + 1) = nib (nibs10 r x j) ((x / 2 ^ (36 - 4 * j)) % 16).toNat := rfl
            generalize nibs10 r x j = y at *
            have Hnn := Lib.hid hnn
            clear hnn
            have hy0 := toI_lo y
            have hy1 := toI_hi y
            have d0 : (0 : Int) ≤ z := by omega
            have d1 : z < 64 := by omega
            have Hz := Lib.hid hz
            clear hz
            go_wp2
            have a15 := i64_and15 (x / 2 ^ z.toNat)
            obtain ⟨d, hd⟩ : ∃ d, d = (x / 2 ^ z.toNat) % 16 := ⟨_, rfl⟩
            have hd1 : 0 ≤ d ∧ d < 256 := by omega
            rw [← hd] at a15
            have hzt : z.toNat = 36 - 4 * j := by have := Hz.out; omega
            have hnd : nibs10 r x (j + 1) = nib y d.toNat := by rw [Hnn.out, hd, hzt]
            have Hnd := Lib.hid hnd
            have hw8 : IntKind.u8.wrap d = d := IntWalk.u8_in _ (by omega)
            clear hnd hzt hd
            go_region_with (go_at_call 65; ((with_reducible refine (nibble_any y d _ hd1 hTd).mono ?_); rintro e w3 ⟨rfl, hw3⟩; have hk3 := blk_kept (w := wr.drew) hb3 hw3; have c3 := blk_cell hk3 0; have f3 := blk_free hk3 0))
            have hBw : Below w.heap.size w w3 := hB.drew.trans (hw3.mono hB.size)
            have hset := blk_set hk3 0 (.int .u64 (toI (nib y d.toNat)))
            have hBs := hBw.setCell (p := ⟨N, 0, none⟩) hN (.int .u64 (toI (nib y d.toNat)))
            have Hset := Lib.hid hset
            clear hset c3 f3 c0 f0
            go_wp2
            go_roundw
            case rel => exact ⟨j + 1, z - 4, by omega, by go_num, by have := Hz.out; omega, by rw [Hnd.out]; exact Hset.out, hBs⟩
            case measure => simp [intOf]; omega
          · have hz' : z = -4 := by omega
            obtain rfl : j = 10 := by omega
            subst hz'
            go_wp2
            go_roundw
            case rel => exact ⟨k + 1, by omega, by go_num, by rw [Hnext.out]; exact hb3, hB⟩
            case measure => simp [intOf]; omega
    · obtain rfl : k = l.length := by omega
      rw [List.take_length] at hb3
      have c0 := blk_cell hb3 0
      go_wp2_with (first | (go_at_call 44; ((with_reducible refine (value_any _ _).mono ?_); rintro e w3 ⟨rfl, hw3⟩)))
      go_ret
      exact ⟨rfl, hB.trans (hw3.mono hB.size)⟩
end Go.Proofs.YtbgieephehfgpabDoor
