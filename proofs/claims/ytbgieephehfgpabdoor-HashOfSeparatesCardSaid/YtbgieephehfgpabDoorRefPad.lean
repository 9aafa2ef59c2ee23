/-
  What the reference's rotr and padded return: a rotated word, the padded message. Conditions: rotations by 1 to 31, messages of at most 10^9 bytes.
-/
import Derived.Test.YtbgieephehfgpabDoorStreamSum
import Derived.Test.YtbgieephehfgpabDoorAppR
import Derived.Test.YtbgieephehfgpabDoorListOwn
namespace Go.Proofs.YtbgieephehfgpabDoor
open Go Go.RowKit Sha
theorem rrot_go (x : W) (n s : Nat) (hs : s + n = 32) : bits .or .u32 (tI x / 2 ^ n) (tI x * 2 ^ s % 4294967296) = tI (rotr x n) := by
  obtain rfl : s = 32 - n := by omega
  rw [shl_go, shr_go]
  have h := or_go (shr x n) (x <<< (32 - n))
  unfold tI at h ⊢
  rw [h]
  rfl
set_option maxHeartbeats 400000 in
theorem rrotr_any (x : W) (n : Nat) (w : World) (hn : 1 ≤ n) (hn' : n ≤ 31) :
    Calls Tryd.prog 77 #[.int .u32 (tI x), .int .i64 (n : Int)] w fun e w' => e = .returned (.int .u32 (tI (rotr x n))) ∧ ∃ k, w' = w.drewN k := by
  have h0 := tI_lo x
  have h1 := tI_hi x
  obtain ⟨s, hs⟩ : ∃ s, s = 32 - n := ⟨_, rfl⟩
  have hr := rrot_go x n s (by omega)
  have hs1 : (32 : Int) - (n : Int) = (s : Int) := by omega
  have hs2 : s < 32 := by omega
  generalize tI (rotr x n) = y at *
  have Hr := Lib.hid hr
  clear hr hs
  go_enter Tryd.func77, Tryd.ntmps77
  go_wp2
  go_quiet (fail)
  go_wp2
  go_ret
  exact ⟨ret_int Hr.out, _, rfl⟩
set_option maxRecDepth 100000 in
set_option maxHeartbeats 2000000 in
theorem rpadded_any (v : Value) (l : List UInt8) (w : World) (hr : RdB w v l) (hs : l.length ≤ 1000000000) :
    Calls Tryd.prog 75 #[v] w fun e w' => (∃ v', e = .returned v' ∧ OwnOf mkB 5 w' w.heap.size v' (padded l)) ∧ Below w.heap.size w w' := by
  have Hr := Lib.hid hr
  obtain ⟨va, vcap, rfl, hvc, hvcell⟩ := hr
  clear hvcell
  obtain ⟨N, hN⟩ : ∃ N, N = l.length := ⟨_, rfl⟩
  have e8 : IntKind.u64.wrap (8 * (l.length : Int)) = 8 * (l.length : Int) := by rw [IntWalk.u64_in _ (by omega)]
  have E1 : Hid (([] : List UInt8).length + l.length < 1000000000000) := Lib.hid (by simp; omega)
  go_enter Tryd.func75, Tryd.ntmps75
  go_wp2_with (first
    | (with_reducible refine wp_appR mkB_one Tryd.underlying31 info_u8 rfl (by decide) rfl (.tmp 6) (.tmp 7) rfl w.heap.size _ [] rfl (ownOf_lit w w.heap.size [] #[] 0 rfl rfl (Nat.le_refl _) (Nat.zero_le _)) _ l rfl (Rd.below Hr.out (below_alloc1 _ _)) E1.out (by rw [World.size_alloc]; omega) ?_; intro v2 w2 hown2 hg2; have hB2 := hg2.below _ _ (below_alloc1 w _) (Nat.le_refl _); rw [List.nil_append] at hown2)
    | (with_reducible refine wp_app1 mkB_one Tryd.underlying31 info_u8 rfl (by decide) rfl (.tmp 9) (.tmp 10) rfl w.heap.size v2 l rfl hown2 128 _ rfl rfl (by omega) hB2.size ?_; intro v3 w3 hown3 hg3 hv3))
  have hB3 := hg3.below _ _ hB2 (Nat.le_refl _)
  have hown3' : OwnOf mkB 5 w3 w.heap.size v3 (l ++ zerosP 0) := hown3
  obtain ⟨g, cap, rfl, hg⟩ := hv3
  clear hown3 hg2 hg3 hown2
  clear hN
  generalize hNl : l.length = M at *
  have HM := Lib.hid hNl
  clear hNl
  go_loopw [3] (fun p wr => ∃ k : Nat, k ≤ padK M ∧ (∃ g cap, p = .slice (some ⟨g, 0, none⟩) (M + 1 + k) cap) ∧ OwnOf mkB 5 wr w.heap.size p (l ++ zerosP k) ∧ Below w.heap.size w wr) (fun p _ => (M + 65) - lenOfV p)
  case atStart => exact ⟨0, Nat.zero_le _, ⟨g, cap, rfl⟩, hown3', hB3⟩
  case round =>
    clear hown3' hB3 hB2 hg
    obtain ⟨k, hk, ⟨g, cap, rfl⟩, hown, hB⟩ := hrel
    have hkl := padK_lt M
    by_cases hkk : k = padK M
    · subst hkk
      have ht := (padK_at M _ hk).2 rfl
      have e3 : ((M : Int) + 1 + (padK M : Int)) % 64 = 56 := by omega
      have hown0 : OwnOf mkB 5 wr w.heap.size (.slice (some ⟨g, 0, none⟩) (M + 1 + padK M) cap) (l ++ padP M 0) := by
        have e : padP M 0 = zerosP (padK M) := by simp [padP]
        rw [e]; exact hown
      clear hown ht hk
      go_wp2
      obtain ⟨wo, rfl⟩ : ∃ wo : World, wo = wr := ⟨_, rfl⟩
      clear e3
      go_loopw [3, 5] (fun p i wr => ∃ k : Nat, k ≤ 8 ∧ i = .int .i64 (k : Int) ∧ OwnOf mkB 5 wr w.heap.size p (l ++ padP M k) ∧ Below w.heap.size w wr) (fun _ i _ => 8 - (intOf i).toNat)
      case atStart => exact ⟨0, by omega, rfl, hown0, hB⟩
      case round =>
        clear hown0 hB
        obtain ⟨k, hk, rfl, hown, hB⟩ := hrel
        by_cases h8 : k < 8
        · have hlb := lenB_go M k
          obtain ⟨z, hz⟩ : ∃ z : Nat, z = 56 - 8 * k := ⟨_, rfl⟩
          have hz1 : (56 : Int) - 8 * (k : Int) = (z : Int) := by omega
          have hz2 : z < 64 := by omega
          rw [← hz] at hlb
          have hsn : l ++ padP M (k + 1) = (l ++ padP M k) ++ [lenB M k] := by rw [padP_succ, List.append_assoc]
          have hlen : (l ++ padP M k).length < 1000000000000 := by rw [List.length_append, padP_len, HM.out]; omega
          have Hsn := Lib.hid hsn
          have Hlb : Hid (Value.int .u8 ((8 * (M : Int)) / 2 ^ z % 256) = mkB (lenB M k)) := Lib.hid (by unfold mkB; rw [hlb])
          have Hlen := Lib.hid hlen
          clear hsn hlb hlen hz
          go_wp2_with (with_reducible refine wp_app1 mkB_one Tryd.underlying31 info_u8 rfl (by decide) rfl (.tmp 27) (.tmp 34) rfl w.heap.size _ (l ++ padP M k) rfl hown (lenB M k) _ Hlb.out rfl Hlen.out hB.size ?_; intro v1 w1 hown1 hg1 hv1)
          go_roundw
          case rel => exact ⟨k + 1, by omega, by go_num, by rw [Hsn.out]; exact hown1, hg1.below _ _ hB (Nat.le_refl _)⟩
          case measure => simp [intOf]; omega
        · obtain rfl : k = 8 := by omega
          go_wp2
          go_ret
          exact ⟨⟨_, rfl, by unfold padded; rw [HM.out]; exact hown⟩, hB⟩
    · have ht : ¬ (M + (k + 1)) % 64 = 56 := fun h => hkk ((padK_at M k hk).1 h)
      have e3 : ¬ ((M : Int) + 1 + (k : Int)) % 64 = 56 := by omega
      have hlen : (l ++ zerosP k).length < 1000000000000 := by rw [List.length_append, zerosP_len, HM.out]; omega
      have hsn : l ++ zerosP (k + 1) = (l ++ zerosP k) ++ [0] := by rw [zerosP_succ, List.append_assoc]
      have Hlen := Lib.hid hlen
      have Hsn := Lib.hid hsn
      clear hlen hsn
      go_wp2_with (with_reducible refine wp_app1 mkB_one Tryd.underlying31 info_u8 rfl (by decide) rfl (.tmp 16) (.tmp 17) rfl w.heap.size _ (l ++ zerosP k) rfl hown 0 _ rfl rfl Hlen.out hB.size ?_; intro v1 w1 hown1 hg1 hv1)
      obtain ⟨g1, cap1, rfl, _⟩ := hv1
      have hl1 : (l ++ zerosP k).length + 1 = M + 1 + (k + 1) := by rw [List.length_append, zerosP_len, HM.out]; omega
      rw [hl1] at hown1 ⊢
      exact ⟨⟨k + 1, by omega, ⟨g1, cap1, rfl⟩, by rw [Hsn.out]; exact hown1, hg1.below _ _ hB (Nat.le_refl _)⟩, by simp [lenOfV]; omega⟩
end Go.Proofs.YtbgieephehfgpabDoor
