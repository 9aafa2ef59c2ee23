/-
  The function of the law HashCrcBursts returns true. Condition: the tables are as the program's text lays them.
-/
import Derived.Test.YtbgieephehfgpaaDoorSanity
import Derived.Test.YtbgieephehfgpaaDoorPlainLaws
import Derived.Test.YtbgieephehfgpaaDoorAppR
namespace Go.Proofs.YtbgieephehfgpaaDoor
open Go Go.RowKit Sha Crc
theorem ownOf_slice {α : Type} {mk : α → Value} {e : TypeId} {w : World} {base : Nat} {v : Value} {l : List α} (h : OwnOf mk e w base v l) (hl : l ≠ []) : ∃ g cap, v = .slice (some ⟨g, 0, none⟩) l.length cap ∧ base ≤ g ∧ g < w.heap.size := by
  rcases h.2 with ⟨_, h0⟩ | ⟨g, cap, cur, rfl, hb, hg, _⟩
  · exact absurd (List.length_eq_zero_iff.1 h0) hl
  · exact ⟨g, cap, rfl, hb, blk_lt hg⟩
/-- a slice that a call has written out -/
theorem ownOf_lit {α : Type} {mk : α → Value} {e : TypeId} (w : World) (base : Nat) (l : List α) (cs : Array Value) (n : Nat) (hcs : cs.toList = l.map mk) (hn : l.length = n) (hb : base ≤ w.heap.size) (hm : n ≤ maxLen) :
    OwnOf mk e (w.alloc (.cells cs e)) base (.slice (some ⟨w.heap.size, 0, none⟩) n n) l := by
  have hs : cs.size = n * 1 := by rw [← Array.length_toList, hcs, List.length_map, hn]; omega
  have := World.ownsRow_lit (base := base) (e := e) (size := 1) w cs n hb hm hs
  rw [hcs, ← hn] at this
  rw [← hn]
  exact this
/-- a store into a slice of the call's own -/
theorem ownOf_set {α : Type} {mk : α → Value} {e : TypeId} {w : World} {base g n cap : Nat} {l : List α} (h : OwnOf mk e w base (.slice (some ⟨g, 0, none⟩) n cap) l) (hn : n = l.length) (i : Nat) (x : α) :
    OwnOf mk e (w.setCell ⟨g, i, none⟩ (mk x)) base (.slice (some ⟨g, 0, none⟩) n cap) (l.set i x) := by
  subst hn
  have := (World.ownsRow.stored h i (mk x)).1
  show World.ownsRow _ _ _ _ _ _ _
  rw [List.length_set, List.map_set]
  exact this
theorem ownOf_cell {α : Type} {mk : α → Value} {e : TypeId} {w : World} {base g n cap : Nat} {l : List α} (h : OwnOf mk e w base (.slice (some ⟨g, 0, none⟩) n cap) l) (i : Nat) (x : α) (hx : l[i]? = some x) : w.cell? ⟨g, i, none⟩ = some (mk x) := by
  have := h.cells (g := g) rfl i (mk x) (by rw [List.getElem?_map, hx]; rfl)
  rw [Addr.add_mid, Nat.zero_add] at this
  exact this
theorem ownOf_free {α : Type} {mk : α → Value} {e : TypeId} {w : World} {base g n cap : Nat} {l : List α} (h : OwnOf mk e w base (.slice (some ⟨g, 0, none⟩) n cap) l) (i : Nat) : w.frozen? ⟨g, i, none⟩ = false := by
  rcases h.2 with ⟨h', _⟩ | ⟨g', cap', cur, h', hb, hg, _⟩
  · simp at h'
  · simp only [Value.slice.injEq, Option.some.injEq, Addr.mk.injEq, and_true] at h'
    obtain ⟨rfl, _, rfl⟩ := h'
    exact blk_free hg i
namespace Crc
/-- has a bit been flipped among the first? -/
def someB (p M : Nat) : Nat → Bool
  | 0 => false
  | k + 1 => someB p M k || (p.testBit k && decide (k < M))
theorem someB_iff (p M n : Nat) (hn : n ≤ 40) : patR p M n = 0#40 ↔ someB p M n = false := by
  rw [patR_zero p M n hn]
  induction n with
  | zero => simp [someB]
  | succ n ih =>
    rw [someB, Bool.or_eq_false_iff, ← ih (by omega)]
    constructor
    · intro h
      refine ⟨fun k hk => h k (by omega), ?_⟩
      by_cases hM : n < M
      · rw [h n (by omega) hM]; rfl
      · simp [hM]
    · rintro ⟨h1, h2⟩ k hk hM
      by_cases hkn : k = n
      · subst hkn; simpa [hM] using h2
      · exact h1 k (by omega) hM
theorem u64_bit (p k : Nat) (hp : p < 18446744073709551616) : (bits .and .u64 ((p : Int) / 2 ^ k) 1 == 1) = p.testBit k := by
  have hd : (p : Int) / 2 ^ k = ((p / 2 ^ k : Nat) : Int) := by simp
  have hl : p / 2 ^ k < 18446744073709551616 := Nat.lt_of_le_of_lt (Nat.div_le_self _ _) hp
  have h2 := u64_and_nat (p / 2 ^ k) 1 hl (by omega)
  rw [show ((1 : Nat) : Int) = 1 from rfl] at h2
  rw [hd, h2, nat_mask1, Nat.testBit_eq_decide_div_mod_eq, Bool.eq_iff_iff, beq_iff_eq, decide_eq_true_eq]
  omega
theorem flip_go (x : UInt8) (s r : Nat) (h : s = 7 - r) : bits .xor .u8 (x.toNat : Int) (2 ^ s) = ((flipB x r).toNat : Int) := by
  subst h
  have hx := x.toNat_lt
  have hb : 1 <<< (7 - r) < 256 := by
    rw [Nat.one_shiftLeft]
    exact Nat.lt_of_lt_of_le (Nat.pow_lt_pow_right (by omega) (show 7 - r < 8 by omega)) (by decide)
  have h2 : (2 : Int) ^ (7 - r) = ((1 <<< (7 - r) : Nat) : Int) := by rw [Nat.one_shiftLeft]; simp
  rw [h2]
  unfold flipB
  generalize 1 <<< (7 - r) = z at *
  rw [u8_xor _ _ (by omega) (by omega) (by omega) (by omega), UInt8.toNat_xor, UInt8.toNat_ofNat', Nat.mod_eq_of_lt hb]
  rfl
theorem pat_step (l lk : List UInt8) (p M k q r : Nat) (x : UInt8) (hk : k < 40) (hkM : k < M) (hr : r < 8) (hq : 8 * q + r + (M - k) = 8 * l.length) (hlk : lk.length = l.length) (hx : lk[q]? = some x) (hb : p.testBit k = true)
    (h : adds ones lk = adds ones l ^^^ Xn M (patR p M k)) : adds ones (lk.set q (flipB x r)) = adds ones l ^^^ Xn M (patR p M (k + 1)) := by
  rw [adds_flip lk ones q r x hr hx, h, hlk, show 8 * l.length - (8 * q + r) = M - k by omega, flip_at M k hk hkM, patR, hb]
  simp only [hkM, decide_true, Bool.and_self, if_true]
  rw [Xn_xor, BitVec.xor_assoc]
theorem pat_skip (p M k : Nat) (hb : p.testBit k = false) : patR p M (k + 1) = patR p M k ∧ someB p M (k + 1) = someB p M k := by
  rw [patR, someB, hb]
  simp
end Crc
set_option maxRecDepth 100000 in
set_option maxHeartbeats 8000000 in
theorem lawbursts_any (v : Value) (l : List UInt8) (A p : Nat) (w : World) (hr : RdB w v l) (hm : l.length ≤ maxLen) (hA : A ≤ 65535) (hp : p < 18446744073709551616) (hT : Tabs w) :
    Calls Tryd.prog 10 #[v, .int .u16 (A : Int), .int .u64 (p : Int)] w fun e w' => e = .returned (.bool true) ∧ Below w.heap.size w w' := by
  unfold maxLen at hm
  have Hr := Lib.hid hr
  obtain ⟨va, vcap, rfl, hvc, hvcell⟩ := hr
  clear hvcell
  by_cases h0 : l.length = 0
  · have d0 : ((l.length : Int) == 0) = true := by simp [h0]
    clear h0
    go_enter Tryd.func10, Tryd.ntmps10
    go_wp2_with (go_at_call 13; ((with_reducible refine (sanity_any w hT).mono ?_); rintro e w1 ⟨rfl, hw1⟩))
    go_ret
    exact ⟨rfl, hw1⟩
  · have d0 : ((l.length : Int) == 0) = false := beq_eq_false_iff_ne.2 (by omega)
    by_cases hle : l.length ≤ 400
    · have hd : decide ((400 : Int) < (l.length : Int)) = false := by simp; omega
      obtain ⟨F, hF⟩ : ∃ F : Nat, F = A % (8 * l.length) := ⟨_, rfl⟩
      have hF1 : F < 8 * l.length := by rw [hF]; exact Nat.mod_lt _ (by omega)
      have hFi : (A : Int) % (8 * (l.length : Int)) = (F : Int) := by
        rw [hF, Int.natCast_emod, Int.natCast_mul]; rfl
      have e8 : IntKind.i64.wrap (8 * (l.length : Int)) = 8 * (l.length : Int) := IntWalk.i64_in _ (by omega)
      have hne : ((8 * (l.length : Int)) == 0) = false := beq_eq_false_iff_ne.2 (by omega)
      have hln : Hid (l ≠ []) := Lib.hid (by intro h; rw [h] at h0; simp at h0)
      have c1 := fun v W (hW : RdB W v l) (h : Tabs W) => crc40_any v l W hW (by omega) h
      have E1 : Hid (([] : List UInt8).length + l.length < 1000000000000) := Lib.hid (by simp; omega)
      clear hF
      go_enter Tryd.func10, Tryd.ntmps10
      go_wp2_with (first
        | (go_at_call 13; ((with_reducible refine (sanity_any w hT).mono ?_); rintro e w1 ⟨rfl, hw1⟩; have hR1 := Lib.hid (Rd.below Hr.out hw1)))
        | (with_reducible refine wp_appR mkB_one Tryd.underlying22 info_u8 rfl (by decide) rfl (.tmp 23) (.tmp 24) rfl w1.heap.size _ [] rfl (ownOf_lit w1 w1.heap.size [] #[] 0 rfl rfl (Nat.le_refl _) (Nat.zero_le _)) _ l rfl (Rd.below hR1.out (below_alloc1 _ _)) E1.out (by rw [World.size_alloc]; omega) ?_; intro v2 w2 hown2 hg2; have hB2 := hg2.below _ _ (below_then hw1 (below_alloc1 _ _)) hw1.size))
      simp only [hFi]
      rw [List.nil_append] at hown2
      obtain ⟨g, cap, rfl, hg, hgz⟩ := ownOf_slice hown2 hln.out
      clear hg2
      obtain ⟨M, hM⟩ : ∃ M, M + F = 8 * l.length := ⟨8 * l.length - F, by omega⟩
      have Hln := hln
      have HM := Lib.hid hM
      clear hM hFi hne d0 hd
      have Hown2 := Lib.hid hown2
      clear hown2
      go_loopw [10, 11, 12] (fun s i _ wr => ∃ (k : Nat) (lk : List UInt8), k ≤ 40 ∧ i = .int .i64 (k : Int) ∧ s = .bool (someB p M k) ∧ lk.length = l.length ∧ Hid (adds ones lk = adds ones l ^^^ Xn M (patR p M k)) ∧ OwnOf mkB 5 wr w1.heap.size (.slice (some ⟨g, 0, none⟩) l.length cap) lk ∧ Below w.heap.size w wr) (fun _ i _ _ => 40 - (intOf i).toNat)
      case atStart => exact ⟨0, l, by omega, rfl, rfl, rfl, Lib.hid (by rw [patR, Xn_zero, BitVec.xor_zero]), Hown2.out, hB2⟩
      case round =>
        clear hB2
        obtain ⟨k, lk, hk, rfl, rfl, hlk, Hadds, hown, hB⟩ := hrel
        have Hlk := Lib.hid hlk
        have Hown := Lib.hid hown
        clear hlk hown
        by_cases hlt : k < 40 ∧ k < M
        · obtain ⟨h40, hkM⟩ := hlt
          have HMo := HM.out
          have dd : decide ((F : Int) + (k : Int) < 8 * (l.length : Int)) = true := by simp only [decide_eq_true_eq]; omega
          have hub := u64_bit p k hp
          cases hb : p.testBit k
          · rw [hb] at hub
            obtain ⟨hs1, hs2⟩ := pat_skip p M k hb
            have Hs1 := Lib.hid hs1
            have Hs2 := Lib.hid hs2
            clear hs1 hs2 hb HMo
            go_wp2
            go_roundw
            case rel => exact ⟨k + 1, lk, by omega, by go_num, by rw [Hs2.out], Hlk.out, Lib.hid (by rw [Hs1.out]; exact Hadds.out), Hown.out, hB⟩
            case measure => simp [intOf]; omega
          · rw [hb] at hub
            obtain ⟨q, hq⟩ : ∃ q, q = (F + k) / 8 := ⟨_, rfl⟩
            obtain ⟨r, hr⟩ : ∃ r, r = (F + k) % 8 := ⟨_, rfl⟩
            obtain ⟨s, hs⟩ : ∃ s, s = 7 - r := ⟨_, rfl⟩
            have hr8 : r < 8 := by omega
            have hqi : ((F : Int) + (k : Int)) / 8 = (q : Int) := by omega
            have hri : ((F : Int) + (k : Int)) % 8 = (r : Int) := by omega
            have hsi : (7 : Int) - (r : Int) = (s : Int) := by omega
            have hs8 : s < 8 := by omega
            have hql : q < l.length := by omega
            obtain ⟨x, hx⟩ : ∃ x, lk[q]? = some x := ⟨_, List.getElem?_eq_getElem (by rw [Hlk.out]; exact hql)⟩
            have hcx : wr.cell? ⟨g, q, none⟩ = some (.int .u8 (x.toNat : Int)) := ownOf_cell Hown.out q x hx
            have hfx := ownOf_free Hown.out q
            have hfl := flip_go x s r hs
            have hstep := pat_step l lk p M k q r x h40 hkM hr8 (by omega) Hlk.out hx hb Hadds.out
            have hset := ownOf_set Hown.out Hlk.out.symm q (flipB x r)
            have hsb : someB p M (k + 1) = true := by rw [someB, hb]; simp [hkM]
            have hbb := byte_bd (flipB x r)
            have hw8 : IntKind.u8.wrap (2 ^ s) = 2 ^ s := by
              have : (2 : Nat) ^ s ≤ 2 ^ 7 := Nat.pow_le_pow_right (by omega) (by omega)
              have h2 : ((2 ^ s : Nat) : Int) = (2 : Int) ^ s := by simp
              have h3 : (0 : Int) ≤ 2 ^ s := by rw [← h2]; exact Int.natCast_nonneg _
              have h4 : (2 : Int) ^ s ≤ 128 := by rw [← h2]; exact Int.ofNat_le.2 this
              clear h2 this
              exact IntWalk.u8_in _ (by omega)
            have Hstep := Lib.hid hstep
            have Hset := Lib.hid hset
            have Hsb := Lib.hid hsb
            clear hstep hset hsb hx hq hr hs hb HMo
            go_wp2
            go_region
            go_wp2
            exact ⟨⟨k + 1, lk.set q (flipB x r), by omega, by go_num, by rw [Hsb.out], by rw [List.length_set]; exact Hlk.out, Lib.hid Hstep.out, Hset.out, (hB.setCell (p := ⟨g, q, none⟩) (Nat.le_trans hw1.size hg) _).drew⟩, by simp [intOf]; omega⟩
        · have hcr := crc_eq_iff l lk (patR p M k) M Hadds.out
          rw [someB_iff p M k hk] at hcr
          have heq : (toI (crc l) == toI (crc lk)) = !(someB p M k) := by
            cases hs : someB p M k
            · rw [hcr.2 hs]; simp
            · simp only [Bool.not_true, beq_eq_false_iff_ne, ne_eq]
              intro h
              have h2 : crc l = crc lk := by
                have := congrArg low h
                rwa [low_toI, low_toI] at this
              rw [hcr.1 h2] at hs
              cases hs
          have hTr := hT.below hB
          have c2 := fun v W (hW : RdB W v lk) (h : Tabs W) => crc40_any v lk W hW (by rw [Hlk.out]; omega) h
          clear hcr
          generalize toI (crc l) = y1 at *
          generalize toI (crc lk) = y2 at *
          have hrl := Lib.hid (Rd.below Hr.out hB)
          have hor : k = 40 ∨ (k < 40 ∧ M ≤ k) := by omega
          clear hlt
          rcases hor with rfl | ⟨h40, hkM⟩
          · generalize someB p M 40 = sb at *
            cases sb <;> simp only [Bool.not_true, Bool.not_false] at heq <;>
              (go_wp2_with (first
                | (go_at_call 14; ((with_reducible refine (c1 _ wr hrl.out hTr).mono ?_); rintro e w3 ⟨rfl, hw3⟩; have hB3 := hB.trans (hw3.mono hB.size)))
                | (go_at_call 14; ((with_reducible refine (c2 _ w3 (Rd.below (ownOf_rd Hown.out) hw3) (hT.below hB3)).mono ?_); rintro e w4 ⟨rfl, hw4⟩; have hB4 := hB3.trans (hw4.mono hB3.size))))
               go_ret
               exact ⟨rfl, hB4⟩)
          · have dd : decide ((F : Int) + (k : Int) < 8 * (l.length : Int)) = false := by
              have := HM.out
              simp only [decide_eq_false_iff_not]
              omega
            generalize someB p M k = sb at *
            cases sb <;> simp only [Bool.not_true, Bool.not_false] at heq <;>
              (go_wp2_with (first
                | (go_at_call 14; ((with_reducible refine (c1 _ wr hrl.out hTr).mono ?_); rintro e w3 ⟨rfl, hw3⟩; have hB3 := hB.trans (hw3.mono hB.size)))
                | (go_at_call 14; ((with_reducible refine (c2 _ w3 (Rd.below (ownOf_rd Hown.out) hw3) (hT.below hB3)).mono ?_); rintro e w4 ⟨rfl, hw4⟩; have hB4 := hB3.trans (hw4.mono hB3.size))))
               go_ret
               exact ⟨rfl, hB4⟩)
    · have hd : decide ((400 : Int) < (l.length : Int)) = true := by simp; omega
      go_enter Tryd.func10, Tryd.ntmps10
      go_wp2_with (go_at_call 13; ((with_reducible refine (sanity_any w hT).mono ?_); rintro e w1 ⟨rfl, hw1⟩))
      go_ret
      exact ⟨rfl, hw1⟩
end Go.Proofs.YtbgieephehfgpaaDoor
