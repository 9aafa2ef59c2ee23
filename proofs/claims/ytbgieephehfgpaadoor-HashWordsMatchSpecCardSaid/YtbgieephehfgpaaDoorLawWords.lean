/-
  The function of the law HashWordsMatchSpec returns true. Condition: the tables are as the program's text lays them.
-/
import Derived.Test.YtbgieephehfgpaaDoorSanity
import Derived.Test.YtbgieephehfgpaaDoorRefWords
namespace Go.Proofs.YtbgieephehfgpaaDoor
open Go Go.RowKit Sha Crc
/-- the lowest 40 bits of each -/
def Crc.lows (l : List Int) : List Int := l.map (· % 1099511627776)
theorem five_low (n : Int) : five (n % 1099511627776) = five n := by
  unfold five
  rw [Int.emod_emod_of_dvd _ (Int.dvd_refl _)]
theorem wordsB_lows (l : List Int) : wordsB (lows l) = wordsB l := by
  unfold wordsB lows
  rw [List.flatMap_map]
  simp only [five_low]
set_option maxRecDepth 100000 in
set_option maxHeartbeats 8000000 in
theorem lawwords_any (v : Value) (l : List Int) (w : World) (hr : Rd mkI w v l) (hm : l.length ≤ maxLen) (hbd : ∀ n ∈ l, -9223372036854775808 ≤ n ∧ n ≤ 9223372036854775807) (hT : Tabs w) :
    Calls Tryd.prog 5 #[v] w fun e w' => e = .returned (.bool true) ∧ Below w.heap.size w w' := by
  unfold maxLen at hm
  have Hr := Lib.hid hr
  have Hbd := Lib.hid hbd
  obtain ⟨va, vcap, rfl, hvc, hvcell⟩ := hr
  clear hbd
  by_cases hle : l.length ≤ 80
  · have hd : decide ((80 : Int) < (l.length : Int)) = false := by simp; omega
    have c1 := fun v W (hW : Rd mkI W v l) (h : Tabs W) => words_any v l W hW (by omega) Hbd.out h
    have c2 := fun v W (hW : Rd mkI W v l) => refwords_any v l W hW (by omega)
    have c3 := fun v W (hW : Rd mkI W v (lows l)) (h : Tabs W) => words_any v (lows l) W hW (by simp [lows]; omega) (by
      intro n hn
      obtain ⟨m, _, rfl⟩ := List.mem_map.1 hn
      show _ ≤ m % 1099511627776 ∧ m % 1099511627776 ≤ _
      omega) h
    have c4 := fun v W (hW : Rd mkI W v l) => refbytes_any v l W hW (by omega)
    have c5 := fun v W (hW : RdB W v (wordsB l)) (h : Tabs W) => crc40_any v (wordsB l) W hW (by rw [wordsB_len]; omega) h
    rw [wordsB_lows] at c3
    generalize toI (crc (wordsB l)) = y at *
    generalize wordsB l = wb at *
    have Hvc := Lib.hid hvcell
    clear hvcell
    go_enter Tryd.func5, Tryd.ntmps5
    go_wp2_with (go_at_call 13; ((with_reducible refine (sanity_any w hT).mono ?_); rintro e w1 ⟨rfl, hw1⟩))
    go_loopw [4, 5] (fun o i wr => ∃ k : Nat, k ≤ l.length ∧ i = .int .i64 (k : Int) ∧ OwnOf mkI 3 wr w1.heap.size o (lows (l.take k)) ∧ Below w1.heap.size w1 wr) (fun _ i _ => l.length - (intOf i).toNat)
    case atStart => exact ⟨0, by omega, rfl, ownOf_nil _ _ _ _, Below.refl _ _⟩
    case round =>
      obtain ⟨k, hk, rfl, hown, hB⟩ := hrel
      have hBw := hw1.trans (hB.mono hw1.size)
      by_cases hlt : k < l.length
      · rcases Hvc.out with hnil | ⟨b, off, rfl, hbl, hcell⟩
        · subst hnil; simp at hlt
        · obtain ⟨x, hx⟩ : ∃ x, l[k]? = some x := ⟨_, List.getElem?_eq_getElem hlt⟩
          have hcx : wr.cell? ⟨b, off + k, none⟩ = some (.int .i64 x) := (hBw.cell (p := ⟨b, off + k, none⟩) hbl).trans (hcell k x hx)
          have hsn : lows (l.take (k + 1)) = lows (l.take k) ++ [x % 1099511627776] := by
            rw [List.take_add_one, hx]; simp [lows]
          have hlen : (lows (l.take k)).length < 1000000000000 := by simp [lows]; omega
          have hx40 := i64_and40 x
          have Hlen := Lib.hid hlen
          have Hsn := Lib.hid hsn
          clear hsn hlen hx hcell c1 c2 c3 c4 c5
          go_wp2_with (with_reducible refine wp_app1 mkI_one Tryd.underlying36 info_int rfl (by decide) rfl (.tmp 18) (.tmp 24) rfl w1.heap.size _ (lows (l.take k)) rfl hown (x % 1099511627776) _ rfl rfl Hlen.out hB.size ?_; intro v1 w2 hown1 hg1 hv1)
          go_roundw
          case rel => exact ⟨k + 1, by omega, by go_num, by rw [Hsn.out]; exact hown1, hg1.below _ _ hB (Nat.le_refl _)⟩
          case measure => simp [intOf]; omega
      · obtain rfl : k = l.length := by omega
        rw [List.take_length] at hown
        have hTr := hT.below hBw
        have hrl := Rd.below Hr.out hBw
        have Hown := Lib.hid hown
        clear hown
        go_wp2_with (first
          | (go_at_call 21; ((with_reducible refine (c1 _ wr hrl hTr).mono ?_); rintro e w2 ⟨rfl, hw2⟩; have hT2 := hTr.below hw2; have hrl2 := Rd.below hrl hw2; have hB2 := hBw.trans (hw2.mono hBw.size)))
          | (go_at_call 22; ((with_reducible refine (c2 _ w2 hrl2).mono ?_); rintro e w3 ⟨rfl, hw3⟩; have hT3 := hT2.below hw3; have hrl3 := Rd.below hrl2 hw3; have hB3 := hB2.trans (hw3.mono hB2.size)))
          | (go_at_call 21; ((with_reducible refine (c3 _ w3 (Rd.below (Rd.below (ownOf_rd Hown.out) hw2) hw3) hT3).mono ?_); rintro e w4 ⟨rfl, hw4⟩; have hT4 := hT3.below hw4; have hrl4 := Rd.below hrl3 hw4; have hB4 := hB3.trans (hw4.mono hB3.size)))
          | (go_at_call 23; ((with_reducible refine (c4 _ w4 hrl4).mono ?_); rintro e w5 ⟨⟨v5, rfl, hown5⟩, hw5⟩; have hT5 := hT4.below hw5; have hB5 := hB4.trans (hw5.mono hB4.size)))
          | (go_at_call 14; ((with_reducible refine (c5 _ w5 (own_rd hown5) hT5).mono ?_); rintro e w6 ⟨rfl, hw6⟩; have hB6 := hB5.trans (hw6.mono hB5.size))))
        go_ret
        exact ⟨rfl, hB6⟩
  · have hd : decide ((80 : Int) < (l.length : Int)) = true := by simp; omega
    go_enter Tryd.func5, Tryd.ntmps5
    go_wp2_with (go_at_call 13; ((with_reducible refine (sanity_any w hT).mono ?_); rintro e w1 ⟨rfl, hw1⟩))
    go_ret
    exact ⟨rfl, hw1⟩
end Go.Proofs.YtbgieephehfgpaaDoor
