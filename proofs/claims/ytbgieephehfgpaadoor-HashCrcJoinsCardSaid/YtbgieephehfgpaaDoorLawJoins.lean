/-
  The function of the law HashCrcJoins returns true. Condition: the tables are as the program's text lays them.
-/
import Derived.Test.YtbgieephehfgpaaDoorSanity
import Derived.Test.YtbgieephehfgpaaDoorRefJoin
import Derived.Test.YtbgieephehfgpaaDoorAppR
namespace Go.Proofs.YtbgieephehfgpaaDoor
open Go Go.RowKit Sha Crc
/-- Rd, under a name that a walk does not open -/
def RdH {α : Type} (mk : α → Value) (w : World) (v : Value) (l : List α) : Prop := Rd mk w v l
theorem rd_len {α : Type} {mk : α → Value} {w : World} {v : Value} {l : List α} (h : Rd mk w v l) : ∃ a cap, v = .slice a l.length cap := by
  obtain ⟨a, cap, rfl, _⟩ := h
  exact ⟨a, cap, rfl⟩
set_option maxRecDepth 100000 in
set_option maxHeartbeats 8000000 in
theorem lawjoins_any (va vb vc : Value) (la lb lc : List UInt8) (w : World) (hra : RdB w va la) (hrb : RdB w vb lb) (hrc : RdB w vc lc) (hma : la.length ≤ maxLen) (hmb : lb.length ≤ maxLen) (hmc : lc.length ≤ maxLen) (hT : Tabs w) :
    Calls Tryd.prog 7 #[va, vb, vc] w fun e w' => e = .returned (.bool true) ∧ Below w.heap.size w w' := by
  unfold maxLen at hma hmb hmc
  obtain ⟨a0, ca, rfl⟩ := rd_len hra
  obtain ⟨b0, cb, rfl⟩ := rd_len hrb
  obtain ⟨c0, cc, rfl⟩ := rd_len hrc
  have Ha := Lib.hid hra
  have Hb := Lib.hid hrb
  have Hc := Lib.hid hrc
  clear hra hrb hrc
  by_cases hle : la.length ≤ 400 ∧ lb.length ≤ 400 ∧ lc.length ≤ 400
  · obtain ⟨h1, h2, h3⟩ := hle
    have d1 : decide ((400 : Int) < (la.length : Int)) = false := by simp; omega
    have d2 : decide ((400 : Int) < (lb.length : Int)) = false := by simp; omega
    have d3 : decide ((400 : Int) < (lc.length : Int)) = false := by simp; omega
    have j1 := fun W (hW : Tabs W) => join_as (toI (crc la)) (toI (crc lb)) (lb.length : Int) lb.length (toI (crc (la ++ lb))) W rfl (by omega) (by rw [low_toI, low_toI, crc_join]) hW
    have j2 := fun W (hW : Tabs W) => join_as (toI (crc (la ++ lb))) (toI (crc lc)) (lc.length : Int) lc.length (toI (crc (la ++ lb ++ lc))) W rfl (by omega) (by rw [low_toI, low_toI, crc_join]) hW
    have j3 := fun W (hW : Tabs W) => join_as (toI (crc lb)) (toI (crc lc)) (lc.length : Int) lc.length (toI (crc (lb ++ lc))) W rfl (by omega) (by rw [low_toI, low_toI, crc_join]) hW
    have j4 := fun W (hW : Tabs W) => join_as (toI (crc la)) (toI (crc (lb ++ lc))) ((lb.length : Int) + (lc.length : Int)) (lb.length + lc.length) (toI (crc (la ++ lb ++ lc))) W (by omega) (by omega) (by rw [low_toI, low_toI, ← List.length_append, crc_join, List.append_assoc]) hW
    have c1 := fun v W (hW : RdB W v la) (h : Tabs W) => crc40_any v la W hW (by omega) h
    have c2 := fun v W (hW : RdB W v lb) (h : Tabs W) => crc40_any v lb W hW (by omega) h
    have c3 := fun v W (hW : RdB W v lc) (h : Tabs W) => crc40_any v lc W hW (by omega) h
    have c4 := fun v W (hW : RdB W v (la ++ lb ++ lc)) (h : Tabs W) => crc40_any v (la ++ lb ++ lc) W hW (by simp; omega) h
    have e1 : ([] : List UInt8).length + la.length < 1000000000000 := by simp; omega
    have e2 : ([] ++ la).length + lb.length < 1000000000000 := by simp; omega
    have e3 : ([] ++ la ++ lb).length + lc.length < 1000000000000 := by simp; omega
    generalize toI (crc (la ++ lb ++ lc)) = y4 at *
    generalize toI (crc (la ++ lb)) = y5 at *
    generalize toI (crc (lb ++ lc)) = y6 at *
    generalize toI (crc la) = y1 at *
    generalize toI (crc lb) = y2 at *
    generalize toI (crc lc) = y3 at *
    have C4 := Lib.hid c4
    have E1 := Lib.hid e1
    have E2 := Lib.hid e2
    have E3 := Lib.hid e3
    clear hma hmb hmc c4 e1 e2 e3
    go_enter Tryd.func7, Tryd.ntmps7
    go_wp2_with (first
      | (go_at_call 13; ((with_reducible refine (sanity_any w hT).mono ?_); rintro e w1 ⟨rfl, hw1⟩))
      | (with_reducible refine wp_appR mkB_one Tryd.underlying22 info_u8 rfl (by decide) rfl (.tmp 29) (.tmp 30) rfl w1.heap.size _ [] rfl (ownOf_nil _ _ _ _) _ la rfl (Rd.below Ha.out hw1) E1.out (Nat.le_refl _) ?_; intro v2 w2 hown2 hg2)
      | (with_reducible refine wp_appR mkB_one Tryd.underlying22 info_u8 rfl (by decide) rfl (.tmp 32) (.tmp 33) rfl w1.heap.size v2 ([] ++ la) rfl hown2 _ lb rfl (Rd.below Hb.out (hg2.below _ _ hw1 hw1.size)) E2.out hg2.size ?_; intro v3 w3 hown3 hg3)
      | (with_reducible refine wp_appR mkB_one Tryd.underlying22 info_u8 rfl (by decide) rfl (.tmp 35) (.tmp 36) rfl w1.heap.size v3 ([] ++ la ++ lb) rfl hown3 _ lc rfl (Rd.below Hc.out (hg3.below _ _ (hg2.below _ _ hw1 hw1.size) hw1.size)) E3.out (Nat.le_trans hg2.size hg3.size) ?_; intro v4 w4 hown4 hg4; have hB4 := hg4.below _ _ (hg3.below _ _ (hg2.below _ _ hw1 hw1.size) hw1.size) hw1.size; have Hown4 := Lib.hid hown4; clear hown4 hown3 hown2 hg4 hg3 hg2)
      | (go_at_call 14; ((with_reducible refine (c1 _ w4 (Rd.below Ha.out hB4) (hT.below hB4)).mono ?_); rintro e w5 ⟨rfl, hw5⟩; have hB5 := hB4.trans (hw5.mono hB4.size)))
      | (go_at_call 14; ((with_reducible refine (c2 _ w5 (Rd.below Hb.out hB5) (hT.below hB5)).mono ?_); rintro e w6 ⟨rfl, hw6⟩; have hB6 := hB5.trans (hw6.mono hB5.size)))
      | (go_at_call 14; ((with_reducible refine (c3 _ w6 (Rd.below Hc.out hB6) (hT.below hB6)).mono ?_); rintro e w7 ⟨rfl, hw7⟩; have hB7 := hB6.trans (hw7.mono hB6.size); have hT7 := hT.below hB7; have HR := Lib.hid (Rd.below (Rd.below (Rd.below (ownOf_rd Hown4.out) hw5) hw6) hw7)))
      | (go_at_call 24; ((with_reducible refine (j1 w7 hT7).mono ?_); rintro e w8 ⟨rfl, rfl⟩))
      | (go_at_call 24; ((with_reducible refine (j2 w7 hT7).mono ?_); rintro e w8 ⟨rfl, rfl⟩))
      | (go_at_call 24; ((with_reducible refine (j3 w7 hT7).mono ?_); rintro e w8 ⟨rfl, rfl⟩))
      | (go_at_call 24; ((with_reducible refine (j4 w7 hT7).mono ?_); rintro e w8 ⟨rfl, rfl⟩))
      | (go_at_call 14; ((with_reducible refine (C4.out _ w7 HR.out hT7).mono ?_); rintro e w9 ⟨rfl, hw9⟩; have hB9 := hB7.trans (hw9.mono hB7.size))))
    go_ret
    exact ⟨rfl, hB9⟩
  · have hor : ((400 : Int) < (la.length : Int)) ∨ (¬ (400 : Int) < (la.length : Int) ∧ (400 : Int) < (lb.length : Int)) ∨ (¬ (400 : Int) < (la.length : Int) ∧ ¬ (400 : Int) < (lb.length : Int) ∧ (400 : Int) < (lc.length : Int)) := by omega
    clear hle
    rcases hor with d1 | ⟨d1, d2⟩ | ⟨d1, d2, d3⟩
    · have e1 : decide ((400 : Int) < (la.length : Int)) = true := by simp only [decide_eq_true_eq]; exact d1
      go_enter Tryd.func7, Tryd.ntmps7
      go_wp2_with (go_at_call 13; ((with_reducible refine (sanity_any w hT).mono ?_); rintro e w1 ⟨rfl, hw1⟩))
      go_ret
      exact ⟨rfl, hw1⟩
    · have e1 : decide ((400 : Int) < (la.length : Int)) = false := by simp only [decide_eq_false_iff_not]; exact d1
      have e2 : decide ((400 : Int) < (lb.length : Int)) = true := by simp only [decide_eq_true_eq]; exact d2
      go_enter Tryd.func7, Tryd.ntmps7
      go_wp2_with (go_at_call 13; ((with_reducible refine (sanity_any w hT).mono ?_); rintro e w1 ⟨rfl, hw1⟩))
      go_ret
      exact ⟨rfl, hw1⟩
    · have e1 : decide ((400 : Int) < (la.length : Int)) = false := by simp only [decide_eq_false_iff_not]; exact d1
      have e2 : decide ((400 : Int) < (lb.length : Int)) = false := by simp only [decide_eq_false_iff_not]; exact d2
      have e3 : decide ((400 : Int) < (lc.length : Int)) = true := by simp only [decide_eq_true_eq]; exact d3
      go_enter Tryd.func7, Tryd.ntmps7
      go_wp2_with (go_at_call 13; ((with_reducible refine (sanity_any w hT).mono ?_); rintro e w1 ⟨rfl, hw1⟩))
      go_ret
      exact ⟨rfl, hw1⟩
end Go.Proofs.YtbgieephehfgpaaDoor
