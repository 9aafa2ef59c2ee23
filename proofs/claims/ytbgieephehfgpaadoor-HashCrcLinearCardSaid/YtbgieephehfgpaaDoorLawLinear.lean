/-
  What the reference's Xor returns; the function of the law HashCrcLinear returns true. Condition: the tables are as the program's text lays them.
-/
import Derived.Test.YtbgieephehfgpaaDoorSanity
import Derived.Test.YtbgieephehfgpaaDoorPlainLaws
import Derived.Test.YtbgieephehfgpaaDoorRefJoin
import Derived.Test.YtbgieephehfgpaaDoorAppR
namespace Go.Proofs.YtbgieephehfgpaaDoor
open Go Go.RowKit Sha Crc
theorem xorL_get (l : List UInt8) : ∀ (m : List UInt8) (i : Nat) (x : UInt8), l[i]? = some x → (xorL l m)[i]? = some (match m[i]? with | some y => x ^^^ y | none => x) := by
  induction l with
  | nil => intro m i x h; simp at h
  | cons a l ih =>
    intro m i x h
    cases m with
    | nil => rw [xorL_nil, h]; simp
    | cons b m =>
      cases i with
      | zero => simp at h; subst h; rfl
      | succ i => exact ih m i x (by simpa using h)
theorem byte_xor_go (x y : UInt8) : bits .xor .u8 (x.toNat : Int) (y.toNat : Int) = ((x ^^^ y).toNat : Int) := by
  have hx := x.toNat_lt
  have hy := y.toNat_lt
  rw [u8_xor _ _ (by omega) (by omega) (by omega) (by omega), UInt8.toNat_xor]
  rfl
set_option maxRecDepth 100000 in
set_option maxHeartbeats 1000000 in
theorem xor_any (va vb : Value) (la lb : List UInt8) (w : World) (hra : RdB w va la) (hrb : RdB w vb lb) (hma : la.length ≤ 1000000) (hmb : lb.length ≤ 9223372036854775807) :
    Calls Tryd.prog 26 #[va, vb] w fun e w' => (∃ v, e = .returned v ∧ Own w' w.heap.size v (xorL la lb)) ∧ Below w.heap.size w w' := by
  obtain ⟨a0, ca, rfl, hca, hcella⟩ := hra
  obtain ⟨b0, cb, rfl, hcb, hcellb⟩ := hrb
  go_enter Tryd.func26, Tryd.ntmps26
  go_wp2
  go_loopw [5, 6, 7] (fun o i _ wr => ∃ k : Nat, k ≤ la.length ∧ i = .int .i64 (k : Int) ∧ Own wr w.heap.size o ((xorL la lb).take k) ∧ Below w.heap.size w wr) (fun _ i _ _ => la.length - (intOf i).toNat)
  case atStart => exact ⟨0, by omega, rfl, own_nil _ _, Below.refl _ _⟩
  case round =>
    obtain ⟨k, hk, rfl, hown, hB⟩ := hrel
    by_cases hlt : k < la.length
    · rcases hcella with hnil | ⟨b, off, rfl, hbl, hcell⟩
      · subst hnil; simp at hlt
      · obtain ⟨x, hx⟩ : ∃ x, la[k]? = some x := ⟨_, List.getElem?_eq_getElem hlt⟩
        have hcx : wr.cell? ⟨b, off + k, none⟩ = some (.int .u8 (x.toNat : Int)) := (hB.cell (p := ⟨b, off + k, none⟩) hbl).trans (hcell k x hx)
        have hg := xorL_get la lb k x hx
        have hlen : ((xorL la lb).take k).length < 1000000000000 := by simp; omega
        have Hlen := Lib.hid hlen
        by_cases hlb : k < lb.length
        · rcases hcellb with hnil | ⟨b', off', rfl, hbl', hcell'⟩
          · subst hnil; simp at hlb
          · obtain ⟨y, hy⟩ : ∃ y, lb[k]? = some y := ⟨_, List.getElem?_eq_getElem hlb⟩
            have hcy : wr.cell? ⟨b', off' + k, none⟩ = some (.int .u8 (y.toNat : Int)) := (hB.cell (p := ⟨b', off' + k, none⟩) hbl').trans (hcell' k y hy)
            rw [hy] at hg
            have hsn : (xorL la lb).take (k + 1) = (xorL la lb).take k ++ [x ^^^ y] := by rw [List.take_add_one, hg]; rfl
            have hxy := byte_xor_go x y
            have Hsn := Lib.hid hsn
            clear hsn hlen hx hy hcell hcell' hg
            go_wp2_with (with_reducible refine wp_appB1 rfl (.tmp 28) (.tmp 30) rfl w.heap.size _ ((xorL la lb).take k) rfl hown (x ^^^ y) _ rfl rfl Hlen.out hB.size ?_; intro v1 w1 hown1 hg1 hv1)
            go_roundw
            case rel => exact ⟨k + 1, by omega, by go_num, by rw [Hsn.out]; exact hown1, hg1.below _ _ hB (Nat.le_refl _)⟩
            case measure => simp [intOf]; omega
        · have hy : lb[k]? = none := List.getElem?_eq_none (by omega)
          rw [hy] at hg
          have hsn : (xorL la lb).take (k + 1) = (xorL la lb).take k ++ [x] := by rw [List.take_add_one, hg]; rfl
          have Hsn := Lib.hid hsn
          clear hsn hlen hx hy hcell hcellb hg
          go_wp2_with (with_reducible refine wp_appB1 rfl (.tmp 28) (.tmp 30) rfl w.heap.size _ ((xorL la lb).take k) rfl hown x _ rfl rfl Hlen.out hB.size ?_; intro v1 w1 hown1 hg1 hv1)
          go_roundw
          case rel => exact ⟨k + 1, by omega, by go_num, by rw [Hsn.out]; exact hown1, hg1.below _ _ hB (Nat.le_refl _)⟩
          case measure => simp [intOf]; omega
    · obtain rfl : k = la.length := by omega
      rw [List.take_of_length_le (by rw [xorL_len]; omega)] at hown
      go_wp2
      go_ret
      exact ⟨⟨_, rfl, hown⟩, hB⟩
set_option maxRecDepth 100000 in
set_option maxHeartbeats 8000000 in
theorem lawlinear_any (va vb vc : Value) (la lb lc : List UInt8) (w : World) (hra : RdB w va la) (hrb : RdB w vb lb) (hrc : RdB w vc lc) (hma : la.length ≤ maxLen) (hmb : lb.length ≤ maxLen) (hmc : lc.length ≤ maxLen) (hT : Tabs w) :
    Calls Tryd.prog 9 #[va, vb, vc] w fun e w' => e = .returned (.bool true) ∧ Below w.heap.size w w' := by
  unfold maxLen at hma hmb hmc
  have Ha := Lib.hid hra
  have Hb := Lib.hid hrb
  have Hc := Lib.hid hrc
  obtain ⟨a0, ca, rfl, _⟩ := hra
  clear hrb hrc
  by_cases hle : la.length ≤ 400
  · have hd : decide ((400 : Int) < (la.length : Int)) = false := by simp; omega
    have hz1 : (List.replicate la.length (0 : UInt8)).length ≤ 1000000 := by simp; omega
    have hl1 : ∀ m, (xorL (List.replicate la.length (0 : UInt8)) m).length = la.length := fun m => by rw [xorL_len, List.length_replicate]
    have hl2 : ∀ m, (xorL la m).length = la.length := fun m => xorL_len _ _
    have x1 := fun v v' W (h1 : RdB W v (List.replicate la.length (0 : UInt8))) (h2 : RdB W v' lb) => xor_any v v' _ lb W h1 h2 hz1 (by omega)
    have x2 := fun v v' W (h1 : RdB W v (List.replicate la.length (0 : UInt8))) (h2 : RdB W v' lc) => xor_any v v' _ lc W h1 h2 hz1 (by omega)
    have x3 := fun v v' W (h1 : RdB W v la) (h2 : RdB W v' (xorL (List.replicate la.length (0 : UInt8)) lb)) => xor_any v v' la _ W h1 h2 (by omega) (by rw [hl1]; omega)
    have x4 := fun v v' W (h1 : RdB W v (xorL la (xorL (List.replicate la.length (0 : UInt8)) lb))) (h2 : RdB W v' (xorL (List.replicate la.length (0 : UInt8)) lc)) => xor_any v v' _ _ W h1 h2 (by rw [hl2]; omega) (by rw [hl1]; omega)
    have hlin := crc_linear la _ _ (hl1 lb) (hl1 lc)
    have c1 := fun v W (hW : RdB W v (xorL (xorL la (xorL (List.replicate la.length (0 : UInt8)) lb)) (xorL (List.replicate la.length (0 : UInt8)) lc))) (h : Tabs W) => crc40_any v _ W hW (by rw [xorL_len, hl2]; omega) h
    have c2 := fun v W (hW : RdB W v la) (h : Tabs W) => crc40_any v _ W hW (by omega) h
    have c3 := fun v W (hW : RdB W v (xorL (List.replicate la.length (0 : UInt8)) lb)) (h : Tabs W) => crc40_any v _ W hW (by rw [hl1]; omega) h
    have c4 := fun v W (hW : RdB W v (xorL (List.replicate la.length (0 : UInt8)) lc)) (h : Tabs W) => crc40_any v _ W hW (by rw [hl1]; omega) h
    rw [hlin] at c1
    have e1 := i64_xor_toI (crc la) (crc (xorL (List.replicate la.length (0 : UInt8)) lb))
    have e2 := i64_xor_toI (crc la ^^^ crc (xorL (List.replicate la.length (0 : UInt8)) lb)) (crc (xorL (List.replicate la.length (0 : UInt8)) lc))
    have hn : la.length < 1000000000000 := by omega
    clear hlin hl2 hl1 hz1 hma hmb hmc
    generalize hn0 : List.replicate la.length (0 : UInt8) = zs at *
    have Hn0 := Lib.hid hn0
    generalize xorL (xorL la (xorL zs lb)) (xorL zs lc) = l4 at *
    generalize hl3 : xorL la (xorL zs lb) = l3 at *
    generalize hl2 : xorL zs lc = l2 at *
    generalize hl1 : xorL zs lb = l1 at *
    generalize toI (crc la ^^^ crc l1 ^^^ crc l2) = y4 at *
    generalize toI (crc la ^^^ crc l1) = y5 at *
    generalize toI (crc la) = y1 at *
    generalize toI (crc l1) = y2 at *
    generalize toI (crc l2) = y3 at *
    clear hn0 hl1 hl2 hl3
    go_enter Tryd.func9, Tryd.ntmps9
    go_wp2_with (first
      | (go_at_call 13; ((with_reducible refine (sanity_any w hT).mono ?_); rintro e w1 ⟨rfl, hw1⟩))
      | (at_make; refine wp_make (mk := mkB) Tryd.underlying22 info_u8 rfl (by decide) 0 rfl rfl (.tmp 18) (.tmp 18) rfl w1.heap.size .i64 .i64 _ _ la.length rfl rfl rfl rfl hn (Nat.le_refl _) ?_; intro w2 hown2 hg2; rw [Hn0.out] at hown2; have hB2 := hg2.below _ _ hw1 hw1.size; have hR2 := Lib.hid (ownOf_rd hown2); clear hown2)
      | (go_at_call 26; ((with_reducible refine (x1 _ _ w2 hR2.out (Rd.below Hb.out hB2)).mono ?_); rintro e w3 ⟨⟨v3, rfl, hown3⟩, hw3⟩; have hB3 := hB2.trans (hw3.mono hB2.size); have hR3 := Lib.hid (own_rd hown3); clear hown3))
      | (go_at_call 26; ((with_reducible refine (x2 _ _ w3 (Rd.below hR2.out hw3) (Rd.below Hc.out hB3)).mono ?_); rintro e w4 ⟨⟨v4, rfl, hown4⟩, hw4⟩; have hB4 := hB3.trans (hw4.mono hB3.size); have hR4 := Lib.hid (own_rd hown4); clear hown4))
      | (go_at_call 26; ((with_reducible refine (x3 _ _ w4 (Rd.below Ha.out hB4) (Rd.below hR3.out hw4)).mono ?_); rintro e w5 ⟨⟨v5, rfl, hown5⟩, hw5⟩; have hB5 := hB4.trans (hw5.mono hB4.size); have hR5 := Lib.hid (own_rd hown5); clear hown5))
      | (go_at_call 26; ((with_reducible refine (x4 _ _ w5 hR5.out (Rd.below hR4.out hw5)).mono ?_); rintro e w6 ⟨⟨v6, rfl, hown6⟩, hw6⟩; have hB6 := hB5.trans (hw6.mono hB5.size); have hR6 := Lib.hid (own_rd hown6); clear hown6))
      | (go_at_call 14; ((with_reducible refine (c1 _ w6 hR6.out (hT.below hB6)).mono ?_); rintro e w7 ⟨rfl, hw7⟩; have hB7 := hB6.trans (hw7.mono hB6.size)))
      | (go_at_call 14; ((with_reducible refine (c2 _ w7 (Rd.below Ha.out hB7) (hT.below hB7)).mono ?_); rintro e w8 ⟨rfl, hw8⟩; have hB8 := hB7.trans (hw8.mono hB7.size)))
      | (go_at_call 14; ((with_reducible refine (c3 _ w8 (Rd.below (Rd.below (Rd.below (Rd.below (Rd.below hR3.out hw4) hw5) hw6) hw7) hw8) (hT.below hB8)).mono ?_); rintro e w9 ⟨rfl, hw9⟩; have hB9 := hB8.trans (hw9.mono hB8.size)))
      | (go_at_call 14; ((with_reducible refine (c4 _ w9 (Rd.below (Rd.below (Rd.below (Rd.below (Rd.below hR4.out hw5) hw6) hw7) hw8) hw9) (hT.below hB9)).mono ?_); rintro e w10 ⟨rfl, hw10⟩; have hB10 := hB9.trans (hw10.mono hB9.size))))
    go_ret
    exact ⟨rfl, hB10⟩
  · have hd : decide ((400 : Int) < (la.length : Int)) = true := by simp; omega
    go_enter Tryd.func9, Tryd.ntmps9
    go_wp2_with (go_at_call 13; ((with_reducible refine (sanity_any w hT).mono ?_); rintro e w1 ⟨rfl, hw1⟩))
    go_ret
    exact ⟨rfl, hw1⟩
end Go.Proofs.YtbgieephehfgpaaDoor
