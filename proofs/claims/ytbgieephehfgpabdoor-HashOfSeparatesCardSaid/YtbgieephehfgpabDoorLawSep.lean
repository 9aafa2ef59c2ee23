/-
  The function of the law HashOfSeparates returns true. Condition: the tables are as the program's text lays them.
-/
import Derived.Test.YtbgieephehfgpabDoorSanity
import Derived.Test.YtbgieephehfgpabDoorRefOf
import Derived.Test.YtbgieephehfgpabDoorRefStr
import Derived.Test.YtbgieephehfgpabDoorPlainSep
import Derived.Test.YtbgieephehfgpabDoorRest
import Derived.Stop.BytesEq
namespace Go.Proofs.YtbgieephehfgpabDoor
open Go Go.RowKit Sha
/-- Go's == on arrays of bytes -/
theorem eq_dig (xs ys : List UInt8) (hx : xs.length = 16) (hy : ys.length = 16) (W : World) :
    (Op.equalIn 10000 26 (.agg (xs.map mkB).toArray) (.agg (ys.map mkB).toArray)).run Tryd.prog W = .ok (xs == ys) W :=
  run_equalIn_bytes W 9998 26 5 16 Tryd.underlying26 Tryd.underlying5 (fun w => Tryd.sizeOf5 w) xs ys hx hy
set_option maxRecDepth 100000 in
set_option maxHeartbeats 4000000 in
theorem lawsep_any (t u : Nat) (va vb : Value) (a b : List (List UInt8)) (w : World) (ht : t < 256) (hu : u < 256) (hra : Rd mkS w va a) (hrb : Rd mkS w vb b) (hT : Tabs w) :
    Calls Tryd.prog 4 #[.agg #[.int .u8 (t : Int), .int .u8 (u : Int)], va, vb] w fun e w' => e = .returned (.bool true) ∧ Below w.heap.size w w' := by
  have Hra := Lib.hid hra
  have Hrb := Lib.hid hrb
  clear hra hrb
  go_enter Tryd.func4, Tryd.ntmps4
  go_wp2_with fail
  have hk0 := blk_new w #[.int .u8 (t : Int), .int .u8 (u : Int)] 30
  have hB0 := (Below.refl w.heap.size w).alloc (Nat.le_refl _) (.cells #[.int .u8 (t : Int), .int .u8 (u : Int)] 30)
  generalize w.alloc (.cells #[.int .u8 (t : Int), .int .u8 (u : Int)] 30) = w0 at *
  with_reducible refine (sanity_any w0 (hT.below hB0)).mono ?_
  rintro e w1 ⟨rfl, hw1⟩
  have hk1 := blk_kept hk0 hw1
  have hB1 := hB0.trans (hw1.mono hB0.size)
  clear hk0 hB0 hw1
  go_wp2_with fail
  with_reducible refine (few_any _ a w1 (Rd.below Hra.out hB1)).mono ?_
  rintro e w2 ⟨⟨c, rfl, hc⟩, rfl⟩
  cases c with
  | false =>
    go_wp2_with fail
    go_ret
    exact ⟨rfl, hB1⟩
  | true =>
    obtain ⟨hna, hsa⟩ := hc rfl
    clear hc
    go_wp2_with fail
    with_reducible refine (few_any _ b w1 (Rd.below Hrb.out hB1)).mono ?_
    rintro e w2 ⟨⟨c, rfl, hc⟩, rfl⟩
    cases c with
    | false =>
      go_wp2_with fail
      go_ret
      exact ⟨rfl, hB1⟩
    | true =>
      obtain ⟨hnb, hsb⟩ := hc rfl
      clear hc
      have Hsa := Lib.hid hsa
      have Hsb := Lib.hid hsb
      clear hsa hsb
      obtain ⟨pa, ca, rfl, hca, hacell⟩ := Hra.out
      obtain ⟨pb, cb, rfl, hcb, hbcell⟩ := Hrb.out
      have hc0 := blk_cell hk1 0
      have hc1 := blk_cell hk1 1
      have HT := Lib.hid ht
      have HU := Lib.hid hu
      have hwt : wrap64 (t : Int) = (t : Int) := by unfold wrap64; omega
      have hwu : wrap64 (u : Int) = (u : Int) := by unfold wrap64; omega
      clear ht hu
      by_cases h1 : t = u
      · have hd1 : ((t : Int) = (u : Int)) = True := by simp [h1]
        have H1 := Lib.hid h1
        clear h1
        go_wp2_with fail
        go_loopw [8, 9] (fun s8 i wr => ∃ (k : Nat) (s : Bool), k ≤ a.length ∧ i = .int .i64 (k : Int) ∧ s8 = .bool s ∧ (s = true → t = u ∧ a.length = b.length ∧ a.take k = b.take k) ∧ (s = false → ¬ (t = u ∧ a = b)) ∧ Blk wr w.heap.size #[.int .u8 (t : Int), .int .u8 (u : Int)] 30 ∧ Below w.heap.size w wr) (fun _ i _ => a.length - (intOf i).toNat)
        case atStart => 
          refine ⟨0, _, by omega, rfl, rfl, ?_, ?_, hk1, hB1⟩
          · intro h
            simp only [Bool.and_eq_true, beq_iff_eq] at h
            exact ⟨by omega, by omega, rfl⟩
          · intro h h2
            rw [h2.1, h2.2] at h
            simp at h
        case round =>
          clear hk1 hB1 hc0 hc1
          obtain ⟨k, s, hk, rfl, rfl, hst, hsf, hkt, hB⟩ := hrel
          have hc0 := blk_cell hkt 0
          have hc1 := blk_cell hkt 1
          by_cases h : k < a.length
          · cases s with
            | false =>
              have hdk : decide ((k : Int) < (a.length : Int)) = true := by simp; omega
              clear hst
              have hne : ¬ (t = u ∧ a = b) := hsf rfl
              have hXY : ofIn (t : Int) a ≠ ofIn (u : Int) b := fun h => hne (ofIn_inj t u a b HT.out HU.out (fun x hx => Nat.le_trans (Hsa.out x hx) (by omega)) (fun x hx => Nat.le_trans (Hsb.out x hx) (by omega)) h)
              have hia := fun W (hW : Rd mkS W (.slice pa a.length ca) a) => rinput_any (t : Int) _ a W hW (by omega) (fun x hx => Nat.le_trans (Hsa.out x hx) (by omega))
              have hib := fun W (hW : Rd mkS W (.slice pb b.length cb) b) => rinput_any (u : Int) _ b W hW (by omega) (fun x hx => Nat.le_trans (Hsb.out x hx) (by omega))
              have hofa := fun W (hW : Rd mkS W (.slice pa a.length ca) a) (h : TabC W) => of_any (t : Int) _ a W hW (by omega) (fun x hx => Nat.le_trans (Hsa.out x hx) (by omega)) h
              have hofb := fun W (hW : Rd mkS W (.slice pb b.length cb) b) (h : TabC W) => of_any (u : Int) _ b W hW (by omega) (fun x hx => Nat.le_trans (Hsb.out x hx) (by omega)) h
              have hla := ofIn_len (t : Int) a (fun x hx => Nat.le_trans (Hsa.out x hx) (by omega)) a.length (Nat.le_refl _)
              have hlb := ofIn_len (u : Int) b (fun x hx => Nat.le_trans (Hsb.out x hx) (by omega)) b.length (Nat.le_refl _)
              rw [List.take_length] at hla hlb
              clear hne hsf hacell hbcell
              generalize ofIn (t : Int) a = X at *
              generalize ofIn (u : Int) b = Y at *
              have hsx := fun v W (hW : RdB W v X) (h : TabC W) => hsum_any v X W hW (by omega) h
              have hsy := fun v W (hW : RdB W v Y) (h : TabC W) => hsum_any v Y W hW (by omega) h
              have hlx := sha_len X
              have hly := sha_len Y
              generalize sha X = D at *
              generalize sha Y = E at *
              have hXYb : (X == Y) = false := by simpa using hXY
              unfold bytesV at hofa hofb hsx hsy
              have hqd := eq_dig (D.take 16) (E.take 16) (by rw [List.length_take]; omega) (by rw [List.length_take]; omega)
              have hDc : ∀ (k : Nat) (x : UInt8), D[k]? = some x → (D.map mkB).toArray[k]? = some (mkB x) := fun k x hx => by rw [List.getElem?_toArray, List.getElem?_map, hx]; rfl
              have hEc : ∀ (k : Nat) (x : UInt8), E[k]? = some x → (E.map mkB).toArray[k]? = some (mkB x) := fun k x hx => by rw [List.getElem?_toArray, List.getElem?_map, hx]; rfl
              have p1 : ((D.take 16).map mkB).toArray.size = 16 := by simp; omega
              have p2 : ((E.take 16).map mkB).toArray.size = 16 := by simp; omega
              have p3 : (D.map mkB).toArray.size = 32 := by simp; omega
              have p4 : (E.map mkB).toArray.size = 32 := by simp; omega
              have o1 : Hid (((D.take 16).map mkB).toArray.all (·.oneCell') = true) := Lib.hid (one_cells _)
              have o2 : Hid (((E.take 16).map mkB).toArray.all (·.oneCell') = true) := Lib.hid (one_cells _)
              have o3 : Hid ((D.map mkB).toArray.all (·.oneCell') = true) := Lib.hid (one_cells _)
              have o4 : Hid ((E.map mkB).toArray.all (·.oneCell') = true) := Lib.hid (one_cells _)
              generalize ((D.take 16).map mkB).toArray = A1 at *
              generalize ((E.take 16).map mkB).toArray = A2 at *
              generalize (D.map mkB).toArray = A3 at *
              generalize (E.map mkB).toArray = A4 at *
              have i1 : Hid ((Tryd.prog.info? 26).map (·.size) = some A1.size) := Lib.hid (by rw [p1]; kernel_rfl)
              have i2 : Hid ((Tryd.prog.info? 26).map (·.size) = some A2.size) := Lib.hid (by rw [p2]; kernel_rfl)
              have i3 : Hid ((Tryd.prog.info? 33).map (·.size) = some A3.size) := Lib.hid (by rw [p3]; kernel_rfl)
              have i4 : Hid ((Tryd.prog.info? 33).map (·.size) = some A4.size) := Lib.hid (by rw [p4]; kernel_rfl)
              have z1 : Hid (16 = A1.size) := Lib.hid p1.symm
              have z2 : Hid (16 = A2.size) := Lib.hid p2.symm
              have z3 : Hid (32 = A3.size) := Lib.hid p3.symm
              have z4 : Hid (32 = A4.size) := Lib.hid p4.symm
              have Hia := Lib.hid hia
              have Hib := Lib.hid hib
              have Hofa := Lib.hid hofa
              have Hofb := Lib.hid hofb
              have Hsx := Lib.hid hsx
              have Hsy := Lib.hid hsy
              have HDc := Lib.hid hDc
              have HEc := Lib.hid hEc
              clear hia hib hofa hofb hsx hsy hDc hEc p1 p2 p3 p4 hla hlb hXY
              go_wp2_with (first
                | (go_at_call 15; (with_reducible refine (Hia.out wr (Rd.below Hra.out hB)).mono ?_); rintro e w2 ⟨⟨vx, rfl, hox⟩, hw2⟩; have hB2 := hB.trans (hw2.mono hB.size); have hkt2 := blk_kept hkt hw2; have hc20 := blk_cell hkt2 0; have hc21 := blk_cell hkt2 1)
                | (go_at_call 15; (with_reducible refine (Hib.out w2 (Rd.below Hrb.out hB2)).mono ?_); rintro e w3 ⟨⟨vy, rfl, hoy⟩, hw3⟩; have hB3 := hB2.trans (hw3.mono hB2.size); have hkt3 := blk_kept hkt2 hw3; have hrx := own_rd (own_kept hox hw3); have hry := own_rd hoy; have hc30 := blk_cell hkt3 0; have hc31 := blk_cell hkt3 1)
                | (go_at_call 13; (with_reducible refine (Hofa.out w3 (Rd.below Hra.out hB3) (hT.below hB3).c).mono ?_); rintro e w4 ⟨rfl, hw4⟩; have hB4 := hB3.trans (hw4.mono hB3.size); have hkt4 := blk_kept hkt3 hw4; have hrx4 := Rd.below hrx hw4; have hry4 := Rd.below hry hw4)
                | ((with_reducible refine wpList_store_row rfl 26 (.tmp 12) (.tmp 81) rfl w4.heap.size A1 rfl rfl 26 _ (heap_alloc_new _ _) i1.out ?_ o1.out ?_); exact z1.out; rw [World.setRow_alloc_new]; simp only [Act.put]; have hB5 := hB4.alloc hB4.size (.cells A1 26); have hkt5 := blk_alloc hkt4 (.cells A1 26); have hrx5 := Rd.below hrx4 (below_alloc1 w4 (.cells A1 26)); have hry5 := Rd.below hry4 (below_alloc1 w4 (.cells A1 26)); have hka5 := blk_new w4 A1 26; generalize w4.alloc (.cells A1 26) = w5 at *; have hc50 := blk_cell hkt5 0; have hc51 := blk_cell hkt5 1)
                | (go_at_call 13; (with_reducible refine (Hofb.out w5 (Rd.below Hrb.out hB5) (hT.below hB5).c).mono ?_); rintro e w6 ⟨rfl, hw6⟩; have hB6 := hB5.trans (hw6.mono hB5.size); have hrx6 := Rd.below hrx5 hw6; have hry6 := Rd.below hry5 hw6; have hka6 := blk_kept hka5 hw6)
                | ((with_reducible refine wpList_store_row rfl 26 (.tmp 13) (.tmp 86) rfl w6.heap.size A2 rfl rfl 26 _ (heap_alloc_new _ _) i2.out ?_ o2.out ?_); exact z2.out; rw [World.setRow_alloc_new]; simp only [Act.put]; have hB7 := hB6.alloc hB6.size (.cells A2 26); have hrx7 := Rd.below hrx6 (below_alloc1 w6 (.cells A2 26)); have hry7 := Rd.below hry6 (below_alloc1 w6 (.cells A2 26)); have hka7 := blk_alloc hka6 (.cells A2 26); have hkb7 := blk_new w6 A2 26; generalize w6.alloc (.cells A2 26) = w7 at *)
                | (go_at_call 16; (with_reducible refine (Hsx.out vx w7 hrx7 (hT.below hB7).c).mono ?_); rintro e w8 ⟨rfl, hw8⟩; have hB8 := hB7.trans (hw8.mono hB7.size); have hrx8 := Rd.below hrx7 hw8; have hry8 := Rd.below hry7 hw8; have hka8 := blk_kept hka7 hw8; have hkb8 := blk_kept hkb7 hw8)
                | ((with_reducible refine wpList_store_row rfl 33 (.tmp 14) (.tmp 88) rfl w8.heap.size A3 rfl rfl 33 _ (heap_alloc_new _ _) i3.out ?_ o3.out ?_); exact z3.out; rw [World.setRow_alloc_new]; simp only [Act.put]; have hB9 := hB8.alloc hB8.size (.cells A3 33); have hrx9 := Rd.below hrx8 (below_alloc1 w8 (.cells A3 33)); have hry9 := Rd.below hry8 (below_alloc1 w8 (.cells A3 33)); have hka9 := blk_alloc hka8 (.cells A3 33); have hkb9 := blk_alloc hkb8 (.cells A3 33); have hkc9 := blk_new w8 A3 33; generalize w8.alloc (.cells A3 33) = w9 at *)
                | (go_at_call 16; (with_reducible refine (Hsy.out vy w9 hry9 (hT.below hB9).c).mono ?_); rintro e w10 ⟨rfl, hw10⟩; have hB10 := hB9.trans (hw10.mono hB9.size); have hrx10 := Rd.below hrx9 hw10; have hry10 := Rd.below hry9 hw10; have hka10 := blk_kept hka9 hw10; have hkb10 := blk_kept hkb9 hw10; have hkc10 := blk_kept hkc9 hw10)
                | ((with_reducible refine wpList_store_row rfl 33 (.tmp 15) (.tmp 90) rfl w10.heap.size A4 rfl rfl 33 _ (heap_alloc_new _ _) i4.out ?_ o4.out ?_); exact z4.out; rw [World.setRow_alloc_new]; simp only [Act.put]; have hB11 := hB10.alloc hB10.size (.cells A4 33); have hrx11 := Rd.below hrx10 (below_alloc1 w10 (.cells A4 33)); have hry11 := Rd.below hry10 (below_alloc1 w10 (.cells A4 33)); have hka11 := blk_alloc hka10 (.cells A4 33); have hkb11 := blk_alloc hkb10 (.cells A4 33); have hkc11 := blk_alloc hkc10 (.cells A4 33); have hkd11 := blk_new w10 A4 33; generalize w10.alloc (.cells A4 33) = w11 at *))
              clear hkt3 hkt4 hkt5 hc50 hc51 hc30 hc31 hc20 hc21 hc0 hc1
              generalize w4.heap.size = N12 at *
              generalize w6.heap.size = N13 at *
              generalize w8.heap.size = N14 at *
              generalize w10.heap.size = N15 at *
              go_loopw [16, 17] (fun s16 i wr => ∃ (k : Nat) (s : Bool), k ≤ 16 ∧ i = .int .i64 (k : Int) ∧ s16 = .bool s ∧ (s = true ↔ D.take k = E.take k) ∧ RdB wr vx X ∧ RdB wr vy Y ∧ Blk wr N12 A1 26 ∧ Blk wr N13 A2 26 ∧ Blk wr N14 A3 33 ∧ Blk wr N15 A4 33 ∧ Below w.heap.size w wr) (fun _ i _ => 16 - (intOf i).toNat)
              case atStart => exact ⟨0, true, by omega, rfl, rfl, by simp, hrx11, hry11, hka11, hkb11, hkc11, hkd11, hB11⟩
              case round =>
                clear hrx11 hry11 hka11 hkb11 hkc11 hkd11
                obtain ⟨k, s, hk, rfl, rfl, hst, hrx, hry, hka, hkb, hkc, hkd, hB⟩ := hrel
                have hrxd : RdB wr.drew vx X := hrx
                have hryd : RdB wr.drew vy Y := hry
                have hkad : Blk wr.drew N12 A1 26 := hka
                have hkbd : Blk wr.drew N13 A2 26 := hkb
                have hkcd : Blk wr.drew N14 A3 33 := hkc
                have hkdd : Blk wr.drew N15 A4 33 := hkd
                have hBd := hB.drew
                by_cases h16 : k < 16
                · have hi0 : (0 : Int) ≤ (k : Int) := by omega
                  have hi1 : (k : Int) < 16 := by omega
                  have hi2 : (k : Int) < 32 := by omega
                  obtain ⟨x, hx⟩ : ∃ x, D[k]? = some x := ⟨_, List.getElem?_eq_getElem (by omega)⟩
                  obtain ⟨y, hy⟩ : ∃ y, E[k]? = some y := ⟨_, List.getElem?_eq_getElem (by omega)⟩
                  have hcx : wr.cell? ⟨N14, k, none⟩ = some (.int .u8 (x.toNat : Int)) := (blk_cell hkc k).trans (HDc.out k x hx)
                  have hcy : wr.cell? ⟨N15, k, none⟩ = some (.int .u8 (y.toNat : Int)) := (blk_cell hkd k).trans (HEc.out k y hy)
                  have hcx' : wr.drew.cell? ⟨N14, k, none⟩ = some (.int .u8 (x.toNat : Int)) := hcx
                  have hcy' : wr.drew.cell? ⟨N15, k, none⟩ = some (.int .u8 (y.toNat : Int)) := hcy
                  have hnx : D.take (k + 1) = E.take (k + 1) ↔ D.take k = E.take k ∧ (x.toNat : Int) = (y.toNat : Int) := by
                    rw [List.take_add_one, List.take_add_one, hx, hy]
                    have hl : (D.take k).length = (E.take k).length := by rw [List.length_take, List.length_take, hlx, hly]
                    constructor
                    · intro h
                      have h2 := List.append_inj h hl
                      refine ⟨h2.1, ?_⟩
                      have : x = y := by simpa using h2.2
                      rw [this]
                    · rintro ⟨h1, h2⟩
                      have h3 : x = y := UInt8.toNat_inj.1 (by omega)
                      rw [h1, h3]
                  have Hnx := Lib.hid hnx
                  have Hst := Lib.hid hst
                  clear hnx hst hx hy
                  cases s with
                  | true =>
                    go_wp2_with fail
                    go_region
                    go_wp2
                    go_roundw
                    case rel => exact ⟨k + 1, _, by omega, by go_num, rfl, ⟨fun h => Hnx.out.2 ⟨Hst.out.1 trivial, by simpa using h⟩, fun h => by simpa using (Hnx.out.1 h).2⟩, hrxd, hryd, hkad, hkbd, hkcd, hkdd, hBd⟩
                    case measure => simp [intOf]; omega
                  | false =>
                    go_wp2_with fail
                    go_region
                    go_wp2
                    go_roundw
                    case rel => exact ⟨k + 1, false, by omega, by go_num, rfl, ⟨(fun h => by cases h), fun h => Hst.out.2 (Hnx.out.1 h).1⟩, hrxd, hryd, hkad, hkbd, hkcd, hkdd, hBd⟩
                    case measure => simp [intOf]; omega
                · obtain rfl : k = 16 := by omega
                  have hs : s = (D.take 16 == E.take 16) := by
                    cases s with
                    | true => simpa using hst
                    | false => simpa using hst
                  subst hs
                  have hcx := RdB.conv hrx 31 9 5 Tryd.underlying31 Tryd.underlying5 Tryd.underlying9
                  have hcy := RdB.conv hry 31 9 5 Tryd.underlying31 Tryd.underlying5 Tryd.underlying9
                  clear hst
                  generalize (D.take 16 == E.take 16) = q at *
                  go_wp2_with (first
                    | (with_reducible refine wpList_load_row_g ?_ 26 (.tmp 12) rfl N12 rfl 26 _ _ _ hka Tryd.underlying26 rfl i1.out ?_; focus (first | rfl | (simp [Region.wanted, yielded]; done)))
                    | (with_reducible refine wpList_load_row_g ?_ 26 (.tmp 13) rfl N13 (by simp [Act.eval, Act.put]) 26 _ _ _ hkb Tryd.underlying26 rfl i2.out ?_; focus (first | rfl | (simp [Region.wanted, yielded, Act.put]; done))))
                  go_ret
                  exact ⟨rfl, hB⟩
            | true =>
              obtain ⟨htu, hlab, htk⟩ := hst rfl
              clear hst hsf
              rcases hacell with hnil | ⟨ba, offa, rfl, hbla, hacell⟩
              · subst hnil; simp at h
              · rcases hbcell with hnil | ⟨bb, offb, rfl, hblb, hbcell⟩
                · subst hnil; simp only [List.length_nil] at hlab; omega
                · obtain ⟨x, hx⟩ : ∃ x, a[k]? = some x := ⟨_, List.getElem?_eq_getElem h⟩
                  obtain ⟨y, hy⟩ : ∃ y, b[k]? = some y := ⟨_, List.getElem?_eq_getElem (by omega)⟩
                  have hcx : wr.cell? ⟨ba, offa + k, none⟩ = some (.string ⟨x.toArray⟩) := (hB.cell (p := ⟨ba, offa + k, none⟩) hbla).trans (hacell k x hx)
                  have hcy : wr.cell? ⟨bb, offb + k, none⟩ = some (.string ⟨y.toArray⟩) := (hB.cell (p := ⟨bb, offb + k, none⟩) hblb).trans (hbcell k y hy)
                  have hcx' : wr.drew.cell? ⟨ba, offa + k, none⟩ = some (.string ⟨x.toArray⟩) := hcx
                  have hcy' : wr.drew.cell? ⟨bb, offb + k, none⟩ = some (.string ⟨y.toArray⟩) := hcy
                  have hi0 : (0 : Int) ≤ (k : Int) := by omega
                  have hi1 : (k : Int) < (a.length : Int) := by omega
                  have hi2 : (k : Int) < (b.length : Int) := by omega
                  have htk1 : x = y → a.take (k + 1) = b.take (k + 1) := fun h => by rw [List.take_add_one, List.take_add_one, hx, hy, h, htk]
                  have hne1 : ¬ x = y → ¬ (t = u ∧ a = b) := fun h h2 => by
                    rw [h2.2] at hx
                    rw [hx] at hy
                    exact h (Option.some.inj hy)
                  have Htk := Lib.hid htk1
                  have Hne := Lib.hid hne1
                  have Hlab := Lib.hid hlab
                  have Htu := Lib.hid htu
                  clear htu htk1 hne1 hx hy hacell hbcell htk hlab
                  have hktd : Blk wr.drew w.heap.size #[.int .u8 (t : Int), .int .u8 (u : Int)] 30 := hkt
                  have hBd := hB.drew
                  go_wp2_with fail
                  go_region
                  go_wp2
                  go_roundw
                  case rel => exact ⟨k + 1, _, by omega, by go_num, rfl, fun h => ⟨Htu.out, Hlab.out, Htk.out (by simpa using h)⟩, fun h => Hne.out (by simpa using h), hktd, hBd⟩
                  case measure => simp [intOf]; omega
          · obtain rfl : k = a.length := by omega
            cases s with
            | false =>
              clear hst
              have hne : ¬ (t = u ∧ a = b) := hsf rfl
              have hXY : ofIn (t : Int) a ≠ ofIn (u : Int) b := fun h => hne (ofIn_inj t u a b HT.out HU.out (fun x hx => Nat.le_trans (Hsa.out x hx) (by omega)) (fun x hx => Nat.le_trans (Hsb.out x hx) (by omega)) h)
              have hia := fun W (hW : Rd mkS W (.slice pa a.length ca) a) => rinput_any (t : Int) _ a W hW (by omega) (fun x hx => Nat.le_trans (Hsa.out x hx) (by omega))
              have hib := fun W (hW : Rd mkS W (.slice pb b.length cb) b) => rinput_any (u : Int) _ b W hW (by omega) (fun x hx => Nat.le_trans (Hsb.out x hx) (by omega))
              have hofa := fun W (hW : Rd mkS W (.slice pa a.length ca) a) (h : TabC W) => of_any (t : Int) _ a W hW (by omega) (fun x hx => Nat.le_trans (Hsa.out x hx) (by omega)) h
              have hofb := fun W (hW : Rd mkS W (.slice pb b.length cb) b) (h : TabC W) => of_any (u : Int) _ b W hW (by omega) (fun x hx => Nat.le_trans (Hsb.out x hx) (by omega)) h
              have hla := ofIn_len (t : Int) a (fun x hx => Nat.le_trans (Hsa.out x hx) (by omega)) a.length (Nat.le_refl _)
              have hlb := ofIn_len (u : Int) b (fun x hx => Nat.le_trans (Hsb.out x hx) (by omega)) b.length (Nat.le_refl _)
              rw [List.take_length] at hla hlb
              clear hne hsf hacell hbcell
              generalize ofIn (t : Int) a = X at *
              generalize ofIn (u : Int) b = Y at *
              have hsx := fun v W (hW : RdB W v X) (h : TabC W) => hsum_any v X W hW (by omega) h
              have hsy := fun v W (hW : RdB W v Y) (h : TabC W) => hsum_any v Y W hW (by omega) h
              have hlx := sha_len X
              have hly := sha_len Y
              generalize sha X = D at *
              generalize sha Y = E at *
              have hXYb : (X == Y) = false := by simpa using hXY
              unfold bytesV at hofa hofb hsx hsy
              have hqd := eq_dig (D.take 16) (E.take 16) (by rw [List.length_take]; omega) (by rw [List.length_take]; omega)
              have hDc : ∀ (k : Nat) (x : UInt8), D[k]? = some x → (D.map mkB).toArray[k]? = some (mkB x) := fun k x hx => by rw [List.getElem?_toArray, List.getElem?_map, hx]; rfl
              have hEc : ∀ (k : Nat) (x : UInt8), E[k]? = some x → (E.map mkB).toArray[k]? = some (mkB x) := fun k x hx => by rw [List.getElem?_toArray, List.getElem?_map, hx]; rfl
              have p1 : ((D.take 16).map mkB).toArray.size = 16 := by simp; omega
              have p2 : ((E.take 16).map mkB).toArray.size = 16 := by simp; omega
              have p3 : (D.map mkB).toArray.size = 32 := by simp; omega
              have p4 : (E.map mkB).toArray.size = 32 := by simp; omega
              have o1 : Hid (((D.take 16).map mkB).toArray.all (·.oneCell') = true) := Lib.hid (one_cells _)
              have o2 : Hid (((E.take 16).map mkB).toArray.all (·.oneCell') = true) := Lib.hid (one_cells _)
              have o3 : Hid ((D.map mkB).toArray.all (·.oneCell') = true) := Lib.hid (one_cells _)
              have o4 : Hid ((E.map mkB).toArray.all (·.oneCell') = true) := Lib.hid (one_cells _)
              generalize ((D.take 16).map mkB).toArray = A1 at *
              generalize ((E.take 16).map mkB).toArray = A2 at *
              generalize (D.map mkB).toArray = A3 at *
              generalize (E.map mkB).toArray = A4 at *
              have i1 : Hid ((Tryd.prog.info? 26).map (·.size) = some A1.size) := Lib.hid (by rw [p1]; kernel_rfl)
              have i2 : Hid ((Tryd.prog.info? 26).map (·.size) = some A2.size) := Lib.hid (by rw [p2]; kernel_rfl)
              have i3 : Hid ((Tryd.prog.info? 33).map (·.size) = some A3.size) := Lib.hid (by rw [p3]; kernel_rfl)
              have i4 : Hid ((Tryd.prog.info? 33).map (·.size) = some A4.size) := Lib.hid (by rw [p4]; kernel_rfl)
              have z1 : Hid (16 = A1.size) := Lib.hid p1.symm
              have z2 : Hid (16 = A2.size) := Lib.hid p2.symm
              have z3 : Hid (32 = A3.size) := Lib.hid p3.symm
              have z4 : Hid (32 = A4.size) := Lib.hid p4.symm
              have Hia := Lib.hid hia
              have Hib := Lib.hid hib
              have Hofa := Lib.hid hofa
              have Hofb := Lib.hid hofb
              have Hsx := Lib.hid hsx
              have Hsy := Lib.hid hsy
              have HDc := Lib.hid hDc
              have HEc := Lib.hid hEc
              clear hia hib hofa hofb hsx hsy hDc hEc p1 p2 p3 p4 hla hlb hXY
              go_wp2_with (first
                | (go_at_call 15; (with_reducible refine (Hia.out wr (Rd.below Hra.out hB)).mono ?_); rintro e w2 ⟨⟨vx, rfl, hox⟩, hw2⟩; have hB2 := hB.trans (hw2.mono hB.size); have hkt2 := blk_kept hkt hw2; have hc20 := blk_cell hkt2 0; have hc21 := blk_cell hkt2 1)
                | (go_at_call 15; (with_reducible refine (Hib.out w2 (Rd.below Hrb.out hB2)).mono ?_); rintro e w3 ⟨⟨vy, rfl, hoy⟩, hw3⟩; have hB3 := hB2.trans (hw3.mono hB2.size); have hkt3 := blk_kept hkt2 hw3; have hrx := own_rd (own_kept hox hw3); have hry := own_rd hoy; have hc30 := blk_cell hkt3 0; have hc31 := blk_cell hkt3 1)
                | (go_at_call 13; (with_reducible refine (Hofa.out w3 (Rd.below Hra.out hB3) (hT.below hB3).c).mono ?_); rintro e w4 ⟨rfl, hw4⟩; have hB4 := hB3.trans (hw4.mono hB3.size); have hkt4 := blk_kept hkt3 hw4; have hrx4 := Rd.below hrx hw4; have hry4 := Rd.below hry hw4)
                | ((with_reducible refine wpList_store_row rfl 26 (.tmp 12) (.tmp 81) rfl w4.heap.size A1 rfl rfl 26 _ (heap_alloc_new _ _) i1.out ?_ o1.out ?_); exact z1.out; rw [World.setRow_alloc_new]; simp only [Act.put]; have hB5 := hB4.alloc hB4.size (.cells A1 26); have hkt5 := blk_alloc hkt4 (.cells A1 26); have hrx5 := Rd.below hrx4 (below_alloc1 w4 (.cells A1 26)); have hry5 := Rd.below hry4 (below_alloc1 w4 (.cells A1 26)); have hka5 := blk_new w4 A1 26; generalize w4.alloc (.cells A1 26) = w5 at *; have hc50 := blk_cell hkt5 0; have hc51 := blk_cell hkt5 1)
                | (go_at_call 13; (with_reducible refine (Hofb.out w5 (Rd.below Hrb.out hB5) (hT.below hB5).c).mono ?_); rintro e w6 ⟨rfl, hw6⟩; have hB6 := hB5.trans (hw6.mono hB5.size); have hrx6 := Rd.below hrx5 hw6; have hry6 := Rd.below hry5 hw6; have hka6 := blk_kept hka5 hw6)
                | ((with_reducible refine wpList_store_row rfl 26 (.tmp 13) (.tmp 86) rfl w6.heap.size A2 rfl rfl 26 _ (heap_alloc_new _ _) i2.out ?_ o2.out ?_); exact z2.out; rw [World.setRow_alloc_new]; simp only [Act.put]; have hB7 := hB6.alloc hB6.size (.cells A2 26); have hrx7 := Rd.below hrx6 (below_alloc1 w6 (.cells A2 26)); have hry7 := Rd.below hry6 (below_alloc1 w6 (.cells A2 26)); have hka7 := blk_alloc hka6 (.cells A2 26); have hkb7 := blk_new w6 A2 26; generalize w6.alloc (.cells A2 26) = w7 at *)
                | (go_at_call 16; (with_reducible refine (Hsx.out vx w7 hrx7 (hT.below hB7).c).mono ?_); rintro e w8 ⟨rfl, hw8⟩; have hB8 := hB7.trans (hw8.mono hB7.size); have hrx8 := Rd.below hrx7 hw8; have hry8 := Rd.below hry7 hw8; have hka8 := blk_kept hka7 hw8; have hkb8 := blk_kept hkb7 hw8)
                | ((with_reducible refine wpList_store_row rfl 33 (.tmp 14) (.tmp 88) rfl w8.heap.size A3 rfl rfl 33 _ (heap_alloc_new _ _) i3.out ?_ o3.out ?_); exact z3.out; rw [World.setRow_alloc_new]; simp only [Act.put]; have hB9 := hB8.alloc hB8.size (.cells A3 33); have hrx9 := Rd.below hrx8 (below_alloc1 w8 (.cells A3 33)); have hry9 := Rd.below hry8 (below_alloc1 w8 (.cells A3 33)); have hka9 := blk_alloc hka8 (.cells A3 33); have hkb9 := blk_alloc hkb8 (.cells A3 33); have hkc9 := blk_new w8 A3 33; generalize w8.alloc (.cells A3 33) = w9 at *)
                | (go_at_call 16; (with_reducible refine (Hsy.out vy w9 hry9 (hT.below hB9).c).mono ?_); rintro e w10 ⟨rfl, hw10⟩; have hB10 := hB9.trans (hw10.mono hB9.size); have hrx10 := Rd.below hrx9 hw10; have hry10 := Rd.below hry9 hw10; have hka10 := blk_kept hka9 hw10; have hkb10 := blk_kept hkb9 hw10; have hkc10 := blk_kept hkc9 hw10)
                | ((with_reducible refine wpList_store_row rfl 33 (.tmp 15) (.tmp 90) rfl w10.heap.size A4 rfl rfl 33 _ (heap_alloc_new _ _) i4.out ?_ o4.out ?_); exact z4.out; rw [World.setRow_alloc_new]; simp only [Act.put]; have hB11 := hB10.alloc hB10.size (.cells A4 33); have hrx11 := Rd.below hrx10 (below_alloc1 w10 (.cells A4 33)); have hry11 := Rd.below hry10 (below_alloc1 w10 (.cells A4 33)); have hka11 := blk_alloc hka10 (.cells A4 33); have hkb11 := blk_alloc hkb10 (.cells A4 33); have hkc11 := blk_alloc hkc10 (.cells A4 33); have hkd11 := blk_new w10 A4 33; generalize w10.alloc (.cells A4 33) = w11 at *))
              clear hkt3 hkt4 hkt5 hc50 hc51 hc30 hc31 hc20 hc21 hc0 hc1
              generalize w4.heap.size = N12 at *
              generalize w6.heap.size = N13 at *
              generalize w8.heap.size = N14 at *
              generalize w10.heap.size = N15 at *
              go_loopw [16, 17] (fun s16 i wr => ∃ (k : Nat) (s : Bool), k ≤ 16 ∧ i = .int .i64 (k : Int) ∧ s16 = .bool s ∧ (s = true ↔ D.take k = E.take k) ∧ RdB wr vx X ∧ RdB wr vy Y ∧ Blk wr N12 A1 26 ∧ Blk wr N13 A2 26 ∧ Blk wr N14 A3 33 ∧ Blk wr N15 A4 33 ∧ Below w.heap.size w wr) (fun _ i _ => 16 - (intOf i).toNat)
              case atStart => exact ⟨0, true, by omega, rfl, rfl, by simp, hrx11, hry11, hka11, hkb11, hkc11, hkd11, hB11⟩
              case round =>
                clear hrx11 hry11 hka11 hkb11 hkc11 hkd11
                obtain ⟨k, s, hk, rfl, rfl, hst, hrx, hry, hka, hkb, hkc, hkd, hB⟩ := hrel
                have hrxd : RdB wr.drew vx X := hrx
                have hryd : RdB wr.drew vy Y := hry
                have hkad : Blk wr.drew N12 A1 26 := hka
                have hkbd : Blk wr.drew N13 A2 26 := hkb
                have hkcd : Blk wr.drew N14 A3 33 := hkc
                have hkdd : Blk wr.drew N15 A4 33 := hkd
                have hBd := hB.drew
                by_cases h16 : k < 16
                · have hi0 : (0 : Int) ≤ (k : Int) := by omega
                  have hi1 : (k : Int) < 16 := by omega
                  have hi2 : (k : Int) < 32 := by omega
                  obtain ⟨x, hx⟩ : ∃ x, D[k]? = some x := ⟨_, List.getElem?_eq_getElem (by omega)⟩
                  obtain ⟨y, hy⟩ : ∃ y, E[k]? = some y := ⟨_, List.getElem?_eq_getElem (by omega)⟩
                  have hcx : wr.cell? ⟨N14, k, none⟩ = some (.int .u8 (x.toNat : Int)) := (blk_cell hkc k).trans (HDc.out k x hx)
                  have hcy : wr.cell? ⟨N15, k, none⟩ = some (.int .u8 (y.toNat : Int)) := (blk_cell hkd k).trans (HEc.out k y hy)
                  have hcx' : wr.drew.cell? ⟨N14, k, none⟩ = some (.int .u8 (x.toNat : Int)) := hcx
                  have hcy' : wr.drew.cell? ⟨N15, k, none⟩ = some (.int .u8 (y.toNat : Int)) := hcy
                  have hnx : D.take (k + 1) = E.take (k + 1) ↔ D.take k = E.take k ∧ (x.toNat : Int) = (y.toNat : Int) := by
                    rw [List.take_add_one, List.take_add_one, hx, hy]
                    have hl : (D.take k).length = (E.take k).length := by rw [List.length_take, List.length_take, hlx, hly]
                    constructor
                    · intro h
                      have h2 := List.append_inj h hl
                      refine ⟨h2.1, ?_⟩
                      have : x = y := by simpa using h2.2
                      rw [this]
                    · rintro ⟨h1, h2⟩
                      have h3 : x = y := UInt8.toNat_inj.1 (by omega)
                      rw [h1, h3]
                  have Hnx := Lib.hid hnx
                  have Hst := Lib.hid hst
                  clear hnx hst hx hy
                  cases s with
                  | true =>
                    go_wp2_with fail
                    go_region
                    go_wp2
                    go_roundw
                    case rel => exact ⟨k + 1, _, by omega, by go_num, rfl, ⟨fun h => Hnx.out.2 ⟨Hst.out.1 trivial, by simpa using h⟩, fun h => by simpa using (Hnx.out.1 h).2⟩, hrxd, hryd, hkad, hkbd, hkcd, hkdd, hBd⟩
                    case measure => simp [intOf]; omega
                  | false =>
                    go_wp2_with fail
                    go_region
                    go_wp2
                    go_roundw
                    case rel => exact ⟨k + 1, false, by omega, by go_num, rfl, ⟨(fun h => by cases h), fun h => Hst.out.2 (Hnx.out.1 h).1⟩, hrxd, hryd, hkad, hkbd, hkcd, hkdd, hBd⟩
                    case measure => simp [intOf]; omega
                · obtain rfl : k = 16 := by omega
                  have hs : s = (D.take 16 == E.take 16) := by
                    cases s with
                    | true => simpa using hst
                    | false => simpa using hst
                  subst hs
                  have hcx := RdB.conv hrx 31 9 5 Tryd.underlying31 Tryd.underlying5 Tryd.underlying9
                  have hcy := RdB.conv hry 31 9 5 Tryd.underlying31 Tryd.underlying5 Tryd.underlying9
                  clear hst
                  generalize (D.take 16 == E.take 16) = q at *
                  go_wp2_with (first
                    | (with_reducible refine wpList_load_row_g ?_ 26 (.tmp 12) rfl N12 rfl 26 _ _ _ hka Tryd.underlying26 rfl i1.out ?_; focus (first | rfl | (simp [Region.wanted, yielded]; done)))
                    | (with_reducible refine wpList_load_row_g ?_ 26 (.tmp 13) rfl N13 (by simp [Act.eval, Act.put]) 26 _ _ _ hkb Tryd.underlying26 rfl i2.out ?_; focus (first | rfl | (simp [Region.wanted, yielded, Act.put]; done))))
                  go_ret
                  exact ⟨rfl, hB⟩
            | true =>
              obtain ⟨htu, hlab, htk⟩ := hst rfl
              clear hst hsf
              have hab : a = b := by
                rw [List.take_length, hlab, List.take_length] at htk
                exact htk
              have hia := fun W (hW : Rd mkS W (.slice pa a.length ca) a) => rinput_any (t : Int) _ a W hW (by omega) (fun x hx => Nat.le_trans (Hsa.out x hx) (by omega))
              have hib := fun W (hW : Rd mkS W (.slice pb b.length cb) b) => rinput_any (u : Int) _ b W hW (by omega) (fun x hx => Nat.le_trans (Hsb.out x hx) (by omega))
              have hXY : ofIn (u : Int) b = ofIn (t : Int) a := by rw [htu, hab]
              rw [hXY] at hib
              clear hXY hab htk hlab htu hacell hbcell
              generalize ofIn (t : Int) a = X at *
              have Hia := Lib.hid hia
              have Hib := Lib.hid hib
              clear hia hib
              go_wp2_with (first
                | (go_at_call 15; (with_reducible refine (Hia.out wr (Rd.below Hra.out hB)).mono ?_); rintro e w2 ⟨⟨vx, rfl, hox⟩, hw2⟩; have hB2 := hB.trans (hw2.mono hB.size); have hkt2 := blk_kept hkt hw2; have hc20 := blk_cell hkt2 0; have hc21 := blk_cell hkt2 1)
                | (go_at_call 15; (with_reducible refine (Hib.out w2 (Rd.below Hrb.out hB2)).mono ?_); rintro e w3 ⟨⟨vy, rfl, hoy⟩, hw3⟩; have hB3 := hB2.trans (hw3.mono hB2.size); have hkt3 := blk_kept hkt2 hw3; have hrx := own_rd (own_kept hox hw3); have hry := own_rd hoy; have hcx := RdB.conv hrx 31 9 5 Tryd.underlying31 Tryd.underlying5 Tryd.underlying9; have hcy := RdB.conv hry 31 9 5 Tryd.underlying31 Tryd.underlying5 Tryd.underlying9))
              go_ret
              exact ⟨rfl, hB3⟩
      · have hd1 : ((t : Int) = (u : Int)) = False := by simp; omega
        have H1 := Lib.hid h1
        clear h1
        go_wp2_with fail
        go_loopw [8, 9] (fun s8 i wr => ∃ (k : Nat) (s : Bool), k ≤ a.length ∧ i = .int .i64 (k : Int) ∧ s8 = .bool s ∧ (s = true → t = u ∧ a.length = b.length ∧ a.take k = b.take k) ∧ (s = false → ¬ (t = u ∧ a = b)) ∧ Blk wr w.heap.size #[.int .u8 (t : Int), .int .u8 (u : Int)] 30 ∧ Below w.heap.size w wr) (fun _ i _ => a.length - (intOf i).toNat)
        case atStart => exact ⟨0, false, by omega, rfl, rfl, (fun h => by cases h), (fun _ h2 => H1.out h2.1), hk1, hB1⟩
        case round =>
          clear hk1 hB1 hc0 hc1
          obtain ⟨k, s, hk, rfl, rfl, hst, hsf, hkt, hB⟩ := hrel
          have hc0 := blk_cell hkt 0
          have hc1 := blk_cell hkt 1
          by_cases h : k < a.length
          · cases s with
            | false =>
              have hdk : decide ((k : Int) < (a.length : Int)) = true := by simp; omega
              clear hst
              have hne : ¬ (t = u ∧ a = b) := hsf rfl
              have hXY : ofIn (t : Int) a ≠ ofIn (u : Int) b := fun h => hne (ofIn_inj t u a b HT.out HU.out (fun x hx => Nat.le_trans (Hsa.out x hx) (by omega)) (fun x hx => Nat.le_trans (Hsb.out x hx) (by omega)) h)
              have hia := fun W (hW : Rd mkS W (.slice pa a.length ca) a) => rinput_any (t : Int) _ a W hW (by omega) (fun x hx => Nat.le_trans (Hsa.out x hx) (by omega))
              have hib := fun W (hW : Rd mkS W (.slice pb b.length cb) b) => rinput_any (u : Int) _ b W hW (by omega) (fun x hx => Nat.le_trans (Hsb.out x hx) (by omega))
              have hofa := fun W (hW : Rd mkS W (.slice pa a.length ca) a) (h : TabC W) => of_any (t : Int) _ a W hW (by omega) (fun x hx => Nat.le_trans (Hsa.out x hx) (by omega)) h
              have hofb := fun W (hW : Rd mkS W (.slice pb b.length cb) b) (h : TabC W) => of_any (u : Int) _ b W hW (by omega) (fun x hx => Nat.le_trans (Hsb.out x hx) (by omega)) h
              have hla := ofIn_len (t : Int) a (fun x hx => Nat.le_trans (Hsa.out x hx) (by omega)) a.length (Nat.le_refl _)
              have hlb := ofIn_len (u : Int) b (fun x hx => Nat.le_trans (Hsb.out x hx) (by omega)) b.length (Nat.le_refl _)
              rw [List.take_length] at hla hlb
              clear hne hsf hacell hbcell
              generalize ofIn (t : Int) a = X at *
              generalize ofIn (u : Int) b = Y at *
              have hsx := fun v W (hW : RdB W v X) (h : TabC W) => hsum_any v X W hW (by omega) h
              have hsy := fun v W (hW : RdB W v Y) (h : TabC W) => hsum_any v Y W hW (by omega) h
              have hlx := sha_len X
              have hly := sha_len Y
              generalize sha X = D at *
              generalize sha Y = E at *
              have hXYb : (X == Y) = false := by simpa using hXY
              unfold bytesV at hofa hofb hsx hsy
              have hqd := eq_dig (D.take 16) (E.take 16) (by rw [List.length_take]; omega) (by rw [List.length_take]; omega)
              have hDc : ∀ (k : Nat) (x : UInt8), D[k]? = some x → (D.map mkB).toArray[k]? = some (mkB x) := fun k x hx => by rw [List.getElem?_toArray, List.getElem?_map, hx]; rfl
              have hEc : ∀ (k : Nat) (x : UInt8), E[k]? = some x → (E.map mkB).toArray[k]? = some (mkB x) := fun k x hx => by rw [List.getElem?_toArray, List.getElem?_map, hx]; rfl
              have p1 : ((D.take 16).map mkB).toArray.size = 16 := by simp; omega
              have p2 : ((E.take 16).map mkB).toArray.size = 16 := by simp; omega
              have p3 : (D.map mkB).toArray.size = 32 := by simp; omega
              have p4 : (E.map mkB).toArray.size = 32 := by simp; omega
              have o1 : Hid (((D.take 16).map mkB).toArray.all (·.oneCell') = true) := Lib.hid (one_cells _)
              have o2 : Hid (((E.take 16).map mkB).toArray.all (·.oneCell') = true) := Lib.hid (one_cells _)
              have o3 : Hid ((D.map mkB).toArray.all (·.oneCell') = true) := Lib.hid (one_cells _)
              have o4 : Hid ((E.map mkB).toArray.all (·.oneCell') = true) := Lib.hid (one_cells _)
              generalize ((D.take 16).map mkB).toArray = A1 at *
              generalize ((E.take 16).map mkB).toArray = A2 at *
              generalize (D.map mkB).toArray = A3 at *
              generalize (E.map mkB).toArray = A4 at *
              have i1 : Hid ((Tryd.prog.info? 26).map (·.size) = some A1.size) := Lib.hid (by rw [p1]; kernel_rfl)
              have i2 : Hid ((Tryd.prog.info? 26).map (·.size) = some A2.size) := Lib.hid (by rw [p2]; kernel_rfl)
              have i3 : Hid ((Tryd.prog.info? 33).map (·.size) = some A3.size) := Lib.hid (by rw [p3]; kernel_rfl)
              have i4 : Hid ((Tryd.prog.info? 33).map (·.size) = some A4.size) := Lib.hid (by rw [p4]; kernel_rfl)
              have z1 : Hid (16 = A1.size) := Lib.hid p1.symm
              have z2 : Hid (16 = A2.size) := Lib.hid p2.symm
              have z3 : Hid (32 = A3.size) := Lib.hid p3.symm
              have z4 : Hid (32 = A4.size) := Lib.hid p4.symm
              have Hia := Lib.hid hia
              have Hib := Lib.hid hib
              have Hofa := Lib.hid hofa
              have Hofb := Lib.hid hofb
              have Hsx := Lib.hid hsx
              have Hsy := Lib.hid hsy
              have HDc := Lib.hid hDc
              have HEc := Lib.hid hEc
              clear hia hib hofa hofb hsx hsy hDc hEc p1 p2 p3 p4 hla hlb hXY
              go_wp2_with (first
                | (go_at_call 15; (with_reducible refine (Hia.out wr (Rd.below Hra.out hB)).mono ?_); rintro e w2 ⟨⟨vx, rfl, hox⟩, hw2⟩; have hB2 := hB.trans (hw2.mono hB.size); have hkt2 := blk_kept hkt hw2; have hc20 := blk_cell hkt2 0; have hc21 := blk_cell hkt2 1)
                | (go_at_call 15; (with_reducible refine (Hib.out w2 (Rd.below Hrb.out hB2)).mono ?_); rintro e w3 ⟨⟨vy, rfl, hoy⟩, hw3⟩; have hB3 := hB2.trans (hw3.mono hB2.size); have hkt3 := blk_kept hkt2 hw3; have hrx := own_rd (own_kept hox hw3); have hry := own_rd hoy; have hc30 := blk_cell hkt3 0; have hc31 := blk_cell hkt3 1)
                | (go_at_call 13; (with_reducible refine (Hofa.out w3 (Rd.below Hra.out hB3) (hT.below hB3).c).mono ?_); rintro e w4 ⟨rfl, hw4⟩; have hB4 := hB3.trans (hw4.mono hB3.size); have hkt4 := blk_kept hkt3 hw4; have hrx4 := Rd.below hrx hw4; have hry4 := Rd.below hry hw4)
                | ((with_reducible refine wpList_store_row rfl 26 (.tmp 12) (.tmp 81) rfl w4.heap.size A1 rfl rfl 26 _ (heap_alloc_new _ _) i1.out ?_ o1.out ?_); exact z1.out; rw [World.setRow_alloc_new]; simp only [Act.put]; have hB5 := hB4.alloc hB4.size (.cells A1 26); have hkt5 := blk_alloc hkt4 (.cells A1 26); have hrx5 := Rd.below hrx4 (below_alloc1 w4 (.cells A1 26)); have hry5 := Rd.below hry4 (below_alloc1 w4 (.cells A1 26)); have hka5 := blk_new w4 A1 26; generalize w4.alloc (.cells A1 26) = w5 at *; have hc50 := blk_cell hkt5 0; have hc51 := blk_cell hkt5 1)
                | (go_at_call 13; (with_reducible refine (Hofb.out w5 (Rd.below Hrb.out hB5) (hT.below hB5).c).mono ?_); rintro e w6 ⟨rfl, hw6⟩; have hB6 := hB5.trans (hw6.mono hB5.size); have hrx6 := Rd.below hrx5 hw6; have hry6 := Rd.below hry5 hw6; have hka6 := blk_kept hka5 hw6)
                | ((with_reducible refine wpList_store_row rfl 26 (.tmp 13) (.tmp 86) rfl w6.heap.size A2 rfl rfl 26 _ (heap_alloc_new _ _) i2.out ?_ o2.out ?_); exact z2.out; rw [World.setRow_alloc_new]; simp only [Act.put]; have hB7 := hB6.alloc hB6.size (.cells A2 26); have hrx7 := Rd.below hrx6 (below_alloc1 w6 (.cells A2 26)); have hry7 := Rd.below hry6 (below_alloc1 w6 (.cells A2 26)); have hka7 := blk_alloc hka6 (.cells A2 26); have hkb7 := blk_new w6 A2 26; generalize w6.alloc (.cells A2 26) = w7 at *)
                | (go_at_call 16; (with_reducible refine (Hsx.out vx w7 hrx7 (hT.below hB7).c).mono ?_); rintro e w8 ⟨rfl, hw8⟩; have hB8 := hB7.trans (hw8.mono hB7.size); have hrx8 := Rd.below hrx7 hw8; have hry8 := Rd.below hry7 hw8; have hka8 := blk_kept hka7 hw8; have hkb8 := blk_kept hkb7 hw8)
                | ((with_reducible refine wpList_store_row rfl 33 (.tmp 14) (.tmp 88) rfl w8.heap.size A3 rfl rfl 33 _ (heap_alloc_new _ _) i3.out ?_ o3.out ?_); exact z3.out; rw [World.setRow_alloc_new]; simp only [Act.put]; have hB9 := hB8.alloc hB8.size (.cells A3 33); have hrx9 := Rd.below hrx8 (below_alloc1 w8 (.cells A3 33)); have hry9 := Rd.below hry8 (below_alloc1 w8 (.cells A3 33)); have hka9 := blk_alloc hka8 (.cells A3 33); have hkb9 := blk_alloc hkb8 (.cells A3 33); have hkc9 := blk_new w8 A3 33; generalize w8.alloc (.cells A3 33) = w9 at *)
                | (go_at_call 16; (with_reducible refine (Hsy.out vy w9 hry9 (hT.below hB9).c).mono ?_); rintro e w10 ⟨rfl, hw10⟩; have hB10 := hB9.trans (hw10.mono hB9.size); have hrx10 := Rd.below hrx9 hw10; have hry10 := Rd.below hry9 hw10; have hka10 := blk_kept hka9 hw10; have hkb10 := blk_kept hkb9 hw10; have hkc10 := blk_kept hkc9 hw10)
                | ((with_reducible refine wpList_store_row rfl 33 (.tmp 15) (.tmp 90) rfl w10.heap.size A4 rfl rfl 33 _ (heap_alloc_new _ _) i4.out ?_ o4.out ?_); exact z4.out; rw [World.setRow_alloc_new]; simp only [Act.put]; have hB11 := hB10.alloc hB10.size (.cells A4 33); have hrx11 := Rd.below hrx10 (below_alloc1 w10 (.cells A4 33)); have hry11 := Rd.below hry10 (below_alloc1 w10 (.cells A4 33)); have hka11 := blk_alloc hka10 (.cells A4 33); have hkb11 := blk_alloc hkb10 (.cells A4 33); have hkc11 := blk_alloc hkc10 (.cells A4 33); have hkd11 := blk_new w10 A4 33; generalize w10.alloc (.cells A4 33) = w11 at *))
              clear hkt3 hkt4 hkt5 hc50 hc51 hc30 hc31 hc20 hc21 hc0 hc1
              generalize w4.heap.size = N12 at *
              generalize w6.heap.size = N13 at *
              generalize w8.heap.size = N14 at *
              generalize w10.heap.size = N15 at *
              go_loopw [16, 17] (fun s16 i wr => ∃ (k : Nat) (s : Bool), k ≤ 16 ∧ i = .int .i64 (k : Int) ∧ s16 = .bool s ∧ (s = true ↔ D.take k = E.take k) ∧ RdB wr vx X ∧ RdB wr vy Y ∧ Blk wr N12 A1 26 ∧ Blk wr N13 A2 26 ∧ Blk wr N14 A3 33 ∧ Blk wr N15 A4 33 ∧ Below w.heap.size w wr) (fun _ i _ => 16 - (intOf i).toNat)
              case atStart => exact ⟨0, true, by omega, rfl, rfl, by simp, hrx11, hry11, hka11, hkb11, hkc11, hkd11, hB11⟩
              case round =>
                clear hrx11 hry11 hka11 hkb11 hkc11 hkd11
                obtain ⟨k, s, hk, rfl, rfl, hst, hrx, hry, hka, hkb, hkc, hkd, hB⟩ := hrel
                have hrxd : RdB wr.drew vx X := hrx
                have hryd : RdB wr.drew vy Y := hry
                have hkad : Blk wr.drew N12 A1 26 := hka
                have hkbd : Blk wr.drew N13 A2 26 := hkb
                have hkcd : Blk wr.drew N14 A3 33 := hkc
                have hkdd : Blk wr.drew N15 A4 33 := hkd
                have hBd := hB.drew
                by_cases h16 : k < 16
                · have hi0 : (0 : Int) ≤ (k : Int) := by omega
                  have hi1 : (k : Int) < 16 := by omega
                  have hi2 : (k : Int) < 32 := by omega
                  obtain ⟨x, hx⟩ : ∃ x, D[k]? = some x := ⟨_, List.getElem?_eq_getElem (by omega)⟩
                  obtain ⟨y, hy⟩ : ∃ y, E[k]? = some y := ⟨_, List.getElem?_eq_getElem (by omega)⟩
                  have hcx : wr.cell? ⟨N14, k, none⟩ = some (.int .u8 (x.toNat : Int)) := (blk_cell hkc k).trans (HDc.out k x hx)
                  have hcy : wr.cell? ⟨N15, k, none⟩ = some (.int .u8 (y.toNat : Int)) := (blk_cell hkd k).trans (HEc.out k y hy)
                  have hcx' : wr.drew.cell? ⟨N14, k, none⟩ = some (.int .u8 (x.toNat : Int)) := hcx
                  have hcy' : wr.drew.cell? ⟨N15, k, none⟩ = some (.int .u8 (y.toNat : Int)) := hcy
                  have hnx : D.take (k + 1) = E.take (k + 1) ↔ D.take k = E.take k ∧ (x.toNat : Int) = (y.toNat : Int) := by
                    rw [List.take_add_one, List.take_add_one, hx, hy]
                    have hl : (D.take k).length = (E.take k).length := by rw [List.length_take, List.length_take, hlx, hly]
                    constructor
                    · intro h
                      have h2 := List.append_inj h hl
                      refine ⟨h2.1, ?_⟩
                      have : x = y := by simpa using h2.2
                      rw [this]
                    · rintro ⟨h1, h2⟩
                      have h3 : x = y := UInt8.toNat_inj.1 (by omega)
                      rw [h1, h3]
                  have Hnx := Lib.hid hnx
                  have Hst := Lib.hid hst
                  clear hnx hst hx hy
                  cases s with
                  | true =>
                    go_wp2_with fail
                    go_region
                    go_wp2
                    go_roundw
                    case rel => exact ⟨k + 1, _, by omega, by go_num, rfl, ⟨fun h => Hnx.out.2 ⟨Hst.out.1 trivial, by simpa using h⟩, fun h => by simpa using (Hnx.out.1 h).2⟩, hrxd, hryd, hkad, hkbd, hkcd, hkdd, hBd⟩
                    case measure => simp [intOf]; omega
                  | false =>
                    go_wp2_with fail
                    go_region
                    go_wp2
                    go_roundw
                    case rel => exact ⟨k + 1, false, by omega, by go_num, rfl, ⟨(fun h => by cases h), fun h => Hst.out.2 (Hnx.out.1 h).1⟩, hrxd, hryd, hkad, hkbd, hkcd, hkdd, hBd⟩
                    case measure => simp [intOf]; omega
                · obtain rfl : k = 16 := by omega
                  have hs : s = (D.take 16 == E.take 16) := by
                    cases s with
                    | true => simpa using hst
                    | false => simpa using hst
                  subst hs
                  have hcx := RdB.conv hrx 31 9 5 Tryd.underlying31 Tryd.underlying5 Tryd.underlying9
                  have hcy := RdB.conv hry 31 9 5 Tryd.underlying31 Tryd.underlying5 Tryd.underlying9
                  clear hst
                  generalize (D.take 16 == E.take 16) = q at *
                  go_wp2_with (first
                    | (with_reducible refine wpList_load_row_g ?_ 26 (.tmp 12) rfl N12 rfl 26 _ _ _ hka Tryd.underlying26 rfl i1.out ?_; focus (first | rfl | (simp [Region.wanted, yielded]; done)))
                    | (with_reducible refine wpList_load_row_g ?_ 26 (.tmp 13) rfl N13 (by simp [Act.eval, Act.put]) 26 _ _ _ hkb Tryd.underlying26 rfl i2.out ?_; focus (first | rfl | (simp [Region.wanted, yielded, Act.put]; done))))
                  go_ret
                  exact ⟨rfl, hB⟩
            | true =>
              obtain ⟨htu, hlab, htk⟩ := hst rfl
              clear hst hsf
              rcases hacell with hnil | ⟨ba, offa, rfl, hbla, hacell⟩
              · subst hnil; simp at h
              · rcases hbcell with hnil | ⟨bb, offb, rfl, hblb, hbcell⟩
                · subst hnil; simp only [List.length_nil] at hlab; omega
                · obtain ⟨x, hx⟩ : ∃ x, a[k]? = some x := ⟨_, List.getElem?_eq_getElem h⟩
                  obtain ⟨y, hy⟩ : ∃ y, b[k]? = some y := ⟨_, List.getElem?_eq_getElem (by omega)⟩
                  have hcx : wr.cell? ⟨ba, offa + k, none⟩ = some (.string ⟨x.toArray⟩) := (hB.cell (p := ⟨ba, offa + k, none⟩) hbla).trans (hacell k x hx)
                  have hcy : wr.cell? ⟨bb, offb + k, none⟩ = some (.string ⟨y.toArray⟩) := (hB.cell (p := ⟨bb, offb + k, none⟩) hblb).trans (hbcell k y hy)
                  have hcx' : wr.drew.cell? ⟨ba, offa + k, none⟩ = some (.string ⟨x.toArray⟩) := hcx
                  have hcy' : wr.drew.cell? ⟨bb, offb + k, none⟩ = some (.string ⟨y.toArray⟩) := hcy
                  have hi0 : (0 : Int) ≤ (k : Int) := by omega
                  have hi1 : (k : Int) < (a.length : Int) := by omega
                  have hi2 : (k : Int) < (b.length : Int) := by omega
                  have htk1 : x = y → a.take (k + 1) = b.take (k + 1) := fun h => by rw [List.take_add_one, List.take_add_one, hx, hy, h, htk]
                  have hne1 : ¬ x = y → ¬ (t = u ∧ a = b) := fun h h2 => by
                    rw [h2.2] at hx
                    rw [hx] at hy
                    exact h (Option.some.inj hy)
                  have Htk := Lib.hid htk1
                  have Hne := Lib.hid hne1
                  have Hlab := Lib.hid hlab
                  have Htu := Lib.hid htu
                  clear htu htk1 hne1 hx hy hacell hbcell htk hlab
                  have hktd : Blk wr.drew w.heap.size #[.int .u8 (t : Int), .int .u8 (u : Int)] 30 := hkt
                  have hBd := hB.drew
                  go_wp2_with fail
                  go_region
                  go_wp2
                  go_roundw
                  case rel => exact ⟨k + 1, _, by omega, by go_num, rfl, fun h => ⟨Htu.out, Hlab.out, Htk.out (by simpa using h)⟩, fun h => Hne.out (by simpa using h), hktd, hBd⟩
                  case measure => simp [intOf]; omega
          · obtain rfl : k = a.length := by omega
            cases s with
            | false =>
              clear hst
              have hne : ¬ (t = u ∧ a = b) := hsf rfl
              have hXY : ofIn (t : Int) a ≠ ofIn (u : Int) b := fun h => hne (ofIn_inj t u a b HT.out HU.out (fun x hx => Nat.le_trans (Hsa.out x hx) (by omega)) (fun x hx => Nat.le_trans (Hsb.out x hx) (by omega)) h)
              have hia := fun W (hW : Rd mkS W (.slice pa a.length ca) a) => rinput_any (t : Int) _ a W hW (by omega) (fun x hx => Nat.le_trans (Hsa.out x hx) (by omega))
              have hib := fun W (hW : Rd mkS W (.slice pb b.length cb) b) => rinput_any (u : Int) _ b W hW (by omega) (fun x hx => Nat.le_trans (Hsb.out x hx) (by omega))
              have hofa := fun W (hW : Rd mkS W (.slice pa a.length ca) a) (h : TabC W) => of_any (t : Int) _ a W hW (by omega) (fun x hx => Nat.le_trans (Hsa.out x hx) (by omega)) h
              have hofb := fun W (hW : Rd mkS W (.slice pb b.length cb) b) (h : TabC W) => of_any (u : Int) _ b W hW (by omega) (fun x hx => Nat.le_trans (Hsb.out x hx) (by omega)) h
              have hla := ofIn_len (t : Int) a (fun x hx => Nat.le_trans (Hsa.out x hx) (by omega)) a.length (Nat.le_refl _)
              have hlb := ofIn_len (u : Int) b (fun x hx => Nat.le_trans (Hsb.out x hx) (by omega)) b.length (Nat.le_refl _)
              rw [List.take_length] at hla hlb
              clear hne hsf hacell hbcell
              generalize ofIn (t : Int) a = X at *
              generalize ofIn (u : Int) b = Y at *
              have hsx := fun v W (hW : RdB W v X) (h : TabC W) => hsum_any v X W hW (by omega) h
              have hsy := fun v W (hW : RdB W v Y) (h : TabC W) => hsum_any v Y W hW (by omega) h
              have hlx := sha_len X
              have hly := sha_len Y
              generalize sha X = D at *
              generalize sha Y = E at *
              have hXYb : (X == Y) = false := by simpa using hXY
              unfold bytesV at hofa hofb hsx hsy
              have hqd := eq_dig (D.take 16) (E.take 16) (by rw [List.length_take]; omega) (by rw [List.length_take]; omega)
              have hDc : ∀ (k : Nat) (x : UInt8), D[k]? = some x → (D.map mkB).toArray[k]? = some (mkB x) := fun k x hx => by rw [List.getElem?_toArray, List.getElem?_map, hx]; rfl
              have hEc : ∀ (k : Nat) (x : UInt8), E[k]? = some x → (E.map mkB).toArray[k]? = some (mkB x) := fun k x hx => by rw [List.getElem?_toArray, List.getElem?_map, hx]; rfl
              have p1 : ((D.take 16).map mkB).toArray.size = 16 := by simp; omega
              have p2 : ((E.take 16).map mkB).toArray.size = 16 := by simp; omega
              have p3 : (D.map mkB).toArray.size = 32 := by simp; omega
              have p4 : (E.map mkB).toArray.size = 32 := by simp; omega
              have o1 : Hid (((D.take 16).map mkB).toArray.all (·.oneCell') = true) := Lib.hid (one_cells _)
              have o2 : Hid (((E.take 16).map mkB).toArray.all (·.oneCell') = true) := Lib.hid (one_cells _)
              have o3 : Hid ((D.map mkB).toArray.all (·.oneCell') = true) := Lib.hid (one_cells _)
              have o4 : Hid ((E.map mkB).toArray.all (·.oneCell') = true) := Lib.hid (one_cells _)
              generalize ((D.take 16).map mkB).toArray = A1 at *
              generalize ((E.take 16).map mkB).toArray = A2 at *
              generalize (D.map mkB).toArray = A3 at *
              generalize (E.map mkB).toArray = A4 at *
              have i1 : Hid ((Tryd.prog.info? 26).map (·.size) = some A1.size) := Lib.hid (by rw [p1]; kernel_rfl)
              have i2 : Hid ((Tryd.prog.info? 26).map (·.size) = some A2.size) := Lib.hid (by rw [p2]; kernel_rfl)
              have i3 : Hid ((Tryd.prog.info? 33).map (·.size) = some A3.size) := Lib.hid (by rw [p3]; kernel_rfl)
              have i4 : Hid ((Tryd.prog.info? 33).map (·.size) = some A4.size) := Lib.hid (by rw [p4]; kernel_rfl)
              have z1 : Hid (16 = A1.size) := Lib.hid p1.symm
              have z2 : Hid (16 = A2.size) := Lib.hid p2.symm
              have z3 : Hid (32 = A3.size) := Lib.hid p3.symm
              have z4 : Hid (32 = A4.size) := Lib.hid p4.symm
              have Hia := Lib.hid hia
              have Hib := Lib.hid hib
              have Hofa := Lib.hid hofa
              have Hofb := Lib.hid hofb
              have Hsx := Lib.hid hsx
              have Hsy := Lib.hid hsy
              have HDc := Lib.hid hDc
              have HEc := Lib.hid hEc
              clear hia hib hofa hofb hsx hsy hDc hEc p1 p2 p3 p4 hla hlb hXY
              go_wp2_with (first
                | (go_at_call 15; (with_reducible refine (Hia.out wr (Rd.below Hra.out hB)).mono ?_); rintro e w2 ⟨⟨vx, rfl, hox⟩, hw2⟩; have hB2 := hB.trans (hw2.mono hB.size); have hkt2 := blk_kept hkt hw2; have hc20 := blk_cell hkt2 0; have hc21 := blk_cell hkt2 1)
                | (go_at_call 15; (with_reducible refine (Hib.out w2 (Rd.below Hrb.out hB2)).mono ?_); rintro e w3 ⟨⟨vy, rfl, hoy⟩, hw3⟩; have hB3 := hB2.trans (hw3.mono hB2.size); have hkt3 := blk_kept hkt2 hw3; have hrx := own_rd (own_kept hox hw3); have hry := own_rd hoy; have hc30 := blk_cell hkt3 0; have hc31 := blk_cell hkt3 1)
                | (go_at_call 13; (with_reducible refine (Hofa.out w3 (Rd.below Hra.out hB3) (hT.below hB3).c).mono ?_); rintro e w4 ⟨rfl, hw4⟩; have hB4 := hB3.trans (hw4.mono hB3.size); have hkt4 := blk_kept hkt3 hw4; have hrx4 := Rd.below hrx hw4; have hry4 := Rd.below hry hw4)
                | ((with_reducible refine wpList_store_row rfl 26 (.tmp 12) (.tmp 81) rfl w4.heap.size A1 rfl rfl 26 _ (heap_alloc_new _ _) i1.out ?_ o1.out ?_); exact z1.out; rw [World.setRow_alloc_new]; simp only [Act.put]; have hB5 := hB4.alloc hB4.size (.cells A1 26); have hkt5 := blk_alloc hkt4 (.cells A1 26); have hrx5 := Rd.below hrx4 (below_alloc1 w4 (.cells A1 26)); have hry5 := Rd.below hry4 (below_alloc1 w4 (.cells A1 26)); have hka5 := blk_new w4 A1 26; generalize w4.alloc (.cells A1 26) = w5 at *; have hc50 := blk_cell hkt5 0; have hc51 := blk_cell hkt5 1)
                | (go_at_call 13; (with_reducible refine (Hofb.out w5 (Rd.below Hrb.out hB5) (hT.below hB5).c).mono ?_); rintro e w6 ⟨rfl, hw6⟩; have hB6 := hB5.trans (hw6.mono hB5.size); have hrx6 := Rd.below hrx5 hw6; have hry6 := Rd.below hry5 hw6; have hka6 := blk_kept hka5 hw6)
                | ((with_reducible refine wpList_store_row rfl 26 (.tmp 13) (.tmp 86) rfl w6.heap.size A2 rfl rfl 26 _ (heap_alloc_new _ _) i2.out ?_ o2.out ?_); exact z2.out; rw [World.setRow_alloc_new]; simp only [Act.put]; have hB7 := hB6.alloc hB6.size (.cells A2 26); have hrx7 := Rd.below hrx6 (below_alloc1 w6 (.cells A2 26)); have hry7 := Rd.below hry6 (below_alloc1 w6 (.cells A2 26)); have hka7 := blk_alloc hka6 (.cells A2 26); have hkb7 := blk_new w6 A2 26; generalize w6.alloc (.cells A2 26) = w7 at *)
                | (go_at_call 16; (with_reducible refine (Hsx.out vx w7 hrx7 (hT.below hB7).c).mono ?_); rintro e w8 ⟨rfl, hw8⟩; have hB8 := hB7.trans (hw8.mono hB7.size); have hrx8 := Rd.below hrx7 hw8; have hry8 := Rd.below hry7 hw8; have hka8 := blk_kept hka7 hw8; have hkb8 := blk_kept hkb7 hw8)
                | ((with_reducible refine wpList_store_row rfl 33 (.tmp 14) (.tmp 88) rfl w8.heap.size A3 rfl rfl 33 _ (heap_alloc_new _ _) i3.out ?_ o3.out ?_); exact z3.out; rw [World.setRow_alloc_new]; simp only [Act.put]; have hB9 := hB8.alloc hB8.size (.cells A3 33); have hrx9 := Rd.below hrx8 (below_alloc1 w8 (.cells A3 33)); have hry9 := Rd.below hry8 (below_alloc1 w8 (.cells A3 33)); have hka9 := blk_alloc hka8 (.cells A3 33); have hkb9 := blk_alloc hkb8 (.cells A3 33); have hkc9 := blk_new w8 A3 33; generalize w8.alloc (.cells A3 33) = w9 at *)
                | (go_at_call 16; (with_reducible refine (Hsy.out vy w9 hry9 (hT.below hB9).c).mono ?_); rintro e w10 ⟨rfl, hw10⟩; have hB10 := hB9.trans (hw10.mono hB9.size); have hrx10 := Rd.below hrx9 hw10; have hry10 := Rd.below hry9 hw10; have hka10 := blk_kept hka9 hw10; have hkb10 := blk_kept hkb9 hw10; have hkc10 := blk_kept hkc9 hw10)
                | ((with_reducible refine wpList_store_row rfl 33 (.tmp 15) (.tmp 90) rfl w10.heap.size A4 rfl rfl 33 _ (heap_alloc_new _ _) i4.out ?_ o4.out ?_); exact z4.out; rw [World.setRow_alloc_new]; simp only [Act.put]; have hB11 := hB10.alloc hB10.size (.cells A4 33); have hrx11 := Rd.below hrx10 (below_alloc1 w10 (.cells A4 33)); have hry11 := Rd.below hry10 (below_alloc1 w10 (.cells A4 33)); have hka11 := blk_alloc hka10 (.cells A4 33); have hkb11 := blk_alloc hkb10 (.cells A4 33); have hkc11 := blk_alloc hkc10 (.cells A4 33); have hkd11 := blk_new w10 A4 33; generalize w10.alloc (.cells A4 33) = w11 at *))
              clear hkt3 hkt4 hkt5 hc50 hc51 hc30 hc31 hc20 hc21 hc0 hc1
              generalize w4.heap.size = N12 at *
              generalize w6.heap.size = N13 at *
              generalize w8.heap.size = N14 at *
              generalize w10.heap.size = N15 at *
              go_loopw [16, 17] (fun s16 i wr => ∃ (k : Nat) (s : Bool), k ≤ 16 ∧ i = .int .i64 (k : Int) ∧ s16 = .bool s ∧ (s = true ↔ D.take k = E.take k) ∧ RdB wr vx X ∧ RdB wr vy Y ∧ Blk wr N12 A1 26 ∧ Blk wr N13 A2 26 ∧ Blk wr N14 A3 33 ∧ Blk wr N15 A4 33 ∧ Below w.heap.size w wr) (fun _ i _ => 16 - (intOf i).toNat)
              case atStart => exact ⟨0, true, by omega, rfl, rfl, by simp, hrx11, hry11, hka11, hkb11, hkc11, hkd11, hB11⟩
              case round =>
                clear hrx11 hry11 hka11 hkb11 hkc11 hkd11
                obtain ⟨k, s, hk, rfl, rfl, hst, hrx, hry, hka, hkb, hkc, hkd, hB⟩ := hrel
                have hrxd : RdB wr.drew vx X := hrx
                have hryd : RdB wr.drew vy Y := hry
                have hkad : Blk wr.drew N12 A1 26 := hka
                have hkbd : Blk wr.drew N13 A2 26 := hkb
                have hkcd : Blk wr.drew N14 A3 33 := hkc
                have hkdd : Blk wr.drew N15 A4 33 := hkd
                have hBd := hB.drew
                by_cases h16 : k < 16
                · have hi0 : (0 : Int) ≤ (k : Int) := by omega
                  have hi1 : (k : Int) < 16 := by omega
                  have hi2 : (k : Int) < 32 := by omega
                  obtain ⟨x, hx⟩ : ∃ x, D[k]? = some x := ⟨_, List.getElem?_eq_getElem (by omega)⟩
                  obtain ⟨y, hy⟩ : ∃ y, E[k]? = some y := ⟨_, List.getElem?_eq_getElem (by omega)⟩
                  have hcx : wr.cell? ⟨N14, k, none⟩ = some (.int .u8 (x.toNat : Int)) := (blk_cell hkc k).trans (HDc.out k x hx)
                  have hcy : wr.cell? ⟨N15, k, none⟩ = some (.int .u8 (y.toNat : Int)) := (blk_cell hkd k).trans (HEc.out k y hy)
                  have hcx' : wr.drew.cell? ⟨N14, k, none⟩ = some (.int .u8 (x.toNat : Int)) := hcx
                  have hcy' : wr.drew.cell? ⟨N15, k, none⟩ = some (.int .u8 (y.toNat : Int)) := hcy
                  have hnx : D.take (k + 1) = E.take (k + 1) ↔ D.take k = E.take k ∧ (x.toNat : Int) = (y.toNat : Int) := by
                    rw [List.take_add_one, List.take_add_one, hx, hy]
                    have hl : (D.take k).length = (E.take k).length := by rw [List.length_take, List.length_take, hlx, hly]
                    constructor
                    · intro h
                      have h2 := List.append_inj h hl
                      refine ⟨h2.1, ?_⟩
                      have : x = y := by simpa using h2.2
                      rw [this]
                    · rintro ⟨h1, h2⟩
                      have h3 : x = y := UInt8.toNat_inj.1 (by omega)
                      rw [h1, h3]
                  have Hnx := Lib.hid hnx
                  have Hst := Lib.hid hst
                  clear hnx hst hx hy
                  cases s with
                  | true =>
                    go_wp2_with fail
                    go_region
                    go_wp2
                    go_roundw
                    case rel => exact ⟨k + 1, _, by omega, by go_num, rfl, ⟨fun h => Hnx.out.2 ⟨Hst.out.1 trivial, by simpa using h⟩, fun h => by simpa using (Hnx.out.1 h).2⟩, hrxd, hryd, hkad, hkbd, hkcd, hkdd, hBd⟩
                    case measure => simp [intOf]; omega
                  | false =>
                    go_wp2_with fail
                    go_region
                    go_wp2
                    go_roundw
                    case rel => exact ⟨k + 1, false, by omega, by go_num, rfl, ⟨(fun h => by cases h), fun h => Hst.out.2 (Hnx.out.1 h).1⟩, hrxd, hryd, hkad, hkbd, hkcd, hkdd, hBd⟩
                    case measure => simp [intOf]; omega
                · obtain rfl : k = 16 := by omega
                  have hs : s = (D.take 16 == E.take 16) := by
                    cases s with
                    | true => simpa using hst
                    | false => simpa using hst
                  subst hs
                  have hcx := RdB.conv hrx 31 9 5 Tryd.underlying31 Tryd.underlying5 Tryd.underlying9
                  have hcy := RdB.conv hry 31 9 5 Tryd.underlying31 Tryd.underlying5 Tryd.underlying9
                  clear hst
                  generalize (D.take 16 == E.take 16) = q at *
                  go_wp2_with (first
                    | (with_reducible refine wpList_load_row_g ?_ 26 (.tmp 12) rfl N12 rfl 26 _ _ _ hka Tryd.underlying26 rfl i1.out ?_; focus (first | rfl | (simp [Region.wanted, yielded]; done)))
                    | (with_reducible refine wpList_load_row_g ?_ 26 (.tmp 13) rfl N13 (by simp [Act.eval, Act.put]) 26 _ _ _ hkb Tryd.underlying26 rfl i2.out ?_; focus (first | rfl | (simp [Region.wanted, yielded, Act.put]; done))))
                  go_ret
                  exact ⟨rfl, hB⟩
            | true =>
              obtain ⟨htu, hlab, htk⟩ := hst rfl
              clear hst hsf
              have hab : a = b := by
                rw [List.take_length, hlab, List.take_length] at htk
                exact htk
              have hia := fun W (hW : Rd mkS W (.slice pa a.length ca) a) => rinput_any (t : Int) _ a W hW (by omega) (fun x hx => Nat.le_trans (Hsa.out x hx) (by omega))
              have hib := fun W (hW : Rd mkS W (.slice pb b.length cb) b) => rinput_any (u : Int) _ b W hW (by omega) (fun x hx => Nat.le_trans (Hsb.out x hx) (by omega))
              have hXY : ofIn (u : Int) b = ofIn (t : Int) a := by rw [htu, hab]
              rw [hXY] at hib
              clear hXY hab htk hlab htu hacell hbcell
              generalize ofIn (t : Int) a = X at *
              have Hia := Lib.hid hia
              have Hib := Lib.hid hib
              clear hia hib
              go_wp2_with (first
                | (go_at_call 15; (with_reducible refine (Hia.out wr (Rd.below Hra.out hB)).mono ?_); rintro e w2 ⟨⟨vx, rfl, hox⟩, hw2⟩; have hB2 := hB.trans (hw2.mono hB.size); have hkt2 := blk_kept hkt hw2; have hc20 := blk_cell hkt2 0; have hc21 := blk_cell hkt2 1)
                | (go_at_call 15; (with_reducible refine (Hib.out w2 (Rd.below Hrb.out hB2)).mono ?_); rintro e w3 ⟨⟨vy, rfl, hoy⟩, hw3⟩; have hB3 := hB2.trans (hw3.mono hB2.size); have hkt3 := blk_kept hkt2 hw3; have hrx := own_rd (own_kept hox hw3); have hry := own_rd hoy; have hcx := RdB.conv hrx 31 9 5 Tryd.underlying31 Tryd.underlying5 Tryd.underlying9; have hcy := RdB.conv hry 31 9 5 Tryd.underlying31 Tryd.underlying5 Tryd.underlying9))
              go_ret
              exact ⟨rfl, hB3⟩
end Go.Proofs.YtbgieephehfgpabDoor
