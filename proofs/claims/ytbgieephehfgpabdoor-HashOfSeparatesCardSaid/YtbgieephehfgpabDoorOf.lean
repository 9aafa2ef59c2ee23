/-
  What the program's hash.Of returns: the first 16 bytes of the hash of the tag's byte and the parts' bytes. Conditions: at most 10^6 parts of at most 10^4 bytes, the tables are as the program's text lays them.
-/
import Derived.Test.YtbgieephehfgpabDoorWire
import Derived.StillTailTactics
namespace Go.Proofs.YtbgieephehfgpabDoor
open Go Go.RowKit Sha Wire
def mkS (l : List UInt8) : Value := .string ⟨l.toArray⟩
def Sha.tagB (tag : Int) : UInt8 := UInt8.ofNat (tag % 256).toNat
def Sha.ofIn (tag : Int) (ps : List (List UInt8)) : List UInt8 := tagB tag :: ps.flatMap bytesB
theorem tagB_go (tag : Int) : ((Sha.tagB tag).toNat : Int) = tag % 256 := by
  unfold Sha.tagB
  rw [UInt8.toNat_ofNat']
  omega
theorem run_storeCells_list {P : Program} (W : World) (g : Nat) (t : TypeId) (old : Array Value) (l : List Value) (h : W.heap[g]? = some (.cells old t (0, 0))) (hs : old.size = l.toArray.size) (h1 : l.toArray.all (·.oneCell') = true) :
    (storeCells ⟨g, 0, none⟩ l).run P W = .ok () (W.setRow g l.toArray) := run_storeCells_whole W g t old l.toArray h hs h1
theorem rep_agg {m : List UInt8} {v : Value} (h : Rep m v) : ∃ C : Array Value, v = .agg C ∧ C.size = 73 ∧ C.all (·.oneCell') = true := by
  obtain ⟨blk, hbl, rfl, _⟩ := h
  exact ⟨_, rfl, by rw [List.size_toArray, sL_len _ _ _ hbl], sL_one _ _ _⟩
theorem heap_alloc_at (w : World) (o : Obj) (b : Nat) (h : b = w.heap.size) : (w.alloc o).heap[b]? = some o := by rw [h]; exact heap_alloc_new w o
theorem size_drew (w : World) : w.drew.heap.size = w.heap.size := rfl
theorem below_al {B : Nat} {a W : World} (h : Below B a W) (o : Obj) (hB : B ≤ a.heap.size := by exact Nat.le_refl _) : Below B a (W.alloc o) := h.alloc (Nat.le_trans hB h.size) o
theorem below_dr {B : Nat} {a W : World} (h : Below B a W) : Below B a W.drew := h.drew
theorem rep_size {m : List UInt8} {C : Array Value} (h : Rep m (.agg C)) : C.size = 73 := by
  obtain ⟨C', he, h1, _⟩ := rep_agg h
  cases he
  exact h1
theorem rep_one {m : List UInt8} {C : Array Value} (h : Rep m (.agg C)) : C.all (·.oneCell') = true := by
  obtain ⟨C', he, _, h1⟩ := rep_agg h
  cases he
  exact h1
theorem rangeAt_of {w : World} {b : Nat} {D : Array Value} {t : TypeId} {l : List Value} (h : Blk w b D t) (hl : ∀ (j : Nat) (v : Value), l[j]? = some v → D[j]? = some v) : w.rangeAt b 0 l := fun j v hv => by rw [Nat.zero_add, blk_cell h]; exact hl j v hv
theorem there_of {w : World} {b : Nat} {D : Array Value} {t : TypeId} {n : Nat} (h : Blk w b D t) (hn : n ≤ D.size) : w.there b 0 n := fun j hj => by
  rw [Nat.zero_add, blk_cell h, Array.getElem?_eq_getElem (by omega)]
  exact ⟨rfl, blk_free h j⟩
theorem blk_setCells_at {b : Nat} {t : TypeId} (vs : List Value) : ∀ (o : Nat) (w : World) (cs : Array Value), Blk w b cs t → o + vs.length ≤ cs.size → ∃ cs' : Array Value, Blk (w.setCells b o vs) b cs' t ∧ cs'.toList = cs.toList.take o ++ vs ++ cs.toList.drop (o + vs.length) := by
  induction vs with
  | nil => intro o w cs h _; exact ⟨cs, h, by simp⟩
  | cons v r ih =>
    intro o w cs h ho
    have h1 := blk_set h o v
    obtain ⟨cs', h2, h3⟩ := ih (o + 1) _ _ h1 (by simp at ho ⊢; omega)
    refine ⟨cs', h2, ?_⟩
    rw [h3, Array.toList_setIfInBounds]
    have hlt : o < cs.toList.length := by simp at ho ⊢; omega
    rw [List.take_succ_eq_append_getElem (by rw [List.length_set]; exact hlt), List.getElem_set_self, List.take_set_of_le (Nat.le_refl _)]
    rw [List.drop_set_of_lt (by omega)]
    simp [Nat.add_comm, Nat.add_left_comm]
theorem blk_setCells {w : World} {b : Nat} {cs : Array Value} {t : TypeId} (h : Blk w b cs t) (vs : List Value) (hl : vs.length = cs.size) : Blk (w.setCells b 0 vs) b vs.toArray t := by
  obtain ⟨cs', h1, h2⟩ := blk_setCells_at vs 0 w cs h (by omega)
  have e : cs' = vs.toArray := by
    apply Array.ext'
    rw [h2]
    simp [List.drop_of_length_le, hl]
  rw [← e]; exact h1
theorem heap_setCells_far (b b' : Nat) (hne : b' ≠ b) (vs : List Value) : ∀ (o : Nat) (w : World), (w.setCells b o vs).heap[b']? = w.heap[b']? := by
  induction vs with
  | nil => intro o w; rfl
  | cons v r ih =>
    intro o w
    rw [World.setCells, ih]
    exact Below.heap_setCell _ _ _ _ hne
theorem below_setCells {B : Nat} {a : World} {g : Nat} (hg : B ≤ g) (vs : List Value) : ∀ (o : Nat) (w : World), Below B a w → Below B a (w.setCells g o vs) := by
  induction vs with
  | nil => intro o w h; exact h
  | cons v r ih => intro o w h; exact ih _ _ (h.setCell hg v)
theorem rep_list {m : List UInt8} {v : Value} (h : Rep m v) : ∃ L : List Value, v = .agg L.toArray ∧ L.length = 73 ∧ ∀ u ∈ L, u.oneCell' = true := by
  obtain ⟨blk, hbl, rfl, _⟩ := h
  refine ⟨_, rfl, sL_len _ _ _ hbl, ?_⟩
  have h1 := sL_one (hb m (m.length / 64)) blk m.length
  rw [List.all_toArray, List.all_eq_true] at h1
  exact h1
/-- the load of a whole row ahead of a region's forced end -/
theorem wpStill_load_row {P : Program} {ops : Array Oper} {rest : List Oper} {o : Oper} {a : Act} {w : World} {Q : Act → Prop} (hgd : o.guard = none) (ty : TypeId) (x : Operand) (ho : o.op = .load ty x)
    (g : Nat) (hx : a.eval x = .pointer (some ⟨g, 0, none⟩)) (t : TypeId) (cs : Array Value) (fr : Nat × Nat) (d : TypeDesc) (hg : w.heap[g]? = some (.cells cs t fr))
    (hu : P.underlying ty = some d) (hd : (match d with | .struct _ | .array _ _ => true | _ => false) = true) (hi : (P.info? ty).map (·.size) = some cs.size)
    (h : wpStill P ops w Q rest (a.put o.dst (.agg cs))) : wpStill P ops w Q (o :: rest) a := by
  refine wpStill_step (fun K hK => ?_)
  have hwt : Region.wanted o (yielded ops a.tmps) = true := by simp [Region.wanted, hgd]
  rw [if_pos hwt]
  unfold Oper.still execOp
  simp only [ho, hx, Instr.loadAt, Instr.sureAddr, Sem.run_bind, Sem.run_pure, Result.andThen_ok, run_loadVar_row w g t ty cs fr d hg hu hd hi]
  rw [Oper.stillUpon_value]
  exact hK _ h
theorem ofIn_step (tag : Int) (l : List (List UInt8)) (x : List UInt8) : ofIn tag (l ++ [x]) = ofIn tag l ++ bytesB x := by simp [ofIn]
theorem ofIn_len (tag : Int) (ps : List (List UInt8)) (hs : ∀ l ∈ ps, l.length ≤ 10000) : ∀ k, k ≤ ps.length → (ofIn tag (ps.take k)).length ≤ 1 + 20000 * k := by
  intro k
  induction k with
  | zero => intro _; simp [ofIn]
  | succ k ih =>
    intro hk
    have h1 := ih (by omega)
    have hx : ps[k]? = some ps[k] := List.getElem?_eq_getElem (by omega)
    have h2 := hs _ (List.mem_of_getElem? hx)
    have h3 := intB_len (ps[k]).length
    have e : ofIn tag (ps.take k ++ [ps[k]]) = ofIn tag (ps.take k) ++ bytesB ps[k] := ofIn_step _ _ _
    have e2 : ps.take (k + 1) = ps.take k ++ [ps[k]] := List.take_succ_eq_append_getElem (by omega)
    rw [e2, e, List.length_append]
    unfold bytesB
    rw [List.length_append]
    omega
set_option maxRecDepth 100000 in
set_option maxHeartbeats 4000000 in
theorem of_any (tag : Int) (v : Value) (ps : List (List UInt8)) (w : World) (hr : Rd mkS w v ps) (hn : ps.length ≤ 1000) (hs : ∀ l ∈ ps, l.length ≤ 10000) (hT : TabC w) :
    Calls Tryd.prog 13 #[.int .i64 tag, v] w fun e w' => e = .returned (bytesV ((sha (ofIn tag ps)).take 16)) ∧ Below w.heap.size w w' := by
  have htg := tagB_go tag
  obtain ⟨va, vcap, rfl, hvc, hvcell⟩ := hr
  go_enter Tryd.func13, Tryd.ntmps13
  go_wp2_with fail
  have hcv : ∀ (W : World) (g : Nat), W.heap[g]? = some (.cells #[.int .u8 (IntKind.u8.wrap tag)] 5 (0, 0)) → (convert 31 9 (.slice (some ⟨g, 0, none⟩) 1 1)).run Tryd.prog W = .ok (.string ⟨[Sha.tagB tag].toArray⟩) W := by
    intro W g hg
    refine RdB.conv (l := [Sha.tagB tag]) ⟨_, 1, rfl, Nat.le_refl _, .inr ⟨g, 0, rfl, blk_lt hg, ?_⟩⟩ _ _ 5 Tryd.underlying31 Tryd.underlying5 Tryd.underlying9
    intro i x hx
    match i, hx with
    | 0, hx => simp at hx; subst hx; rw [blk_cell hg]; simp [mkB, htg, IntKind.wrap_u8]
  have Hcv := Lib.hid hcv
  clear hcv
  have hl1 : ([] : List UInt8).length + (⟨[Sha.tagB tag].toArray⟩ : ByteArray).size ≤ 1000000000000 := by simp [ByteArray.size]
  change Code.wp _ _ _ _ (w.alloc (.cells (List.replicate 16 (Value.int .u8 0)).toArray 26))
  have hz0 : Blk (w.alloc (.cells (List.replicate 16 (Value.int .u8 0)).toArray 26)).drew w.heap.size (List.replicate 16 (Value.int .u8 0)).toArray 26 := blk_new w _ _
  have hw0 : Below w.heap.size w (w.alloc (.cells (List.replicate 16 (Value.int .u8 0)).toArray 26)).drew := ((Below.refl _ _).alloc (Nat.le_refl _) _).drew
  have hz00 : Blk (w.alloc (.cells (List.replicate 16 (Value.int .u8 0)).toArray 26)) w.heap.size (List.replicate 16 (Value.int .u8 0)).toArray 26 := blk_new w _ _
  have hw00 : Below w.heap.size w (w.alloc (.cells (List.replicate 16 (Value.int .u8 0)).toArray 26)) := (Below.refl _ _).alloc (Nat.le_refl _) _
  have hsz0 : w.heap.size + 1 ≤ (w.alloc (.cells (List.replicate 16 (Value.int .u8 0)).toArray 26)).heap.size := by simp
  generalize w.alloc (.cells (List.replicate 16 (Value.int .u8 0)).toArray 26) = wx at *
  go_cut [5] (fun s5 wx => ∃ (b5 : Nat) (L : List Value), s5 = .pointer (some ⟨b5, 0, none⟩) ∧ w.heap.size + 1 ≤ b5 ∧ Rep [Sha.tagB tag] (.agg L.toArray) ∧ Blk wx b5 L.toArray 70 ∧ Blk wx w.heap.size (List.replicate 16 (Value.int .u8 0)).toArray 26 ∧ Below w.heap.size w wx)
  case first =>
    go_region_with (first
      | (go_at_call 38; ((with_reducible refine (begin2_any _).mono ?_); rintro e w1 ⟨⟨v1, hv1, rfl⟩, hw1⟩))
      | (go_at_call 39; ((with_reducible refine (sadd_any [] v1 ⟨[Sha.tagB tag].toArray⟩ _ hv1 hl1 (hT.below (by (with_reducible repeat (first | exact hw0 | exact hw00 | (refine below_then ?_ hw2) | (refine below_then ?_ hw1) | (refine below_dr ?_) | (refine below_al ?_ _)))))).mono ?_); rintro e w2 ⟨⟨v2, hv2, rfl⟩, hw2⟩; obtain ⟨C2, rfl, hC2, hC21⟩ := rep_agg hv2; have hz73 : zcStream.size = C2.size := hC2.symm))
      | (rw [Hcv.out]; rotate_left; focus (with_reducible repeat (first | assumption | (refine blk_kept ?_ hw2) | (refine blk_kept ?_ hw1) | (refine blk_drew ?_) | exact heap_alloc_at _ _ _ (by simp only [World.size_alloc]) | (refine blk_alloc ?_ _))))
      | (rw [run_storeCells_whole _ _ 70 zcStream C2 ?_ hz73 hC21]; rotate_left; focus (with_reducible repeat (first | assumption | (refine blk_kept ?_ hw2) | (refine blk_kept ?_ hw1) | (refine blk_drew ?_) | exact heap_alloc_at _ _ _ (by simp only [World.size_alloc]) | (refine blk_alloc ?_ _)))))
    all_goals
      have hz1 := hw1.size
      have hz2 := hw2.size
      simp only [World.size_alloc, size_drew] at hz1 hz2
      go_wp2_with fail
      go_meet
      refine ⟨_, C2.toList, rfl, by omega, hv2, blk_setRow (old := zcStream) (t := 70) (fr := (0, 0)) ?_ C2, blk_setRow_far (x := .cells (List.replicate 16 (Value.int .u8 0)).toArray 26 (0, 0)) ?_ _ (by omega) C2, below_setRow ?_ (by omega) C2⟩
      · (with_reducible repeat (first | assumption | (refine blk_kept ?_ hw2) | (refine blk_kept ?_ hw1) | (refine blk_drew ?_) | exact heap_alloc_at _ _ _ (by simp only [World.size_alloc]) | (refine blk_alloc ?_ _)))
      · (with_reducible repeat (first | assumption | (refine blk_kept ?_ hw2) | (refine blk_kept ?_ hw1) | (refine blk_drew ?_) | exact heap_alloc_at _ _ _ (by simp only [World.size_alloc]) | (refine blk_alloc ?_ _)))
      · (with_reducible repeat (first | exact hw0 | exact hw00 | (refine below_then ?_ hw2) | (refine below_then ?_ hw1) | (refine below_dr ?_) | (refine below_al ?_ _)))
  case rest =>
    obtain ⟨b5, L0, rfl, hb5, hC, hk5, hk4, hB⟩ := hcut
    clear Hcv hl1 htg
    have hsum : ∀ k, k ≤ ps.length → (ofIn tag (ps.take k)).length ≤ 1 + 20000 * k := ofIn_len tag ps hs
    go_wp2_with fail
    go_loopw [7, 17] (fun _ i wr => ∃ (k : Nat) (L : List Value), k ≤ ps.length ∧ i = .int .i64 (k : Int) ∧ Rep (ofIn tag (ps.take k)) (.agg L.toArray) ∧ Blk wr b5 L.toArray 70 ∧ Blk wr w.heap.size (List.replicate 16 (Value.int .u8 0)).toArray 26 ∧ Below w.heap.size w wr) (fun _ i _ => ps.length - (intOf i).toNat)
    case atStart => exact ⟨0, L0, by omega, rfl, hC, hk5, hk4, hB⟩
    case round =>
      clear hC hk5 hk4 hB
      obtain ⟨k, L, hk, rfl, hC, hk5, hk4, hB⟩ := hrel
      by_cases hlt : k < ps.length
      · rcases hvcell with hnil | ⟨b, off, rfl, hbl, hcell⟩
        · subst hnil; simp at hlt
        · obtain ⟨x, hx⟩ : ∃ x, ps[k]? = some x := ⟨_, List.getElem?_eq_getElem hlt⟩
          have hxs := hs x (List.mem_of_getElem? hx)
          have hcx : wr.cell? ⟨b, off + k, none⟩ = some (.string ⟨x.toArray⟩) := (hB.cell (p := ⟨b, off + k, none⟩) hbl).trans (hcell k x hx)
          have hnext : ofIn tag (ps.take (k + 1)) = ofIn tag (ps.take k) ++ bytesB x := by
            rw [List.take_succ_eq_append_getElem hlt]; rw [List.getElem?_eq_getElem hlt] at hx; cases hx; exact ofIn_step _ _ _
          have hlen := hsum k hk
          obtain ⟨L', hL', hl73, hone⟩ := rep_list hC
          obtain rfl : L' = L := by
            have := Value.agg.inj hL'
            simpa using this.symm
          have hmax : (ofIn tag (ps.take k)).length + (⟨(bytesB x).toArray⟩ : ByteArray).size ≤ 1000000000000 := by
            have := intB_len x.length
            simp [ByteArray.size, bytesB]; omega
          have hwb := fun W => wbytes_any x W (by omega)
          have hadd := fun W (hTW : TabC W) => sadd_any (ofIn tag (ps.take k)) (.agg L'.toArray) ⟨(bytesB x).toArray⟩ W hC hmax hTW
          have hbt : (⟨(bytesB x).toArray⟩ : ByteArray).data.toList = bytesB x := rfl
          rw [hbt, ← hnext] at hadd
          have hcv : ∀ W v, RdB W v (bytesB x) → (convert 31 9 v).run Tryd.prog W = .ok (.string ⟨(bytesB x).toArray⟩) W := fun W v h => RdB.conv h _ _ 5 Tryd.underlying31 Tryd.underlying5 Tryd.underlying9
          have hi : (Tryd.prog.info? 70).map (·.size) = some L'.length := by rw [hl73]; kernel_rfl
          have hu := Tryd.underlying70
          have Hadd := Lib.hid hadd
          have Hcv := Lib.hid hcv
          have Hwb := Lib.hid hwb
          have HC := Lib.hid hC
          clear hnext hbt hx hlen hsum hcell hmax hadd hL' hcv hwb hxs hC
          generalize bytesB x = bx at *
          go_wp2_with fail
          have hiA : (Tryd.prog.info? 70).map (·.size) = some L'.toArray.size := by rw [List.size_toArray]; exact hi
          have hk5d : wr.drew.heap[b5]? = some (.cells L'.toArray 70 (0, 0)) := hk5
          have hBd := hB.drew
          have hk4d : wr.drew.heap[w.heap.size]? = some (.cells (List.replicate 16 (Value.int .u8 0)).toArray 26 (0, 0)) := hk4
          refine wp_region_any (by kernel_rfl) ?_
          change wpAny _ _ _ _ _ _ _ wr.drew
          clear hk5 hk4 hB
          generalize wr.drew = wd at *
          refine wpAny_take (i := 1) (v := .string ⟨x.toArray⟩) rfl (by kernel_rfl) (by kernel_rfl) (by kernel_rfl) (fun _ _ _ h => h) (Or.inl ⟨by rfl, fun w => by rfl⟩) ?_
          simp only [Act.put]
          refine wpAny_ready (rs := [0, 2]) (by kernel_rfl) (by simp) (AllReady.cons rfl (fun K hK => ?_) (AllReady.cons rfl (fun K hK => ?_) AllReady.nil))
          · rw [if_pos (by rfl)]
            with_reducible refine wp_load_row 70 (.tmp 5) rfl b5 rfl 70 _ _ _ hk5d hu rfl hiA ?_
            refine hK _ _ ?_
            clear hK K
            simp only [Act.put]
            refine wpAny_ready (rs := [2]) (by kernel_rfl) (by simp) (AllReady.cons rfl (fun K hK => ?_) AllReady.nil)
            rw [if_pos (by rfl)]
            go_simp
            go_at_call 50
            with_reducible refine (Hwb.out wd).mono ?_
            rintro e w1 ⟨⟨v1, rfl, hown1⟩, hw1⟩
            have hcv1 := Hcv.out w1 v1 (own_rd hown1)
            clear hown1
            have hB1 := hBd.trans (hw1.mono hBd.size)
            have hk1 := blk_kept hk5d hw1
            have hl1 := blk_kept hk4d hw1
            dsimp only
            refine hK _ _ ?_
            clear hK K
            refine wpAny_ready (rs := [3]) (by kernel_rfl) (by simp) (AllReady.cons rfl (fun K hK => ?_) AllReady.nil)
            rw [if_pos (by rfl)]
            go_simp
            refine hK _ _ ?_
            clear hK K
            refine wpAny_ready (rs := [4]) (by kernel_rfl) (by simp) (AllReady.cons rfl (fun K hK => ?_) AllReady.nil)
            rw [if_pos (by rfl)]
            go_simp
            go_at_call 39
            with_reducible refine (Hadd.out w1 (hT.below hB1)).mono ?_
            rintro e w2 ⟨⟨v2, hv2, rfl⟩, hw2⟩
            have hB2 := hB1.trans (hw2.mono hB1.size)
            have hk2 := blk_kept hk1 hw2
            have hl2 := blk_kept hl1 hw2
            obtain ⟨L2, rfl, hl73b, hone2⟩ := rep_list hv2
            have hiB : Hid ((Tryd.prog.info? 70).map (·.size) = some L2.toArray.size) := Lib.hid (by rw [List.size_toArray, hl73b]; kernel_rfl)
            have hzB : Hid (L'.toArray.size = L2.toArray.size) := Lib.hid (by rw [List.size_toArray, List.size_toArray, hl73b, hl73])
            have hoB : Hid (L2.toArray.all (·.oneCell') = true) := Lib.hid (all_oneCell_toArray hone2)
            dsimp only
            refine hK _ _ ?_
            clear hK K
            refine wpAny_ready (rs := [5]) (by kernel_rfl) (by simp) (AllReady.cons rfl (fun K hK => ?_) AllReady.nil)
            rw [if_pos (by rfl)]
            with_reducible refine wp_store_row 70 (.tmp 5) (.tmp 25) rfl b5 L2.toArray rfl rfl 70 _ hk2 hiB.out hzB.out hoB.out ?_
            refine hK _ _ ?_
            clear hK K
            refine wpAny_done (by kernel_rfl) ?_ _
            have hk3 := blk_setRow hk2 L2.toArray
            have hl3 := blk_setRow_far hl2 b5 (by omega) L2.toArray
            have hB3 := below_setRow hB2 (show w.heap.size ≤ b5 by omega) L2.toArray
            generalize w2.setRow b5 L2.toArray = w3 at *
            simp only [Act.put]
            clear hiA hl73 hone hi hu hk5d hBd hk4d hcv1 hB1 hk1 hl1 hw1 hw2 hB2 hk2 hl2 hl73b hone2 hiB hzB hoB
            go_wp2
            go_roundw
            case rel => exact ⟨k + 1, L2, by omega, by go_num, hv2, hk3, hl3, hB3⟩
            case measure => simp [intOf]; omega
          · rw [if_pos (by rfl)]
            go_simp
            go_at_call 50
            with_reducible refine (Hwb.out wd).mono ?_
            rintro e w1 ⟨⟨v1, rfl, hown1⟩, hw1⟩
            have hcv1 := Hcv.out w1 v1 (own_rd hown1)
            clear hown1
            have hB1 := hBd.trans (hw1.mono hBd.size)
            have hk1 := blk_kept hk5d hw1
            have hl1 := blk_kept hk4d hw1
            dsimp only
            refine hK _ _ ?_
            clear hK K
            refine wpAny_ready (rs := [0, 3]) (by kernel_rfl) (by simp) (AllReady.cons rfl (fun K hK => ?_) (AllReady.cons rfl (fun K hK => ?_) AllReady.nil))
            · rw [if_pos (by rfl)]
              with_reducible refine wp_load_row 70 (.tmp 5) rfl b5 rfl 70 _ _ _ hk1 hu rfl hiA ?_
              refine hK _ _ ?_
              clear hK K
              simp only [Act.put]
              refine wpAny_ready (rs := [3]) (by kernel_rfl) (by simp) (AllReady.cons rfl (fun K hK => ?_) AllReady.nil)
              rw [if_pos (by rfl)]
              go_simp
              refine hK _ _ ?_
              clear hK K
              refine wpAny_ready (rs := [4]) (by kernel_rfl) (by simp) (AllReady.cons rfl (fun K hK => ?_) AllReady.nil)
              rw [if_pos (by rfl)]
              go_simp
              go_at_call 39
              with_reducible refine (Hadd.out w1 (hT.below hB1)).mono ?_
              rintro e w2 ⟨⟨v2, hv2, rfl⟩, hw2⟩
              have hB2 := hB1.trans (hw2.mono hB1.size)
              have hk2 := blk_kept hk1 hw2
              have hl2 := blk_kept hl1 hw2
              obtain ⟨L2, rfl, hl73b, hone2⟩ := rep_list hv2
              have hiB : Hid ((Tryd.prog.info? 70).map (·.size) = some L2.toArray.size) := Lib.hid (by rw [List.size_toArray, hl73b]; kernel_rfl)
              have hzB : Hid (L'.toArray.size = L2.toArray.size) := Lib.hid (by rw [List.size_toArray, List.size_toArray, hl73b, hl73])
              have hoB : Hid (L2.toArray.all (·.oneCell') = true) := Lib.hid (all_oneCell_toArray hone2)
              dsimp only
              refine hK _ _ ?_
              clear hK K
              refine wpAny_ready (rs := [5]) (by kernel_rfl) (by simp) (AllReady.cons rfl (fun K hK => ?_) AllReady.nil)
              rw [if_pos (by rfl)]
              with_reducible refine wp_store_row 70 (.tmp 5) (.tmp 25) rfl b5 L2.toArray rfl rfl 70 _ hk2 hiB.out hzB.out hoB.out ?_
              refine hK _ _ ?_
              clear hK K
              refine wpAny_done (by kernel_rfl) ?_ _
              have hk3 := blk_setRow hk2 L2.toArray
              have hl3 := blk_setRow_far hl2 b5 (by omega) L2.toArray
              have hB3 := below_setRow hB2 (show w.heap.size ≤ b5 by omega) L2.toArray
              generalize w2.setRow b5 L2.toArray = w3 at *
              simp only [Act.put]
              clear hiA hl73 hone hi hu hk5d hBd hk4d hcv1 hB1 hk1 hl1 hw1 hw2 hB2 hk2 hl2 hl73b hone2 hiB hzB hoB
              go_wp2
              go_roundw
              case rel => exact ⟨k + 1, L2, by omega, by go_num, hv2, hk3, hl3, hB3⟩
              case measure => simp [intOf]; omega
            · rw [if_pos (by rfl)]
              go_simp
              refine hK _ _ ?_
              clear hK K
              refine wpAny_ready (rs := [0]) (by kernel_rfl) (by simp) (AllReady.cons rfl (fun K hK => ?_) AllReady.nil)
              rw [if_pos (by rfl)]
              with_reducible refine wp_load_row 70 (.tmp 5) rfl b5 rfl 70 _ _ _ hk1 hu rfl hiA ?_
              refine hK _ _ ?_
              clear hK K
              simp only [Act.put]
              refine wpAny_ready (rs := [4]) (by kernel_rfl) (by simp) (AllReady.cons rfl (fun K hK => ?_) AllReady.nil)
              rw [if_pos (by rfl)]
              go_simp
              go_at_call 39
              with_reducible refine (Hadd.out w1 (hT.below hB1)).mono ?_
              rintro e w2 ⟨⟨v2, hv2, rfl⟩, hw2⟩
              have hB2 := hB1.trans (hw2.mono hB1.size)
              have hk2 := blk_kept hk1 hw2
              have hl2 := blk_kept hl1 hw2
              obtain ⟨L2, rfl, hl73b, hone2⟩ := rep_list hv2
              have hiB : Hid ((Tryd.prog.info? 70).map (·.size) = some L2.toArray.size) := Lib.hid (by rw [List.size_toArray, hl73b]; kernel_rfl)
              have hzB : Hid (L'.toArray.size = L2.toArray.size) := Lib.hid (by rw [List.size_toArray, List.size_toArray, hl73b, hl73])
              have hoB : Hid (L2.toArray.all (·.oneCell') = true) := Lib.hid (all_oneCell_toArray hone2)
              dsimp only
              refine hK _ _ ?_
              clear hK K
              refine wpAny_ready (rs := [5]) (by kernel_rfl) (by simp) (AllReady.cons rfl (fun K hK => ?_) AllReady.nil)
              rw [if_pos (by rfl)]
              with_reducible refine wp_store_row 70 (.tmp 5) (.tmp 25) rfl b5 L2.toArray rfl rfl 70 _ hk2 hiB.out hzB.out hoB.out ?_
              refine hK _ _ ?_
              clear hK K
              refine wpAny_done (by kernel_rfl) ?_ _
              have hk3 := blk_setRow hk2 L2.toArray
              have hl3 := blk_setRow_far hl2 b5 (by omega) L2.toArray
              have hB3 := below_setRow hB2 (show w.heap.size ≤ b5 by omega) L2.toArray
              generalize w2.setRow b5 L2.toArray = w3 at *
              simp only [Act.put]
              clear hiA hl73 hone hi hu hk5d hBd hk4d hcv1 hB1 hk1 hl1 hw1 hw2 hB2 hk2 hl2 hl73b hone2 hiB hzB hoB
              go_wp2
              go_roundw
              case rel => exact ⟨k + 1, L2, by omega, by go_num, hv2, hk3, hl3, hB3⟩
              case measure => simp [intOf]; omega
      · obtain rfl : k = ps.length := by omega
        rw [List.take_length] at hC
        have hCs := rep_size hC
        have hCi : (Tryd.prog.info? 70).map (·.size) = some (L.toArray).size := by rw [hCs]; kernel_rfl
        have hTr := hT.below hB
        have hml : (ofIn tag ps).length ≤ 100000000000 := by have := hsum ps.length (Nat.le_refl _); rw [List.take_length] at this; omega
        have hss := ssum_any (ofIn tag ps) (.agg L.toArray) wr hC hml hTr
        obtain ⟨D, hD⟩ : ∃ D : Array Value, D = ((sha (ofIn tag ps)).map mkB).toArray := ⟨_, rfl⟩
        have hDs : D.size = 32 := by rw [hD]; simp [sha_len]
        have hD1 : D.all (·.oneCell') = true := by rw [hD]; exact one_cells _
        have hDi : Hid ((Tryd.prog.info? 33).map (·.size) = some D.size) := Lib.hid (by rw [hDs]; kernel_rfl)
        have hD' : bytesV (sha (ofIn tag ps)) = .agg D := by rw [hD]; rfl
        rw [hD'] at hss
        obtain ⟨E, hE⟩ : ∃ E : Array Value, E = ((((sha (ofIn tag ps)).take 16)).map mkB).toArray := ⟨_, rfl⟩
        have hEs : E.size = 16 := by rw [hE]; simp [sha_len]
        have hE1 : E.all (·.oneCell') = true := by rw [hE]; exact one_cells _
        have hE' : bytesV ((sha (ofIn tag ps)).take 16) = .agg E := by rw [hE]; rfl
        have hED : ∀ (j : Nat) (v : Value), E.toList[j]? = some v → D[j]? = some v := by
          intro j v hv
          rw [hE] at hv
          rw [hD, List.getElem?_toArray]
          simp only [List.map_take, List.getElem?_take] at hv
          split at hv
          · exact hv
          · cases hv
        have hEi : Hid ((Tryd.prog.info? 26).map (·.size) = some E.size) := Lib.hid (by rw [hEs]; kernel_rfl)
        have hEl : Hid ((Tryd.prog.info? 26).map (·.size) = some E.toList.length) := Lib.hid (by rw [Array.length_toList, hEs]; kernel_rfl)
        have hEz : Hid ((List.replicate 16 (Value.int .u8 0)).toArray.size = E.size) := Lib.hid (by rw [hEs]; rfl)
        have hDz : Hid ((List.replicate 32 (Value.int .u8 0)).toArray.size = D.size) := Lib.hid (by rw [hDs]; rfl)
        have Hss := Lib.hid hss
        have HE' := Lib.hid hE'
        have HED := Lib.hid hED
        clear hss hD hD' hE hE' hED
        have harr : ∀ W a c, (Instr.arrayAt 26 (.slice a 16 c)).run Tryd.prog W = .ok (.pointer a) W := fun W a c => run_arrayAt W _ _ 16 16 c a Tryd.underlying26 (Nat.le_refl _)
        go_wp2_with (first
          | (with_reducible refine wpList_load_row rfl 70 (.tmp 5) rfl b5 rfl 70 _ _ _ hk5 Tryd.underlying70 rfl hCi ?_)
          | (go_at_call 40; (with_reducible refine Hss.out.mono ?_); rintro e w1 ⟨rfl, hw1⟩)
          | (with_reducible refine wpList_store_row rfl 33 (.tmp 8) (.tmp 28) rfl w1.heap.size D rfl rfl 33 _ (blk_new w1 _ _) hDi.out (Eq.trans (by kernel_rfl : _ = 32) hDs.symm) hD1 ?_; rw [World.setRow_alloc_new]; simp only [Act.put]; have hk8 := blk_new w1 D 33; have hk1 := blk_kept hk4 hw1; have hk4' := blk_alloc hk1 (.cells D 33); have hB4 : Below w.heap.size w (w1.alloc (.cells D 33)) := (hB.trans (hw1.mono hB.size)).alloc (Nat.le_trans hB.size hw1.size) _; generalize w1.alloc (.cells D 33) = w4 at *; have hrg : w4.rangeAt w1.heap.size 0 E.toList := rangeAt_of hk8 HED.out)
          | (with_reducible refine wpList_load_mid rfl 26 (.tmp 30) rfl w1.heap.size 0 rfl E.toList _ hrg Tryd.underlying26 rfl hEl.out ?_)
          | (with_reducible refine wpList_store_row rfl 26 (.tmp 4) (.tmp 31) rfl w.heap.size E rfl rfl 26 _ hk4' hEi.out hEz.out hE1 ?_))

        have hEt : (Value.agg E.toList.toArray) = .agg E := by rw [Array.toArray_toList]
        exact bodyPost_ret (v := .agg E) (results_cell_row Tryd.results13 _ _ w.heap.size 26 _ _ _ rfl (blk_setRow hk4' _) Tryd.underlying26 rfl hEi.out) rfl ⟨by rw [HE'.out], below_setRow hB4 (Nat.le_refl _) _⟩
end Go.Proofs.YtbgieephehfgpabDoor
