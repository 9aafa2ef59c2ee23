/-
  Several texts of this proof in one: Of, PlainSk2, CrcWalks, CrcAdd, Crc40, Words, AppR, ListOwn, RefPad. Each states its own conditions.
-/
import Derived.Test.YtbgieephehfgpabDoorJB2
import Derived.StillTailTactics
import Derived.Test.YtbgieephehfgpabDoorJB1
import Derived.Laws.AppendOwnNone
import Derived.OwnWalk
import Derived.Laws.OwnMore
/-
  What the program's hash.Of returns: the first 16 bytes of the hash of the tag's byte and the parts' bytes. Conditions: at most 10^6 parts of at most 10^4 bytes, the tables are as the program's text lays them.
-/
namespace Go.Proofs.YtbgieephehfgpabDoor
open Go Go.RowKit Sha Wire
def mkS (l : List UInt8) : Value := .string ⟨l.toArray⟩
def Sha.tagB (tag : Int) : UInt8 := UInt8.ofNat (tag % 256).toNat
def Sha.ofIn (tag : Int) (ps : List (List UInt8)) : List UInt8 := tagB tag :: ps.flatMap bytesB
theorem tagB_go (tag : Int) : ((Sha.tagB tag).toNat : Int) = tag % 256 := by
  unfold Sha.tagB
  rw [UInt8.toNat_ofNat']
  omega
theorem run_storeCells_list {P : Program} (W : World) (g : Nat) (t : TypeId) (old : Array Value) (l : List Value) (h : W.heap[g]? = some (.cells old t (0, 0))) (hs : old.size = l.toArray.size) (h1 : l.toArray.all (·.oneCell') = true) :
    (storeCells ⟨g, 0, none⟩ l).run P W = .ok () (W.setRow g l.toArray) := run_storeCells_whole W g t old l.toArray h hs h1
theorem rep_agg {m : List UInt8} {v : Value} (h : Rep m v) : ∃ C : Array Value, v = .agg C ∧ C.size = 73 ∧ C.all (·.oneCell') = true := by
  obtain ⟨blk, hbl, rfl, _⟩ := h
  exact ⟨_, rfl, by rw [List.size_toArray, sL_len _ _ _ hbl], sL_one _ _ _⟩
theorem heap_alloc_at (w : World) (o : Obj) (b : Nat) (h : b = w.heap.size) : (w.alloc o).heap[b]? = some o := by rw [h]; exact heap_alloc_new w o
theorem size_drew (w : World) : w.drew.heap.size = w.heap.size := rfl
theorem below_al {B : Nat} {a W : World} (h : Below B a W) (o : Obj) (hB : B ≤ a.heap.size := by exact Nat.le_refl _) : Below B a (W.alloc o) := h.alloc (Nat.le_trans hB h.size) o
theorem below_dr {B : Nat} {a W : World} (h : Below B a W) : Below B a W.drew := h.drew
theorem rep_size {m : List UInt8} {C : Array Value} (h : Rep m (.agg C)) : C.size = 73 := by
  obtain ⟨C', he, h1, _⟩ := rep_agg h
  cases he
  exact h1
theorem rep_one {m : List UInt8} {C : Array Value} (h : Rep m (.agg C)) : C.all (·.oneCell') = true := by
  obtain ⟨C', he, _, h1⟩ := rep_agg h
  cases he
  exact h1
theorem rangeAt_of {w : World} {b : Nat} {D : Array Value} {t : TypeId} {l : List Value} (h : Blk w b D t) (hl : ∀ (j : Nat) (v : Value), l[j]? = some v → D[j]? = some v) : w.rangeAt b 0 l := fun j v hv => by rw [Nat.zero_add, blk_cell h]; exact hl j v hv
theorem there_of {w : World} {b : Nat} {D : Array Value} {t : TypeId} {n : Nat} (h : Blk w b D t) (hn : n ≤ D.size) : w.there b 0 n := fun j hj => by
  rw [Nat.zero_add, blk_cell h, Array.getElem?_eq_getElem (by omega)]
  exact ⟨rfl, blk_free h j⟩
theorem blk_setCells_at {b : Nat} {t : TypeId} (vs : List Value) : ∀ (o : Nat) (w : World) (cs : Array Value), Blk w b cs t → o + vs.length ≤ cs.size → ∃ cs' : Array Value, Blk (w.setCells b o vs) b cs' t ∧ cs'.toList = cs.toList.take o ++ vs ++ cs.toList.drop (o + vs.length) := by
  induction vs with
  | nil => intro o w cs h _; exact ⟨cs, h, by simp⟩
  | cons v r ih =>
    intro o w cs h ho
    have h1 := blk_set h o v
    obtain ⟨cs', h2, h3⟩ := ih (o + 1) _ _ h1 (by simp at ho ⊢; omega)
    refine ⟨cs', h2, ?_⟩
    rw [h3, Array.toList_setIfInBounds]
    have hlt : o < cs.toList.length := by simp at ho ⊢; omega
    rw [List.take_succ_eq_append_getElem (by rw [List.length_set]; exact hlt), List.getElem_set_self, List.take_set_of_le (Nat.le_refl _)]
    rw [List.drop_set_of_lt (by omega)]
    simp [Nat.add_comm, Nat.add_left_comm]
theorem blk_setCells {w : World} {b : Nat} {cs : Array Value} {t : TypeId} (h : Blk w b cs t) (vs : List Value) (hl : vs.length = cs.size) : Blk (w.setCells b 0 vs) b vs.toArray t := by
  obtain ⟨cs', h1, h2⟩ := blk_setCells_at vs 0 w cs h (by omega)
  have e : cs' = vs.toArray := by
    apply Array.ext'
    rw [h2]
    simp [List.drop_of_length_le, hl]
  rw [← e]; exact h1
theorem heap_setCells_far (b b' : Nat) (hne : b' ≠ b) (vs : List Value) : ∀ (o : Nat) (w : World), (w.setCells b o vs).heap[b']? = w.heap[b']? := by
  induction vs with
  | nil => intro o w; rfl
  | cons v r ih =>
    intro o w
    rw [World.setCells, ih]
    exact Below.heap_setCell _ _ _ _ hne
theorem below_setCells {B : Nat} {a : World} {g : Nat} (hg : B ≤ g) (vs : List Value) : ∀ (o : Nat) (w : World), Below B a w → Below B a (w.setCells g o vs) := by
  induction vs with
  | nil => intro o w h; exact h
  | cons v r ih => intro o w h; exact ih _ _ (h.setCell hg v)
theorem rep_list {m : List UInt8} {v : Value} (h : Rep m v) : ∃ L : List Value, v = .agg L.toArray ∧ L.length = 73 ∧ ∀ u ∈ L, u.oneCell' = true := by
  obtain ⟨blk, hbl, rfl, _⟩ := h
  refine ⟨_, rfl, sL_len _ _ _ hbl, ?_⟩
  have h1 := sL_one (hb m (m.length / 64)) blk m.length
  rw [List.all_toArray, List.all_eq_true] at h1
  exact h1
/-- the load of a whole row ahead of a region's forced end -/
theorem wpStill_load_row {P : Program} {ops : Array Oper} {rest : List Oper} {o : Oper} {a : Act} {w : World} {Q : Act → Prop} (hgd : o.guard = none) (ty : TypeId) (x : Operand) (ho : o.op = .load ty x)
    (g : Nat) (hx : a.eval x = .pointer (some ⟨g, 0, none⟩)) (t : TypeId) (cs : Array Value) (fr : Nat × Nat) (d : TypeDesc) (hg : w.heap[g]? = some (.cells cs t fr))
    (hu : P.underlying ty = some d) (hd : (match d with | .struct _ | .array _ _ => true | _ => false) = true) (hi : (P.info? ty).map (·.size) = some cs.size)
    (h : wpStill P ops w Q rest (a.put o.dst (.agg cs))) : wpStill P ops w Q (o :: rest) a := by
  refine wpStill_step (fun K hK => ?_)
  have hwt : Region.wanted o (yielded ops a.tmps) = true := by simp [Region.wanted, hgd]
  rw [if_pos hwt]
  unfold Oper.still execOp
  simp only [ho, hx, Instr.loadAt, Instr.sureAddr, Sem.run_bind, Sem.run_pure, Result.andThen_ok, run_loadVar_row w g t ty cs fr d hg hu hd hi]
  rw [Oper.stillUpon_value]
  exact hK _ h
theorem ofIn_step (tag : Int) (l : List (List UInt8)) (x : List UInt8) : ofIn tag (l ++ [x]) = ofIn tag l ++ bytesB x := by simp [ofIn]
theorem ofIn_len (tag : Int) (ps : List (List UInt8)) (hs : ∀ l ∈ ps, l.length ≤ 10000) : ∀ k, k ≤ ps.length → (ofIn tag (ps.take k)).length ≤ 1 + 20000 * k := by
  intro k
  induction k with
  | zero => intro _; simp [ofIn]
  | succ k ih =>
    intro hk
    have h1 := ih (by omega)
    have hx : ps[k]? = some ps[k] := List.getElem?_eq_getElem (by omega)
    have h2 := hs _ (List.mem_of_getElem? hx)
    have h3 := intB_len (ps[k]).length
    have e : ofIn tag (ps.take k ++ [ps[k]]) = ofIn tag (ps.take k) ++ bytesB ps[k] := ofIn_step _ _ _
    have e2 : ps.take (k + 1) = ps.take k ++ [ps[k]] := List.take_succ_eq_append_getElem (by omega)
    rw [e2, e, List.length_append]
    unfold bytesB
    rw [List.length_append]
    omega
set_option maxRecDepth 100000 in
set_option maxHeartbeats 4000000 in
theorem of_any (tag : Int) (v : Value) (ps : List (List UInt8)) (w : World) (hr : Rd mkS w v ps) (hn : ps.length ≤ 1000) (hs : ∀ l ∈ ps, l.length ≤ 10000) (hT : TabC w) :
    Calls Tryd.prog 13 #[.int .i64 tag, v] w fun e w' => e = .returned (bytesV ((sha (ofIn tag ps)).take 16)) ∧ Below w.heap.size w w' := by
  have htg := tagB_go tag
  obtain ⟨va, vcap, rfl, hvc, hvcell⟩ := hr
  go_enter Tryd.func13, Tryd.ntmps13
  go_wp2_with fail
  have hcv : ∀ (W : World) (g : Nat), W.heap[g]? = some (.cells #[.int .u8 (IntKind.u8.wrap tag)] 5 (0, 0)) → (convert 31 9 (.slice (some ⟨g, 0, none⟩) 1 1)).run Tryd.prog W = .ok (.string ⟨[Sha.tagB tag].toArray⟩) W := by
    intro W g hg
    refine RdB.conv (l := [Sha.tagB tag]) ⟨_, 1, rfl, Nat.le_refl _, .inr ⟨g, 0, rfl, blk_lt hg, ?_⟩⟩ _ _ 5 Tryd.underlying31 Tryd.underlying5 Tryd.underlying9
    intro i x hx
    match i, hx with
    | 0, hx => simp at hx; subst hx; rw [blk_cell hg]; simp [mkB, htg, IntKind.wrap_u8]
  have Hcv := Lib.hid hcv
  clear hcv
  have hl1 : ([] : List UInt8).length + (⟨[Sha.tagB tag].toArray⟩ : ByteArray).size ≤ 1000000000000 := by simp [ByteArray.size]
  change Code.wp _ _ _ _ (w.alloc (.cells (List.replicate 16 (Value.int .u8 0)).toArray 26))
  have hz0 : Blk (w.alloc (.cells (List.replicate 16 (Value.int .u8 0)).toArray 26)).drew w.heap.size (List.replicate 16 (Value.int .u8 0)).toArray 26 := blk_new w _ _
  have hw0 : Below w.heap.size w (w.alloc (.cells (List.replicate 16 (Value.int .u8 0)).toArray 26)).drew := ((Below.refl _ _).alloc (Nat.le_refl _) _).drew
  have hz00 : Blk (w.alloc (.cells (List.replicate 16 (Value.int .u8 0)).toArray 26)) w.heap.size (List.replicate 16 (Value.int .u8 0)).toArray 26 := blk_new w _ _
  have hw00 : Below w.heap.size w (w.alloc (.cells (List.replicate 16 (Value.int .u8 0)).toArray 26)) := (Below.refl _ _).alloc (Nat.le_refl _) _
  have hsz0 : w.heap.size + 1 ≤ (w.alloc (.cells (List.replicate 16 (Value.int .u8 0)).toArray 26)).heap.size := by simp
  generalize w.alloc (.cells (List.replicate 16 (Value.int .u8 0)).toArray 26) = wx at *
  go_cut [5] (fun s5 wx => ∃ (b5 : Nat) (L : List Value), s5 = .pointer (some ⟨b5, 0, none⟩) ∧ w.heap.size + 1 ≤ b5 ∧ Rep [Sha.tagB tag] (.agg L.toArray) ∧ Blk wx b5 L.toArray 70 ∧ Blk wx w.heap.size (List.replicate 16 (Value.int .u8 0)).toArray 26 ∧ Below w.heap.size w wx)
  case first =>
    go_region_with (first
      | (go_at_call 38; ((with_reducible refine (begin2_any _).mono ?_); rintro e w1 ⟨⟨v1, hv1, rfl⟩, hw1⟩))
      | (go_at_call 39; ((with_reducible refine (sadd_any [] v1 ⟨[Sha.tagB tag].toArray⟩ _ hv1 hl1 (hT.below (by (with_reducible repeat (first | exact hw0 | exact hw00 | (refine below_then ?_ hw2) | (refine below_then ?_ hw1) | (refine below_dr ?_) | (refine below_al ?_ _)))))).mono ?_); rintro e w2 ⟨⟨v2, hv2, rfl⟩, hw2⟩; obtain ⟨C2, rfl, hC2, hC21⟩ := rep_agg hv2; have hz73 : zcStream.size = C2.size := hC2.symm))
      | (rw [Hcv.out]; rotate_left; focus (with_reducible repeat (first | assumption | (refine blk_kept ?_ hw2) | (refine blk_kept ?_ hw1) | (refine blk_drew ?_) | exact heap_alloc_at _ _ _ (by simp only [World.size_alloc]) | (refine blk_alloc ?_ _))))
      | (rw [run_storeCells_whole _ _ 70 zcStream C2 ?_ hz73 hC21]; rotate_left; focus (with_reducible repeat (first | assumption | (refine blk_kept ?_ hw2) | (refine blk_kept ?_ hw1) | (refine blk_drew ?_) | exact heap_alloc_at _ _ _ (by simp only [World.size_alloc]) | (refine blk_alloc ?_ _)))))
    all_goals
      have hz1 := hw1.size
      have hz2 := hw2.size
      simp only [World.size_alloc, size_drew] at hz1 hz2
      go_wp2_with fail
      go_meet
      refine ⟨_, C2.toList, rfl, by omega, hv2, blk_setRow (old := zcStream) (t := 70) (fr := (0, 0)) ?_ C2, blk_setRow_far (x := .cells (List.replicate 16 (Value.int .u8 0)).toArray 26 (0, 0)) ?_ _ (by omega) C2, below_setRow ?_ (by omega) C2⟩
      · (with_reducible repeat (first | assumption | (refine blk_kept ?_ hw2) | (refine blk_kept ?_ hw1) | (refine blk_drew ?_) | exact heap_alloc_at _ _ _ (by simp only [World.size_alloc]) | (refine blk_alloc ?_ _)))
      · (with_reducible repeat (first | assumption | (refine blk_kept ?_ hw2) | (refine blk_kept ?_ hw1) | (refine blk_drew ?_) | exact heap_alloc_at _ _ _ (by simp only [World.size_alloc]) | (refine blk_alloc ?_ _)))
      · (with_reducible repeat (first | exact hw0 | exact hw00 | (refine below_then ?_ hw2) | (refine below_then ?_ hw1) | (refine below_dr ?_) | (refine below_al ?_ _)))
  case rest =>
    obtain ⟨b5, L0, rfl, hb5, hC, hk5, hk4, hB⟩ := hcut
    clear Hcv hl1 htg
    have hsum : ∀ k, k ≤ ps.length → (ofIn tag (ps.take k)).length ≤ 1 + 20000 * k := ofIn_len tag ps hs
    go_wp2_with fail
    go_loopw [7, 17] (fun _ i wr => ∃ (k : Nat) (L : List Value), k ≤ ps.length ∧ i = .int .i64 (k : Int) ∧ Rep (ofIn tag (ps.take k)) (.agg L.toArray) ∧ Blk wr b5 L.toArray 70 ∧ Blk wr w.heap.size (List.replicate 16 (Value.int .u8 0)).toArray 26 ∧ Below w.heap.size w wr) (fun _ i _ => ps.length - (intOf i).toNat)
    case atStart => exact ⟨0, L0, by omega, rfl, hC, hk5, hk4, hB⟩
    case round =>
      clear hC hk5 hk4 hB
      obtain ⟨k, L, hk, rfl, hC, hk5, hk4, hB⟩ := hrel
      by_cases hlt : k < ps.length
      · rcases hvcell with hnil | ⟨b, off, rfl, hbl, hcell⟩
        · subst hnil; simp at hlt
        · obtain ⟨x, hx⟩ : ∃ x, ps[k]? = some x := ⟨_, List.getElem?_eq_getElem hlt⟩
          have hxs := hs x (List.mem_of_getElem? hx)
          have hcx : wr.cell? ⟨b, off + k, none⟩ = some (.string ⟨x.toArray⟩) := (hB.cell (p := ⟨b, off + k, none⟩) hbl).trans (hcell k x hx)
          have hnext : ofIn tag (ps.take (k + 1)) = ofIn tag (ps.take k) ++ bytesB x := by
            rw [List.take_succ_eq_append_getElem hlt]; rw [List.getElem?_eq_getElem hlt] at hx; cases hx; exact ofIn_step _ _ _
          have hlen := hsum k hk
          obtain ⟨L', hL', hl73, hone⟩ := rep_list hC
          obtain rfl : L' = L := by
            have := Value.agg.inj hL'
            simpa using this.symm
          have hmax : (ofIn tag (ps.take k)).length + (⟨(bytesB x).toArray⟩ : ByteArray).size ≤ 1000000000000 := by
            have := intB_len x.length
            simp [ByteArray.size, bytesB]; omega
          have hwb := fun W => wbytes_any x W (by omega)
          have hadd := fun W (hTW : TabC W) => sadd_any (ofIn tag (ps.take k)) (.agg L'.toArray) ⟨(bytesB x).toArray⟩ W hC hmax hTW
          have hbt : (⟨(bytesB x).toArray⟩ : ByteArray).data.toList = bytesB x := rfl
          rw [hbt, ← hnext] at hadd
          have hcv : ∀ W v, RdB W v (bytesB x) → (convert 31 9 v).run Tryd.prog W = .ok (.string ⟨(bytesB x).toArray⟩) W := fun W v h => RdB.conv h _ _ 5 Tryd.underlying31 Tryd.underlying5 Tryd.underlying9
          have hi : (Tryd.prog.info? 70).map (·.size) = some L'.length := by rw [hl73]; kernel_rfl
          have hu := Tryd.underlying70
          have Hadd := Lib.hid hadd
          have Hcv := Lib.hid hcv
          have Hwb := Lib.hid hwb
          have HC := Lib.hid hC
          clear hnext hbt hx hlen hsum hcell hmax hadd hL' hcv hwb hxs hC
          generalize bytesB x = bx at *
          go_wp2_with fail
          have hiA : (Tryd.prog.info? 70).map (·.size) = some L'.toArray.size := by rw [List.size_toArray]; exact hi
          have hk5d : wr.drew.heap[b5]? = some (.cells L'.toArray 70 (0, 0)) := hk5
          have hBd := hB.drew
          have hk4d : wr.drew.heap[w.heap.size]? = some (.cells (List.replicate 16 (Value.int .u8 0)).toArray 26 (0, 0)) := hk4
          refine wp_region_any (by kernel_rfl) ?_
          change wpAny _ _ _ _ _ _ _ wr.drew
          clear hk5 hk4 hB
          generalize wr.drew = wd at *
          refine wpAny_take (i := 1) (v := .string ⟨x.toArray⟩) rfl (by kernel_rfl) (by kernel_rfl) (by kernel_rfl) (fun _ _ _ h => h) (Or.inl ⟨by rfl, fun w => by rfl⟩) ?_
          simp only [Act.put]
          refine wpAny_ready (rs := [0, 2]) (by kernel_rfl) (by simp) (AllReady.cons rfl (fun K hK => ?_) (AllReady.cons rfl (fun K hK => ?_) AllReady.nil))
          · rw [if_pos (by rfl)]
            with_reducible refine wp_load_row 70 (.tmp 5) rfl b5 rfl 70 _ _ _ hk5d hu rfl hiA ?_
            refine hK _ _ ?_
            clear hK K
            simp only [Act.put]
            refine wpAny_ready (rs := [2]) (by kernel_rfl) (by simp) (AllReady.cons rfl (fun K hK => ?_) AllReady.nil)
            rw [if_pos (by rfl)]
            go_simp
            go_at_call 50
            with_reducible refine (Hwb.out wd).mono ?_
            rintro e w1 ⟨⟨v1, rfl, hown1⟩, hw1⟩
            have hcv1 := Hcv.out w1 v1 (own_rd hown1)
            clear hown1
            have hB1 := hBd.trans (hw1.mono hBd.size)
            have hk1 := blk_kept hk5d hw1
            have hl1 := blk_kept hk4d hw1
            dsimp only
            refine hK _ _ ?_
            clear hK K
            refine wpAny_ready (rs := [3]) (by kernel_rfl) (by simp) (AllReady.cons rfl (fun K hK => ?_) AllReady.nil)
            rw [if_pos (by rfl)]
            go_simp
            refine hK _ _ ?_
            clear hK K
            refine wpAny_ready (rs := [4]) (by kernel_rfl) (by simp) (AllReady.cons rfl (fun K hK => ?_) AllReady.nil)
            rw [if_pos (by rfl)]
            go_simp
            go_at_call 39
            with_reducible refine (Hadd.out w1 (hT.below hB1)).mono ?_
            rintro e w2 ⟨⟨v2, hv2, rfl⟩, hw2⟩
            have hB2 := hB1.trans (hw2.mono hB1.size)
            have hk2 := blk_kept hk1 hw2
            have hl2 := blk_kept hl1 hw2
            obtain ⟨L2, rfl, hl73b, hone2⟩ := rep_list hv2
            have hiB : Hid ((Tryd.prog.info? 70).map (·.size) = some L2.toArray.size) := Lib.hid (by rw [List.size_toArray, hl73b]; kernel_rfl)
            have hzB : Hid (L'.toArray.size = L2.toArray.size) := Lib.hid (by rw [List.size_toArray, List.size_toArray, hl73b, hl73])
            have hoB : Hid (L2.toArray.all (·.oneCell') = true) := Lib.hid (all_oneCell_toArray hone2)
            dsimp only
            refine hK _ _ ?_
            clear hK K
            refine wpAny_ready (rs := [5]) (by kernel_rfl) (by simp) (AllReady.cons rfl (fun K hK => ?_) AllReady.nil)
            rw [if_pos (by rfl)]
            with_reducible refine wp_store_row 70 (.tmp 5) (.tmp 25) rfl b5 L2.toArray rfl rfl 70 _ hk2 hiB.out hzB.out hoB.out ?_
            refine hK _ _ ?_
            clear hK K
            refine wpAny_done (by kernel_rfl) ?_ _
            have hk3 := blk_setRow hk2 L2.toArray
            have hl3 := blk_setRow_far hl2 b5 (by omega) L2.toArray
            have hB3 := below_setRow hB2 (show w.heap.size ≤ b5 by omega) L2.toArray
            generalize w2.setRow b5 L2.toArray = w3 at *
            simp only [Act.put]
            clear hiA hl73 hone hi hu hk5d hBd hk4d hcv1 hB1 hk1 hl1 hw1 hw2 hB2 hk2 hl2 hl73b hone2 hiB hzB hoB
            go_wp2
            go_roundw
            case rel => exact ⟨k + 1, L2, by omega, by go_num, hv2, hk3, hl3, hB3⟩
            case measure => simp [intOf]; omega
          · rw [if_pos (by rfl)]
            go_simp
            go_at_call 50
            with_reducible refine (Hwb.out wd).mono ?_
            rintro e w1 ⟨⟨v1, rfl, hown1⟩, hw1⟩
            have hcv1 := Hcv.out w1 v1 (own_rd hown1)
            clear hown1
            have hB1 := hBd.trans (hw1.mono hBd.size)
            have hk1 := blk_kept hk5d hw1
            have hl1 := blk_kept hk4d hw1
            dsimp only
            refine hK _ _ ?_
            clear hK K
            refine wpAny_ready (rs := [0, 3]) (by kernel_rfl) (by simp) (AllReady.cons rfl (fun K hK => ?_) (AllReady.cons rfl (fun K hK => ?_) AllReady.nil))
            · rw [if_pos (by rfl)]
              with_reducible refine wp_load_row 70 (.tmp 5) rfl b5 rfl 70 _ _ _ hk1 hu rfl hiA ?_
              refine hK _ _ ?_
              clear hK K
              simp only [Act.put]
              refine wpAny_ready (rs := [3]) (by kernel_rfl) (by simp) (AllReady.cons rfl (fun K hK => ?_) AllReady.nil)
              rw [if_pos (by rfl)]
              go_simp
              refine hK _ _ ?_
              clear hK K
              refine wpAny_ready (rs := [4]) (by kernel_rfl) (by simp) (AllReady.cons rfl (fun K hK => ?_) AllReady.nil)
              rw [if_pos (by rfl)]
              go_simp
              go_at_call 39
              with_reducible refine (Hadd.out w1 (hT.below hB1)).mono ?_
              rintro e w2 ⟨⟨v2, hv2, rfl⟩, hw2⟩
              have hB2 := hB1.trans (hw2.mono hB1.size)
              have hk2 := blk_kept hk1 hw2
              have hl2 := blk_kept hl1 hw2
              obtain ⟨L2, rfl, hl73b, hone2⟩ := rep_list hv2
              have hiB : Hid ((Tryd.prog.info? 70).map (·.size) = some L2.toArray.size) := Lib.hid (by rw [List.size_toArray, hl73b]; kernel_rfl)
              have hzB : Hid (L'.toArray.size = L2.toArray.size) := Lib.hid (by rw [List.size_toArray, List.size_toArray, hl73b, hl73])
              have hoB : Hid (L2.toArray.all (·.oneCell') = true) := Lib.hid (all_oneCell_toArray hone2)
              dsimp only
              refine hK _ _ ?_
              clear hK K
              refine wpAny_ready (rs := [5]) (by kernel_rfl) (by simp) (AllReady.cons rfl (fun K hK => ?_) AllReady.nil)
              rw [if_pos (by rfl)]
              with_reducible refine wp_store_row 70 (.tmp 5) (.tmp 25) rfl b5 L2.toArray rfl rfl 70 _ hk2 hiB.out hzB.out hoB.out ?_
              refine hK _ _ ?_
              clear hK K
              refine wpAny_done (by kernel_rfl) ?_ _
              have hk3 := blk_setRow hk2 L2.toArray
              have hl3 := blk_setRow_far hl2 b5 (by omega) L2.toArray
              have hB3 := below_setRow hB2 (show w.heap.size ≤ b5 by omega) L2.toArray
              generalize w2.setRow b5 L2.toArray = w3 at *
              simp only [Act.put]
              clear hiA hl73 hone hi hu hk5d hBd hk4d hcv1 hB1 hk1 hl1 hw1 hw2 hB2 hk2 hl2 hl73b hone2 hiB hzB hoB
              go_wp2
              go_roundw
              case rel => exact ⟨k + 1, L2, by omega, by go_num, hv2, hk3, hl3, hB3⟩
              case measure => simp [intOf]; omega
            · rw [if_pos (by rfl)]
              go_simp
              refine hK _ _ ?_
              clear hK K
              refine wpAny_ready (rs := [0]) (by kernel_rfl) (by simp) (AllReady.cons rfl (fun K hK => ?_) AllReady.nil)
              rw [if_pos (by rfl)]
              with_reducible refine wp_load_row 70 (.tmp 5) rfl b5 rfl 70 _ _ _ hk1 hu rfl hiA ?_
              refine hK _ _ ?_
              clear hK K
              simp only [Act.put]
              refine wpAny_ready (rs := [4]) (by kernel_rfl) (by simp) (AllReady.cons rfl (fun K hK => ?_) AllReady.nil)
              rw [if_pos (by rfl)]
              go_simp
              go_at_call 39
              with_reducible refine (Hadd.out w1 (hT.below hB1)).mono ?_
              rintro e w2 ⟨⟨v2, hv2, rfl⟩, hw2⟩
              have hB2 := hB1.trans (hw2.mono hB1.size)
              have hk2 := blk_kept hk1 hw2
              have hl2 := blk_kept hl1 hw2
              obtain ⟨L2, rfl, hl73b, hone2⟩ := rep_list hv2
              have hiB : Hid ((Tryd.prog.info? 70).map (·.size) = some L2.toArray.size) := Lib.hid (by rw [List.size_toArray, hl73b]; kernel_rfl)
              have hzB : Hid (L'.toArray.size = L2.toArray.size) := Lib.hid (by rw [List.size_toArray, List.size_toArray, hl73b, hl73])
              have hoB : Hid (L2.toArray.all (·.oneCell') = true) := Lib.hid (all_oneCell_toArray hone2)
              dsimp only
              refine hK _ _ ?_
              clear hK K
              refine wpAny_ready (rs := [5]) (by kernel_rfl) (by simp) (AllReady.cons rfl (fun K hK => ?_) AllReady.nil)
              rw [if_pos (by rfl)]
              with_reducible refine wp_store_row 70 (.tmp 5) (.tmp 25) rfl b5 L2.toArray rfl rfl 70 _ hk2 hiB.out hzB.out hoB.out ?_
              refine hK _ _ ?_
              clear hK K
              refine wpAny_done (by kernel_rfl) ?_ _
              have hk3 := blk_setRow hk2 L2.toArray
              have hl3 := blk_setRow_far hl2 b5 (by omega) L2.toArray
              have hB3 := below_setRow hB2 (show w.heap.size ≤ b5 by omega) L2.toArray
              generalize w2.setRow b5 L2.toArray = w3 at *
              simp only [Act.put]
              clear hiA hl73 hone hi hu hk5d hBd hk4d hcv1 hB1 hk1 hl1 hw1 hw2 hB2 hk2 hl2 hl73b hone2 hiB hzB hoB
              go_wp2
              go_roundw
              case rel => exact ⟨k + 1, L2, by omega, by go_num, hv2, hk3, hl3, hB3⟩
              case measure => simp [intOf]; omega
      · obtain rfl : k = ps.length := by omega
        rw [List.take_length] at hC
        have hCs := rep_size hC
        have hCi : (Tryd.prog.info? 70).map (·.size) = some (L.toArray).size := by rw [hCs]; kernel_rfl
        have hTr := hT.below hB
        have hml : (ofIn tag ps).length ≤ 100000000000 := by have := hsum ps.length (Nat.le_refl _); rw [List.take_length] at this; omega
        have hss := ssum_any (ofIn tag ps) (.agg L.toArray) wr hC hml hTr
        obtain ⟨D, hD⟩ : ∃ D : Array Value, D = ((sha (ofIn tag ps)).map mkB).toArray := ⟨_, rfl⟩
        have hDs : D.size = 32 := by rw [hD]; simp [sha_len]
        have hD1 : D.all (·.oneCell') = true := by rw [hD]; exact one_cells _
        have hDi : Hid ((Tryd.prog.info? 33).map (·.size) = some D.size) := Lib.hid (by rw [hDs]; kernel_rfl)
        have hD' : bytesV (sha (ofIn tag ps)) = .agg D := by rw [hD]; rfl
        rw [hD'] at hss
        obtain ⟨E, hE⟩ : ∃ E : Array Value, E = ((((sha (ofIn tag ps)).take 16)).map mkB).toArray := ⟨_, rfl⟩
        have hEs : E.size = 16 := by rw [hE]; simp [sha_len]
        have hE1 : E.all (·.oneCell') = true := by rw [hE]; exact one_cells _
        have hE' : bytesV ((sha (ofIn tag ps)).take 16) = .agg E := by rw [hE]; rfl
        have hED : ∀ (j : Nat) (v : Value), E.toList[j]? = some v → D[j]? = some v := by
          intro j v hv
          rw [hE] at hv
          rw [hD, List.getElem?_toArray]
          simp only [List.map_take, List.getElem?_take] at hv
          split at hv
          · exact hv
          · cases hv
        have hEi : Hid ((Tryd.prog.info? 26).map (·.size) = some E.size) := Lib.hid (by rw [hEs]; kernel_rfl)
        have hEl : Hid ((Tryd.prog.info? 26).map (·.size) = some E.toList.length) := Lib.hid (by rw [Array.length_toList, hEs]; kernel_rfl)
        have hEz : Hid ((List.replicate 16 (Value.int .u8 0)).toArray.size = E.size) := Lib.hid (by rw [hEs]; rfl)
        have hDz : Hid ((List.replicate 32 (Value.int .u8 0)).toArray.size = D.size) := Lib.hid (by rw [hDs]; rfl)
        have Hss := Lib.hid hss
        have HE' := Lib.hid hE'
        have HED := Lib.hid hED
        clear hss hD hD' hE hE' hED
        have harr : ∀ W a c, (Instr.arrayAt 26 (.slice a 16 c)).run Tryd.prog W = .ok (.pointer a) W := fun W a c => run_arrayAt W _ _ 16 16 c a Tryd.underlying26 (Nat.le_refl _)
        go_wp2_with (first
          | (with_reducible refine wpList_load_row rfl 70 (.tmp 5) rfl b5 rfl 70 _ _ _ hk5 Tryd.underlying70 rfl hCi ?_)
          | (go_at_call 40; (with_reducible refine Hss.out.mono ?_); rintro e w1 ⟨rfl, hw1⟩)
          | (with_reducible refine wpList_store_row rfl 33 (.tmp 8) (.tmp 28) rfl w1.heap.size D rfl rfl 33 _ (blk_new w1 _ _) hDi.out (Eq.trans (by kernel_rfl : _ = 32) hDs.symm) hD1 ?_; rw [World.setRow_alloc_new]; simp only [Act.put]; have hk8 := blk_new w1 D 33; have hk1 := blk_kept hk4 hw1; have hk4' := blk_alloc hk1 (.cells D 33); have hB4 : Below w.heap.size w (w1.alloc (.cells D 33)) := (hB.trans (hw1.mono hB.size)).alloc (Nat.le_trans hB.size hw1.size) _; generalize w1.alloc (.cells D 33) = w4 at *; have hrg : w4.rangeAt w1.heap.size 0 E.toList := rangeAt_of hk8 HED.out)
          | (with_reducible refine wpList_load_mid rfl 26 (.tmp 30) rfl w1.heap.size 0 rfl E.toList _ hrg Tryd.underlying26 rfl hEl.out ?_)
          | (with_reducible refine wpList_store_row rfl 26 (.tmp 4) (.tmp 31) rfl w.heap.size E rfl rfl 26 _ hk4' hEi.out hEz.out hE1 ?_))

        have hEt : (Value.agg E.toList.toArray) = .agg E := by rw [Array.toArray_toList]
        exact bodyPost_ret (v := .agg E) (results_cell_row Tryd.results13 _ _ w.heap.size 26 _ _ _ rfl (blk_setRow hk4' _) Tryd.underlying26 rfl hEi.out) rfl ⟨by rw [HE'.out], below_setRow hB4 (Nat.le_refl _) _⟩
end Go.Proofs.YtbgieephehfgpabDoor
/-
  Plain mathematics of a sketch: when it is valid, what Add, Halve and Merge make of it, and how it counts keys one after the other. No conditions.
-/
namespace Go.Proofs.YtbgieephehfgpabDoor
namespace Sk
/-- the number of four bytes -/
def four (d : List UInt8) : Nat := (((d[0]?.getD 0).toNat * 256 + (d[1]?.getD 0).toNat) * 256 + (d[2]?.getD 0).toNat) * 256 + (d[3]?.getD 0).toNat
/-- the place of a key in a row -/
def plN (key : List UInt8) (row width : Nat) : Nat := four ((Sha.sha (Sha.ofIn (80 + row) [key])).take 16) % width
/-- the cells of a key in the first m rows -/
def places (key : List UInt8) (w m : Nat) : List Nat := (List.range m).map fun r => r * w + plN key r w
theorem places_succ (key : List UInt8) (w m : Nat) : places key w (m + 1) = places key w m ++ [m * w + plN key m w] := by simp [places, List.range_succ]
theorem plN_lt (key : List UInt8) (row width : Nat) (h : 0 < width) : plN key row width < width := Nat.mod_lt _ h
theorem row_lt (r w p : Nat) (hr : r < 4) (hp : p < w) : r * w + p < 4 * w := by
  have := Nat.mul_le_mul_right w (show r ≤ 3 by omega)
  omega
theorem places_lt (key : List UInt8) (w m : Nat) (h : 0 < w) (hm : m ≤ 4) : ∀ i ∈ places key w m, i < 4 * w := by
  intro i hi
  obtain ⟨r, hr, rfl⟩ := List.mem_map.1 hi
  exact row_lt r w _ (by have := List.mem_range.1 hr; omega) (plN_lt key r w h)
theorem places_ne (key : List UInt8) (w : Nat) : places key w 4 ≠ [] := by simp [places]
/-- two keys that have a cell in common have the same place in a row -/
theorem places_shared (x y : List UInt8) (w i : Nat) (h : 0 < w) (hx : i ∈ places x w 4) (hy : i ∈ places y w 4) : ∃ r, r < 4 ∧ plN x r w = plN y r w := by
  obtain ⟨r, hr, rfl⟩ := List.mem_map.1 hx
  obtain ⟨r2, hr2, he⟩ := List.mem_map.1 hy
  have h1 := plN_lt x r w h
  have h2 := plN_lt y r2 w h
  have e : r2 = r := by
    have : (r2 * w + plN y r2 w) / w = (r * w + plN x r w) / w := by rw [he]
    rw [Nat.mul_comm r2 w, Nat.mul_comm r w, Nat.mul_add_div h, Nat.mul_add_div h, Nat.div_eq_of_lt h1, Nat.div_eq_of_lt h2] at this
    omega
  subst e
  exact ⟨r2, List.mem_range.1 hr, by omega⟩
/-- a sketch -/
structure K where
  w : Int
  s : Int
  a : Int
  c : List Int
structure Ok (k : K) : Prop where
  pow : isPow k.w = true
  wide : k.w ≤ 4096
  s1 : 1 ≤ k.s
  s2 : k.s ≤ 1048576
  a1 : 0 ≤ k.a
  a2 : k.a < k.s
  len : (k.c.length : Int) = 4 * k.w
  cells : ∀ x ∈ k.c, 0 ≤ x ∧ x ≤ 15 ∧ x ≤ k.a
theorem pow_pos {n : Int} (h : isPow n = true) : 1 ≤ n := by
  obtain ⟨k, _, rfl⟩ := (isPow_iff n).1 h
  have := Nat.two_pow_pos k
  omega
theorem Ok.w1 {k : K} (h : Ok k) : 1 ≤ k.w := pow_pos h.pow
theorem Ok.at {k : K} (h : Ok k) (i : Nat) : 0 ≤ at' k.c i ∧ at' k.c i ≤ 15 ∧ at' k.c i ≤ k.a := by
  by_cases hl : i < k.c.length
  · have := at_of hl
    exact h.cells _ (List.mem_of_getElem? this)
  · rw [at_out hl]; have := h.a1; omega
theorem Ok.of_at {k : K} (hp : isPow k.w = true) (hw : k.w ≤ 4096) (h1 : 1 ≤ k.s) (h2 : k.s ≤ 1048576) (a1 : 0 ≤ k.a) (a2 : k.a < k.s) (hl : (k.c.length : Int) = 4 * k.w) (hc : ∀ i, i < k.c.length → 0 ≤ at' k.c i ∧ at' k.c i ≤ 15 ∧ at' k.c i ≤ k.a) : Ok k := by
  refine ⟨hp, hw, h1, h2, a1, a2, hl, fun x hx => ?_⟩
  obtain ⟨i, hi⟩ := List.getElem?_of_mem hx
  have hlt := (List.getElem?_eq_some_iff.1 hi).1
  have := hc i hlt
  rw [at_of hlt] at hi
  cases hi
  exact this
/-- the width as a natural number -/
def K.n (k : K) : Nat := k.w.toNat
theorem Ok.wn {k : K} (h : Ok k) : ((k.n : Nat) : Int) = k.w := by have := h.w1; unfold K.n; omega
theorem Ok.n1 {k : K} (h : Ok k) : 0 < k.n := by have := h.w1; unfold K.n; omega
theorem Ok.clen {k : K} (h : Ok k) : k.c.length = 4 * k.n := by have := h.len; have := h.wn; omega
/-- the cells of a key -/
def K.p (k : K) (key : List UInt8) : List Nat := places key k.n 4
theorem Ok.p_lt {k : K} (h : Ok k) (key : List UInt8) : ∀ i ∈ k.p key, i < k.c.length := by
  intro i hi
  rw [h.clen]
  exact places_lt key k.n 4 h.n1 (by omega) i hi
theorem K.p_ne (k : K) (key : List UInt8) : k.p key ≠ [] := places_ne key k.n
/-- Count -/
def K.count (k : K) (key : List UInt8) : Int := cnt k.c (k.p key)
/-- Halve -/
def K.half (k : K) : K := ⟨k.w, k.s, k.a / 2, Sk.half k.c⟩
/-- Add before it may be halved -/
def K.add1 (k : K) (key : List UInt8) : K := ⟨k.w, k.s, k.a + 1, Sk.add (k.p key) k.c⟩
/-- Add -/
def K.add (k : K) (key : List UInt8) : K := if k.a + 1 = k.s then (k.add1 key).half else k.add1 key
/-- Merge before it may be halved -/
def K.mrg1 (a b : K) : K := ⟨a.w, a.s, a.a + b.a, Sk.mrg a.c b.c⟩
/-- Merge -/
def K.mrg (a b : K) : K := if a.s ≤ a.a + b.a then (K.mrg1 a b).half else K.mrg1 a b
theorem K.add_w (k : K) (key : List UInt8) : (k.add key).w = k.w := by unfold K.add; split <;> rfl
theorem K.add_s (k : K) (key : List UInt8) : (k.add key).s = k.s := by unfold K.add; split <;> rfl
theorem K.add_n (k : K) (key : List UInt8) : (k.add key).n = k.n := by unfold K.n; rw [K.add_w]
theorem K.add_p (k : K) (key x : List UInt8) : (k.add key).p x = k.p x := by unfold K.p; rw [K.add_n]
theorem Ok.add1_at {k : K} (h : Ok k) (key : List UInt8) (i : Nat) : 0 ≤ at' (k.add1 key).c i ∧ at' (k.add1 key).c i ≤ 15 ∧ at' (k.add1 key).c i ≤ k.a + 1 := by
  have h1 := h.at i
  have h2 := add_ge (k.p key) k.c i
  have h3 := add_15 (k.p key) k.c i h1.2.1
  simp only [K.add1]
  omega
theorem Ok.add {k : K} (h : Ok k) (key : List UInt8) : Ok (k.add key) := by
  have ha := h.a2
  have h0 := h.a1
  have hs1 := h.s1
  unfold K.add
  split
  · rename_i he
    refine Ok.of_at h.pow h.wide h.s1 h.s2 (by simp only [K.half, K.add1]; omega) (by simp only [K.half, K.add1]; omega) (by simp only [K.half, K.add1, half_len, add_len]; exact h.len) fun i _ => ?_
    have := h.add1_at key i
    simp only [K.half, half_at]
    simp only [K.add1] at this ⊢
    omega
  · rename_i he
    refine Ok.of_at h.pow h.wide h.s1 h.s2 (by simp only [K.add1]; omega) (by simp only [K.add1]; omega) (by simp only [K.add1, add_len]; exact h.len) fun i _ => ?_
    have := h.add1_at key i
    simp only [K.add1] at this ⊢
    omega
theorem Ok.add_a {k : K} (_h : Ok k) (key : List UInt8) : (k.add key).a = if k.a + 1 = k.s then (k.a + 1) / 2 else k.a + 1 := by unfold K.add; split <;> rfl
theorem Ok.count15 {k : K} (_h : Ok k) (key : List UInt8) : k.count key ≤ 15 := cnt_le15 _ _
theorem Ok.count0 {k : K} (h : Ok k) (key : List UInt8) : 0 ≤ k.count key := cnt_ge (by omega) fun i _ => (h.at i).1
/-- T: Add changes the count of its key by one, unless it is 15 -/
theorem Ok.count_add {k : K} (h : Ok k) (key : List UInt8) : (k.add key).count key = if k.a + 1 = k.s then min (k.count key + 1) 15 / 2 else min (k.count key + 1) 15 := by
  have h1 := cnt_add (k.p key) k.c (h.p_lt key)
  unfold K.count
  rw [K.add_p]
  unfold K.add
  split
  · show cnt (Sk.half (Sk.add _ _)) _ = _
    have h15 : ∀ i, at' (Sk.add (k.p key) k.c) i ≤ 15 := fun i => (h.add1_at key i).2.1
    rw [cnt_half _ _ (k.p_ne key) h15, h1]
  · exact h1
/-- .. and that of another one by at most one, or halves -/
theorem Ok.count_other {k : K} (_h : Ok k) (one two : List UInt8) (hne : k.a + 1 ≠ k.s) : k.count two ≤ (k.add one).count two ∧ (k.add one).count two ≤ k.count two + 1 := by
  unfold K.count
  rw [K.add_p]
  unfold K.add
  rw [if_neg hne]
  exact cnt_other _ _ _
theorem Ok.half_at {k : K} (_h : Ok k) (i : Nat) : at' k.half.c i = at' k.c i / 2 := Sk.half_at _ _
theorem mrg1_15 (a b : K) (i : Nat) : at' (K.mrg1 a b).c i ≤ 15 := by
  by_cases h : i < (K.mrg1 a b).c.length
  · have h2 := h
    simp only [K.mrg1, mrg, List.length_zipWith] at h2
    simp only [K.mrg1]
    rw [mrg_at _ _ _ (by omega) (by omega)]
    omega
  · rw [at_out h]; omega
/-- T: what Merge returns counts both -/
theorem count_mrg {a b : K} (ha : Ok a) (hb : Ok b) (hw : a.w = b.w) (key : List UInt8) :
    (if a.s ≤ a.a + b.a then min (a.count key + b.count key) 15 / 2 else min (a.count key + b.count key) 15) ≤ (K.mrg a b).count key := by
  have hn : b.n = a.n := by unfold K.n; rw [hw]
  have hp : b.p key = a.p key := by unfold K.p; rw [hn]
  have h1 := cnt_mrg (a.p key) a.c b.c (ha.p_lt key) (by rw [← hp]; exact hb.p_lt key)
  have h2 : min (a.count key + b.count key) 15 ≤ cnt (K.mrg1 a b).c (a.p key) := by
    unfold K.count; rw [hp]; exact h1
  unfold K.mrg
  split
  · show _ ≤ cnt (Sk.half (K.mrg1 a b).c) (a.p key)
    rw [cnt_half _ _ (a.p_ne key) (mrg1_15 a b)]
    omega
  · exact h2
theorem fill_mrgK (a b : K) : fill (K.mrg a b).c ≤ fill a.c + fill b.c := by
  have h1 := fill_mrg a.c b.c
  have h2 := fill_half (K.mrg1 a b).c
  unfold K.mrg
  split
  · exact Nat.le_trans h2 h1
  · exact h1
theorem mrg_commK (a b : K) (hw : a.w = b.w) (hs : a.s = b.s) : K.mrg a b = K.mrg b a := by
  have h1 : K.mrg1 a b = K.mrg1 b a := by
    unfold K.mrg1
    rw [hw, hs, Int.add_comm a.a b.a, mrg_comm]
  unfold K.mrg
  rw [h1, hs, Int.add_comm a.a b.a]
/-! counting keys one after the other -/
/-- a key counted once more -/
def more : List (List UInt8 × Int) → List UInt8 → List (List UInt8 × Int)
  | [], z => [(z, 1)]
  | e :: t, z => if e.1 = z then (e.1, min (e.2 + 1) 15) :: t else e :: more t z
/-- the number of a key; 0 if it isn't there -/
def nOf : List (List UInt8 × Int) → List UInt8 → Int
  | [], _ => 0
  | e :: t, x => if e.1 = x then e.2 else nOf t x
theorem more_hit (l : List (List UInt8 × Int)) (z : List UInt8) (n : Int) : ∀ k, l[k]? = some (z, n) → (∀ j e, j < k → l[j]? = some e → e.1 ≠ z) → more l z = l.set k (z, min (n + 1) 15) := by
  induction l with
  | nil => intro k h _; simp at h
  | cons e t ih =>
    intro k h hne
    cases k with
    | zero => simp at h; subst h; simp [more]
    | succ k =>
      have h0 := hne 0 e (by omega) rfl
      simp only [more, if_neg h0, List.set_cons_succ]
      rw [ih k (by simpa using h) fun j e' hj he => hne (j + 1) e' (by omega) (by simpa using he)]
theorem more_new (l : List (List UInt8 × Int)) (z : List UInt8) (h : ∀ e ∈ l, e.1 ≠ z) : more l z = l ++ [(z, 1)] := by
  induction l with
  | nil => rfl
  | cons e t ih =>
    simp only [more, if_neg (h e (by simp)), List.cons_append]
    rw [ih fun e' he => h e' (by simp [he])]
theorem nOf_more (l : List (List UInt8 × Int)) (z x : List UInt8) : nOf (more l z) x = if x = z then min (nOf l z + 1) 15 else nOf l x := by
  induction l with
  | nil =>
    by_cases h : x = z
    · subst h; simp [more, nOf]; decide
    · simp [more, nOf, h, Ne.symm h]
  | cons e t ih =>
    by_cases h : e.1 = z
    · by_cases hx : x = z
      · subst hx; simp [more, nOf, h]
      · simp [more, nOf, h, hx, Ne.symm hx]
    · by_cases hx : x = z
      · subst hx; simp only [more, nOf, if_neg h]; rw [ih, if_pos rfl]; simp
      · by_cases h2 : e.1 = x
        · simp [more, nOf, hx, h2]
        · simp only [more, nOf, if_neg h, if_neg h2]; rw [ih, if_neg hx]
theorem keys_more (l : List (List UInt8 × Int)) (z x : List UInt8) : (∃ e ∈ more l z, e.1 = x) ↔ (x = z ∨ ∃ e ∈ l, e.1 = x) := by
  induction l with
  | nil => simp [more]; exact eq_comm
  | cons e t ih =>
    by_cases h : e.1 = z
    · simp only [more, if_pos h, List.mem_cons, exists_eq_or_imp]
      subst h
      constructor
      · rintro (h | h)
        · exact .inr (.inl h)
        · exact .inr (.inr h)
      · rintro (h | h | h)
        · exact .inl h.symm
        · exact .inl h
        · exact .inr h
    · simp only [more, if_neg h, List.mem_cons, exists_eq_or_imp, ih]
      constructor
      · rintro (h | h | h)
        · exact .inr (.inl h)
        · exact .inl h
        · exact .inr (.inr h)
      · rintro (h | h | h)
        · exact .inr (.inl h)
        · exact .inl h
        · exact .inr (.inr h)
/-- no key twice -/
def Once (l : List (List UInt8 × Int)) : Prop := (l.map (·.1)).Nodup
theorem once_more {l : List (List UInt8 × Int)} (z : List UInt8) (h : Once l) : Once (more l z) := by
  induction l with
  | nil => simp [more, Once]
  | cons e t ih =>
    simp only [Once, List.map_cons, List.nodup_cons] at h
    by_cases he : e.1 = z
    · simp only [more, if_pos he, Once, List.map_cons, List.nodup_cons]; exact h
    · simp only [more, if_neg he, Once, List.map_cons, List.nodup_cons]
      refine ⟨?_, ih h.2⟩
      intro hm
      obtain ⟨e', he', h1⟩ := List.mem_map.1 hm
      rcases (keys_more t z e.1).1 ⟨e', he', h1⟩ with h2 | ⟨e2, h2, h3⟩
      · exact he h2
      · exact h.1 (List.mem_map.2 ⟨e2, h2, h3⟩)
theorem nOf_mem {l : List (List UInt8 × Int)} (h : Once l) : ∀ e ∈ l, nOf l e.1 = e.2 := by
  induction l with
  | nil => intro e he; cases he
  | cons a t ih =>
    simp only [Once, List.map_cons, List.nodup_cons] at h
    intro e he
    rcases List.mem_cons.1 he with rfl | he
    · simp [nOf]
    · have hne : a.1 ≠ e.1 := fun h2 => h.1 (List.mem_map.2 ⟨e, he, h2.symm⟩)
      simp only [nOf, if_neg hne]
      exact ih h.2 e he
/-- all numbers halved -/
def halves (l : List (List UInt8 × Int)) : List (List UInt8 × Int) := l.map fun e => (e.1, e.2 / 2)
theorem nOf_halves (l : List (List UInt8 × Int)) (x : List UInt8) : nOf (halves l) x = nOf l x / 2 := by
  induction l with
  | nil => rfl
  | cons e t ih =>
    simp only [halves, List.map_cons, nOf] at ih ⊢
    split
    · rfl
    · exact ih
theorem keys_halves (l : List (List UInt8 × Int)) (x : List UInt8) : (∃ e ∈ halves l, e.1 = x) ↔ ∃ e ∈ l, e.1 = x := by
  constructor
  · rintro ⟨e, he, rfl⟩
    obtain ⟨e', he', rfl⟩ := List.mem_map.1 he
    exact ⟨e', he', rfl⟩
  · rintro ⟨e, he, rfl⟩
    exact ⟨(e.1, e.2 / 2), List.mem_map.2 ⟨e, he, rfl⟩, rfl⟩
theorem once_halves {l : List (List UInt8 × Int)} (h : Once l) : Once (halves l) := by
  simpa [Once, halves, List.map_map, Function.comp_def] using h
/-- what holds between two keys that are added -/
structure Inv (k : K) (l : List (List UInt8 × Int)) : Prop where
  ok : Ok k
  once : Once l
  few : ∀ x, 0 ≤ nOf l x ∧ nOf l x ≤ 15
  le : ∀ x i, i ∈ k.p x → nOf l x ≤ at' k.c i
  ge : ∀ x i, (∀ e ∈ l, i ∈ k.p e.1 → e.1 = x) → at' k.c i ≤ nOf l x
/-- a key is counted and added; the numbers are halved if the sketch is -/
def next (k : K) (l : List (List UInt8 × Int)) (z : List UInt8) : List (List UInt8 × Int) := if (k.add z).a = k.a + 1 then more l z else halves (more l z)
theorem halved_iff {k : K} (h : Ok k) (z : List UInt8) : (k.add z).a = k.a + 1 ↔ k.a + 1 ≠ k.s := by
  have h1 := h.a1
  rw [h.add_a]
  split <;> omega
theorem Inv.next {k : K} {l : List (List UInt8 × Int)} (h : Inv k l) (z : List UInt8) : Inv (k.add z) (Sk.next k l z) := by
  have hok := h.ok
  have hle1 : ∀ x i, i ∈ k.p x → nOf (more l z) x ≤ at' (k.add1 z).c i := by
    intro x i hi
    have h1 := h.le x i hi
    have h2 := (add_ge (k.p z) k.c i).1
    rw [nOf_more]
    split
    · rename_i hx
      subst hx
      have h3 := add_mem (k.p x) k.c i hi (hok.p_lt x i hi)
      have h4 : nOf l x ≤ cnt k.c (k.p x) := cnt_ge (h.few x).2 fun j hj => h.le x j hj
      simp only [K.add1]
      omega
    · simp only [K.add1]; omega
  have hge1 : ∀ x i, (∀ e ∈ more l z, i ∈ k.p e.1 → e.1 = x) → at' (k.add1 z).c i ≤ nOf (more l z) x := by
    intro x i hall
    have hl : ∀ e ∈ l, i ∈ k.p e.1 → e.1 = x := fun e he hi => by
      obtain ⟨e', he', h1⟩ := (keys_more l z e.1).2 (.inr ⟨e, he, rfl⟩)
      rw [← h1]
      exact hall e' he' (by rw [h1]; exact hi)
    have h1 := h.ge x i hl
    have h2 := (add_ge (k.p z) k.c i).2
    have h3 := (hok.add1_at z i).2.1
    rw [nOf_more]
    split
    · rename_i hx
      subst hx
      simp only [K.add1] at h3 ⊢
      omega
    · rename_i hx
      have hz : i ∉ k.p z := fun hi => by
        obtain ⟨e', he', h1⟩ := (keys_more l z z).2 (.inl rfl)
        exact hx (by rw [← hall e' he' (by rw [h1]; exact hi), h1])
      have := add_far (k.p z) k.c i hz
      simp only [K.add1]
      omega
  have hfew : ∀ x, 0 ≤ nOf (more l z) x ∧ nOf (more l z) x ≤ 15 := by
    intro x
    have h1 := h.few x
    have h2 := h.few z
    rw [nOf_more]
    split <;> omega
  by_cases he : k.a + 1 = k.s
  · have hn : Sk.next k l z = halves (more l z) := by
      unfold Sk.next
      rw [if_neg (fun h1 => (halved_iff hok z).1 h1 he)]
    have hc : (k.add z).c = Sk.half (k.add1 z).c := by unfold K.add; rw [if_pos he]; rfl
    rw [hn]
    refine ⟨hok.add z, once_halves (once_more z h.once), ?_, ?_, ?_⟩
    · intro x; rw [nOf_halves]; have := hfew x; omega
    · intro x i hi
      rw [K.add_p] at hi
      rw [nOf_halves, hc, Sk.half_at]
      have := hle1 x i hi
      omega
    · intro x i hall
      rw [nOf_halves, hc, Sk.half_at]
      have := hge1 x i fun e he' hi => by
        obtain ⟨e2, h2, h3⟩ := (keys_halves (more l z) e.1).2 ⟨e, he', rfl⟩
        rw [← h3]
        exact hall e2 h2 (by rw [K.add_p, h3]; exact hi)
      omega
  · have hn : Sk.next k l z = more l z := by
      unfold Sk.next
      rw [if_pos ((halved_iff hok z).2 he)]
    have hc : (k.add z).c = (k.add1 z).c := by unfold K.add; rw [if_neg he]
    rw [hn]
    refine ⟨hok.add z, once_more z h.once, hfew, ?_, ?_⟩
    · intro x i hi
      rw [K.add_p] at hi
      rw [hc]; exact hle1 x i hi
    · intro x i hall
      rw [hc]
      exact hge1 x i fun e he' hi => hall e he' (by rw [K.add_p]; exact hi)
/-- T9: no key is counted less -/
theorem Inv.count {k : K} {l : List (List UInt8 × Int)} (h : Inv k l) : ∀ e ∈ l, e.2 ≤ k.count e.1 := by
  intro e he
  have h1 := nOf_mem h.once e he
  have h2 := (h.few e.1).2
  rw [← h1]
  exact cnt_ge h2 fun i hi => h.le e.1 i hi
/-- .. and one that shares no cell is counted exactly -/
theorem Inv.exact {k : K} {l : List (List UInt8 × Int)} (h : Inv k l) (e : List UInt8 × Int) (he : e ∈ l) (hal : ∀ e' ∈ l, e'.1 ≠ e.1 → ∀ r, r < 4 → plN e.1 r k.n ≠ plN e'.1 r k.n) : k.count e.1 = e.2 := by
  apply Int.le_antisymm
  · obtain ⟨i, hi⟩ := List.exists_mem_of_ne_nil _ (k.p_ne e.1)
    have h1 := h.ge e.1 i fun e' he' hi' => Classical.byContradiction fun hne => by
      obtain ⟨r, hr, heq⟩ := places_shared e.1 e'.1 k.n i h.ok.n1 hi hi'
      exact hal e' he' hne r hr heq
    rw [nOf_mem h.once e he] at h1
    exact Int.le_trans (cnt_le hi) h1
  · exact h.count e he
theorem inv_new (w s : Int) (hp : isPow w = true) (hw : w ≤ 4096) (h1 : 1 ≤ s) (h2 : s ≤ 1048576) : Inv ⟨w, s, 0, List.replicate (4 * w.toNat) 0⟩ [] := by
  have hz : ∀ i, at' (List.replicate (4 * w.toNat) (0 : Int)) i = 0 := by
    intro i
    by_cases h : i < 4 * w.toNat
    · simp [at', h]
    · simp [at', Nat.le_of_not_lt h]
  have hw1 := pow_pos hp
  refine ⟨Ok.of_at hp hw h1 h2 (Int.le_refl _) (by simp only; omega) (by simp only [List.length_replicate]; omega) (fun i _ => by rw [hz]; exact ⟨by omega, by omega, Int.le_refl _⟩), by simp [Once], fun x => by simp [nOf], fun x i _ => by simp only; rw [hz]; simp [nOf], fun x i _ => by simp only; rw [hz]; simp [nOf]⟩
end Sk
end Go.Proofs.YtbgieephehfgpabDoor
/-
  What the program's functions of the check return, each call walked. Conditions: the registers are below 2^40, the tables are as the program's text lays them.
-/
namespace Go.Proofs.YtbgieephehfgpabDoor
open Go Go.RowKit Crc

set_option maxHeartbeats 400000 in
theorem nibble_any (r : R) (n : Int) (w : World) (hn : 0 ≤ n ∧ n < 256) (hT : Tabs w) :
    Calls Tryd.prog 65 #[.agg #[.int .u64 (toI r)], .int .u8 n] w fun e w' => e = .returned (.agg #[.int .u64 (toI (nib r n.toNat))]) ∧ Below w.heap.size w w' := by
  obtain ⟨h2, h3⟩ := hn
  have h0 := toI_lo r
  have h1 := toI_hi r
  have ej := idx_go r n h2 h3
  have hj := idx_lt r n.toNat
  have hc := hT.nib _ hj
  have hg := nib_go r n.toNat
  have hz := lt_of_cell hc
  generalize idx r n.toNat = j at *
  generalize nibs.getD j 0 = t at *
  generalize toI r = x at *
  have Hg := Lib.hid hg
  clear hg hT
  have hz1 : 1 < w.heap.size := hz
  have hz2 : 1 < w.heap.size + 1 := by omega
  clear hz
  go_enter Tryd.func65, Tryd.ntmps65
  go_wp2
  go_region
  go_wp2
  exact bodyPost_ret (v := .agg #[.int .u64 (bits .xor .u64 (bits .and .u64 (x * 16) 1099511627775) t)]) (by simp [results, Tryd.results65, go_sem]) rfl ⟨ret_agg1 Hg.out, (((Below.refl _ _).alloc (Nat.le_refl _) _).alloc (by simp) _).drew⟩

theorem value_any (r : R) (w : World) :
    Calls Tryd.prog 44 #[.agg #[.int .u64 (toI r)]] w fun e w' => e = .returned (.int .i64 (toI (r ^^^ ones))) ∧ Below w.heap.size w w' := by
  have h0 := toI_lo r
  have h1 := toI_hi r
  have hx : bits .xor .u64 (toI r) 1099511627775 = toI (r ^^^ ones) := xor_toI r ones
  have h2 := toI_lo (r ^^^ ones)
  have h3 := toI_hi (r ^^^ ones)
  generalize toI r = x at *
  generalize toI (r ^^^ ones) = y at *
  go_enter Tryd.func44, Tryd.ntmps44
  go_wp2
  go_ret
  exact ⟨rfl, below_alloc1 _ _⟩

theorem begin_any (w : World) :
    Calls Tryd.prog 42 #[] w fun e w' => e = .returned (.agg #[.int .u64 (toI ones)]) ∧ Below w.heap.size w w' := by
  go_enter Tryd.func42, Tryd.ntmps42
  go_wp2
  exact bodyPost_ret (v := .agg #[.int .u64 1099511627775]) (by simp [results, Tryd.results42, go_sem]) rfl ⟨rfl, below_alloc1 _ _⟩
end Go.Proofs.YtbgieephehfgpabDoor
/-
  What the program's (hash.Crc).Add returns: the register after the text's bytes. Conditions: the text takes at most 2^47 - 4096 bytes, the tables are as the program's text lays them.
-/
namespace Go.Proofs.YtbgieephehfgpabDoor
open Go Go.RowKit Crc
/-- the register after bytes -/
def Crc.adds (r : R) (l : List UInt8) : R := l.foldl (fun r b => byte8 r b.toNat) r
theorem Crc.adds_take (r : R) (s : ByteArray) (k : Nat) (h : k < s.size) : adds r (s.data.toList.take (k + 1)) = nib (nib (adds r (s.data.toList.take k)) (s[k].toNat / 16)) s[k].toNat := by
  rw [List.take_succ_eq_append_getElem (by simpa using h)]
  unfold adds
  rw [List.foldl_append]
  show byte8 _ s[k].toNat = _
  rw [byte8_nib]
set_option maxHeartbeats 1000000 in
theorem add_any (r : R) (s : ByteArray) (w : World) (hs : s.size ≤ 140737488351232) (hT : Tabs w) :
    Calls Tryd.prog 43 #[.agg #[.int .u64 (toI r)], .string s] w fun e w' => e = .returned (.agg #[.int .u64 (toI (adds r s.data.toList))]) ∧ Below w.heap.size w w' := by
  go_enter Tryd.func43, Tryd.ntmps43
  go_wp2
  go_loopw [8] (fun i wr => ∃ k : Nat, k ≤ s.size ∧ i = .int .i64 k ∧ wr.heap[w.heap.size]? = some (.cells #[.int .u64 (toI (adds r (s.data.toList.take k)))] 76 (0, 0)) ∧ wr.heap[w.heap.size + 1]? = some (.cells #[.int .u64 0] 76 (0, 0)) ∧ Below w.heap.size w wr) (fun i _ => s.size - (intOf i).toNat)
  case atStart => exact ⟨0, Nat.zero_le _, rfl, blk_alloc (blk_new _ _ _) _, (by have h := blk_new (w.alloc (.cells #[.int .u64 (toI r)] 76)) #[.int .u64 0] 76; rw [World.size_alloc] at h; exact h), ((Below.refl _ _).alloc (Nat.le_refl _) _).alloc (by simp) _⟩
  case round =>
    obtain ⟨k, hk, rfl, hb0, hb1, hB⟩ := hrel
    have c0 := blk_cell hb0 0
    have f0 := blk_free hb0 0
    have hx0 := toI_lo (adds r (s.data.toList.take k))
    have hTr : Tabs wr := hT.below hB
    by_cases hlt : k < s.size
    · have hst := adds_take r s k hlt
      generalize adds r (s.data.toList.take k) = x at *
      have Hst := Lib.hid hst
      clear hst
      have hTd := hTr.drew
      go_wp2
      go_region_with (first | (go_at_call 65; ((with_reducible refine (nibble_any x _ _ (byte_div _) (by assumption)).mono ?_); rintro e w1 ⟨rfl, hw1⟩; have hT1 := Tabs.below (by assumption) hw1; have hk1 := blk_kept (b := w.heap.size) (by assumption) hw1)) | (go_at_call 65; ((with_reducible refine (nibble_any (nib x _) _ _ (byte_bd _) (by assumption)).mono ?_); rintro e w2 ⟨rfl, hw2⟩; have hk2 := blk_kept (b := w.heap.size) (by assumption) hw2; have hc2 := blk_cell hk2 0; have hf2 := blk_free hk2 0)))
      all_goals
        have hBw : Below w.heap.size w w2 := hB.drew.trans ((hw1.mono hB.size).trans (hw2.mono (Nat.le_trans hB.size hw1.size)))
        have hb1' := blk_kept (blk_kept (w := wr.drew) hb1 hw1) hw2
        clear hc2 hf2 c0 f0
        go_wp2
        go_roundw
        case rel => exact ⟨k + 1, by omega, by go_num, by rw [Hst.out]; exact blk_set hk2 0 _, blk_far hb1' (by simp) _, hBw.setCell (by simp) _⟩
        case measure => simp [intOf]; omega
    · have hk' : k = s.size := by omega
      subst hk'
      rw [List.take_of_length_le (by simp)] at hb0 hx0 c0
      have c1 := blk_cell hb1 0
      have f1 := blk_free hb1 0
      go_wp2
      exact bodyPost_ret (v := .agg #[.int .u64 (toI (adds r s.data.toList))]) (by simp [results, Tryd.results43, go_sem, c1]) rfl ⟨rfl, hB.setCell (by simp) _⟩
end Go.Proofs.YtbgieephehfgpabDoor
/-
  What the program's hash.Crc40 returns: the check of the bytes. Conditions: at most 2^47 - 4096 bytes, the tables are as the program's text lays them.
-/
namespace Go.Proofs.YtbgieephehfgpabDoor
open Go Go.RowKit Crc
/-- the check of bytes -/
def Crc.crc (l : List UInt8) : R := adds ones l ^^^ ones
set_option maxHeartbeats 1000000 in
theorem crc40_any (v : Value) (l : List UInt8) (w : World) (hr : RdB w v l) (hs : l.length ≤ 140737488351232) (hT : Tabs w) :
    Calls Tryd.prog 41 #[v] w fun e w' => e = .returned (.int .i64 (toI (crc l))) ∧ Below w.heap.size w w' := by
  have hcv : ∀ W, Below w.heap.size w W → (convert 31 9 v).run Tryd.prog W = .ok (.string ⟨l.toArray⟩) W :=
    fun W hW => RdB.conv (Rd.below hr hW) _ _ 5 Tryd.underlying31 Tryd.underlying5 Tryd.underlying9
  have hw0 : Below w.heap.size w w.drew := (Below.refl _ _).drew
  have hT0 := hT.drew
  go_enter Tryd.func41, Tryd.ntmps41
  go_wp2
  go_region_with (first | (go_at_call 42; ((with_reducible refine (begin_any _).mono ?_); rintro e w1 ⟨rfl, hw1⟩; have hB1 : Below w.heap.size w w1 := hw0.trans hw1; have hT1 := Tabs.below hT0 hw1)) | (go_at_call 43; ((with_reducible refine (add_any _ _ _ (by simpa [ByteArray.size] using hs) (by assumption)).mono ?_); rintro e w2 ⟨rfl, hw2⟩; have hB2 : Below w.heap.size w w2 := Below.trans (by assumption) (hw2.mono hB1.size))) | (go_at_call 44; ((with_reducible refine (value_any _ _).mono ?_); rintro e w3 ⟨rfl, hw3⟩)))
  all_goals
    go_wp2
    go_ret
    exact ⟨rfl, hB2.trans (hw3.mono hB2.size)⟩
end Go.Proofs.YtbgieephehfgpabDoor
/-
  What the program's hash.Words returns: the check of the words' bytes. Conditions: at most 10^6 words, the tables are as the program's text lays them.
-/
namespace Go.Proofs.YtbgieephehfgpabDoor
open Go Go.RowKit Crc
/-- a word's five bytes -/
def Crc.five (n : Int) : List UInt8 := (List.range 5).map fun k => UInt8.ofNat ((n % 1099511627776).toNat / 2 ^ (32 - 8 * k))
def Crc.wordsB (l : List Int) : List UInt8 := l.flatMap five
/-- the register after the first nibbles of a word, the highest first -/
def Crc.nibs10 (r : R) (n : Int) : Nat → R
  | 0 => r
  | j + 1 => nib (nibs10 r n j) ((n / 2 ^ (36 - 4 * j)) % 16).toNat
theorem nib_mod (r : R) (a b : Nat) (h : a % 16 = b % 16) : nib r a = nib r b := by
  have key : ∀ k, k < 4 → a.testBit k = b.testBit k := by
    intro k hk
    have h1 := Nat.testBit_mod_two_pow a 4 k
    have h2 := Nat.testBit_mod_two_pow b 4 k
    rw [show (2 : Nat) ^ 4 = 16 from rfl] at h1 h2
    rw [h, h2] at h1
    simpa [hk] using h1.symm
  unfold nib
  rw [key 3 (by omega), key 2 (by omega), key 1 (by omega), key 0 (by omega)]
theorem two_nibs (r : R) (v a b : Nat) (h1 : a % 16 = v / 16 % 16) (h2 : b % 16 = v % 16) : nib (nib r a) b = byte8 r v := by
  rw [byte8_nib, nib_mod _ a (v / 16) h1, nib_mod _ b v h2]
theorem nibs10_five (r : R) (n : Int) : nibs10 r n 10 = adds r (five n) := by
  obtain ⟨m, hm⟩ : ∃ m : Nat, (m : Int) = n % 1099511627776 := ⟨(n % 1099511627776).toNat, Int.toNat_of_nonneg (by omega)⟩
  have hmt : (n % 1099511627776).toNat = m := by omega
  have hf : five n = [UInt8.ofNat (m / 4294967296), UInt8.ofNat (m / 16777216), UInt8.ofNat (m / 65536), UInt8.ofNat (m / 256), UInt8.ofNat (m / 1)] := by
    unfold five
    rw [hmt]
    rfl
  have hb : ∀ x : Nat, (UInt8.ofNat x).toNat = x % 256 := fun x => UInt8.toNat_ofNat'
  have s1 : ∀ q, nib (nib q ((n / 68719476736) % 16).toNat) ((n / 4294967296) % 16).toNat = byte8 q (UInt8.ofNat (m / 4294967296)).toNat := fun q => two_nibs q _ _ _ (by rw [hb]; omega) (by rw [hb]; omega)
  have s2 : ∀ q, nib (nib q ((n / 268435456) % 16).toNat) ((n / 16777216) % 16).toNat = byte8 q (UInt8.ofNat (m / 16777216)).toNat := fun q => two_nibs q _ _ _ (by rw [hb]; omega) (by rw [hb]; omega)
  have s3 : ∀ q, nib (nib q ((n / 1048576) % 16).toNat) ((n / 65536) % 16).toNat = byte8 q (UInt8.ofNat (m / 65536)).toNat := fun q => two_nibs q _ _ _ (by rw [hb]; omega) (by rw [hb]; omega)
  have s4 : ∀ q, nib (nib q ((n / 4096) % 16).toNat) ((n / 256) % 16).toNat = byte8 q (UInt8.ofNat (m / 256)).toNat := fun q => two_nibs q _ _ _ (by rw [hb]; omega) (by rw [hb]; omega)
  have s5 : ∀ q, nib (nib q ((n / 16) % 16).toNat) ((n / 1) % 16).toNat = byte8 q (UInt8.ofNat (m / 1)).toNat := fun q => two_nibs q _ _ _ (by rw [hb]; omega) (by rw [hb]; omega)
  rw [hf]
  show _ = byte8 (byte8 (byte8 (byte8 (byte8 r _) _) _) _) _
  rw [← s1, ← s2, ← s3, ← s4, ← s5]
  rfl
def mkI (n : Int) : Value := .int .i64 n
set_option maxRecDepth 100000 in
set_option maxHeartbeats 1000000 in
theorem words_any (v : Value) (l : List Int) (w : World) (hr : Rd mkI w v l) (hs : l.length ≤ 1000000) (hb : ∀ n ∈ l, -9223372036854775808 ≤ n ∧ n ≤ 9223372036854775807) (hT : Tabs w) :
    Calls Tryd.prog 45 #[v] w fun e w' => e = .returned (.int .i64 (toI (crc (wordsB l)))) ∧ Below w.heap.size w w' := by
  obtain ⟨va, vcap, rfl, hvc, hvcell⟩ := hr
  go_enter Tryd.func45, Tryd.ntmps45
  go_wp2_with (first | (go_at_call 42; ((with_reducible refine (begin_any _).mono ?_); rintro e w1 ⟨rfl, hw1⟩)))
  have hb3 := blk_new w1 #[.int .u64 (toI ones)] 76
  have hB1 : Below w.heap.size w (w1.alloc (.cells #[.int .u64 (toI ones)] 76)) := hw1.alloc hw1.size _
  have hN : w.heap.size ≤ w1.heap.size := hw1.size
  generalize w1.alloc (.cells #[.int .u64 (toI ones)] 76) = w2 at *
  generalize w1.heap.size = N at *
  go_loopw [5, 6, 10] (fun _ _ i wr => ∃ k : Nat, k ≤ l.length ∧ i = .int .i64 (k : Int) ∧ Blk wr N #[.int .u64 (toI (adds ones (wordsB (l.take k))))] 76 ∧ Below w.heap.size w wr) (fun _ _ i _ => l.length - (intOf i).toNat)
  case atStart => exact ⟨0, by omega, rfl, hb3, hB1⟩
  case round =>
    clear hb3 hB1
    obtain ⟨k, hk, rfl, hb3, hB⟩ := hrel
    by_cases hlt : k < l.length
    · rcases hvcell with hnil | ⟨b, off, rfl, hbl, hcell⟩
      · subst hnil; simp at hlt
      · obtain ⟨x, hx⟩ : ∃ x, l[k]? = some x := ⟨_, List.getElem?_eq_getElem hlt⟩
        have hxs := hb x (List.mem_of_getElem? hx)
        have hcx : wr.cell? ⟨b, off + k, none⟩ = some (.int .i64 x) := (hB.cell (p := ⟨b, off + k, none⟩) hbl).trans (hcell k x hx)
        have hnext : adds ones (wordsB (l.take (k + 1))) = nibs10 (adds ones (wordsB (l.take k))) x 10 := by
          rw [nibs10_five, List.take_add_one, hx]; simp [wordsB, adds, List.foldl_append]
        generalize adds ones (wordsB (l.take k)) = r at *
        have Hnext := Lib.hid hnext
        clear hnext hx hcell
        go_wp2
        obtain ⟨wo, rfl⟩ : ∃ wo : World, wo = wr := ⟨_, rfl⟩
        go_loopw [6] (fun s wr => ∃ (j : Nat) (z : Int), j ≤ 10 ∧ s = .int .i64 z ∧ z + 4 * (j : Int) = 36 ∧ Blk wr N #[.int .u64 (toI (nibs10 r x j))] 76 ∧ Below w.heap.size w wr) (fun s _ => (intOf s + 8).toNat)
        case atStart => exact ⟨0, 36, by omega, rfl, by omega, hb3, hB⟩
        case round =>
          clear hb3 hB hcx
          obtain ⟨j, z, hj, rfl, hz, hb3, hB⟩ := hrel
          have c0 := blk_cell hb3 0
          have f0 := blk_free hb3 0
          have hTr := hT.below hB
          by_cases h10 : j < 10
          · have hTd := hTr.drew
            have hnn : nibs10 r x (j + 1) = nib (nibs10 r x j) ((x / 2 ^ (36 - 4 * j)) % 16).toNat := rfl
            generalize nibs10 r x j = y at *
            have Hnn := Lib.hid hnn
            clear hnn
            have hy0 := toI_lo y
            have hy1 := toI_hi y
            have d0 : (0 : Int) ≤ z := by omega
            have d1 : z < 64 := by omega
            have Hz := Lib.hid hz
            clear hz
            go_wp2
            have a15 := i64_and15 (x / 2 ^ z.toNat)
            obtain ⟨d, hd⟩ : ∃ d, d = (x / 2 ^ z.toNat) % 16 := ⟨_, rfl⟩
            have hd1 : 0 ≤ d ∧ d < 256 := by omega
            rw [← hd] at a15
            have hzt : z.toNat = 36 - 4 * j := by have := Hz.out; omega
            have hnd : nibs10 r x (j + 1) = nib y d.toNat := by rw [Hnn.out, hd, hzt]
            have Hnd := Lib.hid hnd
            have hw8 : IntKind.u8.wrap d = d := IntWalk.u8_in _ (by omega)
            clear hnd hzt hd
            go_region_with (go_at_call 65; ((with_reducible refine (nibble_any y d _ hd1 hTd).mono ?_); rintro e w3 ⟨rfl, hw3⟩; have hk3 := blk_kept (w := wr.drew) hb3 hw3; have c3 := blk_cell hk3 0; have f3 := blk_free hk3 0))
            have hBw : Below w.heap.size w w3 := hB.drew.trans (hw3.mono hB.size)
            have hset := blk_set hk3 0 (.int .u64 (toI (nib y d.toNat)))
            have hBs := hBw.setCell (p := ⟨N, 0, none⟩) hN (.int .u64 (toI (nib y d.toNat)))
            have Hset := Lib.hid hset
            clear hset c3 f3 c0 f0
            go_wp2
            go_roundw
            case rel => exact ⟨j + 1, z - 4, by omega, by go_num, by have := Hz.out; omega, by rw [Hnd.out]; exact Hset.out, hBs⟩
            case measure => simp [intOf]; omega
          · have hz' : z = -4 := by omega
            obtain rfl : j = 10 := by omega
            subst hz'
            go_wp2
            go_roundw
            case rel => exact ⟨k + 1, by omega, by go_num, by rw [Hnext.out]; exact hb3, hB⟩
            case measure => simp [intOf]; omega
    · obtain rfl : k = l.length := by omega
      rw [List.take_length] at hb3
      have c0 := blk_cell hb3 0
      go_wp2_with (first | (go_at_call 44; ((with_reducible refine (value_any _ _).mono ?_); rintro e w3 ⟨rfl, hw3⟩)))
      go_ret
      exact ⟨rfl, hB.trans (hw3.mono hB.size)⟩
end Go.Proofs.YtbgieephehfgpabDoor
/-
  append(own, arg...): a slice of the call's own, made longer by the elements of a slice that is read. Conditions: less than 10^12 elements.
-/
namespace Go.Proofs.YtbgieephehfgpabDoor
open Go Go.RowKit
/-- a slice of the call's own whose elements are written by mk -/
abbrev OwnOf {α : Type} (mk : α → Value) (e : TypeId) (w : World) (base : Nat) (v : Value) (l : List α) : Prop := w.ownsRow base e 1 v l.length (l.map mk)
theorem ownOf_nil {α : Type} (mk : α → Value) (e : TypeId) (w : World) (base : Nat) : OwnOf mk e w base (.slice none 0 0) [] := World.ownsRow_nil _ _ _ _
theorem ownOf_rd {α : Type} {mk : α → Value} {e : TypeId} {w : World} {base : Nat} {v : Value} {l : List α} (h : OwnOf mk e w base v l) : Rd mk w v l := by
  have hx := fun g => h.cells (g := g)
  rcases h.2 with ⟨rfl, h0⟩ | ⟨g, cap, cur, rfl, hb, hg, hc, _⟩
  · exact ⟨none, 0, by rw [h0], by omega, .inl (List.length_eq_zero_iff.1 h0)⟩
  · refine ⟨_, cap, rfl, hc, .inr ⟨g, 0, rfl, blk_lt hg, fun i x hi => ?_⟩⟩
    have := hx g rfl i (mk x) (by rw [List.getElem?_map, hi]; rfl)
    rw [Addr.add_mid] at this
    exact this
theorem ownOf_kept {α : Type} {mk : α → Value} {e : TypeId} {w w' : World} {base : Nat} {v : Value} {l : List α} (h : OwnOf mk e w base v l) (hb : Below w.heap.size w w') : OwnOf mk e w' base v l := by
  refine ⟨h.1, ?_⟩
  rcases h.2 with hn | ⟨g, cap, cur, rfl, hbb, hgg, rest⟩
  · exact .inl hn
  · exact .inr ⟨g, cap, cur, rfl, hbb, blk_kept hgg hb, rest⟩
theorem ownOf_mono {α : Type} {mk : α → Value} {e : TypeId} {w : World} {base base' : Nat} {v : Value} {l : List α} (h : OwnOf mk e w base v l) (hb : base' ≤ base) : OwnOf mk e w base' v l := by
  refine ⟨h.1, ?_⟩
  rcases h.2 with hn | ⟨g, cap, cur, rfl, hbb, rest⟩
  · exact .inl hn
  · exact .inr ⟨g, cap, cur, rfl, by omega, rest⟩
theorem run_append_own_none' {P : Program} {w : World} (base : Nat) (t ty e : TypeId) (i : TypeInfo) (size c : Nat) (ht : P.underlying t = some (.slice e)) (hi : P.info? e = some i)
    (v : Value) (n : Nat) (xs : List Value) (hown : w.ownsRow base e size v n xs) :
    (Builtin.append_ #[t, t] ty #[v, .slice none 0 c]).run P w = .ok v w := by
  rcases hown.2 with ⟨rfl, rfl⟩ | ⟨g, cap, cur, rfl, _, _, hnc, _⟩
  · simp [Builtin.append_, run_underlying ht, sizeOf, typeInfo, hi, Builtin.lenOf, Builtin.firstCells]
  · simp [Builtin.append_, run_underlying ht, sizeOf, typeInfo, hi, Builtin.lenOf, Builtin.firstCells, hnc, storeCells]
theorem wpList_append_none {P : Program} {w : World} {ops : Array Oper} {rest : List Oper} {o : Oper} {a : Act} {Q : Exit → Act → World → Prop} (hgd : o.guard = none) (s x : Operand) (t : TypeId)
    (ho : o.op = .call { callee := .builtin .append, args := #[s, x], argTypes := #[t, t] })
    (base : Nat) (e : TypeId) (i : TypeInfo) (size c : Nat) (ht : P.underlying t = some (.slice e)) (hi : P.info? e = some i)
    (v : Value) (n : Nat) (xs : List Value) (hs : a.eval s = v) (hown : w.ownsRow base e size v n xs) (hx : a.eval x = .slice none 0 c)
    (h : wpList P ops Q rest (a.put o.dst v) w) : wpList P ops Q (o :: rest) a w := by
  refine wpList_plain hgd fun K hK => ?_
  have hrun := run_append_own_none' (P := P) (w := w) base t o.type e i size c ht hi v n xs hown
  unfold Oper.wp
  simp [execOp, ho, resolve, invoke, builtin, hs, hx, hrun, Result.andThen]
  exact hK _ _ h
/-- append(s, x...), x a slice that reads -/
theorem wp_appR {α : Type} {mk : α → Value} {t e : TypeId} {z : Value} {bytes : Nat} (hmk : ∀ x, (mk x).oneCell' = true) (ht : Tryd.prog.underlying t = some (.slice e)) (hinfo : (Tryd.prog.info? e).map (fun i => (i.zero, i.size, i.bytes)) = some (some z, 1, bytes)) (hzc : z.cells.size = 1) (hby : bytes ≤ 64)
    {ops : Array Oper} {rest : List Oper} {o : Oper} {a : Act} {w : World} {Q : Exit → Act → World → Prop} (hgd : o.guard = none) (s x : Operand)
    (ho : o.op = .call { callee := .builtin .append, args := #[s, x], argTypes := #[t, t] }) (base : Nat) (v : Value) (l : List α) (hs : a.eval s = v) (hown : OwnOf mk e w base v l)
    (vx : Value) (m : List α) (hx : a.eval x = vx) (hrd : Rd mk w vx m) (hlen : l.length + m.length < 1000000000000) (hbase : base ≤ w.heap.size)
    (h : ∀ v' w', OwnOf mk e w' base v' (l ++ m) → Grew base w w' v.ownBlock → wpList Tryd.prog ops Q rest (a.put o.dst v') w') :
    wpList Tryd.prog ops Q (o :: rest) a w := by
  obtain ⟨i0, hi, hz0, hz1, hz2⟩ := info_parts hinfo
  have hrow : ∀ j, v.ownBlock = some j → base ≤ j := fun j hj => (hown.lt j hj).1
  have hb2 : (l.length + m.length) * bytes ≤ 140737488355328 := Nat.le_trans (Nat.mul_le_mul_left _ hby) (by omega)
  have key : ∀ v' w', w'.ownsRow base e 1 v' (l.length + m.length) (l.map mk ++ m.map mk) → w.grownBy w' v.ownBlock → wpList Tryd.prog ops Q rest (a.put o.dst v') w' := by
    intro v' w' hown' hg
    have hO : OwnOf mk e w' base v' (l ++ m) := by
      have e1 : (l ++ m).map mk = l.map mk ++ m.map mk := by rw [List.map_append]
      have e2 : (l ++ m).length = l.length + m.length := by rw [List.length_append]
      show w'.ownsRow _ _ _ _ _ _
      rw [e1, e2]
      exact hown'
    refine h v' w' hO ⟨?_, hg.size, ?_⟩
    · intro B a0 hB hBb
      exact hB.grown hg (by omega) (fun j hj => Nat.le_trans hBb (hrow j hj))
    · intro k z hk hkb
      exact blk_grown hk hg (fun e => by have := hrow k e.symm; omega)
  obtain ⟨ao, cap, rfl, hc, hcase⟩ := hrd
  have hones : ∀ u ∈ m.map mk, u.oneCell' = true := by
    intro u hu
    obtain ⟨y, _, rfl⟩ := List.mem_map.1 hu
    exact hmk y
  cases ao with
  | none =>
    have hm0 : m = [] := by
      rcases hcase with h0 | ⟨b, off, h0, _⟩
      · exact h0
      · cases h0
    subst hm0
    exact wpList_append_none hgd s x t ho base e i0 1 cap ht hi v l.length (l.map mk) hs hown hx (key v w (by simpa using hown) ⟨rfl, rfl, rfl, Nat.le_refl _, fun _ _ _ => rfl⟩)
  | some ad =>
    refine wpList_append_own _ hgd s x t ho base e i0 z 1 bytes ht hi hz0 hz1 hz2 hzc (by decide) v l.length (l.map mk) hs hown ad m.length cap (m.map mk) hx (by simp) ?_ hones (by unfold maxLen; omega) hb2 hbase (fun v' w' h1 h2 _ => key v' w' h1 h2)
    intro j u hj
    rcases hcase with h0 | ⟨b, off, h0, _, hcell⟩
    · subst h0; simp at hj
    · cases h0
      rw [List.getElem?_map] at hj
      obtain ⟨y, hy, rfl⟩ := Option.map_eq_some_iff.1 hj
      have := hcell j y hy
      rw [Addr.add_lit]
      exact this
/-- append(s, x), the one element lying in a block of its own -/
theorem wp_app1 {α : Type} {mk : α → Value} {t e : TypeId} {z : Value} {bytes : Nat} (hmk : ∀ x, (mk x).oneCell' = true) (ht : Tryd.prog.underlying t = some (.slice e)) (hinfo : (Tryd.prog.info? e).map (fun i => (i.zero, i.size, i.bytes)) = some (some z, 1, bytes)) (hzc : z.cells.size = 1) (hby : bytes ≤ 64)
    {ops : Array Oper} {rest : List Oper} {o : Oper} {a : Act} {w : World} {Q : Exit → Act → World → Prop} (hgd : o.guard = none) (s x : Operand)
    (ho : o.op = .call { callee := .builtin .append, args := #[s, x], argTypes := #[t, t] }) (base : Nat) (v : Value) (l : List α) (hs : a.eval s = v) (hown : OwnOf mk e w base v l)
    (b : α) (y : Value) (hy : y = mk b) (hx : a.eval x = .slice (some ⟨w.heap.size, 0, none⟩) 1 1) (hlen : l.length < 1000000000000) (hbase : base ≤ w.heap.size)
    (h : ∀ v' w', OwnOf mk e w' base v' (l ++ [b]) → Grew base w w' v.ownBlock → (∃ g cap, v' = .slice (some ⟨g, 0, none⟩) (l.length + 1) cap ∧ base ≤ g) → wpList Tryd.prog ops Q rest (a.put o.dst v') w') :
    wpList Tryd.prog ops Q (o :: rest) a (w.alloc (.cells #[y] e)) := by
  obtain ⟨i0, hi, hz0, hz1, hz2⟩ := info_parts hinfo
  subst hy
  have hb2 : (l.length + 1) * bytes ≤ 140737488355328 := Nat.le_trans (Nat.mul_le_mul_left _ hby) (by omega)
  refine wpList_append_own _ hgd s x t ho base e i0 z 1 bytes ht hi hz0 hz1 hz2 hzc (by decide) v l.length (l.map mk) hs (hown.alloc _) ⟨w.heap.size, 0, none⟩ 1 1 [mk b] hx rfl (cell_one_new _ _ _) (by intro u hu; simp at hu; subst hu; exact hmk b) (by unfold maxLen; omega) hb2 (by simp; omega) ?_
  intro v' w' hown' hg hnil
  have hO : OwnOf mk e w' base v' (l ++ [b]) := by
    have e1 : (l ++ [b]).map mk = l.map mk ++ [mk b] := by simp
    have e2 : (l ++ [b]).length = l.length + 1 := by simp
    show w'.ownsRow _ _ _ _ _ _
    rw [e1, e2]
    exact hown'
  have hsl : ∃ g cap, v' = .slice (some ⟨g, 0, none⟩) (l.length + 1) cap ∧ base ≤ g := by
    rcases hown'.2 with ⟨_, h0⟩ | ⟨g, cap, cur, rfl, hb, hg, _⟩
    · omega
    · exact ⟨g, cap, rfl, hb⟩
  have hrow : ∀ j, v.ownBlock = some j → base ≤ j := fun j hj => (hown.lt j hj).1
  refine h v' w' hO ⟨?_, ?_, ?_⟩ hsl
  · intro B a0 hB hBb
    exact (hB.alloc (by have := hB.size; omega) _).grown hg (by simp; omega) (fun j hj => Nat.le_trans hBb (hrow j hj))
  · have := hg.size
    rw [World.size_alloc] at this
    omega
  · intro k z hk hkb
    exact blk_grown (blk_alloc hk _) hg (fun e => by have := hrow k e.symm; omega)
/-- make([]T, n) -/
theorem wp_make {α : Type} {mk : α → Value} {t e : TypeId} {z : Value} {bytes : Nat} (ht : Tryd.prog.underlying t = some (.slice e)) (hinfo : (Tryd.prog.info? e).map (fun i => (i.zero, i.size, i.bytes)) = some (some z, 1, bytes)) (hzc : z.cells = #[z]) (hby : bytes ≤ 64) (x0 : α) (hx0 : z = mk x0)
    {ops : Array Oper} {rest : List Oper} {o : Oper} {a : Act} {w : World} {Q : Exit → Act → World → Prop} (hgd : o.guard = none) (l c : Operand) (ho : o.op = Op.makeSlice t l c)
    (base : Nat) (kl kc : IntKind) (L C : Int) (n : Nat) (hl : a.eval l = .int kl L) (hc : a.eval c = .int kc C) (hL : L = (n : Int)) (hC : C = (n : Int)) (hn : n < 1000000000000) (hbase : base ≤ w.heap.size)
    (h : ∀ w', OwnOf mk e w' base (.slice (some ⟨w.heap.size, 0, none⟩) n n) (List.replicate n x0) → Grew base w w' none → wpList Tryd.prog ops Q rest (a.put o.dst (.slice (some ⟨w.heap.size, 0, none⟩) n n)) w') :
    wpList Tryd.prog ops Q (o :: rest) a w := by
  obtain ⟨i0, hi, hz0, hz1, hz2⟩ := info_parts hinfo
  have hb2 : i0.bytes * n ≤ 281474976710656 := by
    rw [hz2]
    exact Nat.le_trans (Nat.mul_le_mul_right _ hby) (by omega)
  refine wpList_make_full w hgd l c t ho base e i0 z 1 ht hi hz0 hz1 kl kc L C n hl hc hL hC hb2 (by unfold maxLen; omega) hbase ?_
  intro w' hown hg
  refine h w' ?_ ⟨fun B a0 hB hBb => hB.grown hg (by omega) (fun j hj => by cases hj), hg.size, fun b x hb _ => blk_grown hb hg (by simp)⟩
  have e1 : (madeCells z.cells (n * 1)).toList = (List.replicate n x0).map mk := by
    rw [hzc, Nat.mul_one, toList_madeCells_one, hx0, List.map_replicate]
  show w'.ownsRow _ _ _ _ _ _
  rw [← e1, List.length_replicate]
  exact hown
theorem info_int : (Tryd.prog.info? 3).map (fun i => (i.zero, i.size, i.bytes)) = some (some (.int .i64 0), 1, 8) := by kernel_rfl
theorem mkB_one (x : UInt8) : (mkB x).oneCell' = true := rfl
theorem mkI_one (x : Int) : (mkI x).oneCell' = true := rfl
end Go.Proofs.YtbgieephehfgpabDoor
/-
  Words for slices of the call's own: their form, a literal, a store. No conditions.
-/
namespace Go.Proofs.YtbgieephehfgpabDoor
open Go Go.RowKit
theorem ownOf_slice {α : Type} {mk : α → Value} {e : TypeId} {w : World} {base : Nat} {v : Value} {l : List α} (h : OwnOf mk e w base v l) (hl : l ≠ []) : ∃ g cap, v = .slice (some ⟨g, 0, none⟩) l.length cap ∧ base ≤ g ∧ g < w.heap.size := by
  rcases h.2 with ⟨_, h0⟩ | ⟨g, cap, cur, rfl, hb, hg, _⟩
  · exact absurd (List.length_eq_zero_iff.1 h0) hl
  · exact ⟨g, cap, rfl, hb, blk_lt hg⟩
/-- a slice that a call has written out -/
theorem ownOf_lit {α : Type} {mk : α → Value} {e : TypeId} (w : World) (base : Nat) (l : List α) (cs : Array Value) (n : Nat) (hcs : cs.toList = l.map mk) (hn : l.length = n) (hb : base ≤ w.heap.size) (hm : n ≤ maxLen) :
    OwnOf mk e (w.alloc (.cells cs e)) base (.slice (some ⟨w.heap.size, 0, none⟩) n n) l := by
  have hs : cs.size = n * 1 := by rw [← Array.length_toList, hcs, List.length_map, hn]; omega
  have := World.ownsRow_lit (base := base) (e := e) (size := 1) w cs n hb hm hs
  rw [hcs, ← hn] at this
  rw [← hn]
  exact this
/-- a store into a slice of the call's own -/
theorem ownOf_set {α : Type} {mk : α → Value} {e : TypeId} {w : World} {base g n cap : Nat} {l : List α} (h : OwnOf mk e w base (.slice (some ⟨g, 0, none⟩) n cap) l) (hn : n = l.length) (i : Nat) (x : α) :
    OwnOf mk e (w.setCell ⟨g, i, none⟩ (mk x)) base (.slice (some ⟨g, 0, none⟩) n cap) (l.set i x) := by
  subst hn
  have := (World.ownsRow.stored h i (mk x)).1
  show World.ownsRow _ _ _ _ _ _ _
  rw [List.length_set, List.map_set]
  exact this
theorem ownOf_cell {α : Type} {mk : α → Value} {e : TypeId} {w : World} {base g n cap : Nat} {l : List α} (h : OwnOf mk e w base (.slice (some ⟨g, 0, none⟩) n cap) l) (i : Nat) (x : α) (hx : l[i]? = some x) : w.cell? ⟨g, i, none⟩ = some (mk x) := by
  have := h.cells (g := g) rfl i (mk x) (by rw [List.getElem?_map, hx]; rfl)
  rw [Addr.add_mid, Nat.zero_add] at this
  exact this
theorem ownOf_free {α : Type} {mk : α → Value} {e : TypeId} {w : World} {base g n cap : Nat} {l : List α} (h : OwnOf mk e w base (.slice (some ⟨g, 0, none⟩) n cap) l) (i : Nat) : w.frozen? ⟨g, i, none⟩ = false := by
  rcases h.2 with ⟨h', _⟩ | ⟨g', cap', cur, h', hb, hg, _⟩
  · simp at h'
  · simp only [Value.slice.injEq, Option.some.injEq, Addr.mk.injEq, and_true] at h'
    obtain ⟨rfl, _, rfl⟩ := h'
    exact blk_free hg i
end Go.Proofs.YtbgieephehfgpabDoor
/-
  What the reference's rotr and padded return: a rotated word, the padded message. Conditions: rotations by 1 to 31, messages of at most 10^9 bytes.
-/
namespace Go.Proofs.YtbgieephehfgpabDoor
open Go Go.RowKit Sha
theorem rrot_go (x : W) (n s : Nat) (hs : s + n = 32) : bits .or .u32 (tI x / 2 ^ n) (tI x * 2 ^ s % 4294967296) = tI (rotr x n) := by
  obtain rfl : s = 32 - n := by omega
  rw [shl_go, shr_go]
  have h := or_go (shr x n) (x <<< (32 - n))
  unfold tI at h ⊢
  rw [h]
  rfl
set_option maxHeartbeats 400000 in
theorem rrotr_any (x : W) (n : Nat) (w : World) (hn : 1 ≤ n) (hn' : n ≤ 31) :
    Calls Tryd.prog 77 #[.int .u32 (tI x), .int .i64 (n : Int)] w fun e w' => e = .returned (.int .u32 (tI (rotr x n))) ∧ ∃ k, w' = w.drewN k := by
  have h0 := tI_lo x
  have h1 := tI_hi x
  obtain ⟨s, hs⟩ : ∃ s, s = 32 - n := ⟨_, rfl⟩
  have hr := rrot_go x n s (by omega)
  have hs1 : (32 : Int) - (n : Int) = (s : Int) := by omega
  have hs2 : s < 32 := by omega
  generalize tI (rotr x n) = y at *
  have Hr := Lib.hid hr
  clear hr hs
  go_enter Tryd.func77, Tryd.ntmps77
  go_wp2
  go_quiet (fail)
  go_wp2
  go_ret
  exact ⟨ret_int Hr.out, _, rfl⟩
set_option maxRecDepth 100000 in
set_option maxHeartbeats 2000000 in
theorem rpadded_any (v : Value) (l : List UInt8) (w : World) (hr : RdB w v l) (hs : l.length ≤ 1000000000) :
    Calls Tryd.prog 75 #[v] w fun e w' => (∃ v', e = .returned v' ∧ OwnOf mkB 5 w' w.heap.size v' (padded l)) ∧ Below w.heap.size w w' := by
  have Hr := Lib.hid hr
  obtain ⟨va, vcap, rfl, hvc, hvcell⟩ := hr
  clear hvcell
  obtain ⟨N, hN⟩ : ∃ N, N = l.length := ⟨_, rfl⟩
  have e8 : IntKind.u64.wrap (8 * (l.length : Int)) = 8 * (l.length : Int) := by rw [IntWalk.u64_in _ (by omega)]
  have E1 : Hid (([] : List UInt8).length + l.length < 1000000000000) := Lib.hid (by simp; omega)
  go_enter Tryd.func75, Tryd.ntmps75
  go_wp2_with (first
    | (with_reducible refine wp_appR mkB_one Tryd.underlying31 info_u8 rfl (by decide) rfl (.tmp 6) (.tmp 7) rfl w.heap.size _ [] rfl (ownOf_lit w w.heap.size [] #[] 0 rfl rfl (Nat.le_refl _) (Nat.zero_le _)) _ l rfl (Rd.below Hr.out (below_alloc1 _ _)) E1.out (by rw [World.size_alloc]; omega) ?_; intro v2 w2 hown2 hg2; have hB2 := hg2.below _ _ (below_alloc1 w _) (Nat.le_refl _); rw [List.nil_append] at hown2)
    | (with_reducible refine wp_app1 mkB_one Tryd.underlying31 info_u8 rfl (by decide) rfl (.tmp 9) (.tmp 10) rfl w.heap.size v2 l rfl hown2 128 _ rfl rfl (by omega) hB2.size ?_; intro v3 w3 hown3 hg3 hv3))
  have hB3 := hg3.below _ _ hB2 (Nat.le_refl _)
  have hown3' : OwnOf mkB 5 w3 w.heap.size v3 (l ++ zerosP 0) := hown3
  obtain ⟨g, cap, rfl, hg⟩ := hv3
  clear hown3 hg2 hg3 hown2
  clear hN
  generalize hNl : l.length = M at *
  have HM := Lib.hid hNl
  clear hNl
  go_loopw [3] (fun p wr => ∃ k : Nat, k ≤ padK M ∧ (∃ g cap, p = .slice (some ⟨g, 0, none⟩) (M + 1 + k) cap) ∧ OwnOf mkB 5 wr w.heap.size p (l ++ zerosP k) ∧ Below w.heap.size w wr) (fun p _ => (M + 65) - lenOfV p)
  case atStart => exact ⟨0, Nat.zero_le _, ⟨g, cap, rfl⟩, hown3', hB3⟩
  case round =>
    clear hown3' hB3 hB2 hg
    obtain ⟨k, hk, ⟨g, cap, rfl⟩, hown, hB⟩ := hrel
    have hkl := padK_lt M
    by_cases hkk : k = padK M
    · subst hkk
      have ht := (padK_at M _ hk).2 rfl
      have e3 : ((M : Int) + 1 + (padK M : Int)) % 64 = 56 := by omega
      have hown0 : OwnOf mkB 5 wr w.heap.size (.slice (some ⟨g, 0, none⟩) (M + 1 + padK M) cap) (l ++ padP M 0) := by
        have e : padP M 0 = zerosP (padK M) := by simp [padP]
        rw [e]; exact hown
      clear hown ht hk
      go_wp2
      obtain ⟨wo, rfl⟩ : ∃ wo : World, wo = wr := ⟨_, rfl⟩
      clear e3
      go_loopw [3, 5] (fun p i wr => ∃ k : Nat, k ≤ 8 ∧ i = .int .i64 (k : Int) ∧ OwnOf mkB 5 wr w.heap.size p (l ++ padP M k) ∧ Below w.heap.size w wr) (fun _ i _ => 8 - (intOf i).toNat)
      case atStart => exact ⟨0, by omega, rfl, hown0, hB⟩
      case round =>
        clear hown0 hB
        obtain ⟨k, hk, rfl, hown, hB⟩ := hrel
        by_cases h8 : k < 8
        · have hlb := lenB_go M k
          obtain ⟨z, hz⟩ : ∃ z : Nat, z = 56 - 8 * k := ⟨_, rfl⟩
          have hz1 : (56 : Int) - 8 * (k : Int) = (z : Int) := by omega
          have hz2 : z < 64 := by omega
          rw [← hz] at hlb
          have hsn : l ++ padP M (k + 1) = (l ++ padP M k) ++ [lenB M k] := by rw [padP_succ, List.append_assoc]
          have hlen : (l ++ padP M k).length < 1000000000000 := by rw [List.length_append, padP_len, HM.out]; omega
          have Hsn := Lib.hid hsn
          have Hlb : Hid (Value.int .u8 ((8 * (M : Int)) / 2 ^ z % 256) = mkB (lenB M k)) := Lib.hid (by unfold mkB; rw [hlb])
          have Hlen := Lib.hid hlen
          clear hsn hlb hlen hz
          go_wp2_with (with_reducible refine wp_app1 mkB_one Tryd.underlying31 info_u8 rfl (by decide) rfl (.tmp 27) (.tmp 34) rfl w.heap.size _ (l ++ padP M k) rfl hown (lenB M k) _ Hlb.out rfl Hlen.out hB.size ?_; intro v1 w1 hown1 hg1 hv1)
          go_roundw
          case rel => exact ⟨k + 1, by omega, by go_num, by rw [Hsn.out]; exact hown1, hg1.below _ _ hB (Nat.le_refl _)⟩
          case measure => simp [intOf]; omega
        · obtain rfl : k = 8 := by omega
          go_wp2
          go_ret
          exact ⟨⟨_, rfl, by unfold padded; rw [HM.out]; exact hown⟩, hB⟩
    · have ht : ¬ (M + (k + 1)) % 64 = 56 := fun h => hkk ((padK_at M k hk).1 h)
      have e3 : ¬ ((M : Int) + 1 + (k : Int)) % 64 = 56 := by omega
      have hlen : (l ++ zerosP k).length < 1000000000000 := by rw [List.length_append, zerosP_len, HM.out]; omega
      have hsn : l ++ zerosP (k + 1) = (l ++ zerosP k) ++ [0] := by rw [zerosP_succ, List.append_assoc]
      have Hlen := Lib.hid hlen
      have Hsn := Lib.hid hsn
      clear hlen hsn
      go_wp2_with (with_reducible refine wp_app1 mkB_one Tryd.underlying31 info_u8 rfl (by decide) rfl (.tmp 16) (.tmp 17) rfl w.heap.size _ (l ++ zerosP k) rfl hown 0 _ rfl rfl Hlen.out hB.size ?_; intro v1 w1 hown1 hg1 hv1)
      obtain ⟨g1, cap1, rfl, _⟩ := hv1
      have hl1 : (l ++ zerosP k).length + 1 = M + 1 + (k + 1) := by rw [List.length_append, zerosP_len, HM.out]; omega
      rw [hl1] at hown1 ⊢
      exact ⟨⟨k + 1, by omega, ⟨g1, cap1, rfl⟩, by rw [Hsn.out]; exact hown1, hg1.below _ _ hB (Nat.le_refl _)⟩, by simp [lenOfV]; omega⟩
end Go.Proofs.YtbgieephehfgpabDoor
