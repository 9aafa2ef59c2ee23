/-
  Several texts of this proof in one: SkLits, Open, OpenK, OpenSk. Each states its own conditions.
-/
import Derived.Test.YtbgieephehfgpabDoorJB7
import Derived.Test.YtbgieephehfgpabDoorJB3
import Derived.Test.YtbgieephehfgpabDoorRows
import Derived.ProofKit
import Derived.OpenShut
import Derived.ShutString
import Derived.SliceStrings
import Derived.Lib.LaidTab
import Derived.LaidLaws
import Derived.MakeChecks
import Derived.Deep.DeepHandedRow
import Derived.Test.YtbgieephehfgpabDoorJB4
import Derived.Lib.SmallJoins
/-
  The contracts of the sketches' functions with their slices written out. Conditions: the sketches are valid, keys are short, the tables are as their texts lay them.
-/
namespace Go.Proofs.YtbgieephehfgpabDoor
open Go Go.RowKit
/-- what a function that makes a sketch leaves -/
def MadeSk (k : Sk.K) (W : World) (f : Value → Value) (e : Ending) (w' : World) : Prop :=
  ∃ g cap, e = .returned (f (.agg #[.int .i64 k.w, .int .i64 k.s, .int .i64 k.a, .slice (some ⟨g, 0, none⟩) k.c.length cap])) ∧ OwnI w' W.heap.size (.slice (some ⟨g, 0, none⟩) k.c.length cap) k.c ∧ Below W.heap.size W w'
theorem sadd_lit (k : Sk.K) (hk : Sk.Ok k) (key : List UInt8) (v : Value) (w : World) (hr : Rd mkI w v k.c) (hkey : key.length ≤ 10000) (hT : TabC w) :
    Calls Tryd.prog 20 #[skV k v, .string ⟨key.toArray⟩] w (MadeSk (k.add key) w id) :=
  (sadd2_any k hk key v w hr hkey hT).mono fun e w' ⟨⟨v', he, ho⟩, hB⟩ => by
    obtain ⟨g, cap, rfl, _, _⟩ := ownOf_slice ho (hk.add key).ne
    exact ⟨g, cap, he, ho, hB⟩
theorem radd_lit (k : Sk.K) (hk : Sk.Ok k) (key : List UInt8) (v : Value) (w : World) (hr : Rd mkI w v k.c) (hkey : key.length ≤ 10000) (hT : TabR w) :
    Calls Tryd.prog 22 #[skV k v, .string ⟨key.toArray⟩] w (MadeSk (k.add key) w id) :=
  (radd_any k hk key v w hr hkey hT).mono fun e w' ⟨⟨v', he, ho⟩, hB⟩ => by
    obtain ⟨g, cap, rfl, _, _⟩ := ownOf_slice ho (hk.add key).ne
    exact ⟨g, cap, he, ho, hB⟩
theorem mrg_ne (a b : Sk.K) (ha : Sk.Ok a) (hb : Sk.Ok b) (hw : a.w = b.w) : (Sk.K.mrg a b).c ≠ [] := by
  have hbc : b.c.length = a.c.length := by have h1 := ha.clen; have h2 := hb.clen; have : b.n = a.n := by { unfold Sk.K.n; rw [hw] }; omega
  have hml := Sk.mrg_len a.c b.c hbc.symm
  have hane := ha.ne
  have h1 : Sk.mrg a.c b.c ≠ [] := fun h => hane (by rw [h] at hml; simpa using hml.symm)
  unfold Sk.K.mrg
  split
  · intro h
    have : Sk.half (Sk.mrg a.c b.c) = [] := h
    exact h1 (by simpa [Sk.half] using this)
  · exact h1
theorem merge_lit (a b : Sk.K) (ha : Sk.Ok a) (hb : Sk.Ok b) (hw : a.w = b.w) (hs : a.s = b.s) (va vb : Value) (w : World) (hra : Rd mkI w va a.c) (hrb : Rd mkI w vb b.c) :
    Calls Tryd.prog 27 #[skV a va, skV b vb] w (MadeSk (Sk.K.mrg a b) w fun v => .tuple #[v, .int .i64 0]) :=
  (merge_any a b ha hb hw hs va vb w hra hrb).mono fun e w' ⟨⟨v', he, ho⟩, hB⟩ => by
    obtain ⟨g, cap, rfl, _, _⟩ := ownOf_slice ho (mrg_ne a b ha hb hw)
    exact ⟨g, cap, he, ho, hB⟩
/-- what the reference's New and Merge leave -/
def MadeRf (k : Sk.K) (W : World) (e : Ending) (w' : World) : Prop :=
  ∃ g cap, e = .returned (.agg #[.int .i64 k.w, .int .i64 k.s, .int .i64 k.a, .slice (some ⟨g, 0, none⟩) k.c.length cap, .int .i64 0]) ∧ OwnI w' W.heap.size (.slice (some ⟨g, 0, none⟩) k.c.length cap) k.c ∧ Below W.heap.size W w'
theorem rmerge_lit (a b : Sk.K) (ha : Sk.Ok a) (hb : Sk.Ok b) (hw : a.w = b.w) (hs : a.s = b.s) (va vb : Value) (w : World) (hra : Rd mkI w va a.c) (hrb : Rd mkI w vb b.c) :
    Calls Tryd.prog 28 #[skV a va, skV b vb] w (MadeRf (Sk.K.mrg a b) w) :=
  (rmerge_any a b ha hb hw hs va vb w hra hrb).mono fun e w' ⟨⟨v', he, ho⟩, hB⟩ => by
    obtain ⟨g, cap, rfl, _, _⟩ := ownOf_slice ho (mrg_ne a b ha hb hw)
    exact ⟨g, cap, he, ho, hB⟩
theorem half_ne (k : Sk.K) (hk : Sk.Ok k) : k.half.c ≠ [] := by
  intro h
  have h1 : Sk.half k.c = [] := h
  exact hk.ne (by simpa [Sk.half] using h1)
theorem halve_lit (k : Sk.K) (hk : Sk.Ok k) (v : Value) (w : World) (hr : Rd mkI w v k.c) :
    Calls Tryd.prog 29 #[skV k v] w (MadeSk k.half w id) :=
  (halve_any k.w k.s k.a k.c v w hr hk.len9 hk.ne (fun x hx => ⟨(hk.cells x hx).1, (hk.cells x hx).2.1⟩) hk.a1 (by have := hk.a2; have := hk.s2; omega)).mono fun e w' ⟨⟨v', he, ho⟩, hB⟩ => by
    obtain ⟨g, cap, rfl, _, _⟩ := ownOf_slice ho (half_ne k hk)
    exact ⟨g, cap, he, ho, hB⟩
theorem rhalve_lit (k : Sk.K) (hk : Sk.Ok k) (v : Value) (w : World) (hr : Rd mkI w v k.c) :
    Calls Tryd.prog 30 #[skV k v] w (MadeSk k.half w id) :=
  (rhalve_any k.w k.s k.a k.c v w hr hk.len9 hk.ne (fun x hx => ⟨(hk.cells x hx).1, (hk.cells x hx).2.1⟩) hk.a1 (by have := hk.a2; have := hk.s2; omega)).mono fun e w' ⟨⟨v', he, ho⟩, hB⟩ => by
    obtain ⟨g, cap, rfl, _, _⟩ := ownOf_slice ho (half_ne k hk)
    exact ⟨g, cap, he, ho, hB⟩
end Go.Proofs.YtbgieephehfgpabDoor
/-
  From a row's premises to what the walks ask: slices of bytes, of integers, of strings that came in ('Rd'), the program's tables ('Tabs'). No conditions.
-/
namespace Go.Proofs.YtbgieephehfgpabDoor
open Go Go.ChangeShapes Go.WideShapes Go.RowKit
open Go.ChangeMaps (open_string shut_string)
section
variable {H : Type} {enc : TypeId × Value → H} {W : World} {base : Nat} {v : Value} {d : DataW H} {p : List MemPlace} {t e : TypeId}
set_option maxRecDepth 100000 in
/-- a slice of integers that came in -/
theorem open_rd_ints {α : Type} {mk : α → Value} {k : IntKind} (f : Int → α) (hf : ∀ z, (Lit.int k z).wf = true → mk (f z) = .int k z) (ht : Tryd.prog.underlying t = some (.slice e)) (he : Tryd.prog.underlying e = some (.int k)) (hc : Tryd.prog.cellsOf e = 1)
    (hv : Value.okWide Tryd.prog W .any base t v) (h : DataW.Trod enc Tryd.prog W 0 (fun _ => true) true t v d p) :
    ∃ zs : List Int, Rd mk W v (zs.map f) ∧ zs.length ≤ maxLen ∧ ∀ z ∈ zs, (Lit.int k z).wf = true := by
  obtain ⟨a, len, cap, rfl⟩ := okWide_slice ht hv
  obtain ⟨fuel, hfu⟩ := h
  rcases open_ints ht he hc hfu with ⟨hcs, _⟩ | ⟨a', l, c, zs, hcs, _, hl, hm, hz, _, hcell, hwz⟩
  · simp [Value.cells] at hcs
    obtain ⟨rfl, rfl, rfl⟩ := hcs
    exact ⟨[], ⟨none, 0, rfl, by simp, .inl rfl⟩, by simp, fun z hz => by cases hz⟩
  · simp [Value.cells] at hcs
    obtain ⟨rfl, rfl, rfl⟩ := hcs
    have hzc : zs.length = cap := by simpa using hz
    have hlen : (zs.take len).length = len := by simp; omega
    refine ⟨zs.take len, ⟨_, cap, by rw [List.length_map, hlen], by rw [List.length_map, hlen]; exact hl, ?_⟩, by omega, fun z hz => hwz z (List.mem_of_mem_take hz)⟩
    by_cases h0 : len = 0
    · left; subst h0; simp
    · right
      obtain ⟨b, off, rfl, hc2⟩ := ints_at hcell (by omega)
      refine ⟨b, off, rfl, ?_, ?_⟩
      · have := hc2 0 (by omega)
        exact Nat.lt_of_not_le fun hge => by
          have hn : W.cell? ⟨b, off + 0, none⟩ = none := by
            unfold World.cell?
            rw [Array.getElem?_eq_none hge]
          rw [hn] at this; cases this
      · intro i x hx
        rw [List.getElem?_map] at hx
        obtain ⟨z, hz1, rfl⟩ := Option.map_eq_some_iff.1 hx
        have hi : i < len := by
          have := (List.getElem?_eq_some_iff.1 hz1).1
          omega
        rw [List.getElem?_take, if_pos hi] at hz1
        have hzm := List.mem_of_getElem? hz1
        rw [hf z (hwz z hzm), hc2 i (by omega)]
        rw [List.getD_eq_getElem?_getD, hz1]
        rfl
theorem mkB_of (z : Int) (h : (Lit.int .u8 z).wf = true) : mkB (UInt8.ofNat z.toNat) = .int .u8 z := by
  have hb := bounds_u8 h
  unfold mkB
  rw [UInt8.toNat_ofNat']
  congr 1
  omega
end
theorem own_knob : ownKnob Tryd.prog.godebug = none := by kernel_rfl
theorem laid_out : laidOutB Tryd.prog = true := by kernel_rfl
/-- what the row's premise on the table of nibbles gives -/
theorem nib_of {W : World} {g t : Nat} {cs : Array Value} {f : Nat} {p : List MemPlace} {H : Type} {enc : TypeId × Value → H} {sp : Nat → Bool} {held : Bool} {b : Nat} (hg : Tryd.prog.globalNamed "weirgate/hash.nibbles" = some g) (ht : (Tryd.prog.globals[g]?).map (·.type) = some t) (hv : W.var? Tryd.prog "weirgate/hash.nibbles" = some cs)
    (hd : DataW.trod enc Tryd.prog W b sp held f t cs.toList = some (Rows.laid_weirgate_hash_nibbles, p)) : ∀ i, i < 16 → W.cell? ⟨1, i, none⟩ = some (.int .u64 (Crc.nibs.getD i 0)) := by
  obtain rfl := Option.some.inj ((show Tryd.prog.globalNamed "weirgate/hash.nibbles" = some 1 by kernel_rfl).symm.trans hg)
  obtain rfl := Option.some.inj ((show (Tryd.prog.globals[1]?).map (·.type) = some 112 by kernel_rfl).symm.trans ht)
  intro i hi
  have hc := Lib.cells_of_tab (zs := Crc.nibs) Tryd.underlying112 Tryd.underlying68 (by kernel_rfl) (by kernel_rfl) hd
  have hcell := World.var?_cell hg hv i
  rw [hcell, ← Array.getElem?_toList, hc, List.getElem?_map]
  have hl : i < Crc.nibs.length := hi
  simp [List.getD, hl]
/-- what the row's premise on the table of round constants gives -/
theorem con_of {W : World} {g t : Nat} {cs : Array Value} {f : Nat} {p : List MemPlace} {H : Type} {enc : TypeId × Value → H} {sp : Nat → Bool} {held : Bool} {b : Nat} (hg : Tryd.prog.globalNamed "weirgate/hash.constants" = some g) (ht : (Tryd.prog.globals[g]?).map (·.type) = some t) (hv : W.var? Tryd.prog "weirgate/hash.constants" = some cs)
    (hd : DataW.trod enc Tryd.prog W b sp held f t cs.toList = some (Rows.laid_weirgate_hash_constants, p)) : ∀ i, i < 64 → W.cell? ⟨0, i, none⟩ = some (.int .u32 (kons.getD i 0)) := by
  obtain rfl := Option.some.inj ((show Tryd.prog.globalNamed "weirgate/hash.constants" = some 0 by kernel_rfl).symm.trans hg)
  obtain rfl := Option.some.inj ((show (Tryd.prog.globals[0]?).map (·.type) = some 107 by kernel_rfl).symm.trans ht)
  intro i hi
  have hc := Lib.cells_of_tab (zs := kons) Tryd.underlying107 Tryd.underlying65 (by kernel_rfl) (by kernel_rfl) hd
  have hcell := World.var?_cell hg hv i
  rw [hcell, ← Array.getElem?_toList, hc, List.getElem?_map]
  have hl : i < kons.length := hi
  simp [List.getD, hl]
/-- what the row's premise on the reference's table of round constants gives -/
theorem rcon_of {W : World} {g t : Nat} {cs : Array Value} {f : Nat} {p : List MemPlace} {H : Type} {enc : TypeId × Value → H} {sp : Nat → Bool} {held : Bool} {b : Nat} (hg : Tryd.prog.globalNamed "weirgate/weirgateref02.constants" = some g) (ht : (Tryd.prog.globals[g]?).map (·.type) = some t) (hv : W.var? Tryd.prog "weirgate/weirgateref02.constants" = some cs)
    (hd : DataW.trod enc Tryd.prog W b sp held f t cs.toList = some (Rows.laid_weirgate_weirgateref02_constants, p)) : ∀ i, i < 64 → W.cell? ⟨2, i, none⟩ = some (.int .u32 (kons.getD i 0)) := by
  obtain rfl := Option.some.inj ((show Tryd.prog.globalNamed "weirgate/weirgateref02.constants" = some 2 by kernel_rfl).symm.trans hg)
  obtain rfl := Option.some.inj ((show (Tryd.prog.globals[2]?).map (·.type) = some 107 by kernel_rfl).symm.trans ht)
  intro i hi
  have hc := Lib.cells_of_tab (zs := kons) Tryd.underlying107 Tryd.underlying65 (by kernel_rfl) (by kernel_rfl) hd
  have hcell := World.var?_cell hg hv i
  rw [hcell, ← Array.getElem?_toList, hc, List.getElem?_map]
  have hl : i < kons.length := hi
  simp [List.getD, hl]
theorem tabs2_of_laid {W : World} (h : laidMetH Tryd.prog [("weirgate/hash.nibbles", Rows.laid_weirgate_hash_nibbles), ("weirgate/hash.constants", Rows.laid_weirgate_hash_constants)] W) : Tabs W := by
  rw [MakeChecks.laidMetH_plain _ _ _ (by kernel_rfl)] at h
  obtain ⟨ps, ⟨g0, t0, cs0, f0, p0, q0, hg0, ht0, hv0, hd0, ⟨g1, t1, cs1, f1, p1, q1, hg1, ht1, hv1, hd1, _, _⟩, _⟩, _, _⟩ := h
  exact ⟨nib_of hg0 ht0 hv0 hd0, ⟨con_of hg1 ht1 hv1 hd1⟩⟩
/-- a world in which the listed tables hold what their initialisers lay: the witness's -/
noncomputable def laidHeap (os : Os) : Array Obj :=
  (((World.holding Tryd.prog os ⟨#[], #[], []⟩).heap.modify 1 (fun o => match o with
      | .cells _ t frozen => .cells (Crc.nibs.map (Value.int .u64)).toArray t frozen
      | o => o)).modify 0 (fun o => match o with
      | .cells _ t frozen => .cells (kons.map (Value.int .u32)).toArray t frozen
      | o => o)).modify 2 (fun o => match o with
      | .cells _ t frozen => .cells (kons.map (Value.int .u32)).toArray t frozen
      | o => o)
noncomputable def laidWorld (os : Os) : World := { World.holding Tryd.prog os ⟨#[], #[], []⟩ with heap := laidHeap os }
end Go.Proofs.YtbgieephehfgpabDoor
/-
  What a row's laid tables say where it lists the program's table of round constants alone, or that and the reference's.
-/
namespace Go.Proofs.YtbgieephehfgpabDoor
open Go Go.ChangeShapes Go.WideShapes Go.ChangeAt Go.RowKit Sha
theorem tabs1_of_laid {W : World} (h : laidMetH Tryd.prog [("weirgate/hash.constants", Rows.laid_weirgate_hash_constants)] W) : TabC W := by
  rw [MakeChecks.laidMetH_plain _ _ _ (by kernel_rfl)] at h
  obtain ⟨ps, ⟨g1, t1, cs1, f1, p1, q1, hg1, ht1, hv1, hd1, _, _⟩, _, _⟩ := h
  exact ⟨con_of hg1 ht1 hv1 hd1⟩
theorem tab2r_of_laid {W : World} (h : laidMetH Tryd.prog [("weirgate/weirgateref02.constants", Rows.laid_weirgate_weirgateref02_constants), ("weirgate/hash.constants", Rows.laid_weirgate_hash_constants)] W) : TabC W ∧ TabR W := by
  rw [MakeChecks.laidMetH_plain _ _ _ (by kernel_rfl)] at h
  obtain ⟨ps, ⟨g2, t2, cs2, f2, p2, q2, hg2, ht2, hv2, hd2, ⟨g1, t1, cs1, f1, p1, q1, hg1, ht1, hv1, hd1, _, _⟩, _⟩, _, _⟩ := h
  exact ⟨⟨con_of hg1 ht1 hv1 hd1⟩, ⟨rcon_of hg2 ht2 hv2 hd2⟩⟩
theorem tabs2r_of_laid {W : World} (h : laidMetH Tryd.prog [("weirgate/weirgateref02.constants", Rows.laid_weirgate_weirgateref02_constants), ("weirgate/hash.constants", Rows.laid_weirgate_hash_constants)] W) : TabC W := (tab2r_of_laid h).1
end Go.Proofs.YtbgieephehfgpabDoor
/-
  From a row's premises to what the walks ask: a sketch, a string, a small integer that came in. No conditions.
-/
namespace Go.Proofs.YtbgieephehfgpabDoor
open Go Go.ChangeShapes Go.WideShapes Go.RowKit
open Go.ChangeMaps (open_string shut_string)
section
variable {H : Type} {enc : TypeId × Value → H} {W : World} {base : Nat} {v : Value} {d : DataW H} {p : List MemPlace} {t e : TypeId}
set_option maxRecDepth 100000 in
theorem open_trod_ints {fuel : Nat} {y : DataW H × List MemPlace} (ht : Tryd.prog.underlying t = some (.slice e)) (he : Tryd.prog.underlying e = some (.int .i64)) (hc : Tryd.prog.cellsOf e = 1) (h : DataW.trod enc Tryd.prog W 0 (fun _ => true) true fuel t [v] = some y) :
    ∃ zs : List Int, Rd mkI W v zs ∧ zs.length ≤ maxLen := by
  rcases open_ints ht he hc h with ⟨hcs, _⟩ | ⟨a', l, c, zs, hcs, _, hl, hm, hz, _, hcell, hwz⟩
  · simp at hcs
    subst hcs
    exact ⟨[], ⟨none, 0, rfl, by simp, .inl rfl⟩, by simp⟩
  · simp at hcs
    subst hcs
    have hzc : zs.length = c := by simpa using hz
    have hlen : (zs.take l).length = l := by simp; omega
    refine ⟨zs.take l, ⟨_, c, by rw [hlen], by rw [hlen]; exact hl, ?_⟩, by omega⟩
    by_cases h0 : l = 0
    · left; subst h0; simp
    · right
      obtain ⟨b, off, rfl, hc2⟩ := ints_at hcell (by omega)
      refine ⟨b, off, rfl, ?_, ?_⟩
      · have := hc2 0 (by omega)
        exact Nat.lt_of_not_le fun hge => by
          have hn : W.cell? ⟨b, off + 0, none⟩ = none := by
            unfold World.cell?
            rw [Array.getElem?_eq_none hge]
          rw [hn] at this; cases this
      · intro i x hx
        have hi : i < l := by
          have := (List.getElem?_eq_some_iff.1 hx).1
          omega
        rw [List.getElem?_take, if_pos hi] at hx
        rw [hc2 i (by omega), List.getD_eq_getElem?_getD, hx]
        rfl
set_option maxRecDepth 100000 in
theorem open_sketch (hv : Value.okWide Tryd.prog W .any base 38 v) (h : DataW.Trod enc Tryd.prog W 0 (fun _ => true) true 38 v d p) :
    ∃ (k : Sk.K) (vs : Value), v = skV k vs ∧ Rd mkI W vs k.c ∧ k.c.length ≤ maxLen ∧ k.w ≤ 9223372036854775807 := by
  obtain ⟨v0, v1, v2, v3, y0, y1, y2, y3, n, rfl, _, _, h0, h1, h2, h3⟩ := Joins.open_agg4 Tryd.underlying38 (by kernel_rfl) (by kernel_rfl) hv h
  obtain ⟨z0, e0, _, w0⟩ := DataW.trod_int Tryd.underlying3 h0
  obtain ⟨z1, e1, _, w1⟩ := DataW.trod_int Tryd.underlying3 h1
  obtain ⟨z2, e2, _, w2⟩ := DataW.trod_int Tryd.underlying3 h2
  simp at e0 e1 e2
  subst e0 e1 e2
  obtain ⟨zs, hr, hl⟩ := open_trod_ints Tryd.underlying36 Tryd.underlying3 (by kernel_rfl) h3
  have b0 := bounds_i64 w0
  exact ⟨⟨z0, z1, z2, zs⟩, v3, rfl, hr, hl, by simp only; omega⟩
theorem str_eta (s : ByteArray) : s = ⟨s.data.toList.toArray⟩ := by cases s; simp
end
end Go.Proofs.YtbgieephehfgpabDoor
