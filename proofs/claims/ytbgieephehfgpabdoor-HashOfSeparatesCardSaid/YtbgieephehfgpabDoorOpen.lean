/-
  From a row's premises to what the walks ask: slices of bytes, of integers, of strings that came in ('Rd'), the program's tables ('Tabs'). No conditions.
-/
import Derived.Test.YtbgieephehfgpabDoorCrc40
import Derived.Test.YtbgieephehfgpabDoorRows
import Derived.ProofKit
import Derived.OpenShut
import Derived.ShutString
import Derived.SliceStrings
import Derived.Lib.LaidTab
import Derived.LaidLaws
import Derived.MakeChecks
import Derived.Deep.DeepHandedRow
namespace Go.Proofs.YtbgieephehfgpabDoor
open Go Go.ChangeShapes Go.WideShapes Go.RowKit
open Go.ChangeMaps (open_string shut_string)
section
variable {H : Type} {enc : TypeId × Value → H} {W : World} {base : Nat} {v : Value} {d : DataW H} {p : List MemPlace} {t e : TypeId}
set_option maxRecDepth 100000 in
/-- a slice of integers that came in -/
theorem open_rd_ints {α : Type} {mk : α → Value} {k : IntKind} (f : Int → α) (hf : ∀ z, (Lit.int k z).wf = true → mk (f z) = .int k z) (ht : Tryd.prog.underlying t = some (.slice e)) (he : Tryd.prog.underlying e = some (.int k)) (hc : Tryd.prog.cellsOf e = 1)
    (hv : Value.okWide Tryd.prog W .any base t v) (h : DataW.Trod enc Tryd.prog W 0 (fun _ => true) true t v d p) :
    ∃ zs : List Int, Rd mk W v (zs.map f) ∧ zs.length ≤ maxLen ∧ ∀ z ∈ zs, (Lit.int k z).wf = true := by
  obtain ⟨a, len, cap, rfl⟩ := okWide_slice ht hv
  obtain ⟨fuel, hfu⟩ := h
  rcases open_ints ht he hc hfu with ⟨hcs, _⟩ | ⟨a', l, c, zs, hcs, _, hl, hm, hz, _, hcell, hwz⟩
  · simp [Value.cells] at hcs
    obtain ⟨rfl, rfl, rfl⟩ := hcs
    exact ⟨[], ⟨none, 0, rfl, by simp, .inl rfl⟩, by simp, fun z hz => by cases hz⟩
  · simp [Value.cells] at hcs
    obtain ⟨rfl, rfl, rfl⟩ := hcs
    have hzc : zs.length = cap := by simpa using hz
    have hlen : (zs.take len).length = len := by simp; omega
    refine ⟨zs.take len, ⟨_, cap, by rw [List.length_map, hlen], by rw [List.length_map, hlen]; exact hl, ?_⟩, by omega, fun z hz => hwz z (List.mem_of_mem_take hz)⟩
    by_cases h0 : len = 0
    · left; subst h0; simp
    · right
      obtain ⟨b, off, rfl, hc2⟩ := ints_at hcell (by omega)
      refine ⟨b, off, rfl, ?_, ?_⟩
      · have := hc2 0 (by omega)
        exact Nat.lt_of_not_le fun hge => by
          have hn : W.cell? ⟨b, off + 0, none⟩ = none := by
            unfold World.cell?
            rw [Array.getElem?_eq_none hge]
          rw [hn] at this; cases this
      · intro i x hx
        rw [List.getElem?_map] at hx
        obtain ⟨z, hz1, rfl⟩ := Option.map_eq_some_iff.1 hx
        have hi : i < len := by
          have := (List.getElem?_eq_some_iff.1 hz1).1
          omega
        rw [List.getElem?_take, if_pos hi] at hz1
        have hzm := List.mem_of_getElem? hz1
        rw [hf z (hwz z hzm), hc2 i (by omega)]
        rw [List.getD_eq_getElem?_getD, hz1]
        rfl
theorem mkB_of (z : Int) (h : (Lit.int .u8 z).wf = true) : mkB (UInt8.ofNat z.toNat) = .int .u8 z := by
  have hb := bounds_u8 h
  unfold mkB
  rw [UInt8.toNat_ofNat']
  congr 1
  omega
end
theorem own_knob : ownKnob Tryd.prog.godebug = none := by kernel_rfl
theorem laid_out : laidOutB Tryd.prog = true := by kernel_rfl
/-- what the row's premise on the table of nibbles gives -/
theorem nib_of {W : World} {g t : Nat} {cs : Array Value} {f : Nat} {p : List MemPlace} {H : Type} {enc : TypeId × Value → H} {sp : Nat → Bool} {held : Bool} {b : Nat} (hg : Tryd.prog.globalNamed "weirgate/hash.nibbles" = some g) (ht : (Tryd.prog.globals[g]?).map (·.type) = some t) (hv : W.var? Tryd.prog "weirgate/hash.nibbles" = some cs)
    (hd : DataW.trod enc Tryd.prog W b sp held f t cs.toList = some (Rows.laid_weirgate_hash_nibbles, p)) : ∀ i, i < 16 → W.cell? ⟨1, i, none⟩ = some (.int .u64 (Crc.nibs.getD i 0)) := by
  obtain rfl := Option.some.inj ((show Tryd.prog.globalNamed "weirgate/hash.nibbles" = some 1 by kernel_rfl).symm.trans hg)
  obtain rfl := Option.some.inj ((show (Tryd.prog.globals[1]?).map (·.type) = some 112 by kernel_rfl).symm.trans ht)
  intro i hi
  have hc := Lib.cells_of_tab (zs := Crc.nibs) Tryd.underlying112 Tryd.underlying68 (by kernel_rfl) (by kernel_rfl) hd
  have hcell := World.var?_cell hg hv i
  rw [hcell, ← Array.getElem?_toList, hc, List.getElem?_map]
  have hl : i < Crc.nibs.length := hi
  simp [List.getD, hl]
/-- what the row's premise on the table of round constants gives -/
theorem con_of {W : World} {g t : Nat} {cs : Array Value} {f : Nat} {p : List MemPlace} {H : Type} {enc : TypeId × Value → H} {sp : Nat → Bool} {held : Bool} {b : Nat} (hg : Tryd.prog.globalNamed "weirgate/hash.constants" = some g) (ht : (Tryd.prog.globals[g]?).map (·.type) = some t) (hv : W.var? Tryd.prog "weirgate/hash.constants" = some cs)
    (hd : DataW.trod enc Tryd.prog W b sp held f t cs.toList = some (Rows.laid_weirgate_hash_constants, p)) : ∀ i, i < 64 → W.cell? ⟨0, i, none⟩ = some (.int .u32 (kons.getD i 0)) := by
  obtain rfl := Option.some.inj ((show Tryd.prog.globalNamed "weirgate/hash.constants" = some 0 by kernel_rfl).symm.trans hg)
  obtain rfl := Option.some.inj ((show (Tryd.prog.globals[0]?).map (·.type) = some 107 by kernel_rfl).symm.trans ht)
  intro i hi
  have hc := Lib.cells_of_tab (zs := kons) Tryd.underlying107 Tryd.underlying65 (by kernel_rfl) (by kernel_rfl) hd
  have hcell := World.var?_cell hg hv i
  rw [hcell, ← Array.getElem?_toList, hc, List.getElem?_map]
  have hl : i < kons.length := hi
  simp [List.getD, hl]
/-- what the row's premise on the reference's table of round constants gives -/
theorem rcon_of {W : World} {g t : Nat} {cs : Array Value} {f : Nat} {p : List MemPlace} {H : Type} {enc : TypeId × Value → H} {sp : Nat → Bool} {held : Bool} {b : Nat} (hg : Tryd.prog.globalNamed "weirgate/weirgateref02.constants" = some g) (ht : (Tryd.prog.globals[g]?).map (·.type) = some t) (hv : W.var? Tryd.prog "weirgate/weirgateref02.constants" = some cs)
    (hd : DataW.trod enc Tryd.prog W b sp held f t cs.toList = some (Rows.laid_weirgate_weirgateref02_constants, p)) : ∀ i, i < 64 → W.cell? ⟨2, i, none⟩ = some (.int .u32 (kons.getD i 0)) := by
  obtain rfl := Option.some.inj ((show Tryd.prog.globalNamed "weirgate/weirgateref02.constants" = some 2 by kernel_rfl).symm.trans hg)
  obtain rfl := Option.some.inj ((show (Tryd.prog.globals[2]?).map (·.type) = some 107 by kernel_rfl).symm.trans ht)
  intro i hi
  have hc := Lib.cells_of_tab (zs := kons) Tryd.underlying107 Tryd.underlying65 (by kernel_rfl) (by kernel_rfl) hd
  have hcell := World.var?_cell hg hv i
  rw [hcell, ← Array.getElem?_toList, hc, List.getElem?_map]
  have hl : i < kons.length := hi
  simp [List.getD, hl]
theorem tabs2_of_laid {W : World} (h : laidMetH Tryd.prog [("weirgate/hash.nibbles", Rows.laid_weirgate_hash_nibbles), ("weirgate/hash.constants", Rows.laid_weirgate_hash_constants)] W) : Tabs W := by
  rw [MakeChecks.laidMetH_plain _ _ _ (by kernel_rfl)] at h
  obtain ⟨ps, ⟨g0, t0, cs0, f0, p0, q0, hg0, ht0, hv0, hd0, ⟨g1, t1, cs1, f1, p1, q1, hg1, ht1, hv1, hd1, _, _⟩, _⟩, _, _⟩ := h
  exact ⟨nib_of hg0 ht0 hv0 hd0, ⟨con_of hg1 ht1 hv1 hd1⟩⟩
/-- a world in which the listed tables hold what their initialisers lay: the witness's -/
noncomputable def laidHeap (os : Os) : Array Obj :=
  (((World.holding Tryd.prog os ⟨#[], #[], []⟩).heap.modify 1 (fun o => match o with
      | .cells _ t frozen => .cells (Crc.nibs.map (Value.int .u64)).toArray t frozen
      | o => o)).modify 0 (fun o => match o with
      | .cells _ t frozen => .cells (kons.map (Value.int .u32)).toArray t frozen
      | o => o)).modify 2 (fun o => match o with
      | .cells _ t frozen => .cells (kons.map (Value.int .u32)).toArray t frozen
      | o => o)
noncomputable def laidWorld (os : Os) : World := { World.holding Tryd.prog os ⟨#[], #[], []⟩ with heap := laidHeap os }
end Go.Proofs.YtbgieephehfgpabDoor
