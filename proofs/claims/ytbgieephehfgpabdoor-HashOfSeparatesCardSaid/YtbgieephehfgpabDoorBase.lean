/-
  Words for the walks of this seat: what the program's tables hold in memory ('Tabs'), and that it holds on when blocks are made ('Below'). No conditions.
-/
import Derived.Test.YtbgieephehfgpabDoorProg
import Derived.Test.YtbgieephehfgpabDoorCrcBits
import Derived.WalkKit
import Derived.WalkSpells
import Derived.WalkLawsBesides
import Derived.Deep.QuietTactic
import Derived.BigQuiet
import Derived.Deep.RegionHeld3
import Derived.Deep.RegionWith
import Derived.Deep.DeepCutAuto
import Derived.Deep.LoopGhost
import Derived.Lib.Hide
namespace Go.Proofs.YtbgieephehfgpabDoor
open Go Go.RowKit
/-- the round constants of SHA-256 -/
def kons : List Int := [1116352408, 1899447441, 3049323471, 3921009573, 961987163, 1508970993, 2453635748, 2870763221, 3624381080, 310598401, 607225278, 1426881987, 1925078388, 2162078206, 2614888103, 3248222580, 3835390401, 4022224774, 264347078, 604807628, 770255983, 1249150122, 1555081692, 1996064986, 2554220882, 2821834349, 2952996808, 3210313671, 3336571891, 3584528711, 113926993, 338241895, 666307205, 773529912, 1294757372, 1396182291, 1695183700, 1986661051, 2177026350, 2456956037, 2730485921, 2820302411, 3259730800, 3345764771, 3516065817, 3600352804, 4094571909, 275423344, 430227734, 506948616, 659060556, 883997877, 958139571, 1322822218, 1537002063, 1747873779, 1955562222, 2024104815, 2227730452, 2361852424, 2428436474, 2756734187, 3204031479, 3329325298]
/-- what the program's table of round constants holds -/
structure TabC (w : World) : Prop where
  con : ∀ i, i < 64 → w.cell? ⟨0, i, none⟩ = some (.int .u32 (kons.getD i 0))
/-- what the program's tables hold -/
structure Tabs (w : World) : Prop where
  nib : ∀ i, i < 16 → w.cell? ⟨1, i, none⟩ = some (.int .u64 (Crc.nibs.getD i 0))
  c : TabC w
theorem lt_of_cell {w : World} {b i : Nat} {v : Value} (h : w.cell? ⟨b, i, none⟩ = some v) : b < w.heap.size := by
  refine Nat.lt_of_not_le fun hge => ?_
  unfold World.cell? at h
  rw [Array.getElem?_eq_none hge] at h
  cases h
theorem TabC.below {w w' : World} (h : TabC w) (hb : Below w.heap.size w w') : TabC w' :=
  ⟨fun i hi => (hb.cell (p := ⟨0, i, none⟩) (lt_of_cell (h.con i hi))).trans (h.con i hi)⟩
theorem Tabs.below {w w' : World} (h : Tabs w) (hb : Below w.heap.size w w') : Tabs w' :=
  ⟨fun i hi => (hb.cell (p := ⟨1, i, none⟩) (lt_of_cell (h.nib i hi))).trans (h.nib i hi), h.c.below hb⟩
theorem below_alloc1 (w : World) (o : Obj) : Below w.heap.size w (w.alloc o) := (Below.refl _ _).alloc (Nat.le_refl _) o
/-- two steps that make blocks -/
theorem below_then {a b c : World} (h : Below a.heap.size a b) (k : Below b.heap.size b c) : Below a.heap.size a c := h.trans (k.mono h.size)
theorem TabC.drew {w : World} (h : TabC w) : TabC w.drew := h.below (Below.refl _ _).drew
theorem TabC.alloc {w : World} (h : TabC w) (o : Obj) : TabC (w.alloc o) := h.below (below_alloc1 w o)
theorem Tabs.drew {w : World} (h : Tabs w) : Tabs w.drew := h.below (Below.refl _ _).drew
theorem Tabs.alloc {w : World} (h : Tabs w) (o : Obj) : Tabs (w.alloc o) := h.below (below_alloc1 w o)
/-- the cells of a stream's zero value, under a name that a walk does not open -/
def zcStream : Array Value := (List.replicate 8 (Value.int .u32 0) ++ List.replicate 64 (Value.int .u8 0) ++ [Value.int .u64 0]).toArray
@[simp high] theorem zv_stream (w : World) : (zeroValue 70).run Tryd.prog w = .ok (.agg zcStream) w := by kernel_rfl
theorem zcStream_size : zcStream.size = 73 := by kernel_rfl
@[simp] theorem zcStream_ne : zcStream ≠ #[] := by
  intro h
  have := zcStream_size
  rw [h] at this
  simp at this
theorem ret_agg1 {k : IntKind} {a b : Int} (h : a = b) : Ending.returned (.agg #[.int k a]) = .returned (.agg #[.int k b]) := by rw [h]
theorem ret_int {k : IntKind} {a b : Int} (h : a = b) : Ending.returned (.int k a) = .returned (.int k b) := by rw [h]
theorem ret_bool {a b : Bool} (h : a = b) : Ending.returned (.bool a) = .returned (.bool b) := by rw [h]

/-- a whole block of cells, not frozen -/
abbrev Blk (w : World) (b : Nat) (cs : Array Value) (t : TypeId) : Prop := w.heap[b]? = some (.cells cs t (0, 0))
theorem blk_lt {w : World} {b : Nat} {x : Obj} (h : w.heap[b]? = some x) : b < w.heap.size := lt_of_block h
theorem blk_new (w : World) (cs : Array Value) (t : TypeId) : Blk (w.alloc (.cells cs t)) w.heap.size cs t := heap_alloc_new w _
theorem blk_alloc {w : World} {b : Nat} {x : Obj} (h : w.heap[b]? = some x) (o : Obj) : (w.alloc o).heap[b]? = some x := by
  have hl := blk_lt h
  show (w.heap.push o)[b]? = _
  rw [Array.getElem?_push_lt hl, ← Array.getElem?_eq_getElem hl]; exact h
theorem blk_new2 (w : World) (o : Obj) (cs : Array Value) (t : TypeId) : Blk ((w.alloc o).alloc (.cells cs t)) (w.heap.size + 1) cs t := by
  have h := blk_new (w.alloc o) cs t
  rw [World.size_alloc] at h
  exact h
theorem blk_drew {w : World} {b : Nat} {x : Obj} (h : w.heap[b]? = some x) : w.drew.heap[b]? = some x := h
theorem blk_below {w w' : World} {b B : Nat} {x : Obj} (h : w.heap[b]? = some x) (hb : Below B w w') (hB : b < B) : w'.heap[b]? = some x := (hb.block b hB).trans h
theorem blk_kept {w w' : World} {b : Nat} {x : Obj} (h : w.heap[b]? = some x) (hb : Below w.heap.size w w') : w'.heap[b]? = some x := blk_below h hb (blk_lt h)
theorem blk_cell {w : World} {b : Nat} {cs : Array Value} {t : TypeId} {fr : Nat × Nat} (h : w.heap[b]? = some (.cells cs t fr)) (i : Nat) : w.cell? ⟨b, i, none⟩ = cs[i]? := by simp [World.cell?, h]
theorem blk_free {w : World} {b : Nat} {cs : Array Value} {t : TypeId} (h : Blk w b cs t) (i : Nat) : w.frozen? ⟨b, i, none⟩ = false := by simp [World.frozen?, h]
theorem blk_set {w : World} {b : Nat} {cs : Array Value} {t : TypeId} {fr : Nat × Nat} (h : w.heap[b]? = some (.cells cs t fr)) (i : Nat) (v : Value) : (w.setCell ⟨b, i, none⟩ v).heap[b]? = some (.cells (cs.setIfInBounds i v) t fr) := by
  have hlt := blk_lt h
  have h' : w.heap[b] = .cells cs t fr := by simpa [Array.getElem?_eq_getElem hlt] using h
  show (w.heap.modify b _)[b]? = _
  rw [Array.getElem?_eq_getElem (by simpa using hlt), Array.getElem_modify_self, h']
  rfl
theorem blk_far {w : World} {b : Nat} {x : Obj} (h : w.heap[b]? = some x) {p : Addr} (hne : b ≠ p.block) (v : Value) : (w.setCell p v).heap[b]? = some x := by
  rw [Below.heap_setCell _ _ _ _ hne]; exact h
theorem blk_setRow {w : World} {g : Nat} {old : Array Value} {t : TypeId} {fr : Nat × Nat} (h : w.heap[g]? = some (.cells old t fr)) (cs : Array Value) : (w.setRow g cs).heap[g]? = some (.cells cs t fr) := setRow_heap w g old cs t fr h
theorem heap_setRow_far (w : World) (g : Nat) (cs : Array Value) (b : Nat) (hne : b ≠ g) : (w.setRow g cs).heap[b]? = w.heap[b]? := by
  simp only [World.setRow, Array.getElem?_modify]
  rw [if_neg (by omega)]
theorem blk_setRow_far {w : World} {b : Nat} {x : Obj} (h : w.heap[b]? = some x) (g : Nat) (hne : b ≠ g) (cs : Array Value) : (w.setRow g cs).heap[b]? = some x := (heap_setRow_far w g cs b hne).trans h
theorem below_setRow {B : Nat} {a w : World} (h : Below B a w) {g : Nat} (hg : B ≤ g) (cs : Array Value) : Below B a (w.setRow g cs) :=
  h.trans ⟨rfl, rfl, rfl, by simp [World.setRow], fun k hk => heap_setRow_far _ _ _ _ (by omega)⟩
theorem byte_bd (b : UInt8) : 0 ≤ (b.toNat : Int) ∧ (b.toNat : Int) < 256 := ⟨by omega, by have := b.toNat_lt; omega⟩
theorem byte_div (b : UInt8) : 0 ≤ (b.toNat : Int) / 16 ∧ (b.toNat : Int) / 16 < 256 := ⟨by omega, by have := b.toNat_lt; omega⟩
/-- behind a call that was made when one, two blocks had been laid -/
theorem after1 {w w1 : World} {o1 : Obj} (hw : Below (w.alloc o1).heap.size (w.alloc o1) w1) : Below w.heap.size w w1 ∧ w1.heap[w.heap.size]? = some o1 ∧ w.heap.size < w1.heap.size := by
  have hz := hw.size
  rw [World.size_alloc] at hz
  exact ⟨(below_alloc1 w o1).trans (hw.mono (by rw [World.size_alloc]; omega)), blk_kept (heap_alloc_new w o1) hw, by omega⟩
theorem after2 {w w1 : World} {o1 o2 : Obj} (hw : Below ((w.alloc o1).alloc o2).heap.size ((w.alloc o1).alloc o2) w1) : Below w.heap.size w w1 ∧ w1.heap[w.heap.size]? = some o1 ∧ w1.heap[w.heap.size + 1]? = some o2 ∧ w.heap.size + 1 < w1.heap.size := by
  obtain ⟨h1, h2, h3⟩ := after1 hw
  have hk := blk_below (heap_alloc_new w o1) h1 (by rw [World.size_alloc]; omega)
  rw [World.size_alloc] at h2 h3
  exact ⟨(below_alloc1 w o1).trans (h1.mono (by rw [World.size_alloc]; omega)), hk, h2, h3⟩
/-- old cells and old marks read as before -/
theorem bcell {W w1 : World} (hb : Below W.heap.size W w1) : (∀ b o, b < W.heap.size → w1.cell? ⟨b, o, none⟩ = W.cell? ⟨b, o, none⟩) ∧ (∀ b o, b < W.heap.size → w1.frozen? ⟨b, o, none⟩ = W.frozen? ⟨b, o, none⟩) :=
  ⟨fun b o h => hb.cell (p := ⟨b, o, none⟩) h, fun b o h => hb.frozen (p := ⟨b, o, none⟩) h⟩
end Go.Proofs.YtbgieephehfgpabDoor
