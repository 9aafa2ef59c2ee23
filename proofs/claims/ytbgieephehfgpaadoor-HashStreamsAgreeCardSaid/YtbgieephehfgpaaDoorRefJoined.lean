/-
  The reference's Joined, on a slice of strings as it reads. No conditions beyond the sizes.
-/
import Derived.Test.YtbgieephehfgpaaDoorRefStr
namespace Go.Proofs.YtbgieephehfgpaaDoor
open Go Go.RowKit
theorem app_str (a b : List UInt8) : (⟨a.toArray⟩ : ByteArray) ++ (⟨b.toArray⟩ : ByteArray) = ⟨(a ++ b).toArray⟩ := by
  apply ByteArray.ext
  simp
set_option maxRecDepth 100000 in
theorem joined_any (v : Value) (ps : List (List UInt8)) (w : World) (hr : Rd mkS w v ps) (hn : ps.length ≤ 12) (hs : ∀ x ∈ ps, x.length ≤ 400) :
    Calls Tryd.prog 19 #[v] w fun e w' => e = .returned (.string ⟨ps.flatten.toArray⟩) ∧ w = w' := by
  obtain ⟨va, vcap, rfl, hvc, hvcell⟩ := hr
  go_enter Tryd.func19, Tryd.ntmps19
  go_wp2
  go_loopw [3, 4] (fun s i wr => ∃ k : Nat, k ≤ ps.length ∧ i = .int .i64 (k : Int) ∧ s = .string ⟨(ps.take k).flatten.toArray⟩ ∧ w = wr) (fun _ i _ => ps.length - (intOf i).toNat)
  case atStart => exact ⟨0, by omega, rfl, rfl, rfl⟩
  case round =>
    obtain ⟨k, hk, rfl, rfl, rfl⟩ := hrel
    by_cases h : k < ps.length
    · rcases hvcell with hnil | ⟨b, off, rfl, hbl, hcell⟩
      · subst hnil; simp at h
      · obtain ⟨x, hx⟩ : ∃ x, ps[k]? = some x := ⟨_, List.getElem?_eq_getElem h⟩
        have hcx : w.cell? ⟨b, off + k, none⟩ = some (.string ⟨x.toArray⟩) := hcell k x hx
        have hnx : (ps.take (k + 1)).flatten = (ps.take k).flatten ++ x := by
          rw [List.take_add_one, hx]; simp
        have happ := app_str (ps.take k).flatten x
        rw [← hnx] at happ
        have hl1 := flat_len (ps.take k) fun y hy => hs y (List.mem_of_mem_take hy)
        have hl2 := hs x (List.mem_of_getElem? hx)
        rw [List.length_take] at hl1
        clear hcell hx hnx
        generalize (ps.take k).flatten = p at *
        obtain ⟨q, hq⟩ : ∃ q, q = (ps.take (k + 1)).flatten := ⟨_, rfl⟩
        rw [← hq] at happ
        have Hq := Lib.hid hq
        clear hq
        go_wp2
        go_roundw
        case rel => exact ⟨k + 1, by omega, by go_num, by rw [← Hq.out], trivial⟩
        case measure => simp [intOf]; omega
    · obtain rfl : k = ps.length := by omega
      rw [List.take_length]
      go_wp2
      go_ret
      exact ⟨rfl, rfl⟩
end Go.Proofs.YtbgieephehfgpaaDoor
