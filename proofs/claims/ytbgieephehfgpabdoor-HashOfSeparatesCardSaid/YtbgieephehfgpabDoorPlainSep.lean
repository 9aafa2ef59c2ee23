/-
  Plain mathematics: a tag and a list of strings are told by the bytes that hash.Of hashes. Conditions: lengths below 2^60.
-/
import Derived.Test.YtbgieephehfgpabDoorOf
namespace Go.Proofs.YtbgieephehfgpabDoor
open Go Go.RowKit Sha
namespace Wire
theorem ofNat_inj {a b : Nat} (ha : a < 256) (hb : b < 256) (h : UInt8.ofNat a = UInt8.ofNat b) : a = b := by
  have := congrArg UInt8.toNat h
  rw [UInt8.toNat_ofNat', UInt8.toNat_ofNat'] at this
  omega
theorem groups_inj (f : Nat) : ∀ (z z' : Nat) (r r' : List UInt8), z < 128 ^ (f + 1) → z' < 128 ^ (f + 1) → groups f z ++ r = groups f z' ++ r' → z = z' ∧ r = r' := by
  induction f with
  | zero =>
    intro z z' r r' hz hz' h
    simp only [groups, List.cons_append, List.nil_append, List.cons.injEq] at h
    exact ⟨ofNat_inj (by omega) (by omega) h.1, h.2⟩
  | succ f ih =>
    intro z z' r r' hz hz' h
    rw [groups, groups] at h
    rw [Nat.pow_succ] at hz hz'
    by_cases h1 : z > 127 <;> by_cases h2 : z' > 127
    · rw [if_pos h1, if_pos h2] at h
      simp only [List.cons_append, List.cons.injEq] at h
      have h3 := ofNat_inj (by omega) (by omega) h.1
      have h4 := ih (z / 128) (z' / 128) r r' (Nat.div_lt_of_lt_mul (by omega)) (Nat.div_lt_of_lt_mul (by omega)) h.2
      exact ⟨by omega, h4.2⟩
    · rw [if_pos h1, if_neg h2] at h
      simp only [List.cons_append, List.nil_append, List.cons.injEq] at h
      have h3 := ofNat_inj (by omega) (by omega) h.1
      omega
    · rw [if_neg h1, if_pos h2] at h
      simp only [List.cons_append, List.nil_append, List.cons.injEq] at h
      have h3 := ofNat_inj (by omega) (by omega) h.1
      omega
    · rw [if_neg h1, if_neg h2] at h
      simp only [List.cons_append, List.nil_append, List.cons.injEq] at h
      exact ⟨ofNat_inj (by omega) (by omega) h.1, h.2⟩
theorem bytesB_inj (l l' r r' : List UInt8) (hl : l.length ≤ 100000000) (hl' : l'.length ≤ 100000000) (h : bytesB l ++ r = bytesB l' ++ r') : l = l' ∧ r = r' := by
  unfold bytesB intB at h
  rw [List.append_assoc, List.append_assoc] at h
  obtain ⟨h1, h2⟩ := groups_inj 9 _ _ _ _ (by omega) (by omega) h
  exact List.append_inj h2 (by omega)
theorem groups_ne (f z : Nat) : groups f z ≠ [] := by
  cases f with
  | zero => simp [groups]
  | succ f => rw [groups]; split <;> simp
theorem bytesB_ne (l : List UInt8) : bytesB l ≠ [] := by
  unfold bytesB intB
  intro h
  exact groups_ne _ _ (List.append_eq_nil_iff.1 h).1
theorem flat_inj : ∀ (a b : List (List UInt8)), (∀ x ∈ a, x.length ≤ 100000000) → (∀ x ∈ b, x.length ≤ 100000000) → a.flatMap bytesB = b.flatMap bytesB → a = b
  | [], [], _, _, _ => rfl
  | [], y :: b, _, _, h => by
    rw [List.flatMap_nil, List.flatMap_cons] at h
    exact absurd (List.append_eq_nil_iff.1 h.symm).1 (bytesB_ne y)
  | x :: a, [], _, _, h => by
    rw [List.flatMap_nil, List.flatMap_cons] at h
    exact absurd (List.append_eq_nil_iff.1 h).1 (bytesB_ne x)
  | x :: a, y :: b, ha, hb, h => by
    rw [List.flatMap_cons, List.flatMap_cons] at h
    obtain ⟨h1, h2⟩ := bytesB_inj x y _ _ (ha x (by simp)) (hb y (by simp)) h
    rw [h1, flat_inj a b (fun z hz => ha z (by simp [hz])) (fun z hz => hb z (by simp [hz])) h2]
end Wire
open Wire
theorem ofIn_inj (t u : Nat) (a b : List (List UInt8)) (ht : t < 256) (hu : u < 256) (ha : ∀ x ∈ a, x.length ≤ 100000000) (hb : ∀ x ∈ b, x.length ≤ 100000000) (h : ofIn (t : Int) a = ofIn (u : Int) b) : t = u ∧ a = b := by
  unfold ofIn tagB at h
  simp only [List.cons.injEq] at h
  refine ⟨?_, flat_inj a b ha hb h.2⟩
  have := ofNat_inj (by omega) (by omega) h.1
  omega
end Go.Proofs.YtbgieephehfgpabDoor
