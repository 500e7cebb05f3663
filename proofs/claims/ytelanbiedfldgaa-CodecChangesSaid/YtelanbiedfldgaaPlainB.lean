/- The plain law of chapter 6, second part: reading texts and lists; what is written reads back. No program in sight. -/
import Derived.Test.YtelanbiedfldgaaPlain
namespace Go.Proofs.Ytelanbiedfldgaa.Cd

/-- An integer that was read has a size; else all is 0 but the error. -/
theorem dec_ok : ∀ (bs : List Nat) (k u : Nat), ((dec k u bs).2.2 = 0 → ∃ j : Nat, (dec k u bs).2.1 = (j : Int) ∧ k < j ∧ j ≤ k + bs.length) ∧
    ((dec k u bs).2.2 ≠ 0 → (dec k u bs).1 = 0 ∧ (dec k u bs).2.1 = 0 ∧ ((dec k u bs).2.2 = 7 ∨ (dec k u bs).2.2 = 8))
  | [], k, u => by simp [dec]
  | c :: r, k, u => by
    rw [dec]
    split
    · simp
    · split
      · obtain ⟨h1, h2⟩ := dec_ok r (k + 1) (u + c % 128 * 128 ^ k)
        refine ⟨fun h => ?_, h2⟩
        obtain ⟨j, e, a, b⟩ := h1 h
        exact ⟨j, e, by omega, by rw [List.length_cons]; omega⟩
      · split
        · simp
        · refine ⟨fun _ => ⟨k + 1, rfl, by omega, by rw [List.length_cons]; omega⟩, fun h => absurd rfl h⟩
theorem dec_size_le {bs : List Nat} (h : (dec 0 0 bs).2.2 = 0) : ∃ j : Nat, (dec 0 0 bs).2.1 = (j : Int) ∧ 1 ≤ j ∧ j ≤ bs.length := by
  obtain ⟨j, e, a, b⟩ := (dec_ok bs 0 0).1 h
  exact ⟨j, e, a, by omega⟩

def lenL (bs : List Nat) (limit : Int) : Int × Int × Int :=
  if (dec 0 0 bs).2.2 ≠ 0 then (0, 0, (dec 0 0 bs).2.2) else if (dec 0 0 bs).1 < 0 then (0, 0, 8) else if limit < (dec 0 0 bs).1 then (0, 0, 6) else ((dec 0 0 bs).1, (dec 0 0 bs).2.1, 0)
theorem lenL_ok {bs : List Nat} {limit : Int} (h : (lenL bs limit).2.2 = 0) : ∃ n j : Nat, lenL bs limit = ((n : Int), (j : Int), 0) ∧ 1 ≤ j ∧ j ≤ bs.length ∧ (n : Int) ≤ limit ∧ dec 0 0 bs = ((n : Int), (j : Int), 0) := by
  unfold lenL at h ⊢
  by_cases h1 : (dec 0 0 bs).2.2 ≠ 0
  · rw [if_pos h1] at h; exact absurd h h1
  · rw [if_neg h1] at h ⊢
    have h1' : (dec 0 0 bs).2.2 = 0 := by omega
    by_cases h2 : (dec 0 0 bs).1 < 0
    · rw [if_pos h2] at h; simp at h
    · rw [if_neg h2] at h ⊢
      by_cases h3 : limit < (dec 0 0 bs).1
      · rw [if_pos h3] at h; simp at h
      · rw [if_neg h3]
        obtain ⟨j, e, a, b⟩ := dec_size_le h1'
        obtain ⟨n, hn⟩ := Int.eq_ofNat_of_zero_le (show 0 ≤ (dec 0 0 bs).1 by omega)
        refine ⟨n, j, by rw [hn, e], a, b, by omega, ?_⟩
        rw [← hn, ← e, ← h1']
def textL (bs : List Nat) (limit : Int) : List Nat × Int × Int :=
  if (lenL bs limit).2.2 ≠ 0 then ([], 0, (lenL bs limit).2.2) else
  if (bs.length : Int) - (lenL bs limit).2.1 < (lenL bs limit).1 then ([], 0, 7) else
  ((bs.drop (lenL bs limit).2.1.toNat).take (lenL bs limit).1.toNat, (lenL bs limit).2.1 + (lenL bs limit).1, 0)
def intsGo (bs : List Nat) : Nat → Nat → List Int → List Int × Int × Int
  | 0, at_, acc => (acc, (at_ : Int), 0)
  | m + 1, at_, acc => if (dec 0 0 (bs.drop at_)).2.2 ≠ 0 then ([], 0, (dec 0 0 (bs.drop at_)).2.2) else intsGo bs m (at_ + (dec 0 0 (bs.drop at_)).2.1.toNat) (acc ++ [(dec 0 0 (bs.drop at_)).1])
def intsL (bs : List Nat) (limit : Int) : List Int × Int × Int :=
  if (lenL bs limit).2.2 ≠ 0 then ([], 0, (lenL bs limit).2.2) else intsGo bs (lenL bs limit).1.toNat (lenL bs limit).2.1.toNat []
end Go.Proofs.Ytelanbiedfldgaa.Cd
