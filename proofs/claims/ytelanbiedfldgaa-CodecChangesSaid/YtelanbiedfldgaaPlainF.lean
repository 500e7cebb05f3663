/- The plain law of chapter 6, sixth part: a list that is changed within four bytes, and its sum. No program in sight. -/
import Derived.Test.YtelanbiedfldgaaPlainE
namespace Go.Proofs.Ytelanbiedfldgaa.Cd

def maskL (X : List Nat) (p n i : Nat) : List Nat := (List.range n).map fun j => if p ≤ j ∧ j < p + i then X.getD (j - p) 0 else 0
def otherL (b X : List Nat) (p i : Nat) : List Nat := xors b (maskL X p b.length i)
theorem maskL_len (X : List Nat) (p n i : Nat) : (maskL X p n i).length = n := by simp [maskL]
theorem maskL_get (X : List Nat) (p n i j : Nat) (h : j < n) : (maskL X p n i)[j]? = some (if p ≤ j ∧ j < p + i then X.getD (j - p) 0 else 0) := by
  unfold maskL
  rw [List.getElem?_map, List.getElem?_range h]
  rfl
theorem maskL_set (X : List Nat) (p n i : Nat) : maskL X p n (i + 1) = (maskL X p n i).set (p + i) (X.getD i 0) := by
  apply List.ext_getElem?
  intro j
  by_cases hj : j < n
  · rw [List.getElem?_set, maskL_get _ _ _ _ _ hj, maskL_get _ _ _ _ _ hj, maskL_len]
    by_cases hp : p + i = j
    · subst hp
      rw [if_pos rfl, if_pos (show p + i < n by omega), if_pos (by omega), Nat.add_sub_cancel_left]
    · rw [if_neg hp]
      by_cases h : p ≤ j ∧ j < p + i
      · rw [if_pos h, if_pos (by omega)]
      · rw [if_neg h, if_neg (by omega)]
  · rw [List.getElem?_eq_none (by rw [maskL_len]; omega), List.getElem?_eq_none (by rw [List.length_set, maskL_len]; omega)]
theorem maskL_zero (X : List Nat) (p n : Nat) : maskL X p n 0 = List.replicate n 0 := by
  apply List.ext_getElem?
  intro j
  by_cases hj : j < n
  · rw [maskL_get _ _ _ _ _ hj, if_neg (by omega), List.getElem?_replicate, if_pos hj]
  · rw [List.getElem?_eq_none (by rw [maskL_len]; omega), List.getElem?_eq_none (by simp; omega)]
theorem getD_byt {X : List Nat} (hX : Byt X) (k : Nat) : X.getD k 0 < 256 := by
  rw [List.getD_eq_getElem?_getD]
  by_cases h : k < X.length
  · rw [List.getElem?_eq_getElem h]; exact hX _ (List.getElem_mem h)
  · rw [List.getElem?_eq_none (by omega)]; decide
theorem maskL_byt {X : List Nat} (hX : Byt X) (p n i : Nat) : Byt (maskL X p n i) := fun x hx => by
  unfold maskL at hx
  rw [List.mem_map] at hx
  obtain ⟨j, _, rfl⟩ := hx
  split
  · exact getD_byt hX _
  · decide
theorem xors_byt : ∀ {a b : List Nat}, Byt a → Byt b → Byt (xors a b)
  | [], _, _, _ => fun x hx => by simp [xors] at hx
  | _ :: _, [], _, _ => fun x hx => by simp [xors] at hx
  | c :: a, d :: b, ha, hb => fun x hx => by
    have e : xors (c :: a) (d :: b) = (c ^^^ d) :: xors a b := rfl
    rw [e] at hx
    rcases List.mem_cons.1 hx with rfl | hx
    · exact Nat.xor_lt_two_pow (n := 8) (ha c (by simp)) (hb d (by simp))
    · exact xors_byt (fun y hy => ha y (by simp [hy])) (fun y hy => hb y (by simp [hy])) x hx
theorem xors_len {a b : List Nat} (h : a.length = b.length) : (xors a b).length = a.length := by
  unfold xors; rw [List.length_zipWith, h, Nat.min_self]
theorem otherL_len (b X : List Nat) (p i : Nat) : (otherL b X p i).length = b.length := xors_len (maskL_len _ _ _ _).symm
theorem otherL_byt {b X : List Nat} (hb : Byt b) (hX : Byt X) (p i : Nat) : Byt (otherL b X p i) := xors_byt hb (maskL_byt hX _ _ _)
theorem xors_zero : ∀ (b : List Nat), xors b (List.replicate b.length 0) = b
  | [] => rfl
  | c :: b => by
    have e : xors (c :: b) (List.replicate (c :: b).length 0) = (c ^^^ 0) :: xors b (List.replicate b.length 0) := rfl
    rw [e, xors_zero b, Nat.xor_zero]
theorem zero_xors : ∀ (b : List Nat), xors (List.replicate b.length 0) b = b
  | [] => rfl
  | c :: b => by
    have e : xors (List.replicate (c :: b).length 0) (c :: b) = (0 ^^^ c) :: xors (List.replicate b.length 0) b := rfl
    rw [e, zero_xors b, Nat.zero_xor]
theorem otherL_zero (b X : List Nat) (p : Nat) : otherL b X p 0 = b := by
  unfold otherL; rw [maskL_zero, xors_zero]
theorem otherL_get (b X : List Nat) (p i j : Nat) (h : j < b.length) : (otherL b X p i)[j]? = some (b[j] ^^^ (if p ≤ j ∧ j < p + i then X.getD (j - p) 0 else 0)) := by
  unfold otherL xors
  rw [List.getElem?_zipWith, List.getElem?_eq_getElem h, maskL_get _ _ _ _ _ h]
theorem otherL_set (b X : List Nat) (p i : Nat) : otherL b X p (i + 1) = (otherL b X p i).set (p + i) (b.getD (p + i) 0 ^^^ X.getD i 0) := by
  apply List.ext_getElem?
  intro j
  by_cases hj : j < b.length
  · rw [List.getElem?_set, otherL_get _ _ _ _ _ hj, otherL_get _ _ _ _ _ hj, otherL_len]
    by_cases hp : p + i = j
    · subst hp
      rw [if_pos rfl, if_pos hj, if_pos (by omega), Nat.add_sub_cancel_left, List.getD_eq_getElem?_getD (l := b), List.getElem?_eq_getElem hj]
      rfl
    · rw [if_neg hp]
      by_cases h : p ≤ j ∧ j < p + i
      · rw [if_pos h, if_pos (by omega)]
      · rw [if_neg h, if_neg (by omega)]
  · rw [List.getElem?_eq_none (by rw [otherL_len]; omega), List.getElem?_eq_none (by rw [List.length_set, otherL_len]; omega)]
theorem maskL_split {X : List Nat} {p n e : Nat} (hX : e ≤ X.length) (h : p + e ≤ n) : maskL X p n e = List.replicate p 0 ++ X.take e ++ List.replicate (n - p - e) 0 := by
  apply List.ext_getElem?
  intro j
  by_cases hj : j < n
  · rw [maskL_get _ _ _ _ _ hj]
    by_cases h1 : j < p
    · rw [if_neg (by omega), List.append_assoc, List.getElem?_append_left (by simpa using h1), List.getElem?_replicate, if_pos h1]
    · by_cases h2 : j < p + e
      · rw [if_pos (by omega), List.getElem?_append_left (by simp; omega), List.getElem?_append_right (by simp; omega), List.length_replicate, List.getElem?_take, if_pos (by omega), List.getElem?_eq_getElem (by omega), List.getD_eq_getElem?_getD, List.getElem?_eq_getElem (by omega)]
        rfl
      · rw [if_neg (by omega), List.getElem?_append_right (by simp; omega), List.getElem?_replicate, if_pos (by simp; omega)]
  · rw [List.getElem?_eq_none (by rw [maskL_len]; omega), List.getElem?_eq_none (by simp; omega)]
def some0 (X : List Nat) (i : Nat) : Bool := (X.take i).any fun x => x != 0
theorem some0_succ {X : List Nat} {i : Nat} (h : i < X.length) : some0 X (i + 1) = (some0 X i || (X.getD i 0 != 0)) := by
  unfold some0
  rw [List.take_succ_eq_append_getElem h, List.any_append, List.getD_eq_getElem?_getD, List.getElem?_eq_getElem h]
  simp
theorem xor_cancel (B K Z F : Nat) : (B ^^^ F) ^^^ (Z ^^^ K ^^^ F) ^^^ (Z ^^^ F) = B ^^^ K ^^^ F := by
  apply Nat.eq_of_testBit_eq
  intro i
  simp only [Nat.testBit_xor]
  cases B.testBit i <;> cases K.testBit i <;> cases Z.testBit i <;> cases F.testBit i <;> rfl
theorem xor_inj_right {a b c : Nat} (h : a ^^^ c = b ^^^ c) : a = b := by
  have := congrArg (· ^^^ c) h
  simpa [Nat.xor_assoc] using this
theorem sum_other (b k : List Nat) (h : b.length = k.length) : sumTo 4294967295 (xors b k) = sumTo 4294967295 b ^^^ sumTo 0 k := by
  have := sumTo_xor b k 4294967295 0 h
  rwa [Nat.xor_zero] at this
/-- The sums of a list, of the changed one, of the change and of zeros. -/
theorem changes_sum (b X : List Nat) (p e : Nat) : sum (otherL b X p e) = sum b ^^^ sum (maskL X p b.length e) ^^^ sum (List.replicate b.length 0) := by
  have h1 := sum_other b (maskL X p b.length e) (maskL_len _ _ _ _).symm
  have h2 := sum_other (List.replicate b.length 0) (maskL X p b.length e) (by rw [maskL_len, List.length_replicate])
  have h3 := zero_xors (maskL X p b.length e)
  rw [maskL_len] at h3
  rw [h3] at h2
  unfold sum otherL
  rw [h1, h2, xor_cancel]
theorem changes_tell {b X : List Nat} {p e : Nat} (hX : X.length = 4) (hB : Byt X) (he : e ≤ 4) (h : p + e ≤ b.length) : sum b = sum (otherL b X p e) ↔ some0 X e = false := by
  have h1 := sum_other b (maskL X p b.length e) (maskL_len _ _ _ _).symm
  have hs := maskL_split (X := X) (p := p) (n := b.length) (e := e) (by omega) h
  have e1 : sum (otherL b X p e) = sumTo 4294967295 b ^^^ sumTo 0 (maskL X p b.length e) ^^^ 4294967295 := by
    unfold sum otherL; rw [h1]
  rw [e1]
  unfold sum
  constructor
  · intro h2
    have h3 := xor_inj_right h2
    have h4 : sumTo 0 (maskL X p b.length e) = 0 := by
      have : sumTo 4294967295 b ^^^ sumTo 4294967295 b = sumTo 4294967295 b ^^^ (sumTo 4294967295 b ^^^ sumTo 0 (maskL X p b.length e)) := by rw [← h3]
      rw [Nat.xor_self, ← Nat.xor_assoc, Nat.xor_self, Nat.zero_xor] at this
      exact this.symm
    rw [hs] at h4
    have h5 := mask_sum (l := X.take e) (by rw [List.length_take]; omega) (fun x hx => hB x (List.mem_of_mem_take hx)) h4
    unfold some0
    rw [List.any_eq_false]
    intro x hx
    rw [h5 x hx]
    decide
  · intro h2
    have h5 : X.take e = List.replicate e 0 := by
      refine List.eq_replicate_iff.2 ⟨by rw [List.length_take]; omega, fun x hx => ?_⟩
      unfold some0 at h2
      have := (List.any_eq_false.1 h2) x hx
      simpa using this
    have h6 : maskL X p b.length e = List.replicate b.length 0 := by
      rw [hs, h5]
      simp only [List.replicate_append_replicate]
      congr 1
      omega
    rw [h6, sumTo_zeros, Nat.xor_zero]
theorem sum_lt {l : List Nat} (h : Byt l) : sum l < 4294967296 := Nat.xor_lt_two_pow (n := 32) (sumTo_lt l (by decide) h) (by decide)
theorem zeros_byt (n : Nat) : Byt (List.replicate n 0) := fun x hx => by rw [(List.mem_replicate.1 hx).2]; decide
end Go.Proofs.Ytelanbiedfldgaa.Cd
