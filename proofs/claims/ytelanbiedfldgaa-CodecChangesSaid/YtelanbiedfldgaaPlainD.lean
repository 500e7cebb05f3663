/- The plain law of chapter 6, fourth part: proper beginnings of texts and lists; texts and lists read back. -/
import Derived.Test.YtelanbiedfldgaaPlainC
namespace Go.Proofs.Ytelanbiedfldgaa.Cd

theorem num_nat_lt {n : Nat} (h : n ≤ 1000000) : num (n : Int) < 18446744073709551616 := num_lt (by omega) (by omega)
theorem unz_num_nat (n : Nat) : unz (num (n : Int)) = (n : Int) := unz_num _
theorem lenL_enc {n : Nat} {limit : Int} (more : List Nat) (h : n ≤ 1000000) (hl : (n : Int) ≤ limit) : lenL (enc (num (n : Int)) ++ more) limit = ((n : Int), ((enc (num (n : Int))).length : Int), 0) := by
  unfold lenL
  rw [dec_enc _ more (num_nat_lt h), unz_num_nat]
  simp only [ne_eq, not_true, if_false]
  rw [if_neg (by omega), if_neg (by omega)]
theorem lenL_long {n : Nat} {limit : Int} (more : List Nat) (h : n ≤ 1000000) (hl : limit < (n : Int)) : lenL (enc (num (n : Int)) ++ more) limit = (0, 0, 6) := by
  unfold lenL
  rw [dec_enc _ more (num_nat_lt h), unz_num_nat]
  simp only [ne_eq, not_true, if_false]
  rw [if_neg (by omega), if_pos hl]
theorem lenL_cut {n c : Nat} {limit : Int} (h : n ≤ 1000000) (hc : c < (enc (num (n : Int))).length) : lenL ((enc (num (n : Int))).take c) limit = (0, 0, 7) := by
  unfold lenL
  rw [dec_cut _ c (num_nat_lt h) hc]
  simp
theorem text_cut {t : List Nat} {c : Nat} {limit : Int} (h : t.length ≤ 1000000) (hl : (t.length : Int) ≤ limit) (hc : c < (enc (num (t.length : Int)) ++ t).length) : textL ((enc (num (t.length : Int)) ++ t).take c) limit = ([], 0, 7) := by
  by_cases h1 : c < (enc (num (t.length : Int))).length
  · rw [List.take_append_of_le_length (by omega)]
    unfold textL
    rw [lenL_cut h h1]
    simp
  · rw [List.length_append] at hc
    have e : (enc (num (t.length : Int)) ++ t).take c = enc (num (t.length : Int)) ++ t.take (c - (enc (num (t.length : Int))).length) := by
      rw [List.take_append, List.take_of_length_le (by omega)]
    rw [e]
    unfold textL
    rw [lenL_enc _ h hl]
    simp only [ne_eq, not_true, if_false]
    rw [if_pos (by rw [List.length_append, List.length_take]; omega)]
theorem text_back {t more : List Nat} {limit : Int} (h : t.length ≤ 1000000) (hl : (t.length : Int) ≤ limit) : textL (enc (num (t.length : Int)) ++ t ++ more) limit = (t, (((enc (num (t.length : Int)) ++ t).length : Nat) : Int), 0) := by
  unfold textL
  rw [List.append_assoc, lenL_enc _ h hl]
  simp only [ne_eq, not_true, if_false, Int.toNat_natCast]
  rw [if_neg (by rw [List.length_append, List.length_append]; omega)]
  rw [List.drop_left, List.take_left, List.length_append]
  simp
theorem text_long {t : List Nat} {limit : Int} (h : t.length ≤ 1000000) (hl : limit < (t.length : Int)) : textL (enc (num (t.length : Int)) ++ t) limit = ([], 0, 6) := by
  unfold textL
  rw [lenL_long _ h hl]
  simp
def I64 (l : List Int) : Prop := ∀ x ∈ l, -9223372036854775808 ≤ x ∧ x ≤ 9223372036854775807
theorem go_cut : ∀ (l : List Int) (pre : List Nat) (acc : List Int) (d : Nat), I64 l → d < (encs l).length → intsGo (pre ++ (encs l).take d) l.length pre.length acc = ([], 0, 7)
  | [], pre, acc, d, _, h => by simp [encs] at h
  | x :: l, pre, acc, d, h64, h => by
    have hx := h64 x (by simp)
    have hn := num_lt hx.1 hx.2
    rw [encs_cons] at h ⊢
    rw [List.length_cons, intsGo, List.drop_left]
    by_cases h1 : d < (enc (num x)).length
    · rw [List.take_append_of_le_length (by omega), dec_cut _ d hn h1]
      simp
    · rw [List.length_append] at h
      have e : (enc (num x) ++ encs l).take d = enc (num x) ++ (encs l).take (d - (enc (num x)).length) := by
        rw [List.take_append, List.take_of_length_le (by omega)]
      rw [e, dec_enc _ _ hn]
      simp only [ne_eq, not_true, if_false, Int.toNat_natCast]
      have := go_cut l (pre ++ enc (num x)) (acc ++ [unz (num x)]) (d - (enc (num x)).length) (fun y hy => h64 y (by simp [hy])) (by omega)
      rw [List.length_append, List.append_assoc] at this
      exact this
theorem ints_cut {l : List Int} {c : Nat} {limit : Int} (h : l.length ≤ 1000000) (h64 : I64 l) (hl : (l.length : Int) ≤ limit) (hc : c < (enc (num (l.length : Int)) ++ encs l).length) : intsL ((enc (num (l.length : Int)) ++ encs l).take c) limit = ([], 0, 7) := by
  by_cases h1 : c < (enc (num (l.length : Int))).length
  · rw [List.take_append_of_le_length (by omega)]
    unfold intsL
    rw [lenL_cut h h1]
    simp
  · rw [List.length_append] at hc
    have e : (enc (num (l.length : Int)) ++ encs l).take c = enc (num (l.length : Int)) ++ (encs l).take (c - (enc (num (l.length : Int))).length) := by
      rw [List.take_append, List.take_of_length_le (by omega)]
    rw [e]
    unfold intsL
    rw [lenL_enc _ h hl]
    simp only [ne_eq, not_true, if_false, Int.toNat_natCast]
    exact go_cut l _ [] _ h64 (by omega)
theorem go_back : ∀ (l : List Int) (pre more : List Nat) (acc : List Int), I64 l → intsGo (pre ++ (encs l ++ more)) l.length pre.length acc = (acc ++ l, ((pre.length + (encs l).length : Nat) : Int), 0)
  | [], pre, more, acc, _ => by simp [intsGo, encs]
  | x :: l, pre, more, acc, h64 => by
    have hx := h64 x (by simp)
    have hn := num_lt hx.1 hx.2
    rw [encs_cons, List.length_cons, intsGo, List.drop_left, List.append_assoc, dec_enc _ _ hn, unz_num]
    simp only [ne_eq, not_true, if_false, Int.toNat_natCast]
    have := go_back l (pre ++ enc (num x)) more (acc ++ [x]) (fun y hy => h64 y (by simp [hy]))
    rw [List.length_append, List.append_assoc] at this
    rw [this, List.length_append, List.append_assoc, Nat.add_assoc]
    rfl
theorem ints_back {l : List Int} {more : List Nat} {limit : Int} (h : l.length ≤ 1000000) (h64 : I64 l) (hl : (l.length : Int) ≤ limit) : intsL (enc (num (l.length : Int)) ++ encs l ++ more) limit = (l, (((enc (num (l.length : Int)) ++ encs l).length : Nat) : Int), 0) := by
  unfold intsL
  rw [List.append_assoc, lenL_enc _ h hl]
  simp only [ne_eq, not_true, if_false, Int.toNat_natCast]
  rw [go_back l _ more [] h64, List.length_append]
  rfl
theorem ints_long {l : List Int} {limit : Int} (h : l.length ≤ 1000000) (hl : limit < (l.length : Int)) : intsL (enc (num (l.length : Int)) ++ encs l) limit = ([], 0, 6) := by
  unfold intsL
  rw [lenL_long _ h hl]
  simp
end Go.Proofs.Ytelanbiedfldgaa.Cd
