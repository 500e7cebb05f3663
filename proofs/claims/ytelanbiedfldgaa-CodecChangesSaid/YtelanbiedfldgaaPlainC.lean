/- The plain law of chapter 6, third part: what is written reads back, what is read is what is written, and no proper beginning is read. -/
import Derived.Test.YtelanbiedfldgaaPlainB
namespace Go.Proofs.Ytelanbiedfldgaa.Cd

def encs (l : List Int) : List Nat := l.flatMap fun x => enc (num x)
theorem encs_cons (x : Int) (l : List Int) : encs (x :: l) = enc (num x) ++ encs l := by simp [encs]
theorem encF_stop {f u : Nat} (h : u < 128) : encF f u = [u] := by
  cases f with
  | zero => rw [encF, Nat.mod_eq_of_lt (by omega)]
  | succ f => rw [encF, if_pos h]
theorem encF_go {f u : Nat} (h : 128 ≤ u) : encF (f + 1) u = (u % 128 + 128) :: encF f (u / 128) := by rw [encF, if_neg (by omega)]
theorem encF_pos (f u : Nat) : 0 < (encF f u).length := by
  cases f with
  | zero => simp [encF]
  | succ f => rw [encF]; split <;> simp
theorem encF_byt : ∀ (f u : Nat), Byt (encF f u)
  | 0, u => fun x hx => by simp [encF] at hx; omega
  | f + 1, u => fun x hx => by
    rw [encF] at hx
    split at hx
    · simp at hx; omega
    · simp only [List.mem_cons] at hx
      rcases hx with rfl | hx
      · omega
      · exact encF_byt f (u / 128) x hx
theorem enc_byt (u : Nat) : Byt (enc u) := encF_byt 9 u
theorem byt_append {a b : List Nat} (ha : Byt a) (hb : Byt b) : Byt (a ++ b) := fun x hx => by
  rcases List.mem_append.1 hx with h | h
  · exact ha x h
  · exact hb x h
theorem encs_byt : ∀ l : List Int, Byt (encs l)
  | [] => fun x hx => by simp [encs] at hx
  | x :: l => by rw [encs_cons]; exact byt_append (enc_byt _) (encs_byt l)

theorem pow9 : (128 : Nat) ^ 9 = 9223372036854775808 := by decide
/-- Reading back. -/
theorem dec_back : ∀ (f k u x : Nat) (more : List Nat), f + k = 9 → (0 < k → 0 < x) → x * 128 ^ k < 18446744073709551616 →
    dec k u (encF f x ++ more) = (unz (u + x * 128 ^ k), ((k + (encF f x).length : Nat) : Int), 0)
  | f, k, u, x, more, hf, hx, hb => by
    by_cases h : x < 128
    · rw [encF_stop h]
      have h9 : ¬ (k = 9 ∧ 1 < x) := by
        rintro ⟨rfl, h1⟩
        rw [pow9] at hb
        omega
      simp only [List.cons_append, List.nil_append, List.length_singleton]
      rw [dec, if_neg h9, if_neg (by omega), if_neg (by omega), Nat.mod_eq_of_lt h]
    · match f, hf with
      | 0, hf =>
        exfalso
        obtain rfl : k = 9 := by omega
        rw [pow9] at hb
        omega
      | f + 1, hf =>
        rw [encF_go (by omega), List.cons_append, dec, if_neg (by omega), if_pos (by omega)]
        have e1 : (x % 128 + 128) % 128 = x % 128 := by omega
        have e2 : x / 128 * 128 ^ (k + 1) + x % 128 * 128 ^ k = x * 128 ^ k := by
          rw [Nat.pow_succ, Nat.mul_comm (128 ^ k) 128, ← Nat.mul_assoc, ← Nat.add_mul]
          congr 1
          omega
        rw [e1, dec_back f (k + 1) _ (x / 128) more (by omega) (fun _ => by omega) (by omega)]
        congr 1
        · congr 1; omega
        · congr 1
          rw [List.length_cons]
          congr 1
          omega
theorem dec_enc (x : Nat) (more : List Nat) (h : x < 18446744073709551616) : dec 0 0 (enc x ++ more) = (unz x, ((enc x).length : Int), 0) := by
  have := dec_back 9 0 0 x more rfl (fun h => by omega) (by simpa using h)
  simp only [Nat.pow_zero, Nat.mul_one, Nat.zero_add] at this
  exact this
/-- What is read is what is written. -/
theorem dec_only : ∀ (bs : List Nat) (f k u : Nat), f + k = 9 → Byt bs → u < 128 ^ k → (dec k u bs).2.2 = 0 →
    ∃ x, dec k u bs = (unz (u + x * 128 ^ k), ((k + (encF f x).length : Nat) : Int), 0) ∧ bs.take (encF f x).length = encF f x ∧ (encF f x).length ≤ bs.length ∧ (0 < k → 0 < x) ∧ u + x * 128 ^ k < 18446744073709551616
  | [], f, k, u, _, _, _, h => by simp [dec] at h
  | c :: r, f, k, u, hf, hB, hu, h => by
    have hc : c < 256 := hB c (by simp)
    have hp : 0 < 128 ^ k := Nat.pow_pos (by decide)
    rw [dec] at h ⊢
    by_cases h9 : k = 9 ∧ 1 < c
    · rw [if_pos h9] at h; simp at h
    · rw [if_neg h9] at h ⊢
      by_cases h128 : 128 ≤ c
      · rw [if_pos h128] at h ⊢
        obtain ⟨f, rfl⟩ : ∃ f', f = f' + 1 := ⟨f - 1, by omega⟩
        have hu2 : u + c % 128 * 128 ^ k < 128 ^ (k + 1) := by
          have h2 : c % 128 * 128 ^ k ≤ 127 * 128 ^ k := Nat.mul_le_mul_right _ (by omega)
          rw [Nat.pow_succ]; omega
        obtain ⟨x, e, h1, h2, h3, h4⟩ := dec_only r f (k + 1) _ (by omega) (fun y hy => hB y (by simp [hy])) hu2 h
        have hx := h3 (by omega)
        have e3 : u + c % 128 * 128 ^ k + x * 128 ^ (k + 1) = u + (c % 128 + 128 * x) * 128 ^ k := by
          rw [Nat.pow_succ, Nat.mul_comm (128 ^ k) 128, ← Nat.mul_assoc, Nat.add_mul, Nat.mul_comm 128 x]
          omega
        have e4 : encF (f + 1) (c % 128 + 128 * x) = c :: encF f x := by
          rw [encF_go (by omega), show (c % 128 + 128 * x) % 128 + 128 = c by omega, show (c % 128 + 128 * x) / 128 = x by omega]
        refine ⟨c % 128 + 128 * x, ?_, ?_, ?_, fun _ => by omega, by rw [← e3]; exact h4⟩
        · rw [e, e3, e4, List.length_cons]
          congr 2
          congr 1
          omega
        · rw [e4, List.length_cons, List.take_succ_cons, h1]
        · rw [e4]; simpa using h2
      · rw [if_neg h128] at h ⊢
        by_cases hz : c = 0 ∧ 0 < k
        · rw [if_pos hz] at h; simp at h
        · rw [if_neg hz]
          have e4 : encF f c = [c] := encF_stop (by omega)
          refine ⟨c, ?_, by rw [e4]; simp, by rw [e4]; simp, fun _ => by omega, ?_⟩
          · rw [e4, Nat.mod_eq_of_lt (by omega)]; rfl
          · by_cases hk : k = 9
            · subst hk
              rw [pow9] at hu ⊢
              omega
            · have h1 : 128 ^ (k + 1) ≤ 128 ^ 9 := Nat.pow_le_pow_right (by decide) (by omega)
              rw [Nat.pow_succ, pow9] at h1
              have h2 : c * 128 ^ k ≤ 127 * 128 ^ k := Nat.mul_le_mul_right _ (by omega)
              omega
theorem dec_is {bs : List Nat} (hB : Byt bs) (h : (dec 0 0 bs).2.2 = 0) : ∃ x, dec 0 0 bs = (unz x, ((enc x).length : Int), 0) ∧ bs.take (enc x).length = enc x ∧ (enc x).length ≤ bs.length ∧ x < 18446744073709551616 := by
  obtain ⟨x, e, h1, h2, _, h4⟩ := dec_only bs 9 0 0 rfl hB (by decide) h
  simp only [Nat.pow_zero, Nat.mul_one, Nat.zero_add] at e h4
  exact ⟨x, e, h1, h2, h4⟩
/-- A proper beginning is too short. -/
theorem dec_short : ∀ (f k u x cut : Nat), f + k = 9 → x * 128 ^ k < 18446744073709551616 → cut < (encF f x).length → dec k u ((encF f x).take cut) = (0, 0, 7)
  | f, k, u, x, 0, _, _, _ => by rw [List.take_zero, dec]
  | f, k, u, x, cut + 1, hf, hb, hc => by
    by_cases h : x < 128
    · rw [encF_stop h] at hc; simp at hc
    · match f, hf with
      | 0, hf =>
        exfalso
        obtain rfl : k = 9 := by omega
        rw [pow9] at hb
        omega
      | f + 1, hf =>
        rw [encF_go (by omega)] at hc ⊢
        rw [List.take_succ_cons, dec, if_neg (by omega), if_pos (by omega)]
        have e2 : x / 128 * 128 ^ (k + 1) + x % 128 * 128 ^ k = x * 128 ^ k := by
          rw [Nat.pow_succ, Nat.mul_comm (128 ^ k) 128, ← Nat.mul_assoc, ← Nat.add_mul]
          congr 1
          omega
        exact dec_short f (k + 1) _ (x / 128) cut (by omega) (by omega) (by simpa using hc)
theorem dec_cut (x cut : Nat) (h : x < 18446744073709551616) (hc : cut < (enc x).length) : dec 0 0 ((enc x).take cut) = (0, 0, 7) := dec_short 9 0 0 x cut rfl (by simpa using h) hc

/-! ### Texts -/
theorem text_is {bs : List Nat} {limit : Int} (hB : Byt bs) (h : (textL bs limit).2.2 = 0) : ∃ j : Nat, (textL bs limit).2.1 = (j : Int) ∧ 1 ≤ j ∧ j ≤ bs.length ∧ enc (num ((textL bs limit).1.length : Int)) ++ (textL bs limit).1 = bs.take j := by
  unfold textL at h ⊢
  by_cases h1 : (lenL bs limit).2.2 ≠ 0
  · rw [if_pos h1] at h; exact absurd h h1
  · rw [if_neg h1] at h ⊢
    obtain ⟨n, j, e, h3, h4, h5, h6⟩ := lenL_ok (show (lenL bs limit).2.2 = 0 by omega)
    rw [e] at h ⊢
    simp only [Int.toNat_natCast] at h ⊢
    by_cases h7 : (bs.length : Int) - (j : Int) < (n : Int)
    · rw [if_pos h7] at h; simp at h
    · rw [if_neg h7]
      obtain ⟨x, e2, t1, t2, t3⟩ := dec_is hB (by rw [h6])
      rw [h6] at e2
      simp only [Prod.mk.injEq, and_true] at e2
      have hl : ((bs.drop j).take n).length = n := by rw [List.length_take, List.length_drop]; omega
      refine ⟨j + n, by simp, by omega, by omega, ?_⟩
      simp only []
      rw [hl, e2.1, num_unz, List.take_add]
      congr 1
      rw [show j = (enc x).length by omega, t1]
/-! ### Lists -/
theorem intsGo_is {bs : List Nat} (hB : Byt bs) : ∀ (m a : Nat) (acc : List Int), a ≤ bs.length → (intsGo bs m a acc).2.2 = 0 →
    ∃ tl : List Int, tl.length = m ∧ intsGo bs m a acc = (acc ++ tl, ((a + (encs tl).length : Nat) : Int), 0) ∧ a + (encs tl).length ≤ bs.length ∧ bs.take (a + (encs tl).length) = bs.take a ++ encs tl
  | 0, a, acc, ha, _ => ⟨[], rfl, by simp [intsGo, encs], by simpa [encs] using ha, by simp [encs]⟩
  | m + 1, a, acc, ha, h => by
    rw [intsGo] at h ⊢
    by_cases h1 : (dec 0 0 (bs.drop a)).2.2 ≠ 0
    · rw [if_pos h1] at h; exact absurd h h1
    · rw [if_neg h1] at h ⊢
      obtain ⟨x, e, t1, t2, t3⟩ := dec_is (bs := bs.drop a) (fun y hy => hB y (List.mem_of_mem_drop hy)) (by omega)
      rw [e] at h ⊢
      simp only [Int.toNat_natCast] at h ⊢
      rw [List.length_drop] at t2
      obtain ⟨tl, g1, g2, g3, g4⟩ := intsGo_is hB m (a + (enc x).length) (acc ++ [unz x]) (by omega) h
      have e5 : encs (unz x :: tl) = enc x ++ encs tl := by rw [encs_cons, num_unz]
      refine ⟨unz x :: tl, by simp [g1], ?_, ?_, ?_⟩
      · rw [g2, e5, List.length_append, List.append_assoc, Nat.add_assoc]; rfl
      · rw [e5, List.length_append, ← Nat.add_assoc]; exact g3
      · rw [e5, List.length_append, ← Nat.add_assoc, g4, List.take_add, t1, List.append_assoc]
theorem ints_is {bs : List Nat} {limit : Int} (hB : Byt bs) (h : (intsL bs limit).2.2 = 0) : ∃ j : Nat, (intsL bs limit).2.1 = (j : Int) ∧ 1 ≤ j ∧ j ≤ bs.length ∧ enc (num ((intsL bs limit).1.length : Int)) ++ encs (intsL bs limit).1 = bs.take j := by
  unfold intsL at h ⊢
  by_cases h1 : (lenL bs limit).2.2 ≠ 0
  · rw [if_pos h1] at h; exact absurd h h1
  · rw [if_neg h1] at h ⊢
    obtain ⟨n, j, e, h3, h4, h5, h6⟩ := lenL_ok (show (lenL bs limit).2.2 = 0 by omega)
    rw [e] at h ⊢
    simp only [Int.toNat_natCast] at h ⊢
    obtain ⟨tl, g1, g2, g3, g4⟩ := intsGo_is hB n j [] h4 h
    obtain ⟨x, e2, t1, t2, t3⟩ := dec_is hB (by rw [h6])
    rw [h6] at e2
    simp only [Prod.mk.injEq, and_true] at e2
    refine ⟨j + (encs tl).length, by rw [g2], by omega, g3, ?_⟩
    rw [g2]
    simp only [List.nil_append]
    rw [g1, e2.1, num_unz, g4]
    congr 1
    rw [show j = (enc x).length by omega, t1]
end Go.Proofs.Ytelanbiedfldgaa.Cd
