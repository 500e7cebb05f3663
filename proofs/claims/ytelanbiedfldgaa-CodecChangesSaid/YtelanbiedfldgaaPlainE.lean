/- The plain law of chapter 6, fifth part: the sum is linear, and tells each change within four bytes. No program in sight. -/
import Derived.Test.YtelanbiedfldgaaPlain
namespace Go.Proofs.Ytelanbiedfldgaa.Cd

theorem xor_mod2 (a b : Nat) : (a ^^^ b) % 2 = (a % 2 + b % 2) % 2 := by
  have h := Nat.xor_mod_two_pow (a := a) (b := b) (n := 1)
  rw [Nat.pow_one] at h
  rw [h]
  rcases Nat.mod_two_eq_zero_or_one a with ha | ha <;> rcases Nat.mod_two_eq_zero_or_one b with hb | hb <;> rw [ha, hb] <;> rfl
theorem xor_div2 (a b : Nat) : (a ^^^ b) / 2 = a / 2 ^^^ b / 2 := by
  have h := Nat.xor_div_two_pow (a := a) (b := b) (n := 1)
  rwa [Nat.pow_one] at h
theorem xor_swap (a b p : Nat) : a ^^^ p ^^^ (b ^^^ p) = a ^^^ b := by
  rw [Nat.xor_comm b p, Nat.xor_assoc, ← Nat.xor_assoc p p b, Nat.xor_self, Nat.zero_xor]
theorem xor_right (a b p : Nat) : a ^^^ p ^^^ b = a ^^^ b ^^^ p := by
  rw [Nat.xor_assoc, Nat.xor_comm p b, Nat.xor_assoc]
theorem stp_xor (a b : Nat) : stp (a ^^^ b) = stp a ^^^ stp b := by
  unfold stp
  rw [xor_mod2, xor_div2]
  rcases Nat.mod_two_eq_zero_or_one a with ha | ha <;> rcases Nat.mod_two_eq_zero_or_one b with hb | hb <;> rw [ha, hb]
  · simp
  · simp only [Nat.zero_add, Nat.reduceMod, if_true]
    rw [if_neg (by decide), Nat.xor_assoc]
  · simp only [Nat.add_zero, Nat.reduceMod, if_true]
    rw [if_neg (by decide), xor_right]
  · simp only [Nat.reduceAdd, Nat.reduceMod, if_true]
    rw [if_neg (by decide), xor_swap]
theorem stps_xor : ∀ (n a b : Nat), stps n (a ^^^ b) = stps n a ^^^ stps n b
  | 0, _, _ => rfl
  | n + 1, a, b => by rw [stps, stps, stps, stp_xor, stps_xor n]
theorem stps_add : ∀ (n m r : Nat), stps (n + m) r = stps m (stps n r)
  | 0, m, r => by rw [Nat.zero_add]; rfl
  | n + 1, m, r => by rw [Nat.succ_add, stps, stps, stps_add n m]
theorem stp_zero : stp 0 = 0 := rfl
theorem stps_zero : ∀ n, stps n 0 = 0
  | 0 => rfl
  | n + 1 => by rw [stps, stp_zero, stps_zero n]
theorem stp_double (c : Nat) : stp (2 * c) = c := by
  unfold stp
  rw [if_neg (by omega)]
  omega
theorem stps_shift (c : Nat) : stps 8 (256 * c) = c := by
  have e : 256 * c = 2 * (2 * (2 * (2 * (2 * (2 * (2 * (2 * c))))))) := by omega
  rw [e]
  simp only [stps, stp_double]
theorem xor_zero_eq {a b : Nat} (h : a ^^^ b = 0) : a = b := by
  have : a ^^^ b ^^^ b = b := by rw [h, Nat.zero_xor]
  rwa [Nat.xor_assoc, Nat.xor_self, Nat.xor_zero] at this
theorem stp_inj {r : Nat} (h : r < 4294967296) (h0 : stp r = 0) : r = 0 := by
  unfold stp at h0
  split at h0
  · rename_i h1
    have := xor_zero_eq h0
    omega
  · omega
theorem stps_inj (n : Nat) : ∀ {r : Nat}, r < 4294967296 → stps n r = 0 → r = 0 := by
  induction n with
  | zero => intro r _ h; exact h
  | succ n ih =>
    intro r hr h
    rw [stps] at h
    exact stp_inj hr (ih (stp_lt hr) h)
/-- Elementwise exclusive or. -/
def xors (a b : List Nat) : List Nat := List.zipWith (· ^^^ ·) a b
theorem sumTo_xor : ∀ (a b : List Nat) (r s : Nat), a.length = b.length → sumTo (r ^^^ s) (xors a b) = sumTo r a ^^^ sumTo s b
  | [], [], _, _, _ => rfl
  | c :: a, d :: b, r, s, h => by
    have e : xors (c :: a) (d :: b) = (c ^^^ d) :: xors a b := rfl
    have t : ∀ (x y : Nat) (m : List Nat), sumTo x (y :: m) = sumTo (nxt x y) m := fun _ _ _ => rfl
    rw [e, t, t, t]
    have e2 : nxt (r ^^^ s) (c ^^^ d) = nxt r c ^^^ nxt s d := by
      unfold nxt
      rw [← stps_xor]
      congr 1
      rw [Nat.xor_assoc, Nat.xor_assoc, ← Nat.xor_assoc s c d, Nat.xor_comm s c, Nat.xor_assoc c s d]
    rw [e2]
    exact sumTo_xor a b _ _ (by simpa using h)
def pack : List Nat → Nat
  | [] => 0
  | c :: l => c ^^^ (256 * pack l)
theorem sumTo_pack (l : List Nat) : ∀ (r : Nat), sumTo r l = stps (8 * l.length) (r ^^^ pack l) := by
  induction l with
  | nil =>
    intro r
    have e : pack [] = 0 := rfl
    rw [e, Nat.xor_zero]
    rfl
  | cons c l ih =>
    intro r
    have t : sumTo r (c :: l) = sumTo (nxt r c) l := rfl
    have e : nxt r c ^^^ pack l = stps 8 (r ^^^ pack (c :: l)) := by
      rw [pack, ← Nat.xor_assoc, stps_xor, stps_shift]
      rfl
    rw [t, ih, List.length_cons, Nat.mul_succ, Nat.add_comm, stps_add, e]
theorem xor_lt {a b n : Nat} (ha : a < 2 ^ n) (hb : b < 2 ^ n) : a ^^^ b < 2 ^ n := Nat.xor_lt_two_pow ha hb
theorem pack_lt : ∀ (l : List Nat), Byt l → pack l < 2 ^ (8 * l.length)
  | [], _ => by simp [pack]
  | c :: l, h => by
    have h1 := pack_lt l (fun x hx => h x (by simp [hx]))
    have h2 := h c (by simp)
    rw [pack]
    have e : 2 ^ (8 * (c :: l).length) = 256 * 2 ^ (8 * l.length) := by
      rw [List.length_cons, Nat.mul_succ, Nat.pow_add]; omega
    refine xor_lt ?_ ?_
    · rw [e]
      have : 0 < 2 ^ (8 * l.length) := Nat.pow_pos (by decide)
      omega
    · rw [e]; omega
theorem pack_zero : ∀ (l : List Nat), Byt l → pack l = 0 → ∀ x ∈ l, x = 0
  | [], _, _, x, hx => by simp at hx
  | c :: l, h, h0, x, hx => by
    rw [pack] at h0
    have h1 := xor_zero_eq h0
    have h2 := h c (by simp)
    have h3 : pack l = 0 := by omega
    rcases List.mem_cons.1 hx with rfl | hx
    · omega
    · exact pack_zero l (fun y hy => h y (by simp [hy])) h3 x hx
theorem sumTo_zeros (n : Nat) : sumTo 0 (List.replicate n 0) = 0 := by
  induction n with
  | zero => rfl
  | succ n ih =>
    have t : ∀ (x y : Nat) (m : List Nat), sumTo x (y :: m) = sumTo (nxt x y) m := fun _ _ _ => rfl
    rw [List.replicate_succ, t]
    have : nxt 0 0 = 0 := by unfold nxt; rw [Nat.xor_self, stps_zero]
    rw [this, ih]
theorem pack_zeros (n : Nat) : pack (List.replicate n 0) = 0 := by
  induction n with
  | zero => rfl
  | succ n ih => rw [List.replicate_succ, pack, ih]; rfl
/-- A mask that is not zero within at most four bytes only has a sum that is not zero. -/
theorem mask_sum {n m : Nat} {l : List Nat} (hl : l.length ≤ 4) (hB : Byt l) (h : sumTo 0 (List.replicate n 0 ++ l ++ List.replicate m 0) = 0) : ∀ x ∈ l, x = 0 := by
  rw [sumTo_append, sumTo_append, sumTo_zeros, sumTo_pack (List.replicate m 0), pack_zeros, Nat.xor_zero, sumTo_pack l, Nat.zero_xor] at h
  have h1 : pack l < 4294967296 := Nat.lt_of_lt_of_le (pack_lt l hB) (by
    have : (2 : Nat) ^ (8 * l.length) ≤ 2 ^ 32 := Nat.pow_le_pow_right (by decide) (by omega)
    simpa using this)
  exact pack_zero l hB (stps_inj _ h1 (stps_inj _ (stps_lt _ h1) h))
end Go.Proofs.Ytelanbiedfldgaa.Cd
