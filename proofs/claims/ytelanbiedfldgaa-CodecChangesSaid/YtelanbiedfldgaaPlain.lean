/- The plain law of chapter 6 (codec): the functions on lists of bytes that the program and the reference compute. No program in sight. -/
namespace Go.Proofs.Ytelanbiedfldgaa.Cd

def num (n : Int) : Nat := if n < 0 then (2 * (-(n + 1)) + 1).toNat else (2 * n).toNat
def unz (u : Nat) : Int := if u % 2 = 1 then -((u / 2 : Nat) : Int) - 1 else ((u / 2 : Nat) : Int)
/-- Reading an integer: k bytes are read, their number is u. -/
def dec (k u : Nat) : List Nat → Int × Int × Int
  | [] => (0, 0, 7)
  | c :: r => if k = 9 ∧ 1 < c then (0, 0, 8) else
      if 128 ≤ c then dec (k + 1) (u + c % 128 * 128 ^ k) r else
      if c = 0 ∧ 0 < k then (0, 0, 8) else (unz (u + c % 128 * 128 ^ k), ((k + 1 : Nat) : Int), 0)
def encF : Nat → Nat → List Nat
  | 0, u => [u % 256]
  | f + 1, u => if u < 128 then [u] else (u % 128 + 128) :: encF f (u / 128)
def enc (u : Nat) : List Nat := encF 9 u
def Byt (l : List Nat) : Prop := ∀ x ∈ l, x < 256

def stp (r : Nat) : Nat := if r % 2 = 1 then (r / 2) ^^^ 2197175160 else r / 2
def stps : Nat → Nat → Nat
  | 0, r => r
  | n + 1, r => stps n (stp r)
def nxt (r c : Nat) : Nat := stps 8 (r ^^^ c)
def sumTo (r : Nat) : List Nat → Nat
  | [] => r
  | c :: l => sumTo (nxt r c) l
def sum (l : List Nat) : Nat := sumTo 4294967295 l ^^^ 4294967295

theorem num_lt {n : Int} (h1 : -9223372036854775808 ≤ n) (h2 : n ≤ 9223372036854775807) : num n < 18446744073709551616 := by
  unfold num; split <;> omega
theorem unz_lo (u : Nat) (h : u < 18446744073709551616) : -9223372036854775808 ≤ unz u ∧ unz u ≤ 9223372036854775807 := by
  unfold unz; split <;> omega
theorem unz_num (n : Int) : unz (num n) = n := by
  unfold unz num; split <;> split <;> omega
theorem num_unz (u : Nat) : num (unz u) = u := by
  unfold unz num; split <;> split <;> omega
theorem stp_lt {r : Nat} (h : r < 4294967296) : stp r < 4294967296 := by
  unfold stp; split
  · exact Nat.xor_lt_two_pow (n := 32) (by omega) (by omega)
  · omega
theorem stps_lt : ∀ (n : Nat) {r : Nat}, r < 4294967296 → stps n r < 4294967296
  | 0, _, h => h
  | n + 1, _, h => stps_lt n (stp_lt h)
theorem stps_succ : ∀ (n r : Nat), stps (n + 1) r = stp (stps n r)
  | 0, _ => rfl
  | n + 1, r => by rw [stps, stps_succ n (stp r)]; rfl
theorem nxt_lt {r c : Nat} (hr : r < 4294967296) (hc : c < 256) : nxt r c < 4294967296 := stps_lt 8 (Nat.xor_lt_two_pow (n := 32) hr (by omega))
theorem sumTo_append : ∀ (r : Nat) (l m : List Nat), sumTo r (l ++ m) = sumTo (sumTo r l) m
  | _, [], _ => rfl
  | r, c :: l, m => sumTo_append (nxt r c) l m
theorem sumTo_snoc (r : Nat) (l : List Nat) (k : Nat) (h : k < l.length) : sumTo r (l.take (k + 1)) = nxt (sumTo r (l.take k)) (l.getD k 0) := by
  rw [List.take_succ_eq_append_getElem h, sumTo_append, List.getD_eq_getElem?_getD, List.getElem?_eq_getElem h]
  rfl
theorem sumTo_lt : ∀ (l : List Nat) {r : Nat}, r < 4294967296 → Byt l → sumTo r l < 4294967296
  | [], _, h, _ => h
  | c :: l, _, h, hB => sumTo_lt l (nxt_lt h (hB c (by simp))) (fun x hx => hB x (by simp [hx]))
end Go.Proofs.Ytelanbiedfldgaa.Cd
