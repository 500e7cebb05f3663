/- The walks of zigzag, integer and their fellows of the reference. -/
import Derived.Test.YtelanbiedfldgaaProg
import Derived.Test.YtelanbiedfldgaaPlain
import Derived.WalkKit
import Derived.WalkLawsBesides
import Derived.WalkSpells
import Derived.Lib.Hide
import Derived.Lib.Zigzag
import Derived.PlainAid
namespace Go.Proofs.Ytelanbiedfldgaa
open Go.RowKit

theorem ret_bool {a b : Bool} (h : a = b) : Ending.returned (.bool a) = .returned (.bool b) := by rw [h]
theorem ret_num {k : IntKind} {a b : Int} (h : a = b) : Ending.returned (.int k a) = .returned (.int k b) := by rw [h]

theorem xor_i64_zero (x : Nat) (hx : x < 9223372036854775808) : bits .xor .i64 (x : Int) 0 = x := by
  show IntKind.i64.wrap ((BitVec.ofInt 64 (x : Int) ^^^ BitVec.ofInt 64 0).toNat : Int) = _
  have h1 : (BitVec.ofInt 64 0).toNat = 0 := by decide
  have h2 : (BitVec.ofInt 64 (x : Int)).toNat = x := by
    rw [BitVec.ofInt_natCast, BitVec.toNat_ofNat]; exact Nat.mod_eq_of_lt (by omega)
  rw [BitVec.toNat_xor, h1, h2, Nat.xor_zero, IntKind.wrap_i64]
  omega
theorem xor_i64_ones (x : Nat) (hx : x < 9223372036854775808) : bits .xor .i64 (x : Int) (-1) = -(x : Int) - 1 := by
  show IntKind.i64.wrap ((BitVec.ofInt 64 (x : Int) ^^^ BitVec.ofInt 64 (-1)).toNat : Int) = _
  have h1 : (BitVec.ofInt 64 (-1)).toNat = 2 ^ 64 - 1 := by decide
  have h2 : (BitVec.ofInt 64 (x : Int)).toNat = x := by
    rw [BitVec.ofInt_natCast, BitVec.toNat_ofNat]; exact Nat.mod_eq_of_lt (by omega)
  rw [BitVec.toNat_xor, h1, h2, Nat.xor_comm, Lib.xor_ones64 x (by omega), IntKind.wrap_i64]
  omega

set_option maxHeartbeats 400000 in
theorem integer_any (u : Nat) (hu : u < 18446744073709551616) (w : World) :
    Calls Try.prog 27 #[.int .u64 u] w fun e w' => e = .returned (.int .i64 (Cd.unz u)) ∧ Below w.heap.size w w' := by
  have e1 := Lib.u64_and1 (u : Int) (by omega) (by omega)
  have ed : ((u : Int) / 2) = ((u / 2 : Nat) : Int) := by omega
  by_cases h : u % 2 = 1
  · have em : (u : Int) % 2 = 1 := by omega
    rw [em] at e1
    have e2 := xor_i64_ones (u / 2) (by omega)
    rw [← ed] at e2
    have hz : Cd.unz u = -((u : Int) / 2) - 1 := by unfold Cd.unz; rw [if_pos h, ed]
    rw [hz]
    clear hz em h ed
    go_enter Try.func27, Try.ntmps27
    go_wp2
    go_ret
    exact ⟨rfl, Below.refl _ _⟩
  · have em : (u : Int) % 2 = 0 := by omega
    rw [em] at e1
    have e2 := xor_i64_zero (u / 2) (by omega)
    rw [← ed] at e2
    have hz : Cd.unz u = ((u : Int) / 2) := by unfold Cd.unz; rw [if_neg h, ed]
    rw [hz]
    clear hz em h ed
    go_enter Try.func27, Try.ntmps27
    go_wp2
    go_ret
    exact ⟨rfl, Below.refl _ _⟩
set_option maxHeartbeats 400000 in
theorem rinteger_any (u : Nat) (hu : u < 18446744073709551616) (w : World) :
    Calls Try.prog 31 #[.int .u64 u] w fun e w' => e = .returned (.int .i64 (Cd.unz u)) ∧ Below w.heap.size w w' := by
  have ed : ((u : Int) / 2) = ((u / 2 : Nat) : Int) := by omega
  by_cases h : u % 2 = 1
  · have em : (u : Int) % 2 = 1 := by omega
    have hz : Cd.unz u = -((u : Int) / 2) - 1 := by unfold Cd.unz; rw [if_pos h, ed]
    rw [hz]
    clear hz h ed
    go_enter Try.func31, Try.ntmps31
    go_wp2
    go_ret
    exact ⟨rfl, Below.refl _ _⟩
  · have em : (u : Int) % 2 = 0 := by omega
    have hz : Cd.unz u = ((u : Int) / 2) := by unfold Cd.unz; rw [if_neg h, ed]
    rw [hz]
    clear hz h ed
    go_enter Try.func31, Try.ntmps31
    go_wp2
    go_ret
    exact ⟨rfl, Below.refl _ _⟩
theorem zz (n : Int) (h1 : -9223372036854775808 ≤ n) (h2 : n ≤ 9223372036854775807) :
    bits .xor .u64 (IntKind.u64.wrap (IntKind.u64.wrap n * 2)) (IntKind.u64.wrap (n / 9223372036854775808)) = (Cd.num n : Int) := by
  by_cases hn : n < 0
  · have e1 : IntKind.u64.wrap (IntKind.u64.wrap n * 2) = (((2 * n + 18446744073709551616).toNat : Nat) : Int) := by
      rw [IntKind.wrap_u64, IntKind.wrap_u64]; omega
    have e2 : IntKind.u64.wrap (n / 9223372036854775808) = ((2 ^ 64 - 1 : Nat) : Int) := by
      rw [show n / 9223372036854775808 = -1 by omega]; decide
    rw [e1, e2, bits_xor_u64_nat _ _ (by omega) (by decide), Nat.xor_comm, Lib.xor_ones64 _ (by omega)]
    unfold Cd.num
    rw [if_pos hn]
    omega
  · have e1 : IntKind.u64.wrap (IntKind.u64.wrap n * 2) = (((2 * n).toNat : Nat) : Int) := by
      rw [IntKind.wrap_u64, IntKind.wrap_u64]; omega
    have e2 : IntKind.u64.wrap (n / 9223372036854775808) = ((0 : Nat) : Int) := by
      rw [show n / 9223372036854775808 = 0 by omega]; decide
    rw [e1, e2, bits_xor_u64_nat _ _ (by omega) (by decide), Nat.xor_zero]
    unfold Cd.num
    rw [if_neg hn]
set_option maxHeartbeats 400000 in
theorem zigzag_any (n : Int) (h1 : -9223372036854775808 ≤ n) (h2 : n ≤ 9223372036854775807) (w : World) :
    Calls Try.prog 34 #[.int .i64 n] w fun e w' => e = .returned (.int .u64 (Cd.num n)) ∧ Below w.heap.size w w' := by
  have HZ := Lib.hid (zz n h1 h2)
  go_enter Try.func34, Try.ntmps34
  go_wp2
  go_ret
  exact ⟨ret_num HZ.out, Below.refl _ _⟩
set_option maxHeartbeats 400000 in
theorem number_any (n : Int) (h1 : -9223372036854775808 ≤ n) (h2 : n ≤ 9223372036854775807) (w : World) :
    Calls Try.prog 33 #[.int .i64 n] w fun e w' => e = .returned (.int .u64 (Cd.num n)) ∧ Below w.heap.size w w' := by
  by_cases hn : n < 0
  · have hz : (Cd.num n : Int) = 2 * (-(n + 1)) + 1 := by unfold Cd.num; rw [if_pos hn]; omega
    rw [hz]
    clear hz
    go_enter Try.func33, Try.ntmps33
    go_wp2
    go_ret
    exact ⟨rfl, Below.refl _ _⟩
  · have hz : (Cd.num n : Int) = 2 * n := by unfold Cd.num; rw [if_neg hn]; omega
    rw [hz]
    clear hz
    go_enter Try.func33, Try.ntmps33
    go_wp2
    go_ret
    exact ⟨rfl, Below.refl _ _⟩
end Go.Proofs.Ytelanbiedfldgaa
