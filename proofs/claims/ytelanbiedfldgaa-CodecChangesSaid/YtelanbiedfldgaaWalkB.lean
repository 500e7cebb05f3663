/- The walks of Int of the program and of the reference. -/
import Derived.Test.YtelanbiedfldgaaWalkA
namespace Go.Proofs.Ytelanbiedfldgaa
open Go.RowKit

/-- A slice of bytes that can be read: its elements are the list. -/
def Byts (w : World) (B : Nat) (A : Option Addr) (l : List Nat) : Prop :=
  0 < l.length → ∃ b off, A = some ⟨b, off, none⟩ ∧ b < B ∧ ∀ k, k < l.length → w.cell? ⟨b, off + k, none⟩ = some (.int .u8 (l.getD k 0 : Nat))
theorem Byts.nil (w : World) (B : Nat) (A : Option Addr) : Byts w B A [] := fun h => by simp at h
theorem Byts.below {w w' : World} {B : Nat} {A : Option Addr} {l : List Nat} (h : Byts w B A l) (hb : Below B w w') : Byts w' B A l := fun hl => by
  obtain ⟨b, off, e, hlt, hc⟩ := h hl
  exact ⟨b, off, e, hlt, fun k hk => (hb.cell (p := ⟨b, off + k, none⟩) hlt).trans (hc k hk)⟩
theorem Byts.more {w : World} {B B' : Nat} {A : Option Addr} {l : List Nat} (h : Byts w B A l) (hB : B ≤ B') : Byts w B' A l := fun hl => by
  obtain ⟨b, off, e, hlt, hc⟩ := h hl
  exact ⟨b, off, e, by omega, hc⟩

def IntPost (w : World) (r : Int × Int × Int) (e : Ending) (w' : World) : Prop := e = .returned (.tuple #[.int .i64 r.1, .int .i64 r.2.1, .int .i64 r.2.2]) ∧ Below w.heap.size w w'

theorem drop_step {bs : List Nat} {k : Nat} (hk : k < bs.length) : bs.drop k = bs.getD k 0 :: bs.drop (k + 1) := by
  rw [List.drop_eq_getElem_cons hk, List.getD_eq_getElem?_getD, List.getElem?_eq_getElem hk]; rfl
theorem getD_lt {bs : List Nat} (hB : Cd.Byt bs) (k : Nat) : bs.getD k 0 < 256 := by
  rw [List.getD_eq_getElem?_getD]
  by_cases h : k < bs.length
  · rw [List.getElem?_eq_getElem h]; exact hB _ (List.getElem_mem h)
  · rw [List.getElem?_eq_none (by omega)]; decide

theorem c_low (c : Nat) (h : c < 256) : bits .andNot .u8 (c : Int) 128 = ((c % 128 : Nat) : Int) := by
  have := u8_andNot_nat c 128 h (by decide)
  rw [show 255 - 128 = 127 by decide, nat_mask7] at this
  exact this
theorem c_high (c : Nat) (h : c < 256) : bits .and .u8 (c : Int) 128 = if 128 ≤ c then 128 else 0 := by
  have h1 := u8_and_nat c 128 h (by decide)
  have h2 := nat_bit 7 c
  rw [show (2 : Nat) ^ 7 = 128 by decide] at h2
  rw [h2] at h1
  refine h1.trans ?_
  split <;> omega
theorem pow_le9 {k : Nat} (h : k ≤ 9) : 128 ^ k ≤ 128 ^ 9 := Nat.pow_le_pow_right (by decide) h
theorem or_max (u c k : Nat) (hu : u < 128 ^ k) (hk : k ≤ 9) (h9 : k = 9 → c ≤ 1) : u + c % 128 * 128 ^ k < 18446744073709551616 := by
  have e9 : (128 : Nat) ^ 9 = 9223372036854775808 := by decide
  by_cases h : k = 9
  · subst h
    have := h9 rfl
    rw [e9] at hu ⊢
    omega
  · have h1 : 128 ^ (k + 1) ≤ 128 ^ 9 := pow_le9 (by omega)
    rw [Nat.pow_succ, e9] at h1
    have h2 : c % 128 * 128 ^ k ≤ 127 * 128 ^ k := Nat.mul_le_mul_right _ (by omega)
    omega
theorem or_lt (u c k : Nat) (hu : u < 128 ^ k) : u + c % 128 * 128 ^ k < 128 ^ (k + 1) := by
  have h2 : c % 128 * 128 ^ k ≤ 127 * 128 ^ k := Nat.mul_le_mul_right _ (by omega)
  rw [Nat.pow_succ]
  omega
theorem or_shift (u c k : Nat) (hu : u < 128 ^ k) (hk : k ≤ 9) (h9 : k = 9 → c ≤ 1) :
    bits .or .u64 (u : Int) (IntKind.u64.wrap ((c : Int) % 128 * 2 ^ (7 * k))) = ((u + c % 128 * 128 ^ k : Nat) : Int) := by
  have hm := or_max u c k hu hk h9
  have e1 : ((c : Int) % 128 * 2 ^ (7 * k)) = ((c % 128 * 128 ^ k : Nat) : Int) := by
    rw [Int.natCast_mul, Int.natCast_pow, Int.pow_mul]; rfl
  rw [e1, IntWalk.u64_in _ ⟨by omega, by omega⟩, u64_or_nat _ _ (by omega) (by omega), Nat.or_comm]
  have h3 := nat_join (7 * k) (c % 128 * 128 ^ k) u (by rw [Nat.pow_mul]; exact Nat.mul_mod_left _ _) (by rw [Nat.pow_mul]; exact hu)
  rw [h3, Nat.add_comm]

set_option maxHeartbeats 400000 in
theorem int_any (A : Option Addr) (cap : Nat) (bs : List Nat) (w : World) (hb : Byts w w.heap.size A bs) (hB : Cd.Byt bs) (hl : bs.length ≤ 4611686018427387904) :
    Calls Try.prog 12 #[.slice A bs.length cap] w (IntPost w (Cd.dec 0 0 bs)) := by
  go_enter Try.func12, Try.ntmps12
  go_wp2
  go_loopw [5, 8] (fun x i wr => ∃ (k u : Nat), k ≤ bs.length ∧ k ≤ 9 ∧ i = .int .i64 k ∧ x = .int .u64 u ∧ u < 128 ^ k ∧ Cd.dec 0 0 bs = Cd.dec k u (bs.drop k) ∧ Below w.heap.size w wr) (fun _ i _ => bs.length - (intOf i).toNat)
  case atStart => exact ⟨0, 0, by omega, by omega, rfl, rfl, by decide, rfl, Below.refl _ _⟩
  case round =>
    obtain ⟨k, u, hk, hk9, rfl, rfl, hu, hd, hbel⟩ := hrel
    have HD := Lib.hid hd
    have HU := Lib.hid hu
    clear hd hu
    by_cases hlt : k < bs.length
    · obtain ⟨b, off, rfl, hbl, hc⟩ := hb (by omega)
      have hcell := (hbel.cell (p := ⟨b, off + k, none⟩) hbl).trans (hc k hlt)
      have hlt8 := getD_lt hB k
      have hstep := drop_step hlt
      obtain ⟨c, hcc⟩ : ∃ c, c = bs.getD k 0 := ⟨_, rfl⟩
      rw [← hcc] at hcell hlt8 hstep
      have HS := Lib.hid hstep
      clear hc hcc hstep
      have e1 := c_low c hlt8
      have e2 := c_high c hlt8
      by_cases hA : k = 9 ∧ 1 < c
      · have HV := Lib.hid (show Cd.dec 0 0 bs = (0, 0, 8) by rw [HD.out, HS.out, Cd.dec, if_pos hA])
        obtain ⟨rfl, hc0⟩ := hA
        have hc1 : (1 : Int) < (c : Int) := by omega
        clear hc0 e1 e2
        go_wp2_with fail
        go_ret3
        exact ⟨by rw [HV.out]; rfl, hbel⟩
      · by_cases h128 : 128 ≤ c
        · have hk9' : ¬ ((k : Int) = 9) := by omega
          have hk9'' : ((k : Int) == 9) = false := by simp; omega
          have hk8 : k ≤ 8 := by omega
          have HV := Lib.hid (show Cd.dec 0 0 bs = Cd.dec (k + 1) (u + c % 128 * 128 ^ k) (bs.drop (k + 1)) by rw [HD.out, HS.out, Cd.dec, if_neg hA, if_pos h128])
          rw [if_pos h128] at e2
          clear hA
          go_wp2_with fail
          go_roundw
          case rel =>
            exact ⟨k + 1, u + c % 128 * 128 ^ k, by omega, by omega, by go_num, by rw [or_shift u c k HU.out (by omega) (fun h => by omega)], or_lt u c k HU.out, HV.out, hbel⟩
          case measure => simp [intOf]; omega
        · rw [if_neg h128] at e2
          by_cases hZ : c = 0 ∧ 0 < k
          · have HV := Lib.hid (show Cd.dec 0 0 bs = (0, 0, 8) by rw [HD.out, HS.out, Cd.dec, if_neg hA, if_neg h128, if_pos hZ])
            obtain ⟨rfl, hk0⟩ := hZ
            have hk1 : (0 : Int) < (k : Int) := by omega
            clear hA h128
            by_cases hk9' : k = 9
            · subst hk9'
              clear e1 e2
              go_wp2_with fail
              go_ret3
              exact ⟨by rw [HV.out]; rfl, hbel⟩
            · have hk9x : ¬ ((k : Int) = 9) := by omega
              have hk9'' : ((k : Int) == 9) = false := by simp; omega
              go_wp2_with fail
              go_ret3
              exact ⟨by rw [HV.out]; rfl, hbel⟩
          · have HV := Lib.hid (show Cd.dec 0 0 bs = (Cd.unz (u + c % 128 * 128 ^ k), ((k + 1 : Nat) : Int), 0) by rw [HD.out, HS.out, Cd.dec, if_neg hA, if_neg h128, if_neg hZ])
            have HO := Lib.hid (or_shift u c k HU.out (by omega) (fun h => by omega))
            have HL := Lib.hid (or_max u c k HU.out (by omega) (fun h => by omega))
            have HA := Lib.hid hA
            have HZ := Lib.hid hZ
            clear hA hZ
            have h128' : c < 128 := by omega
            by_cases hk9' : k = 9
            · subst hk9'
              have hc1 : ((c : Int) == 0) = false := by have := HZ.out; simp; omega
              have hc2 : decide ((1 : Int) < (c : Int)) = false := by have := HA.out; simp; omega
              have hc3 : ¬ ((1 : Int) < (c : Int)) := by have := HA.out; omega
              have e9 : bits .or .u64 (u : Int) ((c : Int) % 128 * 9223372036854775808) = ((u + c % 128 * 128 ^ 9 : Nat) : Int) := by
                rw [← HO.out]
                congr 1
                rw [IntWalk.u64_in _ ⟨by omega, by have := HA.out; omega⟩]
                rfl
              have HE := Lib.hid e9
              clear e9
              go_wp2_with fail
              rw [HE.out]
              refine (integer_any _ HL.out _).mono ?_
              rintro e w5 ⟨rfl, hb5⟩
              go_wp2_with fail
              go_ret3
              exact ⟨by rw [HV.out]; rfl, hbel.trans (hb5.mono hbel.size)⟩
            · have hk9x : ¬ ((k : Int) = 9) := by omega
              have hk9'' : ((k : Int) == 9) = false := by simp; omega
              by_cases hc0 : c = 0
              · have hc1 : ((c : Int) == 0) = true := by simp [hc0]
                have hkz : ¬ 0 < k := by have := HZ.out; omega
                have hkz' : decide (0 < k) = false := by simp; omega
                clear hc0
                go_wp2_with fail
                rw [HO.out]
                refine (integer_any _ HL.out _).mono ?_
                rintro e w5 ⟨rfl, hb5⟩
                go_wp2_with fail
                go_ret3
                exact ⟨by rw [HV.out]; rfl, hbel.trans (hb5.mono hbel.size)⟩
              · have hc1 : ((c : Int) == 0) = false := by simp; omega
                clear hc0
                go_wp2_with fail
                rw [HO.out]
                refine (integer_any _ HL.out _).mono ?_
                rintro e w5 ⟨rfl, hb5⟩
                go_wp2_with fail
                go_ret3
                exact ⟨by rw [HV.out]; rfl, hbel.trans (hb5.mono hbel.size)⟩
    · have hd : bs.drop k = [] := List.drop_eq_nil_of_le (by omega)
      have HV := Lib.hid (show Cd.dec 0 0 bs = (0, 0, 7) by rw [HD.out, hd]; rfl)
      clear hd
      have hle : bs.length ≤ k := by omega
      go_wp2_with fail
      go_ret3
      exact ⟨by rw [HV.out]; rfl, hbel⟩
end Go.Proofs.Ytelanbiedfldgaa
