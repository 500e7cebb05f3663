/- The walks of Sum of the program and of the reference. -/
import Derived.Test.YtelanbiedfldgaaWalkC
namespace Go.Proofs.Ytelanbiedfldgaa
open Go.RowKit

theorem byt_take {l : List Nat} (h : Cd.Byt l) (k : Nat) : Cd.Byt (l.take k) := fun x hx => h x (List.mem_of_mem_take hx)
def SumPost (w : World) (n : Nat) (e : Ending) (w' : World) : Prop := e = .returned (.int .i64 n) ∧ Below w.heap.size w w'
theorem stp_odd {r : Nat} (hr : r < 4294967296) (h : r % 2 = 1) : bits .xor .u32 ((r : Int) / 2) 2197175160 = (Cd.stp r : Int) := by
  have := u32_xor_nat (r / 2) 2197175160 (by omega) (by decide)
  unfold Cd.stp
  rw [if_pos h]
  exact this
theorem stp_even {r : Nat} (h : ¬ r % 2 = 1) : (r : Int) / 2 = (Cd.stp r : Int) := by
  unfold Cd.stp
  rw [if_neg h]
  rfl
set_option maxRecDepth 100000 in
set_option maxHeartbeats 1000000 in
theorem sum_any (A : Option Addr) (cap : Nat) (bs : List Nat) (w : World) (hb : Byts w w.heap.size A bs) (hB : Cd.Byt bs) (hl : bs.length ≤ 4611686018427387904) :
    Calls Try.prog 22 #[.slice A bs.length cap] w (SumPost w (Cd.sum bs)) := by
  go_enter Try.func22, Try.ntmps22
  go_wp2
  go_loopw [3, 9] (fun x i wr => ∃ (k r : Nat), k ≤ bs.length ∧ i = .int .i64 k ∧ x = .int .u32 r ∧ r < 4294967296 ∧ r = Cd.sumTo 4294967295 (bs.take k) ∧ Below w.heap.size w wr) (fun _ i _ => bs.length - (intOf i).toNat)
  case atStart => exact ⟨0, 4294967295, by omega, rfl, rfl, by decide, rfl, Below.refl _ _⟩
  case round =>
    obtain ⟨k, r, hk, rfl, rfl, hr, hd, hbel⟩ := hrel
    have HD := Lib.hid hd
    clear hd
    by_cases hlt : k < bs.length
    · obtain ⟨b, off, rfl, hbl, hc⟩ := hb (by omega)
      have hcell := (hbel.cell (p := ⟨b, off + k, none⟩) hbl).trans (hc k hlt)
      have hlt8 := getD_lt hB k
      have hstep := Cd.sumTo_snoc 4294967295 bs k hlt
      rw [← HD.out] at hstep
      obtain ⟨c, hcc⟩ : ∃ c, c = bs.getD k 0 := ⟨_, rfl⟩
      rw [← hcc] at hcell hlt8 hstep
      have e1 := u32_xor_nat r c hr (by omega)
      have hx : r ^^^ c < 4294967296 := Nat.xor_lt_two_pow (n := 32) hr (by omega)
      generalize hy : r ^^^ c = y at *
      have HS := Lib.hid hstep
      have HY := Lib.hid hy
      clear hc hcc hstep hy
      go_wp2_with fail
      obtain ⟨wo, rfl⟩ : ∃ wo : World, wo = wr := ⟨_, rfl⟩
      go_loopw [3, 17] (fun x i wi => ∃ (j s : Nat), j ≤ 8 ∧ i = .int .i64 j ∧ x = .int .u32 s ∧ s < 4294967296 ∧ s = Cd.stps j y ∧ Below w.heap.size w wi) (fun _ i _ => 8 - (intOf i).toNat)
      case atStart => exact ⟨0, y, by omega, rfl, rfl, hx, rfl, hbel⟩
      case round =>
        clear hbel hcell e1
        obtain ⟨j, s, hj, rfl, rfl, hs, hd, hbel⟩ := hrel
        have HE := Lib.hid (show Cd.stps (j + 1) y = Cd.stp s by rw [Cd.stps_succ, ← hd])
        have HJ := Lib.hid hd
        have hsn := Cd.stp_lt hs
        clear hd
        by_cases hj8 : j < 8
        · by_cases ho : s % 2 = 1
          · have e2 : bits .and .u32 (s : Int) 1 = 1 := by
              have := u32_and_nat s 1 hs (by decide); rw [nat_mask1, ho] at this; exact this
            have e3 := stp_odd hs ho
            obtain ⟨z, hz⟩ : ∃ z, z = Cd.stp s := ⟨_, rfl⟩
            rw [← hz] at e3 hsn HE
            clear ho hz
            go_wp2_with fail
            go_roundw
            case rel => exact ⟨j + 1, z, by omega, by go_num, rfl, hsn, HE.out.symm, hbel⟩
            case measure => simp [intOf]; omega
          · have e2 : bits .and .u32 (s : Int) 1 = 0 := by
              have := u32_and_nat s 1 hs (by decide); rw [nat_mask1, show s % 2 = 0 by omega] at this; exact this
            have e3 := stp_even ho
            obtain ⟨z, hz⟩ : ∃ z, z = Cd.stp s := ⟨_, rfl⟩
            rw [← hz] at e3 hsn HE
            clear ho hz
            go_wp2_with fail
            go_roundw
            case rel => exact ⟨j + 1, z, by omega, by go_num, rfl, hsn, HE.out.symm, hbel⟩
            case measure => simp [intOf]; omega
        · obtain rfl : j = 8 := by omega
          go_wp2_with fail
          go_roundw
          case rel => exact ⟨k + 1, s, by omega, by go_num, rfl, hs, by rw [HS.out, Cd.nxt, HY.out]; exact HJ.out, hbel⟩
          case measure => simp [intOf]; omega
    · obtain rfl : k = bs.length := by omega
      have e1 : bits .xor .u32 (r : Int) 4294967295 = ((r ^^^ 4294967295 : Nat) : Int) := u32_xor_nat r 4294967295 hr (by decide)
      have hx : r ^^^ 4294967295 < 4294967296 := Nat.xor_lt_two_pow (n := 32) hr (by decide)
      have HV := Lib.hid (show Cd.sum bs = r ^^^ 4294967295 by rw [HD.out, List.take_length]; rfl)
      generalize hz : r ^^^ 4294967295 = z at *
      clear hz
      go_wp2_with fail
      go_ret
      exact ⟨by rw [HV.out]; rfl, hbel⟩
set_option maxRecDepth 100000 in
set_option maxHeartbeats 1000000 in
theorem rsum_any (A : Option Addr) (cap : Nat) (bs : List Nat) (w : World) (hb : Byts w w.heap.size A bs) (hB : Cd.Byt bs) (hl : bs.length ≤ 4611686018427387904) :
    Calls Try.prog 23 #[.slice A bs.length cap] w (SumPost w (Cd.sum bs)) := by
  go_enter Try.func23, Try.ntmps23
  go_wp2
  go_loopw [3, 4] (fun x i wr => ∃ (k r : Nat), k ≤ bs.length ∧ i = .int .i64 k ∧ x = .int .u32 r ∧ r < 4294967296 ∧ r = Cd.sumTo 4294967295 (bs.take k) ∧ Below w.heap.size w wr) (fun _ i _ => bs.length - (intOf i).toNat)
  case atStart => exact ⟨0, 4294967295, by omega, rfl, rfl, by decide, rfl, Below.refl _ _⟩
  case round =>
    obtain ⟨k, r, hk, rfl, rfl, hr, hd, hbel⟩ := hrel
    have HD := Lib.hid hd
    clear hd
    by_cases hlt : k < bs.length
    · obtain ⟨b, off, rfl, hbl, hc⟩ := hb (by omega)
      have hcell := (hbel.cell (p := ⟨b, off + k, none⟩) hbl).trans (hc k hlt)
      have hlt8 := getD_lt hB k
      have hstep := Cd.sumTo_snoc 4294967295 bs k hlt
      rw [← HD.out] at hstep
      obtain ⟨c, hcc⟩ : ∃ c, c = bs.getD k 0 := ⟨_, rfl⟩
      rw [← hcc] at hcell hlt8 hstep
      have e1 := u32_xor_nat r c hr (by omega)
      have hx : r ^^^ c < 4294967296 := Nat.xor_lt_two_pow (n := 32) hr (by omega)
      generalize hy : r ^^^ c = y at *
      have HS := Lib.hid hstep
      have HY := Lib.hid hy
      clear hc hcc hstep hy
      go_wp2_with fail
      obtain ⟨wo, rfl⟩ : ∃ wo : World, wo = wr := ⟨_, rfl⟩
      go_loopw [3, 5] (fun x i wi => ∃ (j s : Nat), j ≤ 8 ∧ i = .int .i64 j ∧ x = .int .u32 s ∧ s < 4294967296 ∧ s = Cd.stps j y ∧ Below w.heap.size w wi) (fun _ i _ => 8 - (intOf i).toNat)
      case atStart => exact ⟨0, y, by omega, rfl, rfl, hx, rfl, hbel⟩
      case round =>
        clear hbel hcell e1
        obtain ⟨j, s, hj, rfl, rfl, hs, hd, hbel⟩ := hrel
        have HE := Lib.hid (show Cd.stps (j + 1) y = Cd.stp s by rw [Cd.stps_succ, ← hd])
        have HJ := Lib.hid hd
        have hsn := Cd.stp_lt hs
        clear hd
        by_cases hj8 : j < 8
        · by_cases ho : s % 2 = 1
          · have e2 : (s : Int) % 2 = 1 := by
              omega
            have e3 := stp_odd hs ho
            obtain ⟨z, hz⟩ : ∃ z, z = Cd.stp s := ⟨_, rfl⟩
            rw [← hz] at e3 hsn HE
            clear ho hz
            go_wp2_with fail
            go_roundw
            case rel => exact ⟨j + 1, z, by omega, by go_num, rfl, hsn, HE.out.symm, hbel⟩
            case measure => simp [intOf]; omega
          · have e2 : (s : Int) % 2 = 0 := by
              omega
            have e3 := stp_even ho
            obtain ⟨z, hz⟩ : ∃ z, z = Cd.stp s := ⟨_, rfl⟩
            rw [← hz] at e3 hsn HE
            clear ho hz
            go_wp2_with fail
            go_roundw
            case rel => exact ⟨j + 1, z, by omega, by go_num, rfl, hsn, HE.out.symm, hbel⟩
            case measure => simp [intOf]; omega
        · obtain rfl : j = 8 := by omega
          go_wp2_with fail
          go_roundw
          case rel => exact ⟨k + 1, s, by omega, by go_num, rfl, hs, by rw [HS.out, Cd.nxt, HY.out]; exact HJ.out, hbel⟩
          case measure => simp [intOf]; omega
    · obtain rfl : k = bs.length := by omega
      have e1 : bits .xor .u32 (r : Int) 4294967295 = ((r ^^^ 4294967295 : Nat) : Int) := u32_xor_nat r 4294967295 hr (by decide)
      have hx : r ^^^ 4294967295 < 4294967296 := Nat.xor_lt_two_pow (n := 32) hr (by decide)
      have HV := Lib.hid (show Cd.sum bs = r ^^^ 4294967295 by rw [HD.out, List.take_length]; rfl)
      generalize hz : r ^^^ 4294967295 = z at *
      clear hz
      go_wp2_with fail
      go_ret
      exact ⟨by rw [HV.out]; rfl, hbel⟩
end Go.Proofs.Ytelanbiedfldgaa
