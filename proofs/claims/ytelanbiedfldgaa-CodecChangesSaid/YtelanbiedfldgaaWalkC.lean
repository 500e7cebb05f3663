/- The walk of the reference's Int. -/
import Derived.Test.YtelanbiedfldgaaWalkB
namespace Go.Proofs.Ytelanbiedfldgaa
open Go.RowKit

theorem pow9_lt {k : Nat} (h : k ≤ 9) : 128 ^ k ≤ 9223372036854775808 := by
  have := pow_le9 h
  rwa [show (128 : Nat) ^ 9 = 9223372036854775808 by decide] at this
set_option maxRecDepth 100000 in
set_option maxHeartbeats 1000000 in
theorem rint_any (A : Option Addr) (cap : Nat) (bs : List Nat) (w : World) (hb : Byts w w.heap.size A bs) (hB : Cd.Byt bs) (hl : bs.length ≤ 4611686018427387904) :
    Calls Try.prog 18 #[.slice A bs.length cap] w (IntPost w (Cd.dec 0 0 bs)) := by
  go_enter Try.func18, Try.ntmps18
  go_wp2
  go_loopw [5, 6, 7] (fun x y i wr => ∃ (k u un : Nat), k ≤ bs.length ∧ k ≤ 9 ∧ i = .int .i64 k ∧ y = .int .u64 un ∧ un = 128 ^ k ∧ x = .int .u64 u ∧ u < 128 ^ k ∧ Cd.dec 0 0 bs = Cd.dec k u (bs.drop k) ∧ Below w.heap.size w wr) (fun _ _ i _ => bs.length - (intOf i).toNat)
  case atStart => exact ⟨0, 0, 1, by omega, by omega, rfl, rfl, rfl, rfl, by decide, rfl, Below.refl _ _⟩
  case round =>
    obtain ⟨k, u, un, hk, hk9, rfl, rfl, hun, rfl, hu, hd, hbel⟩ := hrel
    have HD := Lib.hid hd
    have HU := Lib.hid hu
    have HN := Lib.hid hun
    clear hd hu hun
    by_cases hlt : k < bs.length
    · obtain ⟨b, off, rfl, hbl, hc⟩ := hb (by omega)
      have hcell := (hbel.cell (p := ⟨b, off + k, none⟩) hbl).trans (hc k hlt)
      have hlt8 := getD_lt hB k
      have hstep := drop_step hlt
      obtain ⟨c, hcc⟩ : ∃ c, c = bs.getD k 0 := ⟨_, rfl⟩
      rw [← hcc] at hcell hlt8 hstep
      have HS := Lib.hid hstep
      clear hc hcc hstep
      by_cases hA : k = 9 ∧ 1 < c
      · have HV := Lib.hid (show Cd.dec 0 0 bs = (0, 0, 8) by rw [HD.out, HS.out, Cd.dec, if_pos hA])
        obtain ⟨rfl, hc0⟩ := hA
        have hc1 : (1 : Int) < (c : Int) := by omega
        clear hc0
        go_wp2_with fail
        go_ret3
        exact ⟨by rw [HV.out]; rfl, hbel⟩
      · have hmax := or_max u c k HU.out (by omega) (fun h => by omega)
        rw [← HN.out] at hmax
        obtain ⟨m, hm⟩ : ∃ m, m = c % 128 * un := ⟨_, rfl⟩
        have e5 : (c : Int) % 128 * (un : Int) = (m : Int) := by rw [hm, Int.natCast_mul]; rfl
        rw [← hm] at hmax
        have HM := Lib.hid hm
        have HE := Lib.hid (show ((u : Int) + (m : Int)) = ((u + m : Nat) : Int) by omega)
        have HL := Lib.hid hmax
        have hun0 := pow9_lt hk9
        rw [← HN.out] at hun0
        clear hm
        by_cases h128 : 128 ≤ c
        · have hk9' : ¬ ((k : Int) = 9) := by omega
          have hk9'' : ((k : Int) == 9) = false := by simp; omega
          have hk8 : k ≤ 8 := by omega
          have hc1 : ((c : Int) == 0) = false := by simp; omega
          have e3 : un * 128 ≤ 9223372036854775808 := by have := pow9_lt (k := k + 1) (by omega); rwa [Nat.pow_succ, ← HN.out] at this
          have HV := Lib.hid (show Cd.dec 0 0 bs = Cd.dec (k + 1) (u + c % 128 * 128 ^ k) (bs.drop (k + 1)) by rw [HD.out, HS.out, Cd.dec, if_neg hA, if_pos h128])
          clear hA
          go_wp2_with fail
          go_roundw
          case rel =>
            exact ⟨k + 1, u + c % 128 * 128 ^ k, un * 128, by omega, by omega, by go_num, by go_num, by rw [HN.out, Nat.pow_succ], by rw [HE.out, HM.out, HN.out], or_lt u c k HU.out, HV.out, hbel⟩
          case measure => simp [intOf]; omega
        · by_cases hZ : c = 0 ∧ 0 < k
          · have HV := Lib.hid (show Cd.dec 0 0 bs = (0, 0, 8) by rw [HD.out, HS.out, Cd.dec, if_neg hA, if_neg h128, if_pos hZ])
            obtain ⟨hc0, hk0⟩ := hZ
            have hk1 : (0 : Int) < (k : Int) := by omega
            have hc1 : ((c : Int) == 0) = true := by simp [hc0]
            have hc3 : ¬ ((1 : Int) < (c : Int)) := by omega
            clear hA h128 hc0
            by_cases hk9' : k = 9
            · subst hk9'
              clear hk0 hk1
              go_wp2_with fail
              go_ret3
              exact ⟨by rw [HV.out]; rfl, hbel⟩
            · have hk9x : ¬ ((k : Int) = 9) := by omega
              have hk9'' : ((k : Int) == 9) = false := by simp; omega
              have e3 : un * 128 ≤ 9223372036854775808 := by have := pow9_lt (k := k + 1) (by omega); rwa [Nat.pow_succ, ← HN.out] at this
              go_wp2_with fail
              go_ret3
              exact ⟨by rw [HV.out]; rfl, hbel⟩
          · have HV := Lib.hid (show Cd.dec 0 0 bs = (Cd.unz (u + m), ((k + 1 : Nat) : Int), 0) by rw [HD.out, HS.out, Cd.dec, if_neg hA, if_neg h128, if_neg hZ, HM.out, HN.out])
            have HA := Lib.hid hA
            have HZ := Lib.hid hZ
            clear hA hZ
            have h128' : c < 128 := by omega
            by_cases hk9' : k = 9
            · subst hk9'
              have hc1 : ((c : Int) == 0) = false := by have := HZ.out; simp; omega
              have hc2 : decide ((1 : Int) < (c : Int)) = false := by have := HA.out; simp; omega
              have hc3 : ¬ ((1 : Int) < (c : Int)) := by have := HA.out; omega
              go_wp2_with fail
              rw [HE.out]
              refine (rinteger_any _ HL.out _).mono ?_
              rintro e w5 ⟨rfl, hb5⟩
              go_wp2_with fail
              go_ret3
              exact ⟨by rw [HV.out]; rfl, hbel.trans (hb5.mono hbel.size)⟩
            · have hk9x : ¬ ((k : Int) = 9) := by omega
              have hk9'' : ((k : Int) == 9) = false := by simp; omega
              have e3 : un * 128 ≤ 9223372036854775808 := by have := pow9_lt (k := k + 1) (by omega); rwa [Nat.pow_succ, ← HN.out] at this
              by_cases hc0 : c = 0
              · have hc1 : ((c : Int) == 0) = true := by simp [hc0]
                have hkz : ¬ 0 < k := by have := HZ.out; omega
                have hkz' : decide (0 < k) = false := by simp; omega
                clear hc0
                go_wp2_with fail
                rw [HE.out]
                refine (rinteger_any _ HL.out _).mono ?_
                rintro e w5 ⟨rfl, hb5⟩
                go_wp2_with fail
                go_ret3
                exact ⟨by rw [HV.out]; rfl, hbel.trans (hb5.mono hbel.size)⟩
              · have hc1 : ((c : Int) == 0) = false := by simp; omega
                clear hc0
                go_wp2_with fail
                rw [HE.out]
                refine (rinteger_any _ HL.out _).mono ?_
                rintro e w5 ⟨rfl, hb5⟩
                go_wp2_with fail
                go_ret3
                exact ⟨by rw [HV.out]; rfl, hbel.trans (hb5.mono hbel.size)⟩
    · have hd : bs.drop k = [] := List.drop_eq_nil_of_le (by omega)
      have HV := Lib.hid (show Cd.dec 0 0 bs = (0, 0, 7) by rw [HD.out, hd]; rfl)
      clear hd
      have hle : bs.length ≤ k := by omega
      go_wp2_with fail
      go_ret3
      exact ⟨by rw [HV.out]; rfl, hbel⟩
end Go.Proofs.Ytelanbiedfldgaa
