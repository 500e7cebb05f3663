/- The walk of the reference's Most. -/
import Derived.Test.YtojadmccenkffaaWalkJ
namespace Go.Proofs.Ytojadmccenkffaa
open Go.RowKit

theorem rmost_step {l : List Qr.St} {j : Nat} (h : j < l.length) (site index t : Int) :
    Qr.cnt (Qr.of (l.take (j + 1)) site index) t = Qr.cnt (Qr.of (l.take j) site index) t + (if (Qr.pick site index l[j] && Qr.cover t l[j]) = true then 1 else 0) := by
  rw [of_snoc h]
  unfold Qr.cnt
  rw [List.countP_append]
  congr 1
  by_cases hp : Qr.pick site index l[j] = true
  · rw [if_pos hp, List.countP_singleton, hp]
    simp
  · rw [if_neg hp]
    have : Qr.pick site index l[j] = false := by simpa using hp
    rw [this]
    rfl
set_option maxRecDepth 100000 in
set_option maxHeartbeats 4000000 in
theorem rmost_any (A : Option Addr) (cap m : Nat) (l : List Qr.St) (site index : Int) (w : World) (hr : RdL scs 5 w w.heap.size A l) (hm : l.length = m) (hl : m ≤ 1000) (N : Nat) (hN : Qr.rmost l site index = N) :
    Calls Try.prog 24 #[.slice A m cap, .int .i64 site, .int .i64 index] w (LenPost w N) := by
  subst hm
  have HN := Lib.hid (show Qr.maxTo (fun a => Qr.cnt (Qr.of l site index) a.frm) 0 l = N from hN)
  have HRD := Lib.hid hr
  clear hr hN
  go_enter Try.func24, Try.ntmps24
  go_wp2_with fail
  go_loopw [7, 8] (fun v x wr => ∃ (q m0 : Nat), q ≤ l.length ∧ x = .int .i64 q ∧ v = .int .i64 m0 ∧ Qr.maxTo (fun a => Qr.cnt (Qr.of l site index) a.frm) m0 (l.drop q) = N ∧ m0 ≤ 1000 ∧ Below w.heap.size w wr) (fun _ x _ => l.length - (intOf x).toNat)
  case atStart => exact ⟨0, 0, Nat.zero_le _, rfl, rfl, HN.out, by omega, Below.refl _ _⟩
  case round =>
    obtain ⟨q, m0, hq, rfl, rfl, hacc, hm0, hbo⟩ := hrel
    obtain ⟨wo, hwo⟩ : ∃ wo : World, wo = wr := ⟨_, rfl⟩
    subst hwo
    have HACC := Lib.hid hacc
    have HBO := Lib.hid hbo
    clear hacc hbo
    by_cases hlt : q < l.length
    · have HRO := Lib.hid (HRD.out.after HBO.out)
      obtain ⟨b, off, hAe, _, hcell⟩ := HRO.out (by omega)
      subst hAe
      have hc := hcell q hlt
      have hdr := drop_cons' hlt
      obtain ⟨⟨a1, a2, a3, a4, a5⟩, hx⟩ : ∃ x, l[q] = x := ⟨_, rfl⟩
      rw [hx] at hc hdr
      have HDR := Lib.hid hdr
      have c0a : wo.cell? ⟨b, off + q * 5, none⟩ = some (.int .i64 a1) := hc 0 _ rfl
      have c1a : wo.cell? ⟨b, off + q * 5 + 1, none⟩ = some (.int .i64 a2) := hc 1 _ rfl
      have c2a : wo.cell? ⟨b, off + q * 5 + 2, none⟩ = some (.int .i64 a3) := hc 2 _ rfl
      have c3a : wo.cell? ⟨b, off + q * 5 + 3, none⟩ = some (.int .i64 a4) := hc 3 _ rfl
      have c4a : wo.cell? ⟨b, off + q * 5 + 4, none⟩ = some (.int .i64 a5) := hc 4 _ rfl
      clear hc hcell hx hdr
      go_wp2_with fail
      go_loopw [10, 11] (fun v x wr => ∃ (j n : Nat), j ≤ l.length ∧ x = .int .i64 j ∧ v = .int .i64 n ∧ n = Qr.cnt (Qr.of (l.take j) site index) a4 ∧ n ≤ j ∧ Below wo.heap.size wo wr) (fun _ x _ => l.length - (intOf x).toNat)
      case atStart => exact ⟨0, 0, Nat.zero_le _, rfl, rfl, rfl, Nat.le_refl _, Below.refl _ _⟩
      case round =>
        obtain ⟨j, n, hj, rfl, rfl, hcn, hnj, hbj⟩ := hrel
        have HCN := Lib.hid hcn
        have HBJ := Lib.hid hbj
        clear hcn hbj
        by_cases hjl : j < l.length
        · obtain ⟨b2, off2, hE, _, hcell⟩ := (HRO.out.below HBJ.out) (by omega)
          simp only [Option.some.injEq, Addr.mk.injEq, and_true] at hE
          obtain ⟨hE1, hE2⟩ := hE
          subst hE1
          subst hE2
          have hc := hcell j hjl
          have hsn := rmost_step hjl site index a4
          obtain ⟨⟨e1, e2, e3, e4, e5⟩, hx⟩ : ∃ x, l[j] = x := ⟨_, rfl⟩
          rw [hx] at hc hsn
          have HSN := Lib.hid hsn
          have HPK := Lib.hid (show Qr.pick site index ⟨e1, e2, e3, e4, e5⟩ = (Qr.agr site e1 && Qr.agr index e3) from rfl)
          have c0e : wr.cell? ⟨b, off + j * 5, none⟩ = some (.int .i64 e1) := hc 0 _ rfl
          have c1e : wr.cell? ⟨b, off + j * 5 + 1, none⟩ = some (.int .i64 e2) := hc 1 _ rfl
          have c2e : wr.cell? ⟨b, off + j * 5 + 2, none⟩ = some (.int .i64 e3) := hc 2 _ rfl
          have c3e : wr.cell? ⟨b, off + j * 5 + 3, none⟩ = some (.int .i64 e4) := hc 3 _ rfl
          have c4e : wr.cell? ⟨b, off + j * 5 + 4, none⟩ = some (.int .i64 e5) := hc 4 _ rfl
          clear hc hcell hx hsn
          cases hp1 : Qr.agr site e1 with
          | false =>
            have HP1 := Lib.hid hp1
            clear hp1
            have HCO := Lib.hid (show (Qr.pick site index ⟨e1, e2, e3, e4, e5⟩ && Qr.cover a4 ⟨e1, e2, e3, e4, e5⟩) = false by rw [HPK.out]; rw [HP1.out]; rfl)
            go_wp2_with fail
            refine (ragrees_at site e1 false _ HP1.out).mono ?_
            rintro e w4 ⟨rfl, rfl⟩
            go_wp2_with fail
            go_roundw
            case rel => exact ⟨j + 1, n, by omega, by go_num, rfl, by rw [HSN.out, HCO.out, ← HCN.out]; simp, by omega, HBJ.out⟩
            case measure => simp [intOf]; omega
          | true =>
            have HP1 := Lib.hid hp1
            clear hp1
            cases hp2 : Qr.agr index e3 with
            | false =>
              have HP2 := Lib.hid hp2
              clear hp2
              have HCO := Lib.hid (show (Qr.pick site index ⟨e1, e2, e3, e4, e5⟩ && Qr.cover a4 ⟨e1, e2, e3, e4, e5⟩) = false by rw [HPK.out]; rw [HP2.out]; simp)
              go_wp2_with fail
              refine (ragrees_at site e1 true _ HP1.out).mono ?_
              rintro e w4 ⟨rfl, rfl⟩
              go_wp2_with fail
              refine (ragrees_at index e3 false _ HP2.out).mono ?_
              rintro e w4 ⟨rfl, rfl⟩
              go_wp2_with fail
              go_roundw
              case rel => exact ⟨j + 1, n, by omega, by go_num, rfl, by rw [HSN.out, HCO.out, ← HCN.out]; simp, by omega, HBJ.out⟩
              case measure => simp [intOf]; omega
            | true =>
              have HP2 := Lib.hid hp2
              clear hp2
              by_cases h1 : e4 ≤ a4
              · by_cases h2 : a4 < e5
                · have HCO := Lib.hid (show (Qr.pick site index ⟨e1, e2, e3, e4, e5⟩ && Qr.cover a4 ⟨e1, e2, e3, e4, e5⟩) = true by rw [HPK.out]; rw [HP1.out, HP2.out]; unfold Qr.cover; simp [h1, h2])
                  go_wp2_with fail
                  refine (ragrees_at site e1 true _ HP1.out).mono ?_
                  rintro e w4 ⟨rfl, rfl⟩
                  go_wp2_with fail
                  refine (ragrees_at index e3 true _ HP2.out).mono ?_
                  rintro e w4 ⟨rfl, rfl⟩
                  go_wp2_with fail
                  go_roundw
                  case rel => exact ⟨j + 1, n + 1, by omega, by go_num, by go_num, by rw [HSN.out, HCO.out, ← HCN.out]; simp, by omega, HBJ.out⟩
                  case measure => simp [intOf]; omega
                · have HCO := Lib.hid (show (Qr.pick site index ⟨e1, e2, e3, e4, e5⟩ && Qr.cover a4 ⟨e1, e2, e3, e4, e5⟩) = false by rw [HPK.out]; rw [HP1.out, HP2.out]; unfold Qr.cover; simp [h2])
                  go_wp2_with fail
                  refine (ragrees_at site e1 true _ HP1.out).mono ?_
                  rintro e w4 ⟨rfl, rfl⟩
                  go_wp2_with fail
                  refine (ragrees_at index e3 true _ HP2.out).mono ?_
                  rintro e w4 ⟨rfl, rfl⟩
                  go_wp2_with fail
                  go_roundw
                  case rel => exact ⟨j + 1, n, by omega, by go_num, rfl, by rw [HSN.out, HCO.out, ← HCN.out]; simp, by omega, HBJ.out⟩
                  case measure => simp [intOf]; omega
              · have HCO := Lib.hid (show (Qr.pick site index ⟨e1, e2, e3, e4, e5⟩ && Qr.cover a4 ⟨e1, e2, e3, e4, e5⟩) = false by rw [HPK.out]; rw [HP1.out, HP2.out]; unfold Qr.cover; simp [h1])
                go_wp2_with fail
                refine (ragrees_at site e1 true _ HP1.out).mono ?_
                rintro e w4 ⟨rfl, rfl⟩
                go_wp2_with fail
                refine (ragrees_at index e3 true _ HP2.out).mono ?_
                rintro e w4 ⟨rfl, rfl⟩
                go_wp2_with fail
                go_roundw
                case rel => exact ⟨j + 1, n, by omega, by go_num, rfl, by rw [HSN.out, HCO.out, ← HCN.out]; simp, by omega, HBJ.out⟩
                case measure => simp [intOf]; omega
        · have hjs : j = l.length := by omega
          have hnn : n = Qr.cnt (Qr.of l site index) a4 := by rw [HCN.out, hjs, List.take_length]
          have HNN := Lib.hid hnn
          clear hjs hnn
          by_cases hmx : m0 < n
          · have HMX := Lib.hid (show max m0 n = n from Nat.max_eq_right (Nat.le_of_lt hmx))
            have hmi : (m0 : Int) < (n : Int) := by omega
            go_wp2_with fail
            go_roundw
            case rel => exact ⟨q + 1, n, by omega, by go_num, rfl, by rw [← HACC.out, HDR.out, Qr.maxTo, ← HNN.out, HMX.out], by omega, HBO.out.trans (HBJ.out.mono HBO.out.size)⟩
            case measure => simp [intOf]; omega
          · have HMX := Lib.hid (show max m0 n = m0 from Nat.max_eq_left (by omega))
            have hmi : ¬ (m0 : Int) < (n : Int) := by omega
            go_wp2_with fail
            go_roundw
            case rel => exact ⟨q + 1, m0, by omega, by go_num, rfl, by rw [← HACC.out, HDR.out, Qr.maxTo, ← HNN.out, HMX.out], by omega, HBO.out.trans (HBJ.out.mono HBO.out.size)⟩
            case measure => simp [intOf]; omega
    · have hqs : q = l.length := by omega
      have hfin : m0 = N := by
        have := HACC.out
        rw [hqs, List.drop_length, Qr.maxTo] at this
        exact this
      have HF := Lib.hid hfin
      clear hqs hfin
      go_wp2_with fail
      go_ret
      rw [← HF.out]
      exact ⟨rfl, HBO.out⟩
end Go.Proofs.Ytojadmccenkffaa
