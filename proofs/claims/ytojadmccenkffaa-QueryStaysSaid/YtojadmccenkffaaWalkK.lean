/- The walk of Most. -/
import Derived.Test.YtojadmccenkffaaWalkJ
namespace Go.Proofs.Ytojadmccenkffaa
open Go.RowKit

set_option maxRecDepth 100000 in
set_option maxHeartbeats 4000000 in
theorem most_any (A : Option Addr) (cap m : Nat) (l : List Qr.St) (site index : Int) (w : World) (hr : RdL scs 5 w w.heap.size A l) (hm : l.length = m) (hl : m ≤ 1000) (N : Nat) (hN : Qr.most l site index = N) :
    Calls Try.prog 23 #[.slice A m cap, .int .i64 site, .int .i64 index] w (LenPost w N) := by
  subst hm
  have HC := Lib.hid (of_any A cap l site index w hr hl)
  have hLl := Qr.of_len l site index
  obtain ⟨L, hL⟩ : ∃ L, Qr.of l site index = L := ⟨_, rfl⟩
  have hN2 : Qr.maxTo (fun a => Qr.cnt L a.frm) 0 L = N := by rw [← hN, ← hL]; rfl
  rw [hL] at HC hLl
  have HN := Lib.hid hN2
  clear hr hN hN2 hL
  go_enter Try.func23, Try.ntmps23
  go_wp2_with fail
  refine HC.out.mono ?_
  rintro e w1 ⟨A1, cap1, rfl, ho1, hb1⟩
  have HRD := Lib.hid (ho1.rd scs_ok)
  have HB := Lib.hid hb1
  clear ho1 hb1 HC
  go_wp2_with fail
  go_loopw [7, 19] (fun v x wr => ∃ (q m0 : Nat), q ≤ L.length ∧ x = .int .i64 q ∧ v = .int .i64 m0 ∧ Qr.maxTo (fun a => Qr.cnt L a.frm) m0 (L.drop q) = N ∧ m0 ≤ 1000 ∧ Below w1.heap.size w1 wr) (fun _ x _ => L.length - (intOf x).toNat)
  case atStart => exact ⟨0, 0, Nat.zero_le _, rfl, rfl, HN.out, by omega, Below.refl _ _⟩
  case round =>
    obtain ⟨q, m0, hq, rfl, rfl, hacc, hm0, hbo⟩ := hrel
    obtain ⟨wo, hwo⟩ : ∃ wo : World, wo = wr := ⟨_, rfl⟩
    subst hwo
    have HACC := Lib.hid hacc
    have HBO := Lib.hid hbo
    clear hacc hbo
    by_cases hlt : q < L.length
    · have HRO := Lib.hid (HRD.out.after HBO.out)
      obtain ⟨b, off, hAe, _, hcell⟩ := HRO.out (by omega)
      subst hAe
      have hc := hcell q hlt
      have hdr := drop_cons' hlt
      obtain ⟨⟨a1, a2, a3, a4, a5⟩, hx⟩ : ∃ x, L[q] = x := ⟨_, rfl⟩
      rw [hx] at hc hdr
      have HDR := Lib.hid hdr
      have c0a : wo.cell? ⟨b, off + q * 5, none⟩ = some (.int .i64 a1) := hc 0 _ rfl
      have c1a : wo.cell? ⟨b, off + q * 5 + 1, none⟩ = some (.int .i64 a2) := hc 1 _ rfl
      have c2a : wo.cell? ⟨b, off + q * 5 + 2, none⟩ = some (.int .i64 a3) := hc 2 _ rfl
      have c3a : wo.cell? ⟨b, off + q * 5 + 3, none⟩ = some (.int .i64 a4) := hc 3 _ rfl
      have c4a : wo.cell? ⟨b, off + q * 5 + 4, none⟩ = some (.int .i64 a5) := hc 4 _ rfl
      clear hc hcell hx hdr
      obtain ⟨wa, hwae⟩ : ∃ wa, wa = wo.alloc (.cells #[.int .i64 a1, .int .i64 a2, .int .i64 a3, .int .i64 a4, .int .i64 a5] 42) := ⟨_, rfl⟩
      have HWA : Hid (Below wo.heap.size wo wa) := Lib.hid (by rw [hwae]; exact below_box _ _)
      have hwa : wo.heap.size < wa.heap.size := by rw [hwae]; simp
      have HVA : Hid (wa.cell? ⟨wo.heap.size, 3, none⟩ = some (.int .i64 a4)) := Lib.hid (by rw [hwae]; exact World.cell?_alloc_at _ 42 _ 3 rfl)
      have HRW := Lib.hid (HRO.out.after HWA.out)
      have HWE := Lib.hid hwae
      clear hwae
      go_wp2_with fail
      rw [← HWE.out]
      clear HWE HRO
      go_loopw [10, 25] (fun v x wr => ∃ (j n : Nat), j ≤ L.length ∧ x = .int .i64 j ∧ v = .int .i64 n ∧ n = Qr.cnt (L.take j) a4 ∧ n ≤ j ∧ Below wa.heap.size wa wr) (fun _ x _ => L.length - (intOf x).toNat)
      case atStart => exact ⟨0, 0, Nat.zero_le _, rfl, rfl, rfl, Nat.le_refl _, Below.refl _ _⟩
      case round =>
        obtain ⟨j, n, hj, rfl, rfl, hcn, hnj, hbj⟩ := hrel
        have HCN := Lib.hid hcn
        have HBJ := Lib.hid hbj
        clear hcn hbj
        have v3 : wr.cell? ⟨wo.heap.size, 3, none⟩ = some (.int .i64 a4) := (HBJ.out.cell (p := ⟨wo.heap.size, 3, none⟩) hwa).trans HVA.out
        by_cases hjl : j < L.length
        · obtain ⟨b2, off2, hE, _, hcell⟩ := (HRW.out.below HBJ.out) (by omega)
          simp only [Option.some.injEq, Addr.mk.injEq, and_true] at hE
          obtain ⟨hE1, hE2⟩ := hE
          subst hE1
          subst hE2
          have hc := hcell j hjl
          have hsn : Qr.cnt (L.take (j + 1)) a4 = Qr.cnt (L.take j) a4 + (if Qr.cover a4 L[j] = true then 1 else 0) := by
            unfold Qr.cnt
            rw [take_snoc' hjl, List.countP_append, List.countP_singleton]
          obtain ⟨⟨e1, e2, e3, e4, e5⟩, hx⟩ : ∃ x, L[j] = x := ⟨_, rfl⟩
          rw [hx] at hc hsn
          have HSN := Lib.hid hsn
          have c0e : wr.cell? ⟨b, off + j * 5, none⟩ = some (.int .i64 e1) := hc 0 _ rfl
          have c1e : wr.cell? ⟨b, off + j * 5 + 1, none⟩ = some (.int .i64 e2) := hc 1 _ rfl
          have c2e : wr.cell? ⟨b, off + j * 5 + 2, none⟩ = some (.int .i64 e3) := hc 2 _ rfl
          have c3e : wr.cell? ⟨b, off + j * 5 + 3, none⟩ = some (.int .i64 e4) := hc 3 _ rfl
          have c4e : wr.cell? ⟨b, off + j * 5 + 4, none⟩ = some (.int .i64 e5) := hc 4 _ rfl
          clear hc hcell hx hsn
          have BY := Lib.hid (below_box wr (.cells #[.int .i64 e1, .int .i64 e2, .int .i64 e3, .int .i64 e4, .int .i64 e5] 42))
          have hwr : wo.heap.size < wr.heap.size := Nat.lt_of_lt_of_le hwa HBJ.out.size
          have v3' : (wr.alloc (.cells #[.int .i64 e1, .int .i64 e2, .int .i64 e3, .int .i64 e4, .int .i64 e5] 42)).cell? ⟨wo.heap.size, 3, none⟩ = some (.int .i64 a4) := (BY.out.cell (p := ⟨wo.heap.size, 3, none⟩) hwr).trans v3
          by_cases hcov1 : e4 ≤ a4
          · by_cases hcov2 : a4 < e5
            · have HCO := Lib.hid (show Qr.cover a4 ⟨e1, e2, e3, e4, e5⟩ = true by unfold Qr.cover; simp [hcov1, hcov2])
              go_wp2_with fail
              go_roundw
              case rel => exact ⟨j + 1, n + 1, by omega, by go_num, by go_num, by rw [HSN.out, HCO.out, ← HCN.out]; simp, by omega, HBJ.out.trans (BY.out.mono HBJ.out.size)⟩
              case measure => simp [intOf]; omega
            · have HCO := Lib.hid (show Qr.cover a4 ⟨e1, e2, e3, e4, e5⟩ = false by unfold Qr.cover; simp [hcov2])
              go_wp2_with fail
              go_roundw
              case rel => exact ⟨j + 1, n, by omega, by go_num, rfl, by rw [HSN.out, HCO.out, ← HCN.out]; simp, by omega, HBJ.out.trans (BY.out.mono HBJ.out.size)⟩
              case measure => simp [intOf]; omega
          · have HCO := Lib.hid (show Qr.cover a4 ⟨e1, e2, e3, e4, e5⟩ = false by unfold Qr.cover; simp [hcov1])
            go_wp2_with fail
            go_roundw
            case rel => exact ⟨j + 1, n, by omega, by go_num, rfl, by rw [HSN.out, HCO.out, ← HCN.out]; simp, by omega, HBJ.out.trans (BY.out.mono HBJ.out.size)⟩
            case measure => simp [intOf]; omega
        · have hjs : j = L.length := by omega
          have hnn : n = Qr.cnt L a4 := by rw [HCN.out, hjs, List.take_length]
          have HNN := Lib.hid hnn
          clear hjs hnn v3
          by_cases hmx : m0 < n
          · have HMX := Lib.hid (show max m0 n = n from Nat.max_eq_right (Nat.le_of_lt hmx))
            have hmi : (m0 : Int) < (n : Int) := by omega
            go_wp2_with fail
            go_roundw
            case rel => exact ⟨q + 1, n, by omega, by go_num, rfl, by rw [← HACC.out, HDR.out, Qr.maxTo, ← HNN.out, HMX.out], by omega, HBO.out.trans ((HWA.out.trans (HBJ.out.mono HWA.out.size)).mono HBO.out.size)⟩
            case measure => simp [intOf]; omega
          · have HMX := Lib.hid (show max m0 n = m0 from Nat.max_eq_left (by omega))
            have hmi : ¬ (m0 : Int) < (n : Int) := by omega
            go_wp2_with fail
            go_roundw
            case rel => exact ⟨q + 1, m0, by omega, by go_num, rfl, by rw [← HACC.out, HDR.out, Qr.maxTo, ← HNN.out, HMX.out], by omega, HBO.out.trans ((HWA.out.trans (HBJ.out.mono HWA.out.size)).mono HBO.out.size)⟩
            case measure => simp [intOf]; omega
    · have hqs : q = L.length := by omega
      have hfin : m0 = N := by
        have := HACC.out
        rw [hqs, List.drop_length, Qr.maxTo] at this
        exact this
      have HF := Lib.hid hfin
      clear hqs hfin
      go_wp2_with fail
      go_ret
      rw [← HF.out]
      exact ⟨rfl, HB.out.trans (HBO.out.mono HB.out.size)⟩
end Go.Proofs.Ytojadmccenkffaa
