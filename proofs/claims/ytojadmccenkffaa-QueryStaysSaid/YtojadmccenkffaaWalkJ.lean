/- The walks of Busy of the program and of the reference. -/
import Derived.Test.YtojadmccenkffaaWalkG
namespace Go.Proofs.Ytojadmccenkffaa
open Go.RowKit

set_option maxHeartbeats 400000 in
theorem rlength_any (a b c f t : Int) (w : World) : Calls Try.prog 34 #[.agg #[.int .i64 a, .int .i64 b, .int .i64 c, .int .i64 f, .int .i64 t]] w (LenPost w (Qr.len ⟨a, b, c, f, t⟩)) := by
  by_cases h : t ≤ f
  · have e : Qr.len ⟨a, b, c, f, t⟩ = 0 := by unfold Qr.len; rw [if_pos h]
    rw [e]
    go_enter Try.func34, Try.ntmps34
    go_wp2
    go_ret
    exact ⟨rfl, below_box _ _⟩
  · have e : Qr.len ⟨a, b, c, f, t⟩ = Qr.add (Qr.clip t) (-(Qr.clip f)) := by unfold Qr.len; rw [if_neg h]
    rw [e]
    have hf := Qr.clip_lo f
    obtain ⟨r, hr⟩ : ∃ r, Qr.add (Qr.clip t) (-(Qr.clip f)) = r := ⟨_, rfl⟩
    rw [hr]
    obtain ⟨x, hx⟩ : ∃ x, Qr.clip t = x := ⟨_, rfl⟩
    obtain ⟨y, hy⟩ : ∃ y, Qr.clip f = y := ⟨_, rfl⟩
    rw [hx, hy] at hr
    rw [hy] at hf
    have HX := Lib.hid hx
    have HY := Lib.hid hy
    have HR := Lib.hid hr
    clear hx hy hr e
    go_enter Try.func34, Try.ntmps34
    go_wp2
    go_quiet ((first | (go_at_call 36; exact Calls.quiet_of_same ((rclip_at t x _ HX.out).mono fun e w' h => ⟨h.1, h.2.symm⟩)) | (go_at_call 36; exact Calls.quiet_of_same ((rclip_at f y _ HY.out).mono fun e w' h => ⟨h.1, h.2.symm⟩)) | (go_at_call 33; exact Calls.quiet_of_same ((radd_at x (-y) r _ HR.out).mono fun e w' h => ⟨h.1, h.2.symm⟩))))
    go_wp2
    go_ret
    exact ⟨rfl, below_drewN' (below_box _ _) _⟩
theorem length_at (a b c f t r : Int) (w : World) (h : Qr.len ⟨a, b, c, f, t⟩ = r) : Calls Try.prog 31 #[.agg #[.int .i64 a, .int .i64 b, .int .i64 c, .int .i64 f, .int .i64 t]] w (LenPost w r) := by subst h; exact length_any a b c f t w
theorem rlength_at (a b c f t r : Int) (w : World) (h : Qr.len ⟨a, b, c, f, t⟩ = r) : Calls Try.prog 34 #[.agg #[.int .i64 a, .int .i64 b, .int .i64 c, .int .i64 f, .int .i64 t]] w (LenPost w r) := by subst h; exact rlength_any a b c f t w
theorem drop_cons' {α : Type} {l : List α} {k : Nat} (h : k < l.length) : l.drop k = l[k] :: l.drop (k + 1) := List.drop_eq_getElem_cons h
set_option maxRecDepth 100000 in
set_option maxHeartbeats 1000000 in
theorem busy_any (A : Option Addr) (cap m : Nat) (l : List Qr.St) (site index : Int) (w : World) (hr : RdL scs 5 w w.heap.size A l) (hm : l.length = m) (hl : m ≤ 1000) (N : Int) (hN : Qr.busy l site index = N) :
    Calls Try.prog 21 #[.slice A m cap, .int .i64 site, .int .i64 index] w (LenPost w N) := by
  subst hm
  have HC := Lib.hid (of_any A cap l site index w hr hl)
  have hLl := Qr.of_len l site index
  obtain ⟨L, hL⟩ : ∃ L, Qr.of l site index = L := ⟨_, rfl⟩
  have hN2 : Qr.busyTo 0 L = N := by rw [← hN, ← hL]; rfl
  rw [hL] at HC hLl
  have HN := Lib.hid hN2
  clear hr hN hN2 hL
  go_enter Try.func21, Try.ntmps21
  go_wp2_with fail
  refine HC.out.mono ?_
  rintro e w1 ⟨A1, cap1, rfl, ho1, hb1⟩
  have HRD := Lib.hid (ho1.rd scs_ok)
  have HB := Lib.hid hb1
  clear ho1 hb1 HC
  go_wp2_with fail
  go_loopw [7, 15] (fun v x wr => ∃ (n : Nat) (acc : Int), n ≤ L.length ∧ x = .int .i64 n ∧ v = .int .i64 acc ∧ Qr.busyTo acc (L.drop n) = N ∧ Below w1.heap.size w1 wr) (fun _ x _ => L.length - (intOf x).toNat)
  case atStart => exact ⟨0, 0, Nat.zero_le _, rfl, rfl, HN.out, Below.refl _ _⟩
  case round =>
    obtain ⟨n, acc, hn, rfl, rfl, hacc, hbel⟩ := hrel
    have HACC := Lib.hid hacc
    have HBE := Lib.hid hbel
    clear hacc hbel
    by_cases hlt : n < L.length
    · obtain ⟨b, off, rfl, _, hcell⟩ := (HRD.out.below HBE.out) (by omega)
      have hc := hcell n hlt
      have hdr := drop_cons' hlt
      obtain ⟨⟨a1, a2, a3, a4, a5⟩, hx⟩ : ∃ x, L[n] = x := ⟨_, rfl⟩
      rw [hx] at hc hdr
      have HD := Lib.hid hdr
      have c0 : wr.cell? ⟨b, off + n * 5, none⟩ = some (.int .i64 a1) := hc 0 _ rfl
      have c1 : wr.cell? ⟨b, off + n * 5 + 1, none⟩ = some (.int .i64 a2) := hc 1 _ rfl
      have c2 : wr.cell? ⟨b, off + n * 5 + 2, none⟩ = some (.int .i64 a3) := hc 2 _ rfl
      have c3 : wr.cell? ⟨b, off + n * 5 + 3, none⟩ = some (.int .i64 a4) := hc 3 _ rfl
      have c4 : wr.cell? ⟨b, off + n * 5 + 4, none⟩ = some (.int .i64 a5) := hc 4 _ rfl
      obtain ⟨r, hrr⟩ : ∃ r, Qr.len ⟨a1, a2, a3, a4, a5⟩ = r := ⟨_, rfl⟩
      obtain ⟨acc2, hac⟩ : ∃ x, Qr.add acc r = x := ⟨_, rfl⟩
      have HRR := Lib.hid hrr
      have HAC := Lib.hid hac
      clear hc hcell hx hdr hrr hac
      have BX := Lib.hid (below_box wr (.cells #[.int .i64 a1, .int .i64 a2, .int .i64 a3, .int .i64 a4, .int .i64 a5] 42))
      go_wp2_with fail
      refine (length_at a1 a2 a3 a4 a5 r _ HRR.out).mono ?_
      rintro e w3 ⟨rfl, hb3⟩
      have HB3 := Lib.hid (HBE.out.trans ((BX.out.trans (hb3.mono BX.out.size)).mono HBE.out.size))
      clear hb3
      go_wp2_with fail
      refine (add_at acc r acc2 _ HAC.out).mono ?_
      rintro e w4 ⟨rfl, rfl⟩
      go_wp2_with fail
      go_roundw
      case rel => exact ⟨n + 1, acc2, by omega, by go_num, rfl, by rw [← HACC.out, HD.out, Qr.busyTo, HRR.out, HAC.out], HB3.out⟩
      case measure => simp [intOf]; omega
    · have hns : n = L.length := by omega
      have hfin : acc = N := by
        have := HACC.out
        rw [hns, List.drop_length, Qr.busyTo] at this
        exact this
      have HF := Lib.hid hfin
      clear hns hfin
      go_wp2_with fail
      go_ret
      rw [← HF.out]
      exact ⟨rfl, HB.out.trans (HBE.out.mono HB.out.size)⟩
theorem rbusy_step {l : List Qr.St} {n : Nat} (h : n < l.length) (site index acc : Int) :
    Qr.busyTo acc ((l.drop n).filter (Qr.pick site index)) = Qr.busyTo (if Qr.pick site index l[n] = true then Qr.add acc (Qr.len l[n]) else acc) ((l.drop (n + 1)).filter (Qr.pick site index)) := by
  rw [drop_cons' h, List.filter_cons]
  split
  · rfl
  · rfl
set_option maxRecDepth 100000 in
set_option maxHeartbeats 1000000 in
theorem rbusy_any (A : Option Addr) (cap m : Nat) (l : List Qr.St) (site index : Int) (w : World) (hr : RdL scs 5 w w.heap.size A l) (hm : l.length = m) (hl : m ≤ 1000) (N : Int) (hN : Qr.busy l site index = N) :
    Calls Try.prog 22 #[.slice A m cap, .int .i64 site, .int .i64 index] w (LenPost w N) := by
  subst hm
  have HN := Lib.hid (show Qr.busyTo 0 (l.filter (Qr.pick site index)) = N from hN)
  have HRD := Lib.hid hr
  clear hr hN
  go_enter Try.func22, Try.ntmps22
  go_wp2_with fail
  go_loopw [7, 8] (fun v x wr => ∃ (n : Nat) (acc : Int), n ≤ l.length ∧ x = .int .i64 n ∧ v = .int .i64 acc ∧ Qr.busyTo acc ((l.drop n).filter (Qr.pick site index)) = N ∧ Below w.heap.size w wr) (fun _ x _ => l.length - (intOf x).toNat)
  case atStart => exact ⟨0, 0, Nat.zero_le _, rfl, rfl, HN.out, Below.refl _ _⟩
  case round =>
    obtain ⟨n, acc, hn, rfl, rfl, hacc, hbel⟩ := hrel
    have HBE := Lib.hid hbel
    by_cases hlt : n < l.length
    · obtain ⟨b, off, rfl, _, hcell⟩ := (HRD.out.below HBE.out) (by omega)
      have hc := hcell n hlt
      rw [rbusy_step hlt] at hacc
      obtain ⟨⟨a1, a2, a3, a4, a5⟩, hx⟩ : ∃ x, l[n] = x := ⟨_, rfl⟩
      rw [hx] at hc hacc
      have HACC := Lib.hid hacc
      have c0 : wr.cell? ⟨b, off + n * 5, none⟩ = some (.int .i64 a1) := hc 0 _ rfl
      have c1 : wr.cell? ⟨b, off + n * 5 + 1, none⟩ = some (.int .i64 a2) := hc 1 _ rfl
      have c2 : wr.cell? ⟨b, off + n * 5 + 2, none⟩ = some (.int .i64 a3) := hc 2 _ rfl
      have c3 : wr.cell? ⟨b, off + n * 5 + 3, none⟩ = some (.int .i64 a4) := hc 3 _ rfl
      have c4 : wr.cell? ⟨b, off + n * 5 + 4, none⟩ = some (.int .i64 a5) := hc 4 _ rfl
      obtain ⟨r, hrr⟩ : ∃ r, Qr.len ⟨a1, a2, a3, a4, a5⟩ = r := ⟨_, rfl⟩
      obtain ⟨acc2, hac⟩ : ∃ x, Qr.add acc r = x := ⟨_, rfl⟩
      have HRR := Lib.hid hrr
      have HAC := Lib.hid hac
      have hpk : Qr.pick site index ⟨a1, a2, a3, a4, a5⟩ = (Qr.agr site a1 && Qr.agr index a3) := rfl
      have HPK := Lib.hid hpk
      clear hc hcell hx hacc hrr hac hbel hpk
      cases hp1 : Qr.agr site a1 with
      | false =>
        have HP1 := Lib.hid hp1
        clear hp1
        go_wp2_with fail
        refine (ragrees_at site a1 false _ HP1.out).mono ?_
        rintro e w4 ⟨rfl, rfl⟩
        go_wp2_with fail
        go_roundw
        case rel => exact ⟨n + 1, acc, by omega, by go_num, rfl, by rw [← HACC.out, if_neg (by rw [HPK.out, HP1.out]; simp)], HBE.out⟩
        case measure => simp [intOf]; omega
      | true =>
        have HP1 := Lib.hid hp1
        clear hp1
        cases hp2 : Qr.agr index a3 with
        | false =>
          have HP2 := Lib.hid hp2
          clear hp2
          go_wp2_with fail
          refine (ragrees_at site a1 true _ HP1.out).mono ?_
          rintro e w4 ⟨rfl, rfl⟩
          go_wp2_with fail
          refine (ragrees_at index a3 false _ HP2.out).mono ?_
          rintro e w4 ⟨rfl, rfl⟩
          go_wp2_with fail
          go_roundw
          case rel => exact ⟨n + 1, acc, by omega, by go_num, rfl, by rw [← HACC.out, if_neg (by rw [HPK.out, HP2.out]; simp)], HBE.out⟩
          case measure => simp [intOf]; omega
        | true =>
          have HP2 := Lib.hid hp2
          clear hp2
          go_wp2_with fail
          refine (ragrees_at site a1 true _ HP1.out).mono ?_
          rintro e w4 ⟨rfl, rfl⟩
          go_wp2_with fail
          refine (ragrees_at index a3 true _ HP2.out).mono ?_
          rintro e w4 ⟨rfl, rfl⟩
          go_wp2_with fail
          refine (rlength_at a1 a2 a3 a4 a5 r _ HRR.out).mono ?_
          rintro e w3 ⟨rfl, hb3⟩
          have HB3 := Lib.hid (HBE.out.trans (hb3.mono HBE.out.size))
          clear hb3
          go_wp2_with fail
          refine (radd_at acc r acc2 _ HAC.out).mono ?_
          rintro e w4 ⟨rfl, rfl⟩
          go_wp2_with fail
          go_roundw
          case rel => exact ⟨n + 1, acc2, by omega, by go_num, rfl, by rw [← HACC.out, if_pos (by rw [HPK.out, HP1.out, HP2.out]; rfl), HRR.out, HAC.out], HB3.out⟩
          case measure => simp [intOf]; omega
    · have hns : n = l.length := by omega
      have hfin : acc = N := by
        rw [hns, List.drop_length] at hacc
        exact hacc
      have HF := Lib.hid hfin
      clear hns hfin hacc hbel
      go_wp2_with fail
      go_ret
      rw [← HF.out]
      exact ⟨rfl, HBE.out⟩
end Go.Proofs.Ytojadmccenkffaa
