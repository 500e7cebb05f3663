/- The walk of the statement QueryStays. -/
import Derived.Test.YtojadmccenkffaaWalkP
namespace Go.Proofs.Ytojadmccenkffaa
open Go.RowKit

set_option maxRecDepth 100000 in
set_option maxHeartbeats 1000000 in
theorem staysLaw_any (A : Option Addr) (cap : Nat) (l : List Qr.Rc) (bg en : Int) (w : World) (hr : RdL rcs 6 w w.heap.size A l) (hok : ∀ r ∈ l, RcOk r) (hl : l.length ≤ maxLen) :
    Calls Try.prog 5 #[.slice A l.length cap, .int .i64 bg, .int .i64 en] w (TruePost w) := by
  unfold maxLen at hl
  by_cases h2 : 200 < l.length
  · go_enter Try.func5, Try.ntmps5
    go_wp2_with fail
    refine (awake_any _).mono ?_
    rintro e w2 ⟨rfl, hb2⟩
    go_wp2_with fail
    go_ret
    exact ⟨rfl, hb2⟩
  · have hfrom := Qr.stays_from l bg en
    obtain ⟨L, hL⟩ : ∃ L, Qr.stays l bg en = L := ⟨_, rfl⟩
    obtain ⟨N, hN⟩ : ∃ N, L.length = N := ⟨_, rfl⟩
    have hNl : N ≤ l.length := by
      rw [← hN, ← hL]
      unfold Qr.stays Qr.outS
      rw [List.length_map]
      exact Nat.le_trans (List.length_filter_le _ _) (Nat.le_trans hfrom.begins List.countP_le_length)
    have HL := Lib.hid hL
    have HN := Lib.hid hN
    have HR := Lib.hid hr
    have HOK := Lib.hid hok
    clear hL hN hr hok hfrom
    go_enter Try.func5, Try.ntmps5
    go_wp2_with fail
    refine (stays_at A l.length cap l bg en L N _ HR.out rfl (by omega) HOK.out HL.out HN.out).mono ?_
    rintro e w1 ⟨A1, cap1, rfl, ho1, hb1⟩
    have HO1 := Lib.hid ho1
    clear ho1
    go_wp2_with fail
    refine (rstays_at A l.length cap l bg en L N _ (HR.out.after hb1) rfl (by omega) HL.out HN.out).mono ?_
    rintro e w2 ⟨A2, cap2, rfl, ho2, hb2⟩
    have HO2 := Lib.hid ho2
    have h12 := hb1.trans (hb2.mono hb1.size)
    have HO1' := Lib.hid (HO1.out.below hb2)
    clear ho2
    go_wp2_with fail
    refine (sameStays_any A1 A2 N cap1 cap2 L _ (HO1'.out.rd scs_ok) (HO2.out.rd scs_ok) HN.out (by omega)).mono ?_
    rintro e w3 ⟨rfl, hb3⟩
    have h13 := h12.trans (hb3.mono h12.size)
    go_wp2_with fail
    refine (awake_any _).mono ?_
    rintro e w5 ⟨rfl, hb5⟩
    go_wp2_with fail
    go_ret
    exact ⟨rfl, h13.trans (hb5.mono h13.size)⟩
end Go.Proofs.Ytojadmccenkffaa
