/- The walk of the statement QueryBusy. -/
import Derived.Test.YtojadmccenkffaaWalkW
import Derived.Test.YtojadmccenkffaaWalkL
namespace Go.Proofs.Ytojadmccenkffaa
open Go.RowKit

set_option maxRecDepth 100000 in
set_option maxHeartbeats 1000000 in
theorem busyLaw_any (A : Option Addr) (cap : Nat) (l : List Qr.St) (site index : Int) (w : World) (hr : RdL scs 5 w w.heap.size A l) (hl : l.length ≤ maxLen) :
    Calls Try.prog 7 #[.slice A l.length cap, .int .i64 site, .int .i64 index] w (TruePost w) := by
  unfold maxLen at hl
  by_cases h2 : 200 < l.length
  · go_enter Try.func7, Try.ntmps7
    go_wp2_with fail
    refine (awake_any _).mono ?_
    rintro e w2 ⟨rfl, hb2⟩
    go_wp2_with fail
    go_ret
    exact ⟨rfl, hb2⟩
  · obtain ⟨N, hN⟩ : ∃ N, Qr.busy l site index = N := ⟨_, rfl⟩
    obtain ⟨M, hM⟩ : ∃ M, Qr.most l site index = M := ⟨_, rfl⟩
    have HN := Lib.hid hN
    have HM := Lib.hid hM
    have HM2 := Lib.hid (show Qr.rmost l site index = M by rw [Qr.rmost_eq]; exact hM)
    have HR := Lib.hid hr
    clear hN hM hr
    go_enter Try.func7, Try.ntmps7
    go_wp2_with fail
    refine (busy_any A cap l.length l site index _ HR.out rfl (by omega) N HN.out).mono ?_
    rintro e w1 ⟨rfl, hb1⟩
    go_wp2_with fail
    refine (rbusy_any A cap l.length l site index _ (HR.out.after hb1) rfl (by omega) N HN.out).mono ?_
    rintro e w2 ⟨rfl, hb2⟩
    have h12 := hb1.trans (hb2.mono hb1.size)
    go_wp2_with fail
    refine (most_any A cap l.length l site index _ (HR.out.after h12) rfl (by omega) M HM.out).mono ?_
    rintro e w3 ⟨rfl, hb3⟩
    have h13 := h12.trans (hb3.mono h12.size)
    go_wp2_with fail
    refine (rmost_any A cap l.length l site index _ (HR.out.after h13) rfl (by omega) M HM2.out).mono ?_
    rintro e w4 ⟨rfl, hb4⟩
    have h14 := h13.trans (hb4.mono h13.size)
    go_wp2_with fail
    refine (awake_any _).mono ?_
    rintro e w5 ⟨rfl, hb5⟩
    go_wp2_with fail
    go_ret
    exact ⟨rfl, h14.trans (hb5.mono h14.size)⟩
end Go.Proofs.Ytojadmccenkffaa
