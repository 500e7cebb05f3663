/- The walk of the statement FlowReaches. -/
import Derived.Test.YtnbaofkgakgpgaaRefH
namespace Go.Proofs.Ytnbaofkgakgpgaa
open Go.RowKit

set_option maxRecDepth 100000 in
set_option maxHeartbeats 1000000 in
theorem reaches_any (s : ByteArray) (p q : Int) (A : Option Addr) (cap : Nat) (I : Fl.Rt) (w : World) (hn : I.length ≤ 4398046511104) (hc : CodeAt w w.heap.size A I) :
    Calls Try.prog 4 #[.agg #[.string s, .int .i64 p, .int .i64 q, .slice A I.length cap]] w fun e w' => e = .returned (.bool true) ∧ Below w.heap.size w w' := by
  have hb : Below w.heap.size w (w.alloc (box s p q A I.length cap)) := (Below.refl _ _).alloc (Nat.le_refl _) _
  by_cases h60 : 60 < I.length
  · go_enter Try.func4, Try.ntmps4
    go_wp2_with fail
    refine (awake_any _).mono ?_
    rintro e w1 ⟨rfl, hb1⟩
    simp only [World.size_alloc] at hb1
    go_wp2_with fail
    go_ret
    exact ⟨rfl, below_box hb1⟩
  · go_enter Try.func4, Try.ntmps4
    go_wp2_with fail
    refine (reached_any s p q A cap I _ hn ((hc.below hb).more (by simp))).mono ?_
    rintro e w1 ⟨g, rfl, hS, hb1⟩
    simp only [World.size_alloc] at hb1 hS
    have hsz1 : w.heap.size + 1 ≤ w1.heap.size := by have := hb1.size; simpa using this
    obtain ⟨c0, c1, c2, c3⟩ := box_cells (Nat.lt_succ_self _) hb1
    go_wp2_with fail
    refine (rreach_any s p q A cap I _ hn ((hc.below (below_box hb1)).more (by omega))).mono ?_
    rintro e w2 ⟨f, rfl, hF2, hb2⟩
    have hF := hF2.mono hsz1
    have hS2 := hS.below hb2
    have hb3 := hb1.trans (hb2.mono hsz1)
    clear hS hb1 hb2 hF2 c0 c1 c2 c3
    go_wp2_with fail
    go_loopw [6] (fun v wi => ∃ j : Nat, j ≤ I.length ∧ v = .int .i64 j ∧ OwnB wi (w.heap.size + 1) f I.length (Fl.reachL I) ∧ OwnB wi (w.heap.size + 1) g I.length (Fl.reachL I) ∧ Below (w.heap.size + 1) (w.alloc (box s p q A I.length cap)) wi)
      (fun v _ => I.length - (intOf v).toNat)
    case atStart => exact ⟨0, by omega, rfl, hF, hS2, hb3⟩
    case round =>
      clear hF hS2 hb3
      obtain ⟨j, hj, rfl, hF, hS, hbel⟩ := hrel
      have hszr : w.heap.size + 1 ≤ wr.heap.size := by have := hbel.size; simpa using this
      by_cases hjl : j < I.length
      · have hcF := hF.cell (k := j) (by rw [Fl.reachL_len]; exact hjl)
        have hcS := hS.cell (k := j) (by rw [Fl.reachL_len]; exact hjl)
        obtain ⟨rj, hrj⟩ : ∃ rj, rj = (Fl.reachL I).getD j false := ⟨_, rfl⟩
        rw [← hrj] at hcF hcS
        clear hrj
        have hjk : (j : Int) < (I.length : Int) := by omega
        have HF := Lib.hid hF
        have HS := Lib.hid hS
        clear hF hS
        cases rj
        all_goals
          go_wp2_with fail
          go_quiet (fail)
          go_wp2_with fail
          go_roundw
          case rel => exact ⟨j + 1, by omega, by go_num, HF.out, HS.out, below_drewN' hbel _⟩
          case measure => simp [intOf]; omega
      · obtain rfl : j = I.length := by omega
        go_wp2_with fail
        refine (awake_any _).mono ?_
        rintro e w9 ⟨rfl, hb9⟩
        go_wp2_with fail
        go_ret
        exact ⟨rfl, below_box (hbel.trans (hb9.mono hszr))⟩
end Go.Proofs.Ytnbaofkgakgpgaa
