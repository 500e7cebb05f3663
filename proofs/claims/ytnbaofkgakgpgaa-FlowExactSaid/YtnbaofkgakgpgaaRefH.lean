/- The walk of the reference's Spins. -/
import Derived.Test.YtnbaofkgakgpgaaRefG
namespace Go.Proofs.Ytnbaofkgakgpgaa
open Go.RowKit

set_option maxHeartbeats 1000000 in
theorem rspins_any (s : ByteArray) (p q : Int) (A : Option Addr) (cap : Nat) (I : Fl.Rt) (w : World) (hn : I.length ≤ 4398046511104) (hc : CodeAt w w.heap.size A I) :
    Calls Try.prog 17 #[.agg #[.string s, .int .i64 p, .int .i64 q, .slice A I.length cap]] w (NextPost w (Fl.spinsL I)) := by
  obtain ⟨i0, hi, hz0, hz1, hz2⟩ := info_parts Try.info3
  have hb : Below w.heap.size w (w.alloc (box s p q A I.length cap)) := (Below.refl _ _).alloc (Nat.le_refl _) _
  go_enter Try.func17, Try.ntmps17
  go_wp2_with fail
  refine (rreach_any s p q A cap I _ hn ?_).mono ?_
  · exact (hc.below hb).more (by simp)
  rintro e w1 ⟨g, rfl, hS, hb1⟩
  simp only [World.size_alloc] at hb1 hS
  clear hb
  go_wp2_with fail
  go_loopw [3, 5] (fun v i wr => ∃ (k : Nat) (A' : Option Addr) (cap' : Nat), k ≤ I.length ∧ i = .int .i64 k ∧ v = .slice A' (Fl.spinTo I k).length cap' ∧ Own wr (w.heap.size + 1) A' cap' (Fl.spinTo I k) ∧ OwnB wr (w.heap.size + 1) g I.length (Fl.reachL I) ∧ Below (w.heap.size + 1) (w.alloc (box s p q A I.length cap)) wr)
    (fun _ i _ => I.length - (intOf i).toNat)
  case atStart => exact ⟨0, none, 0, Nat.zero_le _, rfl, rfl, Own.nil _ _, hS, hb1⟩
  case round =>
    clear hS hb1
    obtain ⟨k, A', cap', hk, rfl, rfl, hown, hS, hbel⟩ := hrel
    have hszr : w.heap.size + 1 ≤ wr.heap.size := by have := hbel.size; simpa using this
    by_cases hlt : k < I.length
    · obtain ⟨c0, c1, c2, c3⟩ := box_cells (Nat.lt_succ_self _) hbel
      have hlen := Fl.spinTo_len I k
      have hcS := hS.cell (k := k) (by rw [Fl.reachL_len]; exact hlt)
      obtain ⟨rb, hrb⟩ : ∃ rb, rb = (Fl.reachL I).getD k false := ⟨_, rfl⟩
      rw [← hrb] at hcS
      have hst : Fl.spinTo I (k + 1) = Fl.spinTo I k ++ if rb && Fl.spinsB I k then [(k : Int)] else [] := by rw [Fl.spinTo, hrb]
      have HR := Lib.hid hrb
      clear hrb
      have HS := Lib.hid hst
      clear hst
      generalize hO : Fl.spinTo I k = O at *
      clear hO
      cases rb with
      | false =>
        go_wp2_with fail
        go_roundw
        case rel => exact ⟨k + 1, A', cap', by omega, by go_num, by rw [HS.out]; simp, by rw [HS.out]; simpa using hown, hS, hbel⟩
        case measure => simp [intOf]; omega
      | true =>
        go_wp2_with fail
        refine (rspin_any s p q A cap I k _ hn ((hc.below (below_box hbel)).more (by omega)) hlt).mono ?_
        rintro e w4 ⟨rfl, hb4⟩
        obtain ⟨sp, hsp⟩ : ∃ sp, sp = Fl.spinsB I k := ⟨_, rfl⟩
        rw [← hsp]
        have HSP := Lib.hid hsp
        clear hsp
        have hS5 := hS.below hb4
        have hO5 := hown.below hb4
        have hbel4 := hbel.trans (hb4.mono hszr)
        have hsz4 : w.heap.size + 1 ≤ w4.heap.size := by have := hbel4.size; simpa using this
        clear hS hown hbel hb4 c0 c1 c2 c3 hcS
        cases sp with
        | false =>
          go_wp2_with fail
          go_roundw
          case rel => exact ⟨k + 1, A', cap', by omega, by go_num, by rw [HS.out, ← HSP.out]; simp, by rw [HS.out, ← HSP.out]; simpa using hO5, hS5, hbel4⟩
          case measure => simp [intOf]; omega
        | true =>
          go_wp2_with (at_builtin; refine wpList_append_own _ rfl (.tmp 23) (.tmp 25) _ rfl (w.heap.size + 1) 3 i0 (.int .i64 0) 1 8 Try.underlying35 hi hz0 hz1 hz2 rfl (by decide) _ _ _ rfl (hO5.alloc _) ⟨w4.heap.size, 0, none⟩ 1 1 [.int .i64 (k : Int)] rfl rfl (cell_one _ _ _) (one_int _ _) (by unfold maxLen; omega) (by omega) (by simp; omega) ?_; intro v2 w6 hown2 hgrow2 _)
          have hS6 := World.ownsRow.kept (World.ownsRow.alloc hS5 (.cells #[.int .i64 (k : Int)] 3)) hgrow2 (.inr fun e => own_apart hS5 hO5 e.symm)
          obtain ⟨A2, cap2, hv2, ho2, hb2⟩ := own_push (x := (k : Int)) hO5 hbel4 hsz4 rfl hown2 hgrow2
          go_roundw
          case rel => exact ⟨k + 1, A2, cap2, by omega, by go_num, by rw [HS.out, ← HSP.out]; exact hv2, by rw [HS.out, ← HSP.out]; exact ho2, hS6, hb2⟩
          case measure => simp [intOf]; omega
    · have : k = I.length := by omega
      subst this
      go_wp2_with fail
      go_ret
      exact ⟨_, _, rfl, hown.mono (Nat.le_succ _), below_box hbel⟩
end Go.Proofs.Ytnbaofkgakgpgaa
