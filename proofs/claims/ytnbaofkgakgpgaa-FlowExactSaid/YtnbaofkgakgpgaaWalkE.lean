/- The walks of Reach and Spins of the program. -/
import Derived.Test.YtnbaofkgakgpgaaWalkD
import Derived.Deep.RegionHeld3
import Derived.Deep.RegionWith
namespace Go.Proofs.Ytnbaofkgakgpgaa
open Go.RowKit

def ReachPost (w : World) (I : Fl.Rt) (e : Ending) (w' : World) : Prop :=
  ∃ g, e = .returned (.slice (some ⟨g, 0, none⟩) I.length I.length) ∧ OwnB w' w.heap.size g I.length (Fl.reachL I) ∧ Below w.heap.size w w'

set_option maxHeartbeats 400000 in
theorem reach_any (s : ByteArray) (p q : Int) (A : Option Addr) (cap : Nat) (I : Fl.Rt) (w : World) (hn : I.length ≤ 4398046511104) (hc : CodeAt w w.heap.size A I) :
    Calls Try.prog 22 #[.agg #[.string s, .int .i64 p, .int .i64 q, .slice A I.length cap]] w (ReachPost w I) := by
  have hb : Below w.heap.size w ((w.alloc (box s p q A I.length cap)).alloc (.cells #[.int .i64 0] 3)) := ((Below.refl _ _).alloc (Nat.le_refl _) _).alloc (by simp) _
  go_enter Try.func22, Try.ntmps22
  go_wp2_with fail
  refine (spread_any s p q A cap I _ 1 [0] false _ hn ?_ (by simp) ?_).mono ?_
  · exact (hc.below hb).more (by simp; omega)
  · intro _
    exact ⟨w.heap.size + 1, 0, rfl, by simp, fun k hk => by
      have : k = 0 := by simpa using hk
      subst this
      simp [World.cell?_alloc_at]⟩
  rintro e w1 ⟨g, S, rfl, hS, hsea, hb1⟩
  go_wp2_with fail
  go_ret
  rw [Fl.reach_done hsea] at hS
  exact ⟨g, rfl, hS.mono hb.size, hb.trans (hb1.mono hb.size)⟩

def SpinsPost (w : World) (I : Fl.Rt) (e : Ending) (w' : World) : Prop := NextPost w (Fl.spinsL I) e w'

set_option maxHeartbeats 1000000 in
theorem spins_any (s : ByteArray) (p q : Int) (A : Option Addr) (cap : Nat) (I : Fl.Rt) (w : World) (hn : I.length ≤ 4398046511104) (hc : CodeAt w w.heap.size A I) :
    Calls Try.prog 16 #[.agg #[.string s, .int .i64 p, .int .i64 q, .slice A I.length cap]] w (NextPost w (Fl.spinsL I)) := by
  obtain ⟨i0, hi, hz0, hz1, hz2⟩ := info_parts Try.info3
  have hb : Below w.heap.size w (w.alloc (box s p q A I.length cap)) := (Below.refl _ _).alloc (Nat.le_refl _) _
  go_enter Try.func16, Try.ntmps16
  go_wp2_with fail
  refine (reach_any s p q A cap I _ hn ?_).mono ?_
  · exact (hc.below hb).more (by simp)
  rintro e w1 ⟨g, rfl, hS, hb1⟩
  simp only [World.size_alloc] at hb1 hS
  clear hb
  go_wp2_with fail
  go_loopw [3, 9] (fun v i wr => ∃ (k : Nat) (A' : Option Addr) (cap' : Nat), k ≤ I.length ∧ i = .int .i64 k ∧ v = .slice A' (Fl.spinTo I k).length cap' ∧ Own wr (w.heap.size + 1) A' cap' (Fl.spinTo I k) ∧ OwnB wr (w.heap.size + 1) g I.length (Fl.reachL I) ∧ Below (w.heap.size + 1) (w.alloc (box s p q A I.length cap)) wr)
    (fun _ i _ => I.length - (intOf i).toNat)
  case atStart => exact ⟨0, none, 0, Nat.zero_le _, rfl, rfl, Own.nil _ _, hS, hb1⟩
  case round =>
    clear hS hb1
    obtain ⟨k, A', cap', hk, rfl, rfl, hown, hS, hbel⟩ := hrel
    have hszr : w.heap.size + 1 ≤ wr.heap.size := by have := hbel.size; simpa using this
    have hltr : w.heap.size < wr.heap.size := hszr
    by_cases hlt : k < I.length
    · obtain ⟨c0, c1, c2, c3⟩ := box_cells (Nat.lt_succ_self _) hbel
      have hlen := Fl.spinTo_len I k
      have hcS := hS.cell (k := k) (by rw [Fl.reachL_len]; exact hlt)
      obtain ⟨rb, hrb⟩ : ∃ rb, rb = (Fl.reachL I).getD k false := ⟨_, rfl⟩
      rw [← hrb] at hcS
      have hst : Fl.spinTo I (k + 1) = Fl.spinTo I k ++ if rb && Fl.spinsB I k then [(k : Int)] else [] := by rw [Fl.spinTo, hrb]
      have HR := Lib.hid hrb
      clear hrb
      have HS := Lib.hid hst
      clear hst
      generalize hO : Fl.spinTo I k = O at *
      clear hO
      cases rb with
      | false =>
        go_wp2_with fail
        go_roundw
        case rel => exact ⟨k + 1, A', cap', by omega, by go_num, by rw [HS.out]; simp, by rw [HS.out]; simpa using hown, hS, hbel⟩
        case measure => simp [intOf]; omega
      | true =>
        obtain ⟨bc, off, rfl, hbc, hcode⟩ := hc (by omega)
        obtain ⟨cs, h1, h2, h3, h4, h5⟩ := hcode k hlt
        have hr : wr.rangeAt bc (off + k * 20) cs.toList := fun j v hj => ((below_box hbel).cell (p := ⟨bc, off + k * 20 + j, none⟩) hbc).trans (h5 j v hj)
        have H1 := Lib.hid h1
        clear h1 h2 h4 h5
        go_wp2_with ((with_reducible refine at_op (d := some 21) (op := .load 39 (.tmp 20)) ?_); refine wpList_loadg rfl 39 (.tmp 20) rfl bc (off + k * 20) rfl cs _ hr Try.underlying39 rfl (by rw [Try.size39, H1.out]) ?_)
        refine (pauses_any cs _ h3 _).mono ?_
        rintro e w1 ⟨rfl, hb1⟩
        clear hr h3
        have hbel1 := hbel.trans (hb1.mono hszr)
        obtain ⟨c0, c1, c2', c3⟩ := box_cells (Nat.lt_succ_self _) hbel1
        have hS1 := hS.below hb1
        have hO1 := hown.below hb1
        have hsz1' := hb1.size
        obtain ⟨pb, hpb⟩ : ∃ pb, pb = Fl.pz (Fl.opOf I k) := ⟨_, rfl⟩
        rw [← hpb]
        have HP := Lib.hid hpb
        clear hpb
        cases pb with
        | true =>
          go_wp2_with fail
          go_roundw
          case rel =>
            have hsb : Fl.spinsB I k = false := by unfold Fl.spinsB; rw [← HP.out]; rfl
            exact ⟨k + 1, A', cap', by omega, by go_num, by rw [HS.out, hsb]; simp, by rw [HS.out, hsb]; simpa using hO1, hS1, hbel1⟩
          case measure => simp [intOf]; omega
        | false =>
          go_wp2_with fail
          have hbelD := hbel1.drew
          have hcD : CodeAt w1.drew w1.drew.heap.size (some ⟨bc, off, none⟩) I := (hc.below (below_box hbelD)).more (below_box hbelD).size
          have hszD : w.heap.size + 1 ≤ w1.drew.heap.size := by show _ ≤ w1.heap.size; omega
          have hnl := Fl.nextL_len I k
          obtain ⟨sp, hsp⟩ : ∃ sp, sp = Fl.spinsB I k := ⟨_, rfl⟩
          have HSP := Lib.hid hsp
          clear hsp
          have hklen : k < I.length := hlt
          go_region_with (first
              | (go_at_call 14; refine (next_any s p q (some ⟨bc, off, none⟩) cap I k w1.drew (by omega) hcD).mono ?_; rintro e w3 ⟨A5, cap5, rfl, ho5, hb5⟩; have hbel3 := hbelD.trans (hb5.mono hszD); have hsz3 : w.heap.size + 1 ≤ w3.heap.size := (by have := hbel3.size; simpa using this); obtain ⟨d0, d1, d2, d3⟩ := box_cells (Nat.lt_succ_self _) hbel3)
              | (go_at_call 27; refine (spread_any s p q (some ⟨bc, off, none⟩) cap I A5 cap5 (Fl.nextL I k) true w3 hn ((hc.below (below_box hbel3)).more (below_box hbel3).size) (by omega) ho5.ints).mono ?_; rintro e w4 ⟨g4, S4, rfl, hS4, hsea4, hb4⟩; have hbel4 := hbel3.trans (hb4.mono hsz3); have hcell4 := hS4.cell (k := k) (by rw [hsea4.len]; exact hklen); rw [Fl.spin_done hsea4 (Fl.only_next I k) HP.out.symm, ← HSP.out] at hcell4))
          all_goals
            have hb14 : Below w1.heap.size w1 w4 := ((Below.refl _ w1).drew.trans hb5).trans (hb4.mono hb5.size)
            have hS5 := hS1.below hb14
            have hO5 := hO1.below hb14
            have hsz4 : w.heap.size + 1 ≤ w4.heap.size := by have := hbel4.size; simpa using this
            clear hS4 hb14 hS1 hO1 hb5 hb4 hsea4 hcell4
            cases sp with
            | false =>
              go_wp2_with fail
              go_roundw
              case rel => exact ⟨k + 1, A', cap', by omega, by go_num, by rw [HS.out, ← HSP.out]; simp, by rw [HS.out, ← HSP.out]; simpa using hO5, hS5, hbel4⟩
              case measure => simp [intOf]; omega
            | true =>
              go_wp2_with (at_builtin; refine wpList_append_own _ rfl (.tmp 32) (.tmp 34) _ rfl (w.heap.size + 1) 3 i0 (.int .i64 0) 1 8 Try.underlying35 hi hz0 hz1 hz2 rfl (by decide) _ _ _ rfl (hO5.alloc _) ⟨w4.heap.size, 0, none⟩ 1 1 [.int .i64 (k : Int)] rfl rfl (cell_one _ _ _) (one_int _ _) (by unfold maxLen; omega) (by omega) (by simp; omega) ?_; intro v2 w6 hown2 hgrow2 _)
              have hS6 := World.ownsRow.kept (World.ownsRow.alloc hS5 (.cells #[.int .i64 (k : Int)] 3)) hgrow2 (.inr fun e => own_apart hS5 hO5 e.symm)
              obtain ⟨A2, cap2, hv2, ho2, hb2⟩ := own_push (x := (k : Int)) hO5 hbel4 hsz4 rfl hown2 hgrow2
              go_roundw
              case rel => exact ⟨k + 1, A2, cap2, by omega, by go_num, by rw [HS.out, ← HSP.out]; exact hv2, by rw [HS.out, ← HSP.out]; exact ho2, hS6, hb2⟩
              case measure => simp [intOf]; omega
    · have : k = I.length := by omega
      subst this
      go_wp2_with fail
      go_ret
      exact ⟨_, _, rfl, hown.mono (Nat.le_succ _), below_box hbel⟩
end Go.Proofs.Ytnbaofkgakgpgaa
