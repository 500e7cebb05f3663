/- The walks of the reference's Reach, spins and Spins. -/
import Derived.Test.YtnbaofkgakgpgaaRefF
namespace Go.Proofs.Ytnbaofkgakgpgaa
open Go.RowKit

set_option maxHeartbeats 1000000 in
theorem rreach_any (s : ByteArray) (p q : Int) (A : Option Addr) (cap : Nat) (I : Fl.Rt) (w : World) (hn : I.length ≤ 4398046511104) (hc : CodeAt w w.heap.size A I) :
    Calls Try.prog 19 #[.agg #[.string s, .int .i64 p, .int .i64 q, .slice A I.length cap]] w (ReachPost w I) := by
  obtain ⟨i4, hi4, hy0, hy1, hy2⟩ := info_parts Try.info4
  have hd1 : decide (I.length < 0) = false := by simp
  have hd2 : decide ((I.length : Int) < 0) = false := by simp
  go_enter Try.func19, Try.ntmps19
  go_wp2_with (at_make; refine wpList_make_full _ rfl _ _ 44 rfl (w.heap.size + 1) 4 i4 (.bool false) 1 Try.underlying44 hi4 hy0 hy1 _ _ _ _ I.length rfl rfl rfl rfl ?_ ?_ ?_ ?_)
  · rw [hy2]; omega
  · unfold maxLen; omega
  · simp
  intro w1 hs1 hg1
  have hb1 : Below (w.heap.size + 1) (w.alloc (box s p q A I.length cap)) w1 := (Below.refl _ _).grown hg1 (by simp) (by simp)
  have hsz1 : w.heap.size + 1 ≤ w1.heap.size := by have := hb1.size; simpa using this
  have hS1 : OwnB w1 (w.heap.size + 1) (w.heap.size + 1) I.length (List.replicate I.length false) := by
    unfold OwnB
    rw [toList_madeCells_one] at hs1
    simpa using hs1
  clear hs1 hg1
  have hgl : w.heap.size + 1 ≤ w.heap.size + 1 := Nat.le_refl _
  obtain ⟨c0, c1, c2, c3⟩ := box_cells (Nat.lt_succ_self _) hb1
  by_cases hz : I.length = 0
  · have hz0 : Fl.reach0 I.length = List.replicate I.length false := by unfold Fl.reach0; rw [if_neg (show ¬ 0 < I.length by omega), hz]; rfl
    have hz1 : decide (0 < I.length) = false := decide_eq_false (by omega)
    rw [← hz0] at hS1
    have hz2 : ¬ 0 < I.length := by omega
    clear hz0 hz
    go_wp2_with fail
    refine (rspread_any s p q A cap I (w.heap.size + 1) (w.heap.size + 1) I.length (Fl.reach0 I.length) false _ hn hsz1 ((hc.below (below_box hb1)).more (by omega)) hS1 (Fl.reach0_len _)).mono ?_
    rintro e w2 ⟨rfl, hS2, hg2⟩
    go_wp2_with fail
    go_ret
    exact ⟨w.heap.size + 1, rfl, hS2.mono (by omega), below_box (hb1.trans (below_of_grown hg2 hsz1 hgl))⟩
  · have hz0 : Fl.reach0 I.length = (List.replicate I.length false).set 0 true := by unfold Fl.reach0; rw [if_pos (show 0 < I.length by omega)]
    have hz1 : decide (0 < I.length) = true := decide_eq_true (by omega)
    have hcf := hS1.cell (k := 0) (by simp; omega)
    have hff := hS1.free 0
    have hst := hS1.store 0 true
    rw [← hz0] at hst
    have hf7 := hS1.lt.2
    have hS2 := Lib.hid hst.1
    have hG2 := Lib.hid (below_of_grown hst.2 (B := w.heap.size + 1) hsz1 hgl)
    clear hst hz0 hS1
    have hpos : 0 < I.length := by omega
    have hcc : CodeAt w1 (w.heap.size + 1) A I := (hc.below (below_box hb1)).more (by omega)
    have HC := Lib.hid hcc
    clear hcc
    go_wp2_with fail
    refine (rspread_any s p q A cap I (w.heap.size + 1) (w.heap.size + 1) I.length (Fl.reach0 I.length) false _ hn (by simpa using hsz1) (HC.out.below hG2.out) hS2.out (Fl.reach0_len _)).mono ?_
    rintro e w2 ⟨rfl, hS3, hg2⟩
    go_wp2_with fail
    go_ret
    exact ⟨w.heap.size + 1, rfl, hS3.mono (by omega), below_box (hb1.trans (hG2.out.trans (below_of_grown hg2 (by simpa using hsz1) hgl)))⟩

def RSpinPost (w : World) (I : Fl.Rt) (i : Nat) (e : Ending) (w' : World) : Prop := e = .returned (.bool (Fl.spinsB I i)) ∧ Below w.heap.size w w'
set_option maxHeartbeats 1000000 in
theorem rspin_any (s : ByteArray) (p q : Int) (A : Option Addr) (cap : Nat) (I : Fl.Rt) (i : Nat) (w : World) (hn : I.length ≤ 4398046511104) (hc : CodeAt w w.heap.size A I) (hilt : i < I.length) :
    Calls Try.prog 28 #[.agg #[.string s, .int .i64 p, .int .i64 q, .slice A I.length cap], .int .i64 i] w (RSpinPost w I i) := by
  obtain ⟨i4, hi4, hy0, hy1, hy2⟩ := info_parts Try.info4
  obtain ⟨bc, off, rfl, hbc, hcode⟩ := hc (by omega)
  obtain ⟨cs, h1, h2, h3, h4, h5⟩ := hcode i hilt
  have hr : (w.alloc (box s p q (some ⟨bc, off, none⟩) I.length cap)).rangeAt bc (off + i * 20) cs.toList := fun j v hj => ((World.cell?_alloc_past _ _ _ hbc).trans (h5 j v hj))
  have hd3 : decide ((i : Int) < 0) = false := by simp
  have hd4 : decide (I.length ≤ i) = false := by simp; omega
  have hd5 : decide ((I.length : Int) ≤ (i : Int)) = false := by simp; omega
  have H1 := Lib.hid h1
  clear h1 h2 h4 h5 hcode
  cases hpz : Fl.pz (Fl.opOf I i) with
  | true =>
    have hsp : Fl.spinsB I i = false := by unfold Fl.spinsB; rw [hpz]; rfl
    have HSP := Lib.hid hsp
    clear hsp
    go_enter Try.func28, Try.ntmps28
    go_wp2_with ((with_reducible refine at_op (d := some 12) (op := .load 39 (.tmp 11)) ?_); refine wpList_loadg rfl 39 (.tmp 11) rfl bc (off + i * 20) rfl cs _ hr Try.underlying39 rfl (by rw [Try.size39, H1.out]) ?_)
    refine (rpauses_is cs _ true h3 hpz _).mono ?_
    rintro e w5 ⟨rfl, hb5⟩
    go_wp2_with fail
    go_ret
    exact ⟨by rw [HSP.out]; rfl, below_box (hb5.mono (by simp))⟩
  | false =>
    have hsp : Fl.spinsB I i = (Fl.after I i).getD i false := by unfold Fl.spinsB; rw [hpz]; rfl
    have HSP := Lib.hid hsp
    clear hsp
    have hd1 : decide (I.length < 0) = false := by simp
    have hd2 : decide ((I.length : Int) < 0) = false := by simp
    go_enter Try.func28, Try.ntmps28
    go_wp2_with ((with_reducible refine at_op (d := some 12) (op := .load 39 (.tmp 11)) ?_); refine wpList_loadg rfl 39 (.tmp 11) rfl bc (off + i * 20) rfl cs _ hr Try.underlying39 rfl (by rw [Try.size39, H1.out]) ?_)
    refine (rpauses_is cs _ false h3 hpz _).mono ?_
    rintro e w5 ⟨rfl, hb5⟩
    have hb0 : Below (w.heap.size + 1) (w.alloc (box s p q (some ⟨bc, off, none⟩) I.length cap)) w5 := hb5.mono (by simp)
    have hsz0 : w.heap.size + 1 ≤ w5.heap.size := by have := hb0.size; simpa using this
    obtain ⟨c0, c1, c2, c3⟩ := box_cells (Nat.lt_succ_self _) hb0
    clear hr h3 hb5
    go_wp2_with (at_make; refine wpList_make_full _ rfl _ _ 44 rfl (w.heap.size + 1) 4 i4 (.bool false) 1 Try.underlying44 hi4 hy0 hy1 _ _ _ _ I.length rfl rfl rfl rfl ?_ ?_ ?_ ?_)
    · rw [hy2]; omega
    · unfold maxLen; omega
    · exact hsz0
    intro w1 hs1 hg1
    have hb1 := hb0.grown hg1 hsz0 (by simp)
    have hsz1 : w.heap.size + 1 ≤ w1.heap.size := by have := hb1.size; simpa using this
    have hS1 : OwnB w1 (w.heap.size + 1) w5.heap.size I.length (List.replicate I.length false) := by
      unfold OwnB
      rw [toList_madeCells_one] at hs1
      simpa using hs1
    clear hs1 hg1 c0 c1 c2 c3 hb0
    generalize hgg : w5.heap.size = g at *
    clear hgg
    obtain ⟨c0, c1, c2, c3⟩ := box_cells (Nat.lt_succ_self _) hb1
    go_wp2_with fail
    refine (rnext_any s p q (some ⟨bc, off, none⟩) cap I i _ (by omega) ((hc.below (below_box hb1)).more (by omega))).mono ?_
    rintro e w3 ⟨A5, cap5, rfl, ho5, hb5⟩
    have hF3 := hS1.below hb5
    have hb3 := hb1.trans (hb5.mono hsz1)
    have ho6 := ho5.mono hsz1
    have hsz3 : w.heap.size + 1 ≤ w3.heap.size := by have := hb3.size; simpa using this
    clear hS1 hb1 hb5 c0 c1 c2 c3 ho5
    go_wp2_with fail
    have hnl := Fl.nextL_len I i
    have HM := Lib.hid (fun m (hm : m < (Fl.nextL I i).length) => next_nat (I := I) (i := i) hm)
    have haf : Fl.after I i = Fl.rspread I true (Fl.markTo (List.replicate I.length false) (Fl.nextL I i) (Fl.nextL I i).length) := rfl
    obtain ⟨L, hL⟩ : ∃ L, L = Fl.nextL I i := ⟨_, rfl⟩
    rw [← hL] at ho6 hnl HM haf ⊢
    have HL := Lib.hid hL
    have HAF := Lib.hid haf
    clear hL haf
    go_loopw [7] (fun v wi => ∃ m : Nat, m ≤ L.length ∧ v = .int .i64 m ∧ OwnB wi (w.heap.size + 1) g I.length (Fl.markTo (List.replicate I.length false) L m) ∧ Own wi (w.heap.size + 1) A5 cap5 L ∧ Below (w.heap.size + 1) (w.alloc (box s p q (some ⟨bc, off, none⟩) I.length cap)) wi)
      (fun v _ => L.length - (intOf v).toNat)
    case atStart => exact ⟨0, Nat.zero_le _, rfl, hF3, ho6, hb3⟩
    case round =>
      clear hF3 ho6 hb3
      obtain ⟨m, hm, rfl, hF4, ho4, hb4⟩ := hrel
      have hml := Fl.markTo_len (List.replicate I.length false) L m
      rw [List.length_replicate] at hml
      by_cases hmlt : m < L.length
      · obtain ⟨g6, rfl, hg6l, hg6r, hc6⟩ := ho4.cell (by omega)
        obtain ⟨j, hj, hjl⟩ := HM.out m hmlt
        have hcm := hc6 m hmlt
        rw [hj] at hcm
        have hmk : Fl.markTo (List.replicate I.length false) L (m + 1) = (Fl.markTo (List.replicate I.length false) L m).set j true := by rw [Fl.markTo, hj]; simp
        have hcf := hF4.cell (k := j) (by rw [hml]; exact hjl)
        have hff := hF4.free j
        have hst := hF4.store j true
        rw [← hmk] at hst
        have HF := Lib.hid hst.1
        have HO := Lib.hid (ho4.grown hF4 hst.2)
        have HG := Lib.hid (hb4.setCell (p := ⟨g, j, none⟩) hF4.lt.1 (.bool true))
        have hd6 : decide ((j : Int) < 0) = false := by simp
        have hd7 : decide (I.length ≤ j) = false := by simp; omega
        have hf7 := hF4.lt.2
        clear hj hc6 hmk hml hst hF4 ho4 hb4
        go_wp2_with fail
        go_roundw
        case rel => exact ⟨m + 1, by omega, by go_num, HF.out, HO.out, HG.out⟩
        case measure => simp [intOf]; omega
      · obtain rfl : m = L.length := by omega
        have hsz4 : w.heap.size + 1 ≤ wr.heap.size := by have := hb4.size; simpa using this
        obtain ⟨c0, c1, c2, c3⟩ := box_cells (Nat.lt_succ_self _) hb4
        have HB4 := Lib.hid hb4
        have HC4 := Lib.hid ((hc.below (below_box hb4)).more (Nat.le_succ _))
        have HF4 := Lib.hid hF4
        have hg4 := hF4.lt.1
        clear hb4 hF4
        go_wp2_with fail
        refine (rspread_any s p q (some ⟨bc, off, none⟩) cap I (w.heap.size + 1) g _ _ true _ hn hsz4 HC4.out HF4.out hml).mono ?_
        rintro e w6 ⟨rfl, hS6, hg6⟩
        rw [← HAF.out] at hS6
        have hcx := hS6.cell (k := i) (by rw [Fl.after_len]; exact hilt)
        rw [← HSP.out] at hcx
        go_wp2_with fail
        go_ret
        exact ⟨rfl, below_box (HB4.out.trans (below_of_grown hg6 hsz4 hg4))⟩
end Go.Proofs.Ytnbaofkgakgpgaa
