/- The walk of the reference's Longest. -/
import Derived.Test.YtnbaofkgakgpgaaRefH
namespace Go.Proofs.Ytnbaofkgakgpgaa
open Go.RowKit

theorem Own.stores {w : World} {B g cap : Nat} {l : List Int} (h : Own w B (some ⟨g, 0, none⟩) cap l) (k : Nat) (v : Int) :
    Own (w.setCell ⟨g, k, none⟩ (.int .i64 v)) B (some ⟨g, 0, none⟩) cap (l.set k v) ∧ w.grownBy (w.setCell ⟨g, k, none⟩ (.int .i64 v)) (some g) := by
  have := World.ownsRow.stored h k (.int .i64 v)
  refine ⟨?_, this.2⟩
  unfold Own
  rw [List.length_set, List.map_set]
  exact this.1
theorem ints_set (M : List Nat) (i v : Nat) : (ints M).set i (v : Int) = ints (M.set i v) := by unfold ints; rw [List.map_set]; rfl
theorem max_one (x : Nat) : (if (x : Int) < 1 then (1 : Int) else x) = ((max x 1 : Nat) : Int) := by split <;> omega
theorem max_two (x y : Nat) : (if (x : Int) < (y : Int) then (y : Int) else (x : Int)) = ((max x y : Nat) : Int) := by split <;> omega
theorem Own.keptOff {w w' : World} {B g cap g' : Nat} {l : List Int} (h : Own w B (some ⟨g, 0, none⟩) cap l) (hg : w.grownBy w' (some g')) (hne : g ≠ g') : Own w' B (some ⟨g, 0, none⟩) cap l :=
  World.ownsRow.kept h hg (.inr (by simpa [Value.ownBlock] using hne))
theorem Own.farOff {w w' : World} {B g' cap : Nat} {A : Option Addr} {l : List Int} (h : Own w B A cap l) (hg : w.grownBy w' (some g')) (hlt : g' < B) : Own w' B A cap l :=
  World.ownsRow.kept h hg (.inr (fun e => by
    have := (World.ownsRow.lt h g' (by rw [← e])).1
    omega))
set_option maxHeartbeats 4000000 in
theorem rlongest_any (s : ByteArray) (p q : Int) (A : Option Addr) (cap : Nat) (I : Fl.Rt) (w : World) (hn : I.length ≤ 4398046511104) (hc : CodeAt w w.heap.size A I) :
    Calls Try.prog 10 #[.agg #[.string s, .int .i64 p, .int .i64 q, .slice A I.length cap]] w (LongestPost w I) := by
  obtain ⟨i0, hi0, hz0, hz1, hz2⟩ := info_parts Try.info3
  have hb : Below w.heap.size w (w.alloc (box s p q A I.length cap)) := (Below.refl _ _).alloc (Nat.le_refl _) _
  go_enter Try.func10, Try.ntmps10
  go_wp2_with fail
  refine (rspins_any s p q A cap I _ hn ?_).mono ?_
  · exact (hc.below hb).more (by simp)
  rintro e w1 ⟨A1, cap1, rfl, ho1, hb1⟩
  simp only [World.size_alloc] at hb1 ho1
  obtain ⟨c0, c1, c2, c3⟩ := box_cells (Nat.lt_succ_self _) hb1
  have hsl := Fl.spinTo_len I I.length
  have hsz1 : w.heap.size + 1 ≤ w1.heap.size := by have := hb1.size; simpa using this
  by_cases hcalm : Fl.spinsL I = []
  · have hl0 : (Fl.spinsL I).length = 0 := by rw [hcalm]; rfl
    have HC := Lib.hid hcalm
    clear hcalm hsl
    rw [hl0]
    clear hl0 ho1
    go_wp2_with fail
    refine (rreach_any s p q A cap I _ hn ((hc.below (below_box hb1)).more (by omega))).mono ?_
    rintro e w2 ⟨gS, rfl, hS2, hb2⟩
    have hS := hS2.mono hsz1
    have hb3 := hb1.trans (hb2.mono hsz1)
    have hsz2 : w.heap.size + 1 ≤ w2.heap.size := by have := hb3.size; simpa using this
    clear hb1 hb2 hS2 c0 c1 c2 c3
    have hd1 : decide (I.length < 0) = false := by simp
    have hd2 : decide ((I.length : Int) < 0) = false := by simp
    go_wp2_with (at_make; refine wpList_make_full _ rfl _ _ 35 rfl (w.heap.size + 1) 3 i0 (.int .i64 0) 1 Try.underlying35 hi0 hz0 hz1 _ _ _ _ I.length rfl rfl rfl rfl ?_ ?_ ?_ ?_)
    · rw [hz2]; omega
    · unfold maxLen; omega
    · exact hsz2
    intro w4 hs4 hg4
    have hb4 := hb3.grown hg4 hsz2 (by simp)
    have hS4 : OwnB w4 (w.heap.size + 1) gS I.length (Fl.reachL I) := World.ownsRow.kept hS hg4 (.inr (by simp [Value.ownBlock]))
    have hF4 : Own w4 (w.heap.size + 1) (some ⟨w2.heap.size, 0, none⟩) I.length (ints (List.replicate I.length 0)) := by
      unfold Own
      rw [toList_madeCells_one] at hs4
      simpa [ints] using hs4
    have hgne : gS ≠ w2.heap.size := by have := hS.lt.2; omega
    clear hs4 hg4 hS hb3
    generalize w2.heap.size = g at *
    go_wp2_with fail
    go_loopw [6, 7] (fun v6 v7 wr => ∃ (r best : Nat) (far : List Nat), r ≤ I.length ∧ v7 = .int .i64 r ∧ v6 = .int .i64 best ∧ Fl.FarInv I r 0 far best ∧ OwnB wr (w.heap.size + 1) gS I.length (Fl.reachL I) ∧ Own wr (w.heap.size + 1) (some ⟨g, 0, none⟩) I.length (ints far) ∧ Below (w.heap.size + 1) (w.alloc (box s p q A I.length cap)) wr)
      (fun _ v _ => I.length - (intOf v).toNat)
    case atStart => exact ⟨0, 0, _, Nat.zero_le _, rfl, rfl, Fl.FarInv.init, hS4, hF4, hb4⟩
    case round =>
      clear hS4 hF4 hb4
      obtain ⟨r, best, far, hrl, rfl, rfl, hinv, hS, hF, hbel⟩ := hrel
      have HINV := Lib.hid hinv
      clear hinv
      by_cases hlt : r < I.length
      · go_wp2_with fail
        obtain ⟨wo, rfl⟩ : ∃ wo : World, wo = wr := ⟨_, rfl⟩
        go_loopw [6, 8] (fun v6 v8 wi => ∃ (i best : Nat) (far : List Nat), i ≤ I.length ∧ v8 = .int .i64 i ∧ v6 = .int .i64 best ∧ Fl.FarInv I r i far best ∧ OwnB wi (w.heap.size + 1) gS I.length (Fl.reachL I) ∧ Own wi (w.heap.size + 1) (some ⟨g, 0, none⟩) I.length (ints far) ∧ Below (w.heap.size + 1) (w.alloc (box s p q A I.length cap)) wi)
          (fun _ v _ => I.length - (intOf v).toNat)
        case atStart => exact ⟨0, best, far, Nat.zero_le _, rfl, rfl, HINV.out, hS, hF, hbel⟩
        case round =>
          clear hS hF hbel HINV
          obtain ⟨i, best, far, hil, rfl, rfl, hinv, hS, hF, hbel⟩ := hrel
          by_cases hilt : i < I.length
          · have hcS := hS.cell (k := i) (by rw [Fl.reachL_len]; exact hilt)
            cases hri : (Fl.reachL I).getD i false with
            | false =>
              rw [hri] at hcS
              have hnr : ¬ Fl.has (Fl.reachL I) i := by unfold Fl.has; rw [hri]; simp
              have HI2 := Lib.hid (hinv.pass hnr)
              clear hinv hnr hri
              go_wp2_with fail
              go_roundw
              case rel => exact ⟨i + 1, best, far, by omega, by go_num, rfl, HI2.out, hS, hF, hbel⟩
              case measure => simp [intOf]; omega
            | true =>
              rw [hri] at hcS
              have hr : Fl.has (Fl.reachL I) i := hri
              have hfl : far.length = I.length := hinv.len
              have hil2 : (ints far).length = I.length := by rw [ints, List.length_map, hfl]
              obtain ⟨_, hge, hgl, hgr, hcg⟩ := hF.cell (by omega)
              cases hge
              have hcx := hcg i (by omega)
              rw [ints_get] at hcx
              have hxi := hinv.hi i hr
              have hxl := Fl.lenOf_le HC.out hr
              obtain ⟨bc, off, rfl, hbc, hcode⟩ := hc (by omega)
              obtain ⟨cs, h1, h2, h3, h4, h5⟩ := hcode i hilt
              have H1 := Lib.hid h1
              have hd3 : decide ((i : Int) < 0) = false := by simp
              have hd4 : decide (I.length ≤ i) = false := by simp; omega
              have hd5 : decide ((I.length : Int) ≤ (i : Int)) = false := by simp; omega
              clear h1 h2 h4 hcode
              obtain ⟨c0, c1, c2, c3⟩ := box_cells (Nat.lt_succ_self _) hbel
              obtain ⟨x, hx⟩ : ∃ x, x = Fl.at0 far i := ⟨_, rfl⟩
              have HE := Lib.hid (hinv.enter hr)
              rw [← hx] at hcx hxi HE
              have HR := Lib.hid hr
              have hff := World.ownsRow.frozenAt hF i
              have HX := Lib.hid hx
              clear hx hinv hr hri hcg
              have H5 := Lib.hid h5
              clear h5
              by_cases hx1 : (x : Int) < 1
              · have h5 : Own (wr.setCell ⟨g, i, none⟩ (.int .i64 1)) (w.heap.size + 1) (some ⟨g, 0, none⟩) I.length (ints (far.set i (max x 1))) := by
                  have := (hF.stores i 1).1
                  rwa [show (ints far).set i 1 = ints (far.set i (max x 1)) from by rw [← ints_set]; congr 1; omega] at this
                have HS5 := Lib.hid (World.ownsRow.kept hS (hF.stores i 1).2 (.inr (by simpa [Value.ownBlock] using hgne)))
                have HF5 := Lib.hid h5
                have HB5 := Lib.hid (hbel.setCell (p := ⟨g, i, none⟩) hgr (.int .i64 1))
                have HCC := Lib.hid ((hc.below (below_box (HB5.out))).more (Nat.le_of_lt (show w.heap.size < (wr.setCell ⟨g, i, none⟩ (.int .i64 1)).heap.size by have := HB5.out.size; simp at this ⊢; omega)))
                clear h5 hS hF hbel
                go_wp2_with fail
                refine (rnext_any s p q (some ⟨bc, off, none⟩) cap I i _ (by omega) HCC.out).mono ?_
                rintro e w3 ⟨A5, cap5, rfl, ho5, hb5⟩
                have hS6 := OwnB.below HS5.out hb5
                have hF6 := Own.below HF5.out hb5
                have hbel6 := HB5.out.trans (hb5.mono (by have := HB5.out.size; simp at this ⊢; omega))
                have ho6 : Own w3 wr.heap.size A5 cap5 (Fl.nextL I i) := ho5.mono (by simp)
                have hgB : g < wr.heap.size := hgl
                clear hb5 ho5 hcx hff HS5 HF5 HB5 HCC c0 c1 c2 c3 hcS
                go_wp2_with fail
                have hnl := Fl.nextL_len I i
                have HM := Lib.hid (fun m (hm : m < (Fl.nextL I i).length) => next_nat (I := I) (i := i) hm)
                have HNX := Lib.hid (fun h : Fl.pz (Fl.opOf I i) = false => show Fl.nexts I i = Fl.nextL I i by unfold Fl.nexts; rw [h]; rfl)
                obtain ⟨L, hLL⟩ : ∃ L, L = Fl.nextL I i := ⟨_, rfl⟩
                rw [← hLL] at ho6 hnl HM HNX ⊢
                have HL := Lib.hid hLL
                clear hLL
                have hbx0 := hxi
                clear hxi
                obtain ⟨wp, rfl⟩ : ∃ wp : World, wp = wr := ⟨_, rfl⟩
                go_loopw [10] (fun v wi => ∃ (m : Nat) (far : List Nat), m ≤ (Fl.nexts I i).length ∧ v = .int .i64 m ∧ Fl.FarMid I r i m far best ∧ OwnB wi (w.heap.size + 1) gS I.length (Fl.reachL I) ∧ Own wi (w.heap.size + 1) (some ⟨g, 0, none⟩) I.length (ints far) ∧ Own wi wp.heap.size A5 cap5 L ∧ Below (w.heap.size + 1) (w.alloc (box s p q (some ⟨bc, off, none⟩) I.length cap)) wi)
                  (fun v _ => (Fl.nexts I i).length - (intOf v).toNat)
                case atStart => exact ⟨0, far.set i (max x 1), Nat.zero_le _, rfl, HE.out, hS6, hF6, ho6, hbel6⟩
                case round =>
                  clear hS6 hF6 ho6 hbel6 hgl hgr HE HX hil2 hfl hxl hbx0 hx1
                  obtain ⟨m, far, hm, rfl, hmid, hS, hF, hL, hbel⟩ := hrel
                  have HV := Lib.hid hmid
                  have hfl : (ints far).length = I.length := by rw [ints, List.length_map, hmid.len]
                  clear hmid
                  have hszr : w.heap.size + 1 ≤ wr.heap.size := by have := hbel.size; simpa using this
                  obtain ⟨_, hge, hgl, hgr, hcg⟩ := hF.cell (by omega)
                  cases hge
                  obtain ⟨c0, c1, c2, c3⟩ := box_cells (Nat.lt_succ_self _) hbel
                  have hr : wr.rangeAt bc (off + i * 20) cs.toList := fun j v hj => ((below_box hbel).cell (p := ⟨bc, off + i * 20 + j, none⟩) hbc).trans (H5.out j v hj)
                  by_cases hmL : m < L.length
                  · cases hpz : Fl.pz (Fl.opOf I i) with
                    | true =>
                      have HMX := Lib.hid (show m = (Fl.nexts I i).length by have : (Fl.nexts I i).length = 0 := by unfold Fl.nexts; rw [hpz]; rfl
                                                                             omega)
                      go_wp2_with ((with_reducible refine at_op (d := some 57) (op := .load 39 (.tmp 56)) ?_); refine wpList_loadg rfl 39 (.tmp 56) rfl bc (off + i * 20) rfl cs _ hr Try.underlying39 rfl (by rw [Try.size39, H1.out]) ?_)
                      refine (rpauses_is cs _ true h3 hpz _).mono ?_
                      rintro e w7 ⟨rfl, hb7⟩
                      have hcg7 : ∀ k, k < (ints far).length → w7.cell? ⟨g, k, none⟩ = some (.int .i64 ((ints far).getD k 0)) := fun k hk => (hb7.cell (p := ⟨g, k, none⟩) hgl).trans (hcg k hk)
                      have hS7 := hS.below hb7
                      have hF7 := hF.below hb7
                      have hbel7 := hbel.trans (hb7.mono hszr)
                      clear hS hF hL hbel hr h3 c0 c1 c2 c3 hcg hb7
                      have hS := hS7
                      have hF := hF7
                      have hbel := hbel7
                      have hcg := hcg7
                      clear hS7 hF7 hbel7 hcg7
                      have hxi := HV.out.hi i HR.out
                      have hcx := hcg i (by omega)
                      rw [ints_get] at hcx
                      have HLV := Lib.hid (by have := HV.out; rw [HMX.out] at this; exact this.leave HR.out)
                      obtain ⟨x, hx⟩ : ∃ x, x = Fl.at0 far i := ⟨_, rfl⟩
                      rw [← hx] at hcx hxi HLV
                      clear hx hcg
                      by_cases hbx : (best : Int) < (x : Int)
                      · go_wp2_with fail
                        go_roundw
                        case rel => exact ⟨i + 1, max best x, far, by omega, by go_num, by rw [show max best x = x by omega], HLV.out, hS, hF, hbel⟩
                        case measure => simp [intOf]; omega
                      · go_wp2_with fail
                        go_roundw
                        case rel => exact ⟨i + 1, max best x, far, by omega, by go_num, by rw [show max best x = best by omega], HLV.out, hS, hF, hbel⟩
                        case measure => simp [intOf]; omega
                    | false =>
                      obtain ⟨j, hj, hjl⟩ := HM.out m hmL
                      have hj' : (Fl.nexts I i).getD m 0 = (j : Int) := by rw [HNX.out hpz]; exact hj
                      have hjr : Fl.has (Fl.reachL I) j := Fl.reachL_step HR.out (by unfold Fl.Edge; rw [← hj, HL.out]; rw [List.getD_eq_getElem?_getD, List.getElem?_eq_getElem (by rw [← HL.out]; exact hmL)]; simp)
                      obtain ⟨g6, rfl, hg6l, hg6r, hc6⟩ := hL.cell (by omega)
                      have hcm := hc6 m hmL
                      rw [hj] at hcm
                      have hxi := HV.out.hi i HR.out
                      have hxl := Fl.lenOf_le HC.out HR.out
                      have hyi := HV.out.hi j hjr
                      have hyl := Fl.lenOf_le HC.out hjr
                      have hcx := hcg i (by omega)
                      rw [ints_get] at hcx
                      have hcy := hcg j (by omega)
                      rw [ints_get] at hcy
                      have hstep := HV.out.step HC.out HR.out (m := m) (by rw [HNX.out hpz]; exact hmL)
                      rw [hj', Int.toNat_natCast] at hstep
                      obtain ⟨x, hx⟩ : ∃ x, x = Fl.at0 far i := ⟨_, rfl⟩
                      obtain ⟨y, hy⟩ : ∃ y, y = Fl.at0 far j := ⟨_, rfl⟩
                      rw [← hx] at hcx hxi hstep
                      rw [← hy] at hcy hyi hstep
                      have HST := Lib.hid hstep
                      have hd6 : decide ((j : Int) < 0) = false := by simp
                      have hd7 : decide (I.length ≤ j) = false := by simp; omega
                      have hd8 : decide ((I.length : Int) ≤ (j : Int)) = false := by simp; omega
                      clear hx hy hj hj' hjr hc6 hcg hstep
                      go_wp2_with ((with_reducible refine at_op (d := some 57) (op := .load 39 (.tmp 56)) ?_); refine wpList_loadg rfl 39 (.tmp 56) rfl bc (off + i * 20) rfl cs _ hr Try.underlying39 rfl (by rw [Try.size39, H1.out]) ?_)
                      refine (rpauses_is cs _ false h3 hpz _).mono ?_
                      rintro e w7 ⟨rfl, hb7⟩
                      have hS7 := hS.below hb7
                      have hF7 := hF.below hb7
                      have hL7 := hL.below hb7
                      have hbel7 := hbel.trans (hb7.mono hszr)
                      have hcx7 := (hb7.cell (p := ⟨g, i, none⟩) hgl).trans hcx
                      have hcy7 := (hb7.cell (p := ⟨g, j, none⟩) hgl).trans hcy
                      have hcm7 := (hb7.cell (p := ⟨g6, m, none⟩) hg6l).trans hcm
                      have hff7 := World.ownsRow.frozenAt hF7 i
                      clear hS hF hL hbel hcx hcy hcm hr h3 c0 c1 c2 c3 hb7
                      go_wp2_with fail
                      have HS7 := Lib.hid hS7
                      have HF7 := Lib.hid hF7
                      have HL7 := Lib.hid hL7
                      have HB7 := Lib.hid hbel7
                      clear hS7 hF7 hL7 hbel7
                      by_cases hxy : (x : Int) < (y : Int) + 1
                      · have hstN : (ints far).set i ((y : Int) + 1) = ints (far.set i (max x (y + 1))) := by rw [← ints_set]; congr 1; omega
                        have HSN := Lib.hid hstN
                        clear hstN
                        go_region
                        all_goals
                          go_wp2_with fail
                          go_roundw
                          case rel =>
                            have hst := HF7.out.stores i ((y : Int) + 1)
                            rw [HSN.out] at hst
                            refine ⟨m + 1, far.set i (max x (y + 1)), by rw [HNX.out hpz]; omega, by go_num, HST.out, ?_, ?_, ?_, ?_⟩
                            · exact OwnB.below (World.ownsRow.kept HS7.out hst.2 (.inr (by simpa [Value.ownBlock] using hgne))) (Below.refl _ _).drew
                            · exact Own.below hst.1 (Below.refl _ _).drew
                            · exact Own.below (HL7.out.farOff hst.2 hgB) (Below.refl _ _).drew
                            · exact (HB7.out.setCell (p := ⟨g, i, none⟩) hgr _).drew
                          case measure => have hq := congrArg List.length (HNX.out hpz); simp [intOf]; omega
                      · have hstN : (ints far).set i (x : Int) = ints (far.set i (max x (y + 1))) := by rw [← ints_set]; congr 1; omega
                        have HSN := Lib.hid hstN
                        clear hstN
                        go_region
                        all_goals
                          go_wp2_with fail
                          go_roundw
                          case rel =>
                            have hst := HF7.out.stores i (x : Int)
                            rw [HSN.out] at hst
                            refine ⟨m + 1, far.set i (max x (y + 1)), by rw [HNX.out hpz]; omega, by go_num, HST.out, ?_, ?_, ?_, ?_⟩
                            · exact OwnB.below (World.ownsRow.kept HS7.out hst.2 (.inr (by simpa [Value.ownBlock] using hgne))) (Below.refl _ _).drew
                            · exact Own.below hst.1 (Below.refl _ _).drew
                            · exact Own.below (HL7.out.farOff hst.2 hgB) (Below.refl _ _).drew
                            · exact (HB7.out.setCell (p := ⟨g, i, none⟩) hgr _).drew
                          case measure => have hq := congrArg List.length (HNX.out hpz); simp [intOf]; omega
                  · have HMX := Lib.hid (show m = (Fl.nexts I i).length by
                      cases hpz : Fl.pz (Fl.opOf I i) with
                      | true =>
                        have : (Fl.nexts I i).length = 0 := by unfold Fl.nexts; rw [hpz]; rfl
                        omega
                      | false =>
                        have := congrArg List.length (HNX.out hpz)
                        omega)
                    clear hr h3 c0 c1 c2 c3 hL
                    have hxi := HV.out.hi i HR.out
                    have hcx := hcg i (by omega)
                    rw [ints_get] at hcx
                    have HLV := Lib.hid (by have := HV.out; rw [HMX.out] at this; exact this.leave HR.out)
                    obtain ⟨x, hx⟩ : ∃ x, x = Fl.at0 far i := ⟨_, rfl⟩
                    rw [← hx] at hcx hxi HLV
                    clear hx hcg
                    by_cases hbx : (best : Int) < (x : Int)
                    · go_wp2_with fail
                      go_roundw
                      case rel => exact ⟨i + 1, max best x, far, by omega, by go_num, by rw [show max best x = x by omega], HLV.out, hS, hF, hbel⟩
                      case measure => simp [intOf]; omega
                    · go_wp2_with fail
                      go_roundw
                      case rel => exact ⟨i + 1, max best x, far, by omega, by go_num, by rw [show max best x = best by omega], HLV.out, hS, hF, hbel⟩
                      case measure => simp [intOf]; omega
              · have h5 : Own (wr.setCell ⟨g, i, none⟩ (.int .i64 (x : Int))) (w.heap.size + 1) (some ⟨g, 0, none⟩) I.length (ints (far.set i (max x 1))) := by
                  have := (hF.stores i (x : Int)).1
                  rwa [show (ints far).set i (x : Int) = ints (far.set i (max x 1)) from by rw [← ints_set]; congr 1; omega] at this
                have HS5 := Lib.hid (World.ownsRow.kept hS (hF.stores i (x : Int)).2 (.inr (by simpa [Value.ownBlock] using hgne)))
                have HF5 := Lib.hid h5
                have HB5 := Lib.hid (hbel.setCell (p := ⟨g, i, none⟩) hgr (.int .i64 (x : Int)))
                have HCC := Lib.hid ((hc.below (below_box (HB5.out))).more (Nat.le_of_lt (show w.heap.size < (wr.setCell ⟨g, i, none⟩ (.int .i64 (x : Int))).heap.size by have := HB5.out.size; simp at this ⊢; omega)))
                clear h5 hS hF hbel
                go_wp2_with fail
                refine (rnext_any s p q (some ⟨bc, off, none⟩) cap I i _ (by omega) HCC.out).mono ?_
                rintro e w3 ⟨A5, cap5, rfl, ho5, hb5⟩
                have hS6 := OwnB.below HS5.out hb5
                have hF6 := Own.below HF5.out hb5
                have hbel6 := HB5.out.trans (hb5.mono (by have := HB5.out.size; simp at this ⊢; omega))
                have ho6 : Own w3 wr.heap.size A5 cap5 (Fl.nextL I i) := ho5.mono (by simp)
                have hgB : g < wr.heap.size := hgl
                clear hb5 ho5 hcx hff HS5 HF5 HB5 HCC c0 c1 c2 c3 hcS
                go_wp2_with fail
                have hnl := Fl.nextL_len I i
                have HM := Lib.hid (fun m (hm : m < (Fl.nextL I i).length) => next_nat (I := I) (i := i) hm)
                have HNX := Lib.hid (fun h : Fl.pz (Fl.opOf I i) = false => show Fl.nexts I i = Fl.nextL I i by unfold Fl.nexts; rw [h]; rfl)
                obtain ⟨L, hLL⟩ : ∃ L, L = Fl.nextL I i := ⟨_, rfl⟩
                rw [← hLL] at ho6 hnl HM HNX ⊢
                have HL := Lib.hid hLL
                clear hLL
                have hbx0 := hxi
                clear hxi
                obtain ⟨wp, rfl⟩ : ∃ wp : World, wp = wr := ⟨_, rfl⟩
                go_loopw [10] (fun v wi => ∃ (m : Nat) (far : List Nat), m ≤ (Fl.nexts I i).length ∧ v = .int .i64 m ∧ Fl.FarMid I r i m far best ∧ OwnB wi (w.heap.size + 1) gS I.length (Fl.reachL I) ∧ Own wi (w.heap.size + 1) (some ⟨g, 0, none⟩) I.length (ints far) ∧ Own wi wp.heap.size A5 cap5 L ∧ Below (w.heap.size + 1) (w.alloc (box s p q (some ⟨bc, off, none⟩) I.length cap)) wi)
                  (fun v _ => (Fl.nexts I i).length - (intOf v).toNat)
                case atStart => exact ⟨0, far.set i (max x 1), Nat.zero_le _, rfl, HE.out, hS6, hF6, ho6, hbel6⟩
                case round =>
                  clear hS6 hF6 ho6 hbel6 hgl hgr HE HX hil2 hfl hxl hbx0 hx1
                  obtain ⟨m, far, hm, rfl, hmid, hS, hF, hL, hbel⟩ := hrel
                  have HV := Lib.hid hmid
                  have hfl : (ints far).length = I.length := by rw [ints, List.length_map, hmid.len]
                  clear hmid
                  have hszr : w.heap.size + 1 ≤ wr.heap.size := by have := hbel.size; simpa using this
                  obtain ⟨_, hge, hgl, hgr, hcg⟩ := hF.cell (by omega)
                  cases hge
                  obtain ⟨c0, c1, c2, c3⟩ := box_cells (Nat.lt_succ_self _) hbel
                  have hr : wr.rangeAt bc (off + i * 20) cs.toList := fun j v hj => ((below_box hbel).cell (p := ⟨bc, off + i * 20 + j, none⟩) hbc).trans (H5.out j v hj)
                  by_cases hmL : m < L.length
                  · cases hpz : Fl.pz (Fl.opOf I i) with
                    | true =>
                      have HMX := Lib.hid (show m = (Fl.nexts I i).length by have : (Fl.nexts I i).length = 0 := by unfold Fl.nexts; rw [hpz]; rfl
                                                                             omega)
                      go_wp2_with ((with_reducible refine at_op (d := some 57) (op := .load 39 (.tmp 56)) ?_); refine wpList_loadg rfl 39 (.tmp 56) rfl bc (off + i * 20) rfl cs _ hr Try.underlying39 rfl (by rw [Try.size39, H1.out]) ?_)
                      refine (rpauses_is cs _ true h3 hpz _).mono ?_
                      rintro e w7 ⟨rfl, hb7⟩
                      have hcg7 : ∀ k, k < (ints far).length → w7.cell? ⟨g, k, none⟩ = some (.int .i64 ((ints far).getD k 0)) := fun k hk => (hb7.cell (p := ⟨g, k, none⟩) hgl).trans (hcg k hk)
                      have hS7 := hS.below hb7
                      have hF7 := hF.below hb7
                      have hbel7 := hbel.trans (hb7.mono hszr)
                      clear hS hF hL hbel hr h3 c0 c1 c2 c3 hcg hb7
                      have hS := hS7
                      have hF := hF7
                      have hbel := hbel7
                      have hcg := hcg7
                      clear hS7 hF7 hbel7 hcg7
                      have hxi := HV.out.hi i HR.out
                      have hcx := hcg i (by omega)
                      rw [ints_get] at hcx
                      have HLV := Lib.hid (by have := HV.out; rw [HMX.out] at this; exact this.leave HR.out)
                      obtain ⟨x, hx⟩ : ∃ x, x = Fl.at0 far i := ⟨_, rfl⟩
                      rw [← hx] at hcx hxi HLV
                      clear hx hcg
                      by_cases hbx : (best : Int) < (x : Int)
                      · go_wp2_with fail
                        go_roundw
                        case rel => exact ⟨i + 1, max best x, far, by omega, by go_num, by rw [show max best x = x by omega], HLV.out, hS, hF, hbel⟩
                        case measure => simp [intOf]; omega
                      · go_wp2_with fail
                        go_roundw
                        case rel => exact ⟨i + 1, max best x, far, by omega, by go_num, by rw [show max best x = best by omega], HLV.out, hS, hF, hbel⟩
                        case measure => simp [intOf]; omega
                    | false =>
                      obtain ⟨j, hj, hjl⟩ := HM.out m hmL
                      have hj' : (Fl.nexts I i).getD m 0 = (j : Int) := by rw [HNX.out hpz]; exact hj
                      have hjr : Fl.has (Fl.reachL I) j := Fl.reachL_step HR.out (by unfold Fl.Edge; rw [← hj, HL.out]; rw [List.getD_eq_getElem?_getD, List.getElem?_eq_getElem (by rw [← HL.out]; exact hmL)]; simp)
                      obtain ⟨g6, rfl, hg6l, hg6r, hc6⟩ := hL.cell (by omega)
                      have hcm := hc6 m hmL
                      rw [hj] at hcm
                      have hxi := HV.out.hi i HR.out
                      have hxl := Fl.lenOf_le HC.out HR.out
                      have hyi := HV.out.hi j hjr
                      have hyl := Fl.lenOf_le HC.out hjr
                      have hcx := hcg i (by omega)
                      rw [ints_get] at hcx
                      have hcy := hcg j (by omega)
                      rw [ints_get] at hcy
                      have hstep := HV.out.step HC.out HR.out (m := m) (by rw [HNX.out hpz]; exact hmL)
                      rw [hj', Int.toNat_natCast] at hstep
                      obtain ⟨x, hx⟩ : ∃ x, x = Fl.at0 far i := ⟨_, rfl⟩
                      obtain ⟨y, hy⟩ : ∃ y, y = Fl.at0 far j := ⟨_, rfl⟩
                      rw [← hx] at hcx hxi hstep
                      rw [← hy] at hcy hyi hstep
                      have HST := Lib.hid hstep
                      have hd6 : decide ((j : Int) < 0) = false := by simp
                      have hd7 : decide (I.length ≤ j) = false := by simp; omega
                      have hd8 : decide ((I.length : Int) ≤ (j : Int)) = false := by simp; omega
                      clear hx hy hj hj' hjr hc6 hcg hstep
                      go_wp2_with ((with_reducible refine at_op (d := some 57) (op := .load 39 (.tmp 56)) ?_); refine wpList_loadg rfl 39 (.tmp 56) rfl bc (off + i * 20) rfl cs _ hr Try.underlying39 rfl (by rw [Try.size39, H1.out]) ?_)
                      refine (rpauses_is cs _ false h3 hpz _).mono ?_
                      rintro e w7 ⟨rfl, hb7⟩
                      have hS7 := hS.below hb7
                      have hF7 := hF.below hb7
                      have hL7 := hL.below hb7
                      have hbel7 := hbel.trans (hb7.mono hszr)
                      have hcx7 := (hb7.cell (p := ⟨g, i, none⟩) hgl).trans hcx
                      have hcy7 := (hb7.cell (p := ⟨g, j, none⟩) hgl).trans hcy
                      have hcm7 := (hb7.cell (p := ⟨g6, m, none⟩) hg6l).trans hcm
                      have hff7 := World.ownsRow.frozenAt hF7 i
                      clear hS hF hL hbel hcx hcy hcm hr h3 c0 c1 c2 c3 hb7
                      go_wp2_with fail
                      have HS7 := Lib.hid hS7
                      have HF7 := Lib.hid hF7
                      have HL7 := Lib.hid hL7
                      have HB7 := Lib.hid hbel7
                      clear hS7 hF7 hL7 hbel7
                      by_cases hxy : (x : Int) < (y : Int) + 1
                      · have hstN : (ints far).set i ((y : Int) + 1) = ints (far.set i (max x (y + 1))) := by rw [← ints_set]; congr 1; omega
                        have HSN := Lib.hid hstN
                        clear hstN
                        go_region
                        all_goals
                          go_wp2_with fail
                          go_roundw
                          case rel =>
                            have hst := HF7.out.stores i ((y : Int) + 1)
                            rw [HSN.out] at hst
                            refine ⟨m + 1, far.set i (max x (y + 1)), by rw [HNX.out hpz]; omega, by go_num, HST.out, ?_, ?_, ?_, ?_⟩
                            · exact OwnB.below (World.ownsRow.kept HS7.out hst.2 (.inr (by simpa [Value.ownBlock] using hgne))) (Below.refl _ _).drew
                            · exact Own.below hst.1 (Below.refl _ _).drew
                            · exact Own.below (HL7.out.farOff hst.2 hgB) (Below.refl _ _).drew
                            · exact (HB7.out.setCell (p := ⟨g, i, none⟩) hgr _).drew
                          case measure => have hq := congrArg List.length (HNX.out hpz); simp [intOf]; omega
                      · have hstN : (ints far).set i (x : Int) = ints (far.set i (max x (y + 1))) := by rw [← ints_set]; congr 1; omega
                        have HSN := Lib.hid hstN
                        clear hstN
                        go_region
                        all_goals
                          go_wp2_with fail
                          go_roundw
                          case rel =>
                            have hst := HF7.out.stores i (x : Int)
                            rw [HSN.out] at hst
                            refine ⟨m + 1, far.set i (max x (y + 1)), by rw [HNX.out hpz]; omega, by go_num, HST.out, ?_, ?_, ?_, ?_⟩
                            · exact OwnB.below (World.ownsRow.kept HS7.out hst.2 (.inr (by simpa [Value.ownBlock] using hgne))) (Below.refl _ _).drew
                            · exact Own.below hst.1 (Below.refl _ _).drew
                            · exact Own.below (HL7.out.farOff hst.2 hgB) (Below.refl _ _).drew
                            · exact (HB7.out.setCell (p := ⟨g, i, none⟩) hgr _).drew
                          case measure => have hq := congrArg List.length (HNX.out hpz); simp [intOf]; omega
                  · have HMX := Lib.hid (show m = (Fl.nexts I i).length by
                      cases hpz : Fl.pz (Fl.opOf I i) with
                      | true =>
                        have : (Fl.nexts I i).length = 0 := by unfold Fl.nexts; rw [hpz]; rfl
                        omega
                      | false =>
                        have := congrArg List.length (HNX.out hpz)
                        omega)
                    clear hr h3 c0 c1 c2 c3 hL
                    have hxi := HV.out.hi i HR.out
                    have hcx := hcg i (by omega)
                    rw [ints_get] at hcx
                    have HLV := Lib.hid (by have := HV.out; rw [HMX.out] at this; exact this.leave HR.out)
                    obtain ⟨x, hx⟩ : ∃ x, x = Fl.at0 far i := ⟨_, rfl⟩
                    rw [← hx] at hcx hxi HLV
                    clear hx hcg
                    by_cases hbx : (best : Int) < (x : Int)
                    · go_wp2_with fail
                      go_roundw
                      case rel => exact ⟨i + 1, max best x, far, by omega, by go_num, by rw [show max best x = x by omega], HLV.out, hS, hF, hbel⟩
                      case measure => simp [intOf]; omega
                    · go_wp2_with fail
                      go_roundw
                      case rel => exact ⟨i + 1, max best x, far, by omega, by go_num, by rw [show max best x = best by omega], HLV.out, hS, hF, hbel⟩
                      case measure => simp [intOf]; omega
          · obtain rfl : i = I.length := by omega
            have HI2 := Lib.hid hinv.turn
            clear hinv
            go_wp2_with fail
            go_roundw
            case rel => exact ⟨r + 1, best, far, by omega, by go_num, rfl, HI2.out, hS, hF, hbel⟩
            case measure => simp [intOf]; omega
      · obtain rfl : r = I.length := by omega
        have hfin : (Fl.longestL I) = (best, true) := by unfold Fl.longestL; rw [if_pos HC.out, HINV.out.done HC.out]
        have HFI := Lib.hid hfin
        clear hfin
        go_wp2_with fail
        go_ret2
        exact ⟨by rw [HFI.out]; rfl, below_box hbel⟩
  · have hl0 : 0 < (Fl.spinsL I).length := List.length_pos_iff.2 hcalm
    have hfin : (Fl.longestL I) = (0, false) := by unfold Fl.longestL; rw [if_neg hcalm]
    have HFI := Lib.hid hfin
    clear hfin hcalm
    go_wp2_with fail
    go_ret2
    exact ⟨by rw [HFI.out]; rfl, below_box hb1⟩
end Go.Proofs.Ytnbaofkgakgpgaa
