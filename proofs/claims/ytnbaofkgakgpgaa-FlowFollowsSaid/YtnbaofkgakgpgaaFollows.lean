/- The walk of the statement FlowFollows. -/
import Derived.Test.YtnbaofkgakgpgaaWalkI
import Derived.BigRegion
namespace Go.Proofs.Ytnbaofkgakgpgaa
open Go.RowKit

/-- What 'from' holds in the middle of the work. -/
structure FrInv (I : Fl.Rt) (k m : Nat) (F : List Bool) : Prop where
  len : F.length = I.length
  is_ : ∀ j : Nat, Fl.has F j ↔ (∃ i, i < k ∧ Fl.has (Fl.reachL I) i ∧ Fl.Edge I i j) ∨ (Fl.has (Fl.reachL I) k ∧ (j : Int) ∈ (Fl.nextL I k).take m)
section
variable {I : Fl.Rt} {k m : Nat} {F : List Bool}
theorem FrInv.init : FrInv I 0 0 (List.replicate I.length false) :=
  ⟨by simp, fun j => ⟨fun h => absurd h (Fl.not_has_replicate _ _), fun h => by
    rcases h with ⟨i, hi, _⟩ | ⟨_, h⟩
    · omega
    · simp at h⟩⟩
theorem FrInv.turn (h : FrInv I k (Fl.nextL I k).length F) : FrInv I (k + 1) 0 F :=
  ⟨h.len, fun j => by
    rw [h.is_ j, List.take_length]
    constructor
    · rintro (⟨i, hi, h1, h2⟩ | ⟨h1, h2⟩)
      · exact .inl ⟨i, by omega, h1, h2⟩
      · exact .inl ⟨k, by omega, h1, h2⟩
    · rintro (⟨i, hi, h1, h2⟩ | ⟨_, h2⟩)
      · by_cases e : i = k
        · subst e; exact .inr ⟨h1, h2⟩
        · exact .inl ⟨i, by omega, h1, h2⟩
      · simp at h2⟩
theorem FrInv.step (h : FrInv I k m F) (hm : m < (Fl.nextL I k).length) {j0 : Nat} (hj : (Fl.nextL I k).getD m 0 = (j0 : Int)) (hl : j0 < I.length) :
    FrInv I k (m + 1) (F.set j0 (F.getD j0 false || (Fl.reachL I).getD k false)) := by
  have hlt : j0 < F.length := by rw [h.len]; exact hl
  have e : (Fl.nextL I k)[m] = (j0 : Int) := by rw [← hj, List.getD_eq_getElem?_getD, List.getElem?_eq_getElem hm]; rfl
  refine ⟨by simpa using h.len, fun j => ?_⟩
  rw [List.take_succ_eq_append_getElem hm, List.mem_append, List.mem_singleton, e]
  have hset : Fl.has (F.set j0 (F.getD j0 false || (Fl.reachL I).getD k false)) j ↔ Fl.has F j ∨ (j = j0 ∧ Fl.has (Fl.reachL I) k) := by
    unfold Fl.has
    simp only [List.getD_eq_getElem?_getD, List.getElem?_set]
    by_cases hjj : j0 = j
    · subst hjj
      simp [hlt]
    · simp [hjj, Ne.symm hjj]
  rw [hset, h.is_ j]
  constructor
  · rintro ((h1 | ⟨h1, h2⟩) | ⟨rfl, h1⟩)
    · exact .inl h1
    · exact .inr ⟨h1, .inl h2⟩
    · exact .inr ⟨h1, .inr rfl⟩
  · rintro (h1 | ⟨h1, h2 | h2⟩)
    · exact .inl (.inl h1)
    · exact .inl (.inr ⟨h1, h2⟩)
    · exact .inr ⟨by omega, h1⟩
theorem FrInv.done (h : FrInv I I.length 0 F) {j : Nat} (hj : j ≠ 0) : F.getD j false = (Fl.reachL I).getD j false := by
  have : Fl.has F j ↔ Fl.has (Fl.reachL I) j := by
    rw [h.is_ j]
    constructor
    · rintro (⟨i, _, h1, h2⟩ | ⟨_, h2⟩)
      · exact Fl.reachL_step h1 h2
      · simp at h2
    · intro h1
      obtain ⟨i, h2, h3⟩ := Fl.reachL_from h1 hj
      exact .inl ⟨i, h3.lt.1, h2, h3⟩
  simp only [Fl.has] at this
  exact Bool.eq_iff_iff.2 this
end

set_option maxRecDepth 100000 in
set_option maxHeartbeats 2000000 in
theorem follows_any (s : ByteArray) (p q : Int) (A : Option Addr) (cap : Nat) (I : Fl.Rt) (w : World) (hn : I.length ≤ 4398046511104) (hc : CodeAt w w.heap.size A I) :
    Calls Try.prog 5 #[.agg #[.string s, .int .i64 p, .int .i64 q, .slice A I.length cap]] w fun e w' => e = .returned (.bool true) ∧ Below w.heap.size w w' := by
  obtain ⟨i4, hi4, hy0, hy1, hy2⟩ := info_parts Try.info4
  have hb : Below w.heap.size w (w.alloc (box s p q A I.length cap)) := (Below.refl _ _).alloc (Nat.le_refl _) _
  by_cases h60 : 60 < I.length
  · go_enter Try.func5, Try.ntmps5
    go_wp2_with fail
    refine (awake_any _).mono ?_
    rintro e w1 ⟨rfl, hb1⟩
    simp only [World.size_alloc] at hb1
    go_wp2_with fail
    go_ret
    exact ⟨rfl, below_box hb1⟩
  · go_enter Try.func5, Try.ntmps5
    go_wp2_with fail
    refine (reached_any s p q A cap I _ hn ((hc.below hb).more (by simp))).mono ?_
    rintro e w1 ⟨g, rfl, hS, hb1⟩
    simp only [World.size_alloc] at hb1 hS
    obtain ⟨c0, c1, c2, c3⟩ := box_cells (Nat.lt_succ_self _) hb1
    by_cases h0 : I.length = 0
    · have hI : I = [] := List.eq_nil_of_length_eq_zero h0
      subst hI
      have hsz1 : w.heap.size + 1 ≤ w1.heap.size := by have := hb1.size; simpa using this
      clear h0 hS c0 c1 c2 c3
      go_wp2_with (at_make; refine wpList_make_full _ rfl _ _ 44 rfl (w.heap.size + 1) 4 i4 (.bool false) 1 Try.underlying44 hi4 hy0 hy1 _ _ _ _ 0 rfl rfl rfl rfl ?_ ?_ ?_ ?_)
      · omega
      · exact Nat.zero_le _
      · simpa using hsz1
      intro w2 hs2 hg2
      have hb2 := hb1.grown hg2 hsz1 (by simp)
      have hsz2 : w.heap.size + 1 ≤ w2.heap.size := by have := hb2.size; simpa using this
      clear hs2 hg2 hb1
      go_wp2_with fail
      refine wp_loop_rounds 1 ?_
      rw [rounds_succ]
      go_wp2_with fail
      refine wp_loop_rounds 1 ?_
      rw [rounds_succ]
      go_wp2_with fail
      refine (awake_any _).mono ?_
      rintro e w9 ⟨rfl, hb9⟩
      go_wp2_with fail
      go_ret
      exact ⟨rfl, below_box (hb2.trans (hb9.mono hsz2))⟩
    · have hpos : (0 : Int) < (I.length : Int) := by omega
      have hr0 := Fl.reachL_zero (I := I) (by omega)
      have hc0 := hS.cell (k := 0) (by rw [Fl.reachL_len]; omega)
      rw [show (Fl.reachL I).getD 0 false = true from hr0] at hc0
      have hsz1 : w.heap.size + 1 ≤ w1.heap.size := by have := hb1.size; simpa using this
      go_wp2_with (at_make; refine wpList_make_full _ rfl _ _ 44 rfl (w.heap.size + 1) 4 i4 (.bool false) 1 Try.underlying44 hi4 hy0 hy1 _ _ _ _ I.length rfl rfl rfl rfl ?_ ?_ ?_ ?_)
      · rw [hy2]; omega
      · unfold maxLen; omega
      · simpa using hsz1
      intro w2 hs2 hg2
      have hS2 : OwnB w2 (w.heap.size + 1) g I.length (Fl.reachL I) := World.ownsRow.kept hS hg2 (.inr (by simp [Value.ownBlock]))
      have hb2 := hb1.grown hg2 hsz1 (by simp)
      have hF2 : OwnB w2 (w.heap.size + 1) w1.heap.size I.length (List.replicate I.length false) := by
        unfold OwnB
        rw [toList_madeCells_one] at hs2
        simpa using hs2
      have hgne : g ≠ w1.heap.size := by have := hS.lt.2; omega
      clear hs2 hg2 hS hb1 c0 c1 c2 c3 hc0 hr0
      generalize w1.heap.size = f at *
      go_wp2_with fail
      go_loopw [6] (fun i wr => ∃ (k : Nat) (F : List Bool), k ≤ I.length ∧ i = .int .i64 k ∧ FrInv I k 0 F ∧ OwnB wr (w.heap.size + 1) f I.length F ∧ OwnB wr (w.heap.size + 1) g I.length (Fl.reachL I) ∧ Below (w.heap.size + 1) (w.alloc (box s p q A I.length cap)) wr)
        (fun i _ => I.length - (intOf i).toNat)
      case atStart => exact ⟨0, _, Nat.zero_le _, rfl, FrInv.init, hF2, hS2, hb2⟩
      case round =>
        clear hF2 hS2 hb2
        obtain ⟨k, F, hk, rfl, hinv, hF, hS, hbel⟩ := hrel
        have hszr : w.heap.size + 1 ≤ wr.heap.size := by have := hbel.size; simpa using this
        obtain ⟨c0, c1, c2, c3⟩ := box_cells (Nat.lt_succ_self _) hbel
        by_cases hlt : k < I.length
        · go_wp2_with fail
          refine (next_any s p q A cap I k _ (by omega) ((hc.below (below_box hbel)).more (by omega))).mono ?_
          rintro e w3 ⟨A5, cap5, rfl, ho5, hb5⟩
          have hF3 := hF.below hb5
          have hS3 := hS.below hb5
          have hb3 := hbel.trans (hb5.mono hszr)
          have hsz3 : w.heap.size + 1 ≤ w3.heap.size := by have := hb3.size; simpa using this
          have hg5 := hF.lt.2
          clear hF hS hbel hb5 c0 c1 c2 c3
          go_wp2_with fail
          have hmem : ∀ m, m < (Fl.nextL I k).length → ∃ j : Nat, (Fl.nextL I k).getD m 0 = (j : Int) ∧ j < I.length ∧ (Fl.has (Fl.reachL I) k → Fl.has (Fl.reachL I) j) := fun m hm => by
            have h1 : (Fl.nextL I k).getD m 0 ∈ Fl.nextL I k := by rw [List.getD_eq_getElem?_getD, List.getElem?_eq_getElem hm]; simp
            have h2 := Fl.nextL_mem h1
            have h3 : ((Fl.nextL I k).getD m 0) = (((Fl.nextL I k).getD m 0).toNat : Int) := by omega
            exact ⟨_, h3, by omega, fun h => Fl.reachL_step h (by unfold Fl.Edge; rw [← h3]; exact h1)⟩
          have HM := Lib.hid hmem
          have HLT := Lib.hid (fun m (hm : m + 1 < (Fl.nextL I k).length) => Fl.nextL_lt m hm)
          have hnl := Fl.nextL_len I k
          clear hmem
          obtain ⟨L, hL⟩ : ∃ L, L = Fl.nextL I k := ⟨_, rfl⟩
          rw [← hL] at ho5 hnl HM HLT ⊢
          have HL := Lib.hid hL
          clear hL
          obtain ⟨rk, hrk⟩ : ∃ rk, rk = (Fl.reachL I).getD k false := ⟨_, rfl⟩
          have HR := Lib.hid hrk
          clear hrk
          obtain ⟨wo, rfl⟩ : ∃ wo : World, wo = wr := ⟨_, rfl⟩
          go_loopw [8] (fun v wi => ∃ (m : Nat) (F : List Bool), m ≤ L.length ∧ v = .int .i64 m ∧ FrInv I k m F ∧ OwnB wi (w.heap.size + 1) f I.length F ∧ OwnB wi (w.heap.size + 1) g I.length (Fl.reachL I) ∧ Own wi (w.heap.size + 1) A5 cap5 L ∧ Below (w.heap.size + 1) (w.alloc (box s p q A I.length cap)) wi)
            (fun v _ => L.length - (intOf v).toNat)
          case atStart => exact ⟨0, F, Nat.zero_le _, rfl, hinv, hF3, hS3, ho5.mono hszr, hb3⟩
          case round =>
            clear hinv hF3 hS3 ho5 hb3
            obtain ⟨m, F', hm, rfl, hinv, hF, hS, hL5, hbel⟩ := hrel
            by_cases hmlt : m < L.length
            · obtain ⟨g5, rfl, hg5l, _, hc5⟩ := hL5.cell (by omega)
              obtain ⟨j, hj, hjl, hjr⟩ := HM.out m hmlt
              have hcm := hc5 m hmlt
              rw [hj] at hcm
              have hcF := hF.cell (k := j) (by rw [hinv.len]; exact hjl)
              have hfF := hF.free j
              have hck := hS.cell (k := k) (by rw [Fl.reachL_len]; exact hlt)
              rw [← HR.out] at hck
              have hcj := hS.cell (k := j) (by rw [Fl.reachL_len]; exact hjl)
              have hrj : rk = true → (Fl.reachL I).getD j false = true := fun h => hjr (by unfold Fl.has; rw [← HR.out, h])
              have hst := hF.store j (F'.getD j false || rk)
              have hinv' := hinv.step (m := m) (by rw [← HL.out]; exact hmlt) (by rw [← HL.out]; exact hj) hjl
              rw [← HR.out] at hinv'
              obtain ⟨fb, hfb⟩ : ∃ fb, fb = F'.getD j false := ⟨_, rfl⟩
              rw [← hfb] at hcF hst hinv'
              have hjk : (j : Int) < (I.length : Int) := by omega
              have hkk : (k : Int) < (I.length : Int) := by omega
              have hmk : (m : Int) < (L.length : Int) := by omega
              have hszw := hbel.size
              simp only [World.size_alloc] at hszw
              have HI := Lib.hid hinv'
              have HST := Lib.hid hst
              have HS := Lib.hid hS
              have HL5 := Lib.hid hL5
              have HF := Lib.hid hF
              have hprev : 0 < m → ∃ jp : Nat, wr.cell? ⟨g5, m - 1, none⟩ = some (.int .i64 (jp : Int)) ∧ jp < j := fun hm0 => by
                obtain ⟨jp, hjp, _, _⟩ := HM.out (m - 1) (by omega)
                have h1 := hc5 (m - 1) (by omega)
                rw [hjp] at h1
                have h2 := HLT.out (m - 1) (by omega)
                rw [show m - 1 + 1 = m by omega, hj, hjp] at h2
                exact ⟨jp, h1, by omega⟩
              clear hinv hinv' hst hfb hj hjr hS hF hc5
              have hd1 : decide ((j : Int) < 0) = false := by simp
              have hd2 : decide (I.length ≤ j) = false := by simp; omega
              cases rk with
              | false =>
                clear hrj hcj
                by_cases hm0 : m = 0
                · subst hm0
                  go_wp2_with fail
                  go_quiet (fail)
                  go_wp2_with fail
                  have hcm5 : (wr.drewN nq).cell? ⟨g5, 0, none⟩ = some (.int .i64 (j : Int)) := hcm
                  have hcF5 : (wr.drewN nq).cell? ⟨f, j, none⟩ = some (.bool fb) := hcF
                  have hfF5 : (wr.drewN nq).frozen? ⟨f, j, none⟩ = false := hfF
                  have hck5 : (wr.drewN nq).cell? ⟨g, k, none⟩ = some (.bool false) := hck
                  have hF5 : OwnB (wr.drewN nq) (w.heap.size + 1) f I.length F' := HF.out
                  have hS5 : OwnB (wr.drewN nq) (w.heap.size + 1) g I.length (Fl.reachL I) := HS.out
                  have hL6 : Own (wr.drewN nq) (w.heap.size + 1) (some ⟨g5, 0, none⟩) cap5 L := HL5.out
                  have hb5 := below_drewN' hbel nq
                  generalize wr.drewN nq = w5 at *
                  clear hcm hcF hfF hck
                  cases fb with
                  | false =>
                    have hst := hF5.store j false
                    have HI' : FrInv I k (0 + 1) (F'.set j false) := HI.out
                    have HS5 := Lib.hid (World.ownsRow.kept hS5 hst.2 (.inr (by simpa [Value.ownBlock] using hgne)))
                    have HL6 := Lib.hid (hL6.grown hF5 hst.2)
                    have HB5 := Lib.hid (hb5.setCell (p := ⟨f, j, none⟩) hF5.lt.1 (.bool false))
                    have HST5 := Lib.hid hst.1
                    clear hst hF5 hS5 hL6 hb5
                    go_region
                    go_wp2_with fail
                    go_roundw
                    case rel => exact ⟨0 + 1, F'.set j false, by omega, by go_num, HI', HST5.out, HS5.out, HL6.out, HB5.out.drew⟩
                    case measure => simp [intOf]; omega
                  | true =>
                    have hst := hF5.store j true
                    have HI' : FrInv I k (0 + 1) (F'.set j true) := HI.out
                    have HS5 := Lib.hid (World.ownsRow.kept hS5 hst.2 (.inr (by simpa [Value.ownBlock] using hgne)))
                    have HL6 := Lib.hid (hL6.grown hF5 hst.2)
                    have HB5 := Lib.hid (hb5.setCell (p := ⟨f, j, none⟩) hF5.lt.1 (.bool true))
                    have HST5 := Lib.hid hst.1
                    clear hst hF5 hS5 hL6 hb5
                    go_region
                    go_wp2_with fail
                    go_roundw
                    case rel => exact ⟨0 + 1, F'.set j true, by omega, by go_num, HI', HST5.out, HS5.out, HL6.out, HB5.out.drew⟩
                    case measure => simp [intOf]; omega
                · obtain ⟨jp, hcp, hjp⟩ := hprev (by omega)
                  have hm1 : 0 < m := by omega
                  have hd3 : decide (0 < m) = true := by simp; omega
                  have hd4 : decide (j ≤ jp) = false := by simp; omega
                  clear hprev hm0
                  go_wp2_with fail
                  go_quiet (fail)
                  go_wp2_with fail
                  have hcm5 : (wr.drewN nq).cell? ⟨g5, m, none⟩ = some (.int .i64 (j : Int)) := hcm
                  have hcF5 : (wr.drewN nq).cell? ⟨f, j, none⟩ = some (.bool fb) := hcF
                  have hfF5 : (wr.drewN nq).frozen? ⟨f, j, none⟩ = false := hfF
                  have hck5 : (wr.drewN nq).cell? ⟨g, k, none⟩ = some (.bool false) := hck
                  have hF5 : OwnB (wr.drewN nq) (w.heap.size + 1) f I.length F' := HF.out
                  have hS5 : OwnB (wr.drewN nq) (w.heap.size + 1) g I.length (Fl.reachL I) := HS.out
                  have hL6 : Own (wr.drewN nq) (w.heap.size + 1) (some ⟨g5, 0, none⟩) cap5 L := HL5.out
                  have hb5 := below_drewN' hbel nq
                  generalize wr.drewN nq = w5 at *
                  clear hcm hcF hfF hck
                  cases fb with
                  | false =>
                    have hst := hF5.store j false
                    have HI' : FrInv I k (m + 1) (F'.set j false) := HI.out
                    have HS5 := Lib.hid (World.ownsRow.kept hS5 hst.2 (.inr (by simpa [Value.ownBlock] using hgne)))
                    have HL6 := Lib.hid (hL6.grown hF5 hst.2)
                    have HB5 := Lib.hid (hb5.setCell (p := ⟨f, j, none⟩) hF5.lt.1 (.bool false))
                    have HST5 := Lib.hid hst.1
                    clear hst hF5 hS5 hL6 hb5
                    go_region
                    go_wp2_with fail
                    go_roundw
                    case rel => exact ⟨m + 1, F'.set j false, by omega, by go_num, HI', HST5.out, HS5.out, HL6.out, HB5.out.drew⟩
                    case measure => simp [intOf]; omega
                  | true =>
                    have hst := hF5.store j true
                    have HI' : FrInv I k (m + 1) (F'.set j true) := HI.out
                    have HS5 := Lib.hid (World.ownsRow.kept hS5 hst.2 (.inr (by simpa [Value.ownBlock] using hgne)))
                    have HL6 := Lib.hid (hL6.grown hF5 hst.2)
                    have HB5 := Lib.hid (hb5.setCell (p := ⟨f, j, none⟩) hF5.lt.1 (.bool true))
                    have HST5 := Lib.hid hst.1
                    clear hst hF5 hS5 hL6 hb5
                    go_region
                    go_wp2_with fail
                    go_roundw
                    case rel => exact ⟨m + 1, F'.set j true, by omega, by go_num, HI', HST5.out, HS5.out, HL6.out, HB5.out.drew⟩
                    case measure => simp [intOf]; omega
              | true =>
                rw [hrj rfl] at hcj
                clear hrj
                by_cases hm0 : m = 0
                · subst hm0
                  go_wp2_with fail
                  go_quiet (fail)
                  go_wp2_with fail
                  have hcm5 : (wr.drewN nq).cell? ⟨g5, 0, none⟩ = some (.int .i64 (j : Int)) := hcm
                  have hcF5 : (wr.drewN nq).cell? ⟨f, j, none⟩ = some (.bool fb) := hcF
                  have hfF5 : (wr.drewN nq).frozen? ⟨f, j, none⟩ = false := hfF
                  have hck5 : (wr.drewN nq).cell? ⟨g, k, none⟩ = some (.bool true) := hck
                  have hF5 : OwnB (wr.drewN nq) (w.heap.size + 1) f I.length F' := HF.out
                  have hS5 : OwnB (wr.drewN nq) (w.heap.size + 1) g I.length (Fl.reachL I) := HS.out
                  have hL6 : Own (wr.drewN nq) (w.heap.size + 1) (some ⟨g5, 0, none⟩) cap5 L := HL5.out
                  have hb5 := below_drewN' hbel nq
                  generalize wr.drewN nq = w5 at *
                  clear hcm hcF hfF hck
                  cases fb with
                  | false =>
                    have hst := hF5.store j true
                    have HI' : FrInv I k (0 + 1) (F'.set j true) := HI.out
                    have HS5 := Lib.hid (World.ownsRow.kept hS5 hst.2 (.inr (by simpa [Value.ownBlock] using hgne)))
                    have HL6 := Lib.hid (hL6.grown hF5 hst.2)
                    have HB5 := Lib.hid (hb5.setCell (p := ⟨f, j, none⟩) hF5.lt.1 (.bool true))
                    have HST5 := Lib.hid hst.1
                    clear hst hF5 hS5 hL6 hb5
                    go_region
                    go_wp2_with fail
                    go_roundw
                    case rel => exact ⟨0 + 1, F'.set j true, by omega, by go_num, HI', HST5.out, HS5.out, HL6.out, HB5.out.drew⟩
                    case measure => simp [intOf]; omega
                  | true =>
                    have hst := hF5.store j true
                    have HI' : FrInv I k (0 + 1) (F'.set j true) := HI.out
                    have HS5 := Lib.hid (World.ownsRow.kept hS5 hst.2 (.inr (by simpa [Value.ownBlock] using hgne)))
                    have HL6 := Lib.hid (hL6.grown hF5 hst.2)
                    have HB5 := Lib.hid (hb5.setCell (p := ⟨f, j, none⟩) hF5.lt.1 (.bool true))
                    have HST5 := Lib.hid hst.1
                    clear hst hF5 hS5 hL6 hb5
                    go_region
                    go_wp2_with fail
                    go_roundw
                    case rel => exact ⟨0 + 1, F'.set j true, by omega, by go_num, HI', HST5.out, HS5.out, HL6.out, HB5.out.drew⟩
                    case measure => simp [intOf]; omega
                · obtain ⟨jp, hcp, hjp⟩ := hprev (by omega)
                  have hm1 : 0 < m := by omega
                  have hd3 : decide (0 < m) = true := by simp; omega
                  have hd4 : decide (j ≤ jp) = false := by simp; omega
                  clear hprev hm0
                  go_wp2_with fail
                  go_quiet (fail)
                  go_wp2_with fail
                  have hcm5 : (wr.drewN nq).cell? ⟨g5, m, none⟩ = some (.int .i64 (j : Int)) := hcm
                  have hcF5 : (wr.drewN nq).cell? ⟨f, j, none⟩ = some (.bool fb) := hcF
                  have hfF5 : (wr.drewN nq).frozen? ⟨f, j, none⟩ = false := hfF
                  have hck5 : (wr.drewN nq).cell? ⟨g, k, none⟩ = some (.bool true) := hck
                  have hF5 : OwnB (wr.drewN nq) (w.heap.size + 1) f I.length F' := HF.out
                  have hS5 : OwnB (wr.drewN nq) (w.heap.size + 1) g I.length (Fl.reachL I) := HS.out
                  have hL6 : Own (wr.drewN nq) (w.heap.size + 1) (some ⟨g5, 0, none⟩) cap5 L := HL5.out
                  have hb5 := below_drewN' hbel nq
                  generalize wr.drewN nq = w5 at *
                  clear hcm hcF hfF hck
                  cases fb with
                  | false =>
                    have hst := hF5.store j true
                    have HI' : FrInv I k (m + 1) (F'.set j true) := HI.out
                    have HS5 := Lib.hid (World.ownsRow.kept hS5 hst.2 (.inr (by simpa [Value.ownBlock] using hgne)))
                    have HL6 := Lib.hid (hL6.grown hF5 hst.2)
                    have HB5 := Lib.hid (hb5.setCell (p := ⟨f, j, none⟩) hF5.lt.1 (.bool true))
                    have HST5 := Lib.hid hst.1
                    clear hst hF5 hS5 hL6 hb5
                    go_region
                    go_wp2_with fail
                    go_roundw
                    case rel => exact ⟨m + 1, F'.set j true, by omega, by go_num, HI', HST5.out, HS5.out, HL6.out, HB5.out.drew⟩
                    case measure => simp [intOf]; omega
                  | true =>
                    have hst := hF5.store j true
                    have HI' : FrInv I k (m + 1) (F'.set j true) := HI.out
                    have HS5 := Lib.hid (World.ownsRow.kept hS5 hst.2 (.inr (by simpa [Value.ownBlock] using hgne)))
                    have HL6 := Lib.hid (hL6.grown hF5 hst.2)
                    have HB5 := Lib.hid (hb5.setCell (p := ⟨f, j, none⟩) hF5.lt.1 (.bool true))
                    have HST5 := Lib.hid hst.1
                    clear hst hF5 hS5 hL6 hb5
                    go_region
                    go_wp2_with fail
                    go_roundw
                    case rel => exact ⟨m + 1, F'.set j true, by omega, by go_num, HI', HST5.out, HS5.out, HL6.out, HB5.out.drew⟩
                    case measure => simp [intOf]; omega
            · obtain rfl : m = L.length := by omega
              have hinv' := hinv
              rw [HL.out] at hinv'
              have HT := Lib.hid hinv'.turn
              clear hinv hinv'
              go_wp2_with fail
              go_roundw
              case rel => exact ⟨k + 1, F', by omega, by go_num, HT.out, hF, hS, hbel⟩
              case measure => simp [intOf]; omega
        · obtain rfl : k = I.length := by omega
          have hdone : ∀ j, j ≠ 0 → F.getD j false = (Fl.reachL I).getD j false := fun j hj => hinv.done hj
          have HD := Lib.hid hdone
          have hFl := hinv.len
          have HFL := Lib.hid hFl
          clear hdone hFl c0 c1 c2 c3
          obtain ⟨wo, rfl⟩ : ∃ wo : World, wo = wr := ⟨_, rfl⟩
          go_wp2_with fail
          go_loopw [9] (fun v wi => ∃ j : Nat, 1 ≤ j ∧ j ≤ I.length ∧ v = .int .i64 j ∧ OwnB wi (w.heap.size + 1) f I.length F ∧ OwnB wi (w.heap.size + 1) g I.length (Fl.reachL I) ∧ Below (w.heap.size + 1) (w.alloc (box s p q A I.length cap)) wi)
            (fun v _ => I.length - (intOf v).toNat)
          case atStart => exact ⟨1, by omega, by omega, rfl, hF, hS, hbel⟩
          case round =>
            clear hF hS hbel
            obtain ⟨j, hj1, hj, rfl, hF, hS, hbel⟩ := hrel
            have hszr : w.heap.size + 1 ≤ wr.heap.size := by have := hbel.size; simpa using this
            by_cases hjl : j < I.length
            · have hcF := hF.cell (k := j) (by rw [HFL.out]; exact hjl)
              have hcS := hS.cell (k := j) (by rw [Fl.reachL_len]; exact hjl)
              rw [HD.out j (by omega)] at hcF
              obtain ⟨rj, hrj⟩ : ∃ rj, rj = (Fl.reachL I).getD j false := ⟨_, rfl⟩
              rw [← hrj] at hcF hcS
              clear hrj
              have hjk : (j : Int) < (I.length : Int) := by omega
              have HF := Lib.hid hF
              have HS := Lib.hid hS
              clear hF hS
              cases rj
              all_goals
                go_wp2_with fail
                go_quiet (fail)
                go_wp2_with fail
                go_roundw
                case rel => exact ⟨j + 1, by omega, by omega, by go_num, HF.out, HS.out, below_drewN' hbel _⟩
                case measure => simp [intOf]; omega
            · obtain rfl : j = I.length := by omega
              go_wp2_with fail
              refine (awake_any _).mono ?_
              rintro e w9 ⟨rfl, hb9⟩
              go_wp2_with fail
              go_ret
              exact ⟨rfl, below_box (hbel.trans (hb9.mono hszr))⟩
end Go.Proofs.Ytnbaofkgakgpgaa
