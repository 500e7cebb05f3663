/- The walk of the statement FlowSpins. -/
import Derived.Test.YtnbaofkgakgpgaaWalkI
import Derived.BigRegion
namespace Go.Proofs.Ytnbaofkgakgpgaa
open Go.RowKit

/-- What 'after' holds in the middle of the work: what follows a spinning instruction and spins itself. -/
structure SpInv (I : Fl.Rt) (k : Nat) (L : List Int) (m : Nat) (F : List Bool) : Prop where
  len : F.length = I.length
  old : ∀ k', k' < k → ∀ x : Nat, (x : Int) ∈ Fl.nextL I ((Fl.spinsL I).getD k' 0) → (x : Int) ∈ Fl.spinsL I → Fl.has F x
  now : ∀ m', m' < m → ∀ x : Nat, L.getD m' 0 = (x : Int) → (x : Int) ∈ Fl.spinsL I → Fl.has F x
section
variable {I : Fl.Rt} {k m : Nat} {F : List Bool} {L : List Int}
theorem SpInv.init : SpInv I 0 [] 0 (List.replicate I.length false) := ⟨by simp, fun k' h => by omega, fun k' h => by omega⟩
theorem SpInv.enter (h : SpInv I k [] 0 F) (L : List Int) : SpInv I k L 0 F := ⟨h.len, h.old, fun k' h => by omega⟩
theorem SpInv.turn (h : SpInv I k L L.length F) (hL : L = Fl.nextL I ((Fl.spinsL I).getD k 0)) : SpInv I (k + 1) [] 0 F :=
  ⟨h.len, fun k' hk x hx hs => by
    by_cases e : k' = k
    · subst e
      rw [← hL] at hx
      obtain ⟨m, hm, hmx⟩ := List.getElem_of_mem hx
      exact h.now m hm x (by rw [List.getD_eq_getElem?_getD, List.getElem?_eq_getElem hm]; exact hmx) hs
    · exact h.old k' (by omega) x hx hs, fun k' h => by omega⟩
theorem SpInv.pass (h : SpInv I k L m F) (hx : L.getD m 0 ∉ Fl.spinsL I) : SpInv I k L (m + 1) F :=
  ⟨h.len, h.old, fun m' hm x he hs => by
    by_cases e : m' = m
    · subst e; rw [he] at hx; exact absurd hs hx
    · exact h.now m' (by omega) x he hs⟩
theorem has_set {F : List Bool} {j x : Nat} (hj : j < F.length) : Fl.has (F.set j true) x ↔ Fl.has F x ∨ x = j := by
  unfold Fl.has
  simp only [List.getD_eq_getElem?_getD, List.getElem?_set]
  by_cases h : j = x
  · subst h; simp [hj]
  · simp [h, Ne.symm h]
theorem SpInv.step (h : SpInv I k L m F) {j : Nat} (hj : L.getD m 0 = (j : Int)) (hl : j < I.length) : SpInv I k L (m + 1) (F.set j true) := by
  have hlt : j < F.length := by rw [h.len]; exact hl
  refine ⟨by simpa using h.len, fun k' hk x hx hs => (has_set hlt).2 (.inl (h.old k' hk x hx hs)), fun m' hm x he hs => (has_set hlt).2 ?_⟩
  by_cases e : m' = m
  · subst e; right; omega
  · exact .inl (h.now m' (by omega) x he hs)
theorem SpInv.done (h : SpInv I (Fl.spinsL I).length [] 0 F) (hk : k < (Fl.spinsL I).length) : F.getD ((Fl.spinsL I).getD k 0).toNat false = true := by
  have hm : (Fl.spinsL I).getD k 0 ∈ Fl.spinsL I := by rw [List.getD_eq_getElem?_getD, List.getElem?_eq_getElem hk]; simp
  obtain ⟨i, hi⟩ : ∃ i, i = (Fl.spinsL I).getD k 0 := ⟨_, rfl⟩
  rw [← hi] at hm ⊢
  have h0 := (Fl.spinTo_mem.1 hm).1
  have e : ((i.toNat : Nat) : Int) = i := by omega
  rw [← e] at hm
  obtain ⟨j, h1, h2⟩ := Fl.spins_prev (Fl.mem_spins.1 hm)
  have h3 := Fl.mem_spins.2 h2
  obtain ⟨k', hk', hj⟩ := List.getElem_of_mem h3
  refine h.old k' hk' i.toNat ?_ hm
  rw [List.getD_eq_getElem?_getD, List.getElem?_eq_getElem hk', Option.getD_some, hj]
  exact h1
end

/-- What is known of the k-th spinning instruction. -/
theorem spin_at {I : Fl.Rt} {k : Nat} (hk : k < (Fl.spinsL I).length) : ∃ i : Nat, (Fl.spinsL I).getD k 0 = (i : Int) ∧ i < I.length ∧ (Fl.reachL I).getD i false = true ∧ Fl.pz (Fl.opOf I i) = false ∧
    (∃ m, m < (Fl.nextL I i).length ∧ (Fl.nextL I i).getD m 0 ∈ Fl.spinsL I) := by
  have hm : (Fl.spinsL I).getD k 0 ∈ Fl.spinsL I := by rw [List.getD_eq_getElem?_getD, List.getElem?_eq_getElem hk]; simp
  obtain ⟨x, hx⟩ : ∃ x, x = (Fl.spinsL I).getD k 0 := ⟨_, rfl⟩
  rw [← hx] at hm ⊢
  have h0 := Fl.spinTo_mem.1 hm
  have e : x = ((x.toNat : Nat) : Int) := by omega
  refine ⟨x.toNat, e, by omega, h0.2.2.1, ?_, ?_⟩
  · rw [e] at hm; exact (Fl.mem_spins.1 hm).2.1
  · rw [e] at hm
    obtain ⟨j, h1, h2⟩ := Fl.spins_next (Fl.mem_spins.1 hm)
    obtain ⟨m, hm1, hm2⟩ := List.getElem_of_mem (show (j : Int) ∈ Fl.nextL I (x.toNat : Int) from h1)
    refine ⟨m, hm1, ?_⟩
    rw [List.getD_eq_getElem?_getD, List.getElem?_eq_getElem hm1, Option.getD_some, hm2]
    exact Fl.mem_spins.2 h2

theorem next_nat {I : Fl.Rt} {i m : Nat} (hm : m < (Fl.nextL I i).length) : ∃ j : Nat, (Fl.nextL I i).getD m 0 = (j : Int) ∧ j < I.length := by
  have h1 : (Fl.nextL I i).getD m 0 ∈ Fl.nextL I i := by rw [List.getD_eq_getElem?_getD, List.getElem?_eq_getElem hm]; simp
  have h2 := Fl.nextL_mem h1
  exact ⟨((Fl.nextL I i).getD m 0).toNat, by omega, by omega⟩

set_option maxRecDepth 100000 in
set_option maxHeartbeats 2000000 in
theorem spinsLaw_any (s : ByteArray) (p q : Int) (A : Option Addr) (cap : Nat) (I : Fl.Rt) (w : World) (hn : I.length ≤ 4398046511104) (hc : CodeAt w w.heap.size A I) :
    Calls Try.prog 6 #[.agg #[.string s, .int .i64 p, .int .i64 q, .slice A I.length cap]] w fun e w' => e = .returned (.bool true) ∧ Below w.heap.size w w' := by
  obtain ⟨i4, hi4, hy0, hy1, hy2⟩ := info_parts Try.info4
  have hb : Below w.heap.size w (w.alloc (box s p q A I.length cap)) := (Below.refl _ _).alloc (Nat.le_refl _) _
  by_cases h60 : 60 < I.length
  · go_enter Try.func6, Try.ntmps6
    go_wp2_with fail
    refine (awake_any _).mono ?_
    rintro e w1 ⟨rfl, hb1⟩
    simp only [World.size_alloc] at hb1
    go_wp2_with fail
    go_ret
    exact ⟨rfl, below_box hb1⟩
  · go_enter Try.func6, Try.ntmps6
    go_wp2_with fail
    refine (reached_any s p q A cap I _ hn ((hc.below hb).more (by simp))).mono ?_
    rintro e w1 ⟨g, rfl, hS, hb1⟩
    simp only [World.size_alloc] at hb1 hS
    obtain ⟨c0, c1, c2, c3⟩ := box_cells (Nat.lt_succ_self _) hb1
    have hsz1 : w.heap.size + 1 ≤ w1.heap.size := by have := hb1.size; simpa using this
    go_wp2_with fail
    refine (spins_any s p q A cap I _ hn ((hc.below (below_box hb1)).more (by omega))).mono ?_
    rintro e w2 ⟨A2, cap2, rfl, ho2, hb2'⟩
    have hS2 := hS.below hb2'
    have hb2 := hb1.trans (hb2'.mono hsz1)
    have ho2 := ho2.mono hsz1
    have hsz2 : w.heap.size + 1 ≤ w2.heap.size := by have := hb2.size; simpa using this
    clear c0 c1 c2 c3 hS hb1 hb2'
    obtain ⟨c0, c1, c2, c3⟩ := box_cells (Nat.lt_succ_self _) hb2
    go_wp2_with fail
    refine (longest_any s p q A cap I _ hn ((hc.below (below_box hb2)).more (by omega))).mono ?_
    rintro e w3 ⟨rfl, hb3'⟩
    have hS3 := hS2.below hb3'
    have hb3 := hb2.trans (hb3'.mono hsz2)
    have ho3 := ho2.below hb3'
    have hsz3 : w.heap.size + 1 ≤ w3.heap.size := by have := hb3.size; simpa using this
    clear c0 c1 c2 c3 hS2 hb2 ho2 hb3'
    obtain ⟨c0, c1, c2, c3⟩ := box_cells (Nat.lt_succ_self _) hb3
    have hsl : (Fl.spinsL I).length ≤ I.length := Fl.spinTo_len I I.length
    clear hsz1 hsz2
    by_cases hcalm : Fl.spinsL I = []
    · have hl : Fl.longestL I = (Fl.bestTo I I.length, true) := by unfold Fl.longestL; rw [if_pos hcalm]
      have hle := Fl.bestTo_le hcalm I.length
      have hge : 0 < I.length → 1 ≤ Fl.bestTo I I.length := fun h => by
        have h1 := Fl.bestTo_ge (k := I.length) (i := 0) h (Fl.reachL_zero h)
        have h2 := Fl.lenOf_pos I 0
        omega
      rw [hl, hcalm]
      dsimp only
      generalize Fl.bestTo I I.length = n at *
      clear hl hcalm ho3 hsl
      by_cases h0 : I.length = 0
      · have hI : I = [] := List.eq_nil_of_length_eq_zero h0
        subst hI
        clear h0 hS3 hge
        have hn0 : n = 0 := by simpa using hle
        subst hn0
        go_wp2_with (at_make; refine wpList_make_full _ rfl _ _ 44 rfl (w.heap.size + 1) 4 i4 (.bool false) 1 Try.underlying44 hi4 hy0 hy1 _ _ _ _ 0 rfl rfl rfl rfl ?_ ?_ ?_ ?_)
        · omega
        · exact Nat.zero_le _
        · exact hsz3
        intro w4 hs4 hg4
        have hb4 := hb3.grown hg4 hsz3 (by simp)
        clear hs4 hg4 hb3 c0 c1 c2 c3
        have hsz4 : w.heap.size + 1 ≤ w4.heap.size := by have := hb4.size; simpa using this
        go_wp2_with fail
        refine wp_loop_rounds 1 ?_
        rw [rounds_succ]
        go_wp2_with fail
        refine wp_loop_rounds 1 ?_
        rw [rounds_succ]
        go_wp2_with fail
        refine (awake_any _).mono ?_
        rintro e w9 ⟨rfl, hb9⟩
        go_wp2_with fail
        go_ret
        exact ⟨rfl, below_box (hb4.trans (hb9.mono hsz4))⟩
      · have hpos : (0 : Int) < (I.length : Int) := by omega
        have hge := hge (by omega)
        have hd1 : decide ((n : Int) < 0) = false := by simp
        have hd2 : decide ((I.length : Int) < (n : Int)) = false := by simp; omega
        have hd3 : decide (I.length < n) = false := by simp; omega
        have hd4 : decide ((n : Int) < 1) = false := by simp; omega
        have hd5 : decide (n < 1) = false := by simp; omega
        clear h0
        go_wp2_with (at_make; refine wpList_make_full _ rfl _ _ 44 rfl (w.heap.size + 1) 4 i4 (.bool false) 1 Try.underlying44 hi4 hy0 hy1 _ _ _ _ I.length rfl rfl rfl rfl ?_ ?_ ?_ ?_)
        · rw [hy2]; omega
        · unfold maxLen; omega
        · exact hsz3
        intro w4 hs4 hg4
        have hb4 := hb3.grown hg4 hsz3 (by simp)
        clear hs4 hg4 hb3 c0 c1 c2 c3
        have hsz4 : w.heap.size + 1 ≤ w4.heap.size := by have := hb4.size; simpa using this
        go_wp2_with fail
        refine wp_loop_rounds 1 ?_
        rw [rounds_succ]
        go_wp2_with fail
        refine wp_loop_rounds 1 ?_
        rw [rounds_succ]
        go_wp2_with fail
        refine (awake_any _).mono ?_
        rintro e w9 ⟨rfl, hb9⟩
        go_wp2_with fail
        go_ret
        exact ⟨rfl, below_box (hb4.trans (hb9.mono hsz4))⟩
    · have hl : Fl.longestL I = (0, false) := by unfold Fl.longestL; rw [if_neg hcalm]
      rw [hl]
      dsimp only
      have hSpos : 0 < (Fl.spinsL I).length := List.length_pos_iff.2 hcalm
      have hne : (((Fl.spinsL I).length : Int) == 0) = false := beq_eq_false_iff_ne.2 (by omega)
      have HA := Lib.hid (fun k hk => spin_at (I := I) (k := k) hk)
      have HLT : ∀ m, m + 1 < (Fl.spinsL I).length → (Fl.spinsL I).getD m 0 < (Fl.spinsL I).getD (m + 1) 0 := fun m hm => Fl.spinTo_lt m hm
      have HLT := Lib.hid HLT
      have HD := Lib.hid (fun F (h : SpInv I (Fl.spinsL I).length [] 0 F) k hk => SpInv.done (I := I) (F := F) (k := k) h hk)
      clear hl hcalm
      obtain ⟨g5, rfl, _, _, _⟩ := ho3.cell hSpos
      have hd1 : decide (I.length < 0) = false := by simp
      have hd2 : decide ((I.length : Int) < 0) = false := by simp
      go_wp2_with (at_make; refine wpList_make_full _ rfl _ _ 44 rfl (w.heap.size + 1) 4 i4 (.bool false) 1 Try.underlying44 hi4 hy0 hy1 _ _ _ _ I.length rfl rfl rfl rfl ?_ ?_ ?_ ?_)
      · rw [hy2]; omega
      · unfold maxLen; omega
      · exact hsz3
      intro w4 hs4 hg4
      have hb4 := hb3.grown hg4 hsz3 (by simp)
      have hS4 : OwnB w4 (w.heap.size + 1) g I.length (Fl.reachL I) := World.ownsRow.kept hS3 hg4 (.inr (by simp [Value.ownBlock]))
      have ho4 : Own w4 (w.heap.size + 1) (some ⟨g5, 0, none⟩) cap2 (Fl.spinsL I) := World.ownsRow.kept ho3 hg4 (.inr (by simp [Value.ownBlock]))
      have hF4 : OwnB w4 (w.heap.size + 1) w3.heap.size I.length (List.replicate I.length false) := by
        unfold OwnB
        rw [toList_madeCells_one] at hs4
        simpa using hs4
      have hgne : g ≠ w3.heap.size := by have := hS3.lt.2; omega
      clear hs4 hg4 hS3 hb3 c0 c1 c2 c3 ho3
      generalize w3.heap.size = f at *
      go_wp2_with fail
      obtain ⟨Sp, hSp⟩ : ∃ Sp, Sp = Fl.spinsL I := ⟨_, rfl⟩
      rw [← hSp] at ho4 hsl HA HLT HD hSpos hne ⊢
      have HSP := Lib.hid hSp
      clear hSp
      go_loopw [9] (fun i wr => ∃ (k : Nat) (F : List Bool), k ≤ Sp.length ∧ i = .int .i64 k ∧ SpInv I k [] 0 F ∧ OwnB wr (w.heap.size + 1) f I.length F ∧ OwnB wr (w.heap.size + 1) g I.length (Fl.reachL I) ∧ Own wr (w.heap.size + 1) (some ⟨g5, 0, none⟩) cap2 Sp ∧ Below (w.heap.size + 1) (w.alloc (box s p q A I.length cap)) wr)
        (fun i _ => Sp.length - (intOf i).toNat)
      case atStart => exact ⟨0, _, Nat.zero_le _, rfl, SpInv.init, hF4, hS4, ho4, hb4⟩
      case round =>
        clear hF4 hS4 ho4 hb4
        obtain ⟨k, F, hk, rfl, hinv, hF, hS, ho, hbel⟩ := hrel
        have hszr : w.heap.size + 1 ≤ wr.heap.size := by have := hbel.size; simpa using this
        obtain ⟨c0, c1, c2, c3⟩ := box_cells (Nat.lt_succ_self _) hbel
        obtain ⟨_, hge, hg5l, hg5r, hc5⟩ := ho.cell hSpos
        cases hge
        by_cases hlt : k < Sp.length
        · obtain ⟨i, hi, hil, hir, hip, hie⟩ := HA.out k hlt
          have hci := hc5 k hlt
          rw [hi] at hci
          have hcg := hS.cell (k := i) (by rw [Fl.reachL_len]; exact hil)
          rw [hir] at hcg
          obtain ⟨bc, off, rfl, hbc, hcode⟩ := hc (by omega)
          obtain ⟨cs, h1, h2, h3, h4, h5⟩ := hcode i hil
          have hr : wr.rangeAt bc (off + i * 20) cs.toList := fun j v hj => ((below_box hbel).cell (p := ⟨bc, off + i * 20 + j, none⟩) hbc).trans (h5 j v hj)
          have hd3 : decide ((i : Int) < 0) = false := by simp
          have hd4 : decide (I.length ≤ i) = false := by simp; omega
          have hd5 : decide ((I.length : Int) ≤ (i : Int)) = false := by simp; omega
          have hprev : 0 < k → ∃ ip : Nat, wr.cell? ⟨g5, k - 1, none⟩ = some (.int .i64 (ip : Int)) ∧ ip < i := fun hk0 => by
            obtain ⟨ip, hip', _⟩ := HA.out (k - 1) (by omega)
            have e1 := hc5 (k - 1) (by omega)
            rw [hip'] at e1
            have e2 := HLT.out (k - 1) (by omega)
            rw [show k - 1 + 1 = k by omega, hi, hip'] at e2
            exact ⟨ip, e1, by omega⟩
          have H1 := Lib.hid h1
          have HI := Lib.hid hi
          have HIE := Lib.hid hie
          have HC5 := Lib.hid hc5
          have HINV := Lib.hid hinv
          clear h1 h2 h4 h5 hi hie hc5 hir hinv
          by_cases hk0 : k = 0
          · have hk1 : ¬ 0 < k := by omega
            have hk2 : decide (0 < k) = false := by simp; omega
            clear hprev hk0
            go_wp2_with ((with_reducible refine at_op (d := some 117) (op := .load 39 (.tmp 116)) ?_); refine wpList_loadg rfl 39 (.tmp 116) rfl bc (off + i * 20) rfl cs _ hr Try.underlying39 rfl (by rw [Try.size39, H1.out]) ?_)
            refine (pauses_is cs _ false h3 hip _).mono ?_
            rintro e w5 ⟨rfl, hb5⟩
            have hF5 := hF.below hb5
            have hS5 := hS.below hb5
            have ho5 := ho.below hb5
            have hbel5 := hbel.trans (hb5.mono hszr)
            have hsz5 : w.heap.size + 1 ≤ w5.heap.size := by have := hbel5.size; simpa using this
            clear hr h3 c0 c1 c2 c3 hci hcg hbel hF hS ho hb5
            obtain ⟨c0, c1, c2, c3⟩ := box_cells (Nat.lt_succ_self _) hbel5
            go_wp2_with fail
            refine (next_any s p q (some ⟨bc, off, none⟩) cap I i _ (by omega) ((hc.below (below_box hbel5)).more (by omega))).mono ?_
            rintro e w6 ⟨A6, cap6, rfl, hL6, hb6⟩
            have hF6 := hF5.below hb6
            have hS6 := hS5.below hb6
            have ho6 := ho5.below hb6
            have hbel6 := hbel5.trans (hb6.mono hsz5)
            have hL6 := hL6.mono hsz5
            clear c0 c1 c2 c3 hbel5 hF5 hS5 ho5 hb6 hsz5
            have hsz6 : w.heap.size + 1 ≤ w6.heap.size := by have := hbel6.size; simpa using this
            go_wp2_with fail
            have hnl := Fl.nextL_len I i
            have HM := Lib.hid (fun m (hm : m < (Fl.nextL I i).length) => next_nat (I := I) (i := i) hm)
            obtain ⟨L, hL⟩ : ∃ L, L = Fl.nextL I i := ⟨_, rfl⟩
            rw [← hL] at hL6 hnl HM HIE ⊢
            have HL := Lib.hid (show L = Fl.nextL I (Sp.getD k 0) by rw [HI.out]; exact hL)
            clear hL
            obtain ⟨wo, rfl⟩ : ∃ wo : World, wo = wr := ⟨_, rfl⟩
            go_loopw [12, 13] (fun on v wi => ∃ (m : Nat) (F : List Bool) (ob : Bool), m ≤ L.length ∧ v = .int .i64 m ∧ on = .bool ob ∧ (ob = false → ∀ m', m' < m → L.getD m' 0 ∉ Sp) ∧ SpInv I k L m F ∧ OwnB wi (w.heap.size + 1) f I.length F ∧ OwnB wi (w.heap.size + 1) g I.length (Fl.reachL I) ∧ Own wi (w.heap.size + 1) (some ⟨g5, 0, none⟩) cap2 Sp ∧ Own wi (w.heap.size + 1) A6 cap6 L ∧ Below (w.heap.size + 1) (w.alloc (box s p q (some ⟨bc, off, none⟩) I.length cap)) wi)
              (fun _ v _ => L.length - (intOf v).toNat)
            case atStart => exact ⟨0, F, false, Nat.zero_le _, rfl, rfl, fun _ m' h => absurd h (Nat.not_lt_zero _), HINV.out.enter L, hF6, hS6, ho6, hL6, hbel6⟩
            case round =>
              clear hF6 hS6 ho6 hL6 hbel6
              obtain ⟨m, F', ob, hm, rfl, rfl, hob, hinv, hF, hS, ho, hL6, hbel⟩ := hrel
              have hszi : w.heap.size + 1 ≤ wr.heap.size := by have := hbel.size; simpa using this
              have HOB := Lib.hid hob
              have HV := Lib.hid hinv
              clear hob hinv
              by_cases hmlt : m < L.length
              · obtain ⟨g6, rfl, hg6l, hg6r, hc6⟩ := hL6.cell (by omega)
                obtain ⟨j, hj, hjl⟩ := HM.out m hmlt
                have hcm := hc6 m hmlt
                rw [hj] at hcm
                have HJ := Lib.hid hj
                clear hj hc6
                by_cases hjs : (j : Int) ∈ Sp
                · have hj1 : decide (0 ≤ (j : Int)) = true := by simp
                  have hj2 : decide ((j : Int) < (I.length : Int)) = true := by simp; omega
                  have hj3 : decide (j < I.length) = true := by simp; omega
                  go_wp2_with fail
                  refine (has_is (some ⟨g5, 0, none⟩) cap2 Sp (j : Int) true _ ho.ints (by omega) (by simp [hjs])).mono ?_
                  rintro e w7 ⟨rfl, hb7⟩
                  have hF7 := hF.below hb7
                  have hS7 := hS.below hb7
                  have ho7 := ho.below hb7
                  have hL7 := hL6.below hb7
                  have hbel7 := hbel.trans (hb7.mono hszi)
                  have hcm7 := (hb7.cell (p := ⟨g6, m, none⟩) hg6l).trans hcm
                  have hcf := hF7.cell (k := j) (by rw [HV.out.len]; exact hjl)
                  have hff := hF7.free j
                  have hst := hF7.store j true
                  have HF := Lib.hid hst.1
                  have HS := Lib.hid (World.ownsRow.kept hS7 hst.2 (.inr (by simpa [Value.ownBlock] using hgne)))
                  have HO := Lib.hid (ho7.grown hF7 hst.2)
                  have HL7 := Lib.hid (hL7.grown hF7 hst.2)
                  have HB := Lib.hid (hbel7.setCell (p := ⟨f, j, none⟩) hF7.lt.1 (.bool true))
                  have hf7 := hF7.lt.2
                  clear hF hS ho hL6 hbel hb7 hcm hF7 hS7 ho7 hL7 hbel7 hst
                  go_wp2_with fail
                  go_roundw
                  case rel => exact ⟨m + 1, F'.set j true, true, by omega, by go_num, rfl, (fun h => by cases h), HV.out.step HJ.out hjl, HF.out, HS.out, HO.out, HL7.out, HB.out⟩
                  case measure => simp [intOf]; omega
                · go_wp2_with fail
                  refine (has_is (some ⟨g5, 0, none⟩) cap2 Sp (j : Int) false _ ho.ints (by omega) (by simp [hjs])).mono ?_
                  rintro e w7 ⟨rfl, hb7⟩
                  have hF7 := hF.below hb7
                  have hS7 := hS.below hb7
                  have ho7 := ho.below hb7
                  have hL7 := hL6.below hb7
                  have hbel7 := hbel.trans (hb7.mono hszi)
                  clear hF hS ho hL6 hbel hb7 hcm
                  go_wp2_with fail
                  go_roundw
                  case rel => exact ⟨m + 1, F', ob, by omega, by go_num, rfl, fun h m' hm' => by
                    by_cases e : m' = m
                    · subst e; rw [HJ.out]; exact hjs
                    · exact HOB.out h m' (by omega), HV.out.pass (by rw [HJ.out, ← HSP.out]; exact hjs), hF7, hS7, ho7, hL7, hbel7⟩
                  case measure => simp [intOf]; omega
              · obtain rfl : m = L.length := by omega
                obtain rfl : ob = true := by
                  cases hob' : ob with
                  | true => rfl
                  | false =>
                    obtain ⟨m', hm', hs'⟩ := HIE.out
                    exact absurd hs' (HOB.out hob' m' hm')
                go_wp2_with fail
                go_roundw
                case rel => exact ⟨k + 1, F', by omega, by go_num, HV.out.turn (by rw [← HSP.out]; exact HL.out), hF, hS, ho, hbel⟩
                case measure => simp [intOf]; omega
          · obtain ⟨ip, hcp, hip1⟩ := hprev (by omega)
            have hk1 : 0 < k := by omega
            have hk2 : decide (0 < k) = true := by simp; omega
            have hk3 : decide (i ≤ ip) = false := by simp; omega
            clear hprev hk0
            go_wp2_with ((with_reducible refine at_op (d := some 117) (op := .load 39 (.tmp 116)) ?_); refine wpList_loadg rfl 39 (.tmp 116) rfl bc (off + i * 20) rfl cs _ hr Try.underlying39 rfl (by rw [Try.size39, H1.out]) ?_)
            refine (pauses_is cs _ false h3 hip _).mono ?_
            rintro e w5 ⟨rfl, hb5⟩
            have hF5 := hF.below hb5
            have hS5 := hS.below hb5
            have ho5 := ho.below hb5
            have hbel5 := hbel.trans (hb5.mono hszr)
            have hsz5 : w.heap.size + 1 ≤ w5.heap.size := by have := hbel5.size; simpa using this
            clear hr h3 c0 c1 c2 c3 hci hcg hbel hF hS ho hb5
            obtain ⟨c0, c1, c2, c3⟩ := box_cells (Nat.lt_succ_self _) hbel5
            go_wp2_with fail
            refine (next_any s p q (some ⟨bc, off, none⟩) cap I i _ (by omega) ((hc.below (below_box hbel5)).more (by omega))).mono ?_
            rintro e w6 ⟨A6, cap6, rfl, hL6, hb6⟩
            have hF6 := hF5.below hb6
            have hS6 := hS5.below hb6
            have ho6 := ho5.below hb6
            have hbel6 := hbel5.trans (hb6.mono hsz5)
            have hL6 := hL6.mono hsz5
            clear c0 c1 c2 c3 hbel5 hF5 hS5 ho5 hb6 hsz5
            have hsz6 : w.heap.size + 1 ≤ w6.heap.size := by have := hbel6.size; simpa using this
            go_wp2_with fail
            have hnl := Fl.nextL_len I i
            have HM := Lib.hid (fun m (hm : m < (Fl.nextL I i).length) => next_nat (I := I) (i := i) hm)
            obtain ⟨L, hL⟩ : ∃ L, L = Fl.nextL I i := ⟨_, rfl⟩
            rw [← hL] at hL6 hnl HM HIE ⊢
            have HL := Lib.hid (show L = Fl.nextL I (Sp.getD k 0) by rw [HI.out]; exact hL)
            clear hL
            obtain ⟨wo, rfl⟩ : ∃ wo : World, wo = wr := ⟨_, rfl⟩
            go_loopw [12, 13] (fun on v wi => ∃ (m : Nat) (F : List Bool) (ob : Bool), m ≤ L.length ∧ v = .int .i64 m ∧ on = .bool ob ∧ (ob = false → ∀ m', m' < m → L.getD m' 0 ∉ Sp) ∧ SpInv I k L m F ∧ OwnB wi (w.heap.size + 1) f I.length F ∧ OwnB wi (w.heap.size + 1) g I.length (Fl.reachL I) ∧ Own wi (w.heap.size + 1) (some ⟨g5, 0, none⟩) cap2 Sp ∧ Own wi (w.heap.size + 1) A6 cap6 L ∧ Below (w.heap.size + 1) (w.alloc (box s p q (some ⟨bc, off, none⟩) I.length cap)) wi)
              (fun _ v _ => L.length - (intOf v).toNat)
            case atStart => exact ⟨0, F, false, Nat.zero_le _, rfl, rfl, fun _ m' h => absurd h (Nat.not_lt_zero _), HINV.out.enter L, hF6, hS6, ho6, hL6, hbel6⟩
            case round =>
              clear hF6 hS6 ho6 hL6 hbel6
              obtain ⟨m, F', ob, hm, rfl, rfl, hob, hinv, hF, hS, ho, hL6, hbel⟩ := hrel
              have hszi : w.heap.size + 1 ≤ wr.heap.size := by have := hbel.size; simpa using this
              have HOB := Lib.hid hob
              have HV := Lib.hid hinv
              clear hob hinv
              by_cases hmlt : m < L.length
              · obtain ⟨g6, rfl, hg6l, hg6r, hc6⟩ := hL6.cell (by omega)
                obtain ⟨j, hj, hjl⟩ := HM.out m hmlt
                have hcm := hc6 m hmlt
                rw [hj] at hcm
                have HJ := Lib.hid hj
                clear hj hc6
                by_cases hjs : (j : Int) ∈ Sp
                · have hj1 : decide (0 ≤ (j : Int)) = true := by simp
                  have hj2 : decide ((j : Int) < (I.length : Int)) = true := by simp; omega
                  have hj3 : decide (j < I.length) = true := by simp; omega
                  go_wp2_with fail
                  refine (has_is (some ⟨g5, 0, none⟩) cap2 Sp (j : Int) true _ ho.ints (by omega) (by simp [hjs])).mono ?_
                  rintro e w7 ⟨rfl, hb7⟩
                  have hF7 := hF.below hb7
                  have hS7 := hS.below hb7
                  have ho7 := ho.below hb7
                  have hL7 := hL6.below hb7
                  have hbel7 := hbel.trans (hb7.mono hszi)
                  have hcm7 := (hb7.cell (p := ⟨g6, m, none⟩) hg6l).trans hcm
                  have hcf := hF7.cell (k := j) (by rw [HV.out.len]; exact hjl)
                  have hff := hF7.free j
                  have hst := hF7.store j true
                  have HF := Lib.hid hst.1
                  have HS := Lib.hid (World.ownsRow.kept hS7 hst.2 (.inr (by simpa [Value.ownBlock] using hgne)))
                  have HO := Lib.hid (ho7.grown hF7 hst.2)
                  have HL7 := Lib.hid (hL7.grown hF7 hst.2)
                  have HB := Lib.hid (hbel7.setCell (p := ⟨f, j, none⟩) hF7.lt.1 (.bool true))
                  have hf7 := hF7.lt.2
                  clear hF hS ho hL6 hbel hb7 hcm hF7 hS7 ho7 hL7 hbel7 hst
                  go_wp2_with fail
                  go_roundw
                  case rel => exact ⟨m + 1, F'.set j true, true, by omega, by go_num, rfl, (fun h => by cases h), HV.out.step HJ.out hjl, HF.out, HS.out, HO.out, HL7.out, HB.out⟩
                  case measure => simp [intOf]; omega
                · go_wp2_with fail
                  refine (has_is (some ⟨g5, 0, none⟩) cap2 Sp (j : Int) false _ ho.ints (by omega) (by simp [hjs])).mono ?_
                  rintro e w7 ⟨rfl, hb7⟩
                  have hF7 := hF.below hb7
                  have hS7 := hS.below hb7
                  have ho7 := ho.below hb7
                  have hL7 := hL6.below hb7
                  have hbel7 := hbel.trans (hb7.mono hszi)
                  clear hF hS ho hL6 hbel hb7 hcm
                  go_wp2_with fail
                  go_roundw
                  case rel => exact ⟨m + 1, F', ob, by omega, by go_num, rfl, fun h m' hm' => by
                    by_cases e : m' = m
                    · subst e; rw [HJ.out]; exact hjs
                    · exact HOB.out h m' (by omega), HV.out.pass (by rw [HJ.out, ← HSP.out]; exact hjs), hF7, hS7, ho7, hL7, hbel7⟩
                  case measure => simp [intOf]; omega
              · obtain rfl : m = L.length := by omega
                obtain rfl : ob = true := by
                  cases hob' : ob with
                  | true => rfl
                  | false =>
                    obtain ⟨m', hm', hs'⟩ := HIE.out
                    exact absurd hs' (HOB.out hob' m' hm')
                go_wp2_with fail
                go_roundw
                case rel => exact ⟨k + 1, F', by omega, by go_num, HV.out.turn (by rw [← HSP.out]; exact HL.out), hF, hS, ho, hbel⟩
                case measure => simp [intOf]; omega
        · obtain rfl : k = Sp.length := by omega
          have hall : ∀ k, k < Sp.length → ∃ i : Nat, Sp.getD k 0 = (i : Int) ∧ i < I.length ∧ F.getD i false = true := fun k hk => by
            obtain ⟨i, hi, hil, _⟩ := HA.out k hk
            have := HD.out F hinv k hk
            rw [hi, Int.toNat_natCast] at this
            exact ⟨i, hi, hil, this⟩
          have HALL := Lib.hid hall
          have hlenF := hinv.len
          have HC5 := Lib.hid hc5
          clear hall hinv c0 c1 c2 c3 hc5 hS
          go_wp2_with fail
          obtain ⟨wo, rfl⟩ : ∃ wo : World, wo = wr := ⟨_, rfl⟩
          go_loopw [14] (fun v wi => ∃ (k : Nat), k ≤ Sp.length ∧ v = .int .i64 k ∧ OwnB wi (w.heap.size + 1) f I.length F ∧ Own wi (w.heap.size + 1) (some ⟨g5, 0, none⟩) cap2 Sp ∧ Below (w.heap.size + 1) (w.alloc (box s p q A I.length cap)) wi)
            (fun v _ => Sp.length - (intOf v).toNat)
          case atStart => exact ⟨0, Nat.zero_le _, rfl, hF, ho, hbel⟩
          case round =>
            clear hF ho hbel
            obtain ⟨k, hk, rfl, hF, ho, hbel⟩ := hrel
            obtain ⟨_, hge, hg5l, hg5r, hc5⟩ := ho.cell hSpos
            cases hge
            by_cases hlt : k < Sp.length
            · obtain ⟨i, hi, hil, hif⟩ := HALL.out k hlt
              have hci := hc5 k hlt
              rw [hi] at hci
              have hcf := hF.cell (k := i) (by rw [hlenF]; exact hil)
              rw [hif] at hcf
              have HC6 := Lib.hid hc5
              clear hc5 hi hif
              go_wp2_with fail
              go_roundw
              case rel => exact ⟨k + 1, by omega, by go_num, hF, ho, hbel⟩
              case measure => simp [intOf]; omega
            · have hszw : w.heap.size + 1 ≤ wr.heap.size := by have := hbel.size; simpa using this
              obtain rfl : k = Sp.length := by omega
              clear hc5
              go_wp2_with fail
              refine (awake_any _).mono ?_
              rintro e w9 ⟨rfl, hb9⟩
              go_wp2_with fail
              go_ret
              exact ⟨rfl, below_box (hbel.trans (hb9.mono hszw))⟩
end Go.Proofs.Ytnbaofkgakgpgaa
