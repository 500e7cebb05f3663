/- The walk of the statement FlowWalks. -/
import Derived.Test.YtnbaofkgakgpgaaSpins
namespace Go.Proofs.Ytnbaofkgakgpgaa
open Go.RowKit

/-- A slice of bools in memory. -/
def Bools (w : World) (B : Nat) (A : Option Addr) (n : Nat) : Prop :=
  0 < n → ∃ b off, A = some ⟨b, off, none⟩ ∧ b < B ∧ ∀ k, k < n → ∃ x : Bool, w.cell? ⟨b, off + k, none⟩ = some (.bool x)

/-- Where the walk stands: at a reachable instruction, with at most so many more to come. -/
structure WkInv (I : Fl.Rt) (at_ run : Nat) : Prop where
  has : Fl.has (Fl.reachL I) at_
  le : run + Fl.lenOf I at_ ≤ Fl.bestTo I I.length
theorem WkInv.lt {I : Fl.Rt} {a r : Nat} (h : WkInv I a r) : a < I.length := by have := Fl.has_lt h.has; rwa [Fl.reachL_len] at this
theorem WkInv.init {I : Fl.Rt} (h : 0 < I.length) : WkInv I 0 0 := ⟨Fl.reachL_zero h, by rw [Nat.zero_add]; exact Fl.bestTo_ge h (Fl.reachL_zero h)⟩
theorem WkInv.run_lt {I : Fl.Rt} {a r : Nat} (h : WkInv I a r) : r + 1 ≤ Fl.bestTo I I.length := by
  have := h.le
  have := Fl.lenOf_pos I a
  omega
theorem WkInv.rest {I : Fl.Rt} {a r j : Nat} (h : WkInv I a r) (hj : (j : Int) ∈ Fl.nextL I a) : WkInv I j 0 := by
  have h1 := Fl.reachL_step h.has hj
  refine ⟨h1, ?_⟩
  rw [Nat.zero_add]
  exact Fl.bestTo_ge (by have := Fl.has_lt h1; rwa [Fl.reachL_len] at this) h1
theorem WkInv.go {I : Fl.Rt} {a r j : Nat} (hcalm : Fl.spinsL I = []) (h : WkInv I a r) (hp : Fl.pz (Fl.opOf I a) = false) (hj : (j : Int) ∈ Fl.nextL I a) : WkInv I j (r + 1) := by
  have h2 := Fl.lenOf_next hcalm h.has hp hj
  have := h.le
  exact ⟨Fl.reachL_step h.has hj, by omega⟩
theorem next_in {I : Fl.Rt} {i : Nat} {m : Nat} (hm : m < (Fl.nextL I i).length) : ∃ j : Nat, (Fl.nextL I i).getD m 0 = (j : Int) ∧ j < I.length ∧ (j : Int) ∈ Fl.nextL I i := by
  have h1 : (Fl.nextL I i).getD m 0 ∈ Fl.nextL I i := by rw [List.getD_eq_getElem?_getD, List.getElem?_eq_getElem hm]; simp
  have h2 := Fl.nextL_mem h1
  have h3 : (Fl.nextL I i).getD m 0 = (((Fl.nextL I i).getD m 0).toNat : Int) := by omega
  exact ⟨((Fl.nextL I i).getD m 0).toNat, h3, by omega, by rw [← h3]; exact h1⟩

set_option maxRecDepth 100000 in
set_option maxHeartbeats 2000000 in
theorem walks_any (s : ByteArray) (p q : Int) (A : Option Addr) (cap : Nat) (I : Fl.Rt) (A1 : Option Addr) (n1 c1 : Nat) (w : World) (hn : I.length ≤ 4398046511104) (hc : CodeAt w w.heap.size A I)
    (hB : n1 ≤ 100 → Bools w w.heap.size A1 n1) :
    Calls Try.prog 7 #[.agg #[.string s, .int .i64 p, .int .i64 q, .slice A I.length cap], .slice A1 n1 c1] w fun e w' => e = .returned (.bool true) ∧ Below w.heap.size w w' := by
  have hb : Below w.heap.size w (w.alloc (box s p q A I.length cap)) := (Below.refl _ _).alloc (Nat.le_refl _) _
  go_enter Try.func7, Try.ntmps7
  go_wp2_with fail
  refine (longest_any s p q A cap I _ hn ((hc.below hb).more (by simp))).mono ?_
  rintro e w1 ⟨rfl, hb1⟩
  simp only [World.size_alloc] at hb1
  obtain ⟨c0, c1', c2, c3⟩ := box_cells (Nat.lt_succ_self _) hb1
  have hsz1 : w.heap.size + 1 ≤ w1.heap.size := by have := hb1.size; simpa using this
  by_cases h60 : 60 < I.length
  · go_wp2_with fail
    refine (awake_any _).mono ?_
    rintro e w9 ⟨rfl, hb9⟩
    go_wp2_with fail
    go_ret
    exact ⟨rfl, below_box (hb1.trans (hb9.mono hsz1))⟩
  by_cases h100 : 100 < n1
  · go_wp2_with fail
    refine (awake_any _).mono ?_
    rintro e w9 ⟨rfl, hb9⟩
    go_wp2_with fail
    go_ret
    exact ⟨rfl, below_box (hb1.trans (hb9.mono hsz1))⟩
  by_cases hcalm : Fl.spinsL I = []
  case neg =>
    have hl : Fl.longestL I = (0, false) := by unfold Fl.longestL; rw [if_neg hcalm]
    rw [hl]
    go_wp2_with fail
    refine (awake_any _).mono ?_
    rintro e w9 ⟨rfl, hb9⟩
    go_wp2_with fail
    go_ret
    exact ⟨rfl, below_box (hb1.trans (hb9.mono hsz1))⟩
  have hl : Fl.longestL I = (Fl.bestTo I I.length, true) := by unfold Fl.longestL; rw [if_pos hcalm]
  rw [hl]
  dsimp only
  have hle := Fl.bestTo_le hcalm I.length
  by_cases h0 : I.length = 0
  · have hI : I = [] := List.eq_nil_of_length_eq_zero h0
    subst hI
    go_wp2_with fail
    refine (awake_any _).mono ?_
    rintro e w9 ⟨rfl, hb9⟩
    go_wp2_with fail
    go_ret
    exact ⟨rfl, below_box (hb1.trans (hb9.mono hsz1))⟩
  have hinit := WkInv.init (I := I) (by omega)
  have HC := Lib.hid hcalm
  obtain ⟨bc, off, rfl, hbc, hcode⟩ := hc (by omega)
  have HCODE := Lib.hid hcode
  have hB := hB (by omega)
  clear hl hcalm hcode
  obtain ⟨n, hnb⟩ : ∃ n, n = Fl.bestTo I I.length := ⟨_, rfl⟩
  rw [← hnb] at hle ⊢
  have HN := Lib.hid hnb
  clear hnb
  have hne : ((I.length : Int) == 0) = false := beq_eq_false_iff_ne.2 (by omega)
  go_wp2_with fail
  go_loopw [7, 8, 9] (fun av rv v wi => ∃ (a r k : Nat), k ≤ n1 ∧ av = .int .i64 a ∧ rv = .int .i64 r ∧ v = .int .i64 k ∧ WkInv I a r ∧ Below (w.heap.size + 1) (w.alloc (box s p q (some ⟨bc, off, none⟩) I.length cap)) wi)
    (fun _ _ v _ => n1 - (intOf v).toNat)
  case atStart => exact ⟨0, 0, 0, Nat.zero_le _, rfl, rfl, rfl, hinit, hb1⟩
  case round =>
    clear hb1 c0 c1' c2 c3 hinit hsz1
    obtain ⟨a, r, k, hk, rfl, rfl, rfl, hinv, hbel⟩ := hrel
    have hszr : w.heap.size + 1 ≤ wr.heap.size := by have := hbel.size; simpa using this
    obtain ⟨c0, c1', c2, c3⟩ := box_cells (Nat.lt_succ_self _) hbel
    by_cases hlt : k < n1
    · obtain ⟨b1, o1, rfl, hb1, hcell1⟩ := hB (by omega)
      obtain ⟨x, hx⟩ := hcell1 k hlt
      have hal := hinv.lt
      have hrun := hinv.run_lt
      rw [← HN.out] at hrun
      obtain ⟨cs, h1, h2, h3, h4, h5⟩ := HCODE.out a hal
      have hr : wr.rangeAt bc (off + a * 20) cs.toList := fun j v hj => ((below_box hbel).cell (p := ⟨bc, off + a * 20 + j, none⟩) hbc).trans (h5 j v hj)
      have H1 := Lib.hid h1
      have HV := Lib.hid hinv
      have HB := Lib.hid hcell1
      have hgt : decide ((n : Int) < (r : Int) + 1) = false := by simp; omega
      clear h1 h2 h4 h5 hinv hcell1
      go_wp2_with ((with_reducible refine at_op (d := some 52) (op := .load 39 (.tmp 51)) ?_); refine wpList_loadg rfl 39 (.tmp 51) rfl bc (off + a * 20) rfl cs _ hr Try.underlying39 rfl (by rw [Try.size39, H1.out]) ?_)
      refine (pauses_any cs _ h3 _).mono ?_
      rintro e w5 ⟨rfl, hb5⟩
      have hbel5 := hbel.trans (hb5.mono hszr)
      have hsz5 : w.heap.size + 1 ≤ w5.heap.size := by have := hbel5.size; simpa using this
      clear hr h3 c0 c1' c2 c3 hbel hb5
      obtain ⟨c0, c1', c2, c3⟩ := box_cells (Nat.lt_succ_self _) hbel5
      obtain ⟨pb, hpb⟩ : ∃ pb, pb = Fl.pz (Fl.opOf I a) := ⟨_, rfl⟩
      rw [← hpb]
      have HP := Lib.hid hpb
      clear hpb
      cases pb with
      | true =>
        go_wp2_with fail
        refine (next_any s p q (some ⟨bc, off, none⟩) cap I a _ (by omega) ((hc.below (below_box hbel5)).more (by omega))).mono ?_
        rintro e w6 ⟨A6, cap6, rfl, hL6, hb6⟩
        have hbel6 := hbel5.trans (hb6.mono hsz5)
        have hsz6 : w.heap.size + 1 ≤ w6.heap.size := by have := hbel6.size; simpa using this
        clear c0 c1' c2 c3 hbel5 hb6
        obtain ⟨c0, c1', c2, c3⟩ := box_cells (Nat.lt_succ_self _) hbel6
        have hnl := Fl.nextL_len I a
        have HM := Lib.hid (fun m (hm : m < (Fl.nextL I a).length) => next_in (I := I) (i := a) hm)
        obtain ⟨L, hL⟩ : ∃ L, L = Fl.nextL I a := ⟨_, rfl⟩
        rw [← hL] at hL6 hnl HM ⊢
        have HL := Lib.hid hL
        clear hL
        by_cases hl0 : L.length = 0
        · obtain rfl : L = [] := List.eq_nil_of_length_eq_zero hl0
          go_wp2_with fail
          refine (awake_any _).mono ?_
          rintro e w9 ⟨rfl, hb9⟩
          go_wp2_with fail
          go_ret
          exact ⟨rfl, below_box (hbel6.trans (hb9.mono hsz6))⟩
        · have hlpos : 0 < L.length := by omega
          have hl0' : ((L.length : Int) == 0) = false := beq_eq_false_iff_ne.2 (by omega)
          have hcx := ((below_box hbel6).cell (p := ⟨b1, o1 + k, none⟩) hb1).trans hx
          obtain ⟨g6, rfl, hg6l, hg6r, hc6⟩ := hL6.cell hlpos
          clear hl0
          cases x with
          | false =>
            obtain ⟨j, hj, hjl, hjm⟩ := HM.out 0 hlpos
            have hcm := hc6 0 hlpos
            rw [hj] at hcm
            have HJ := Lib.hid hjm
            clear hj hjm hc6
            have hd1 : decide ((j : Int) < 0) = false := by simp
            have hd2 : decide (I.length ≤ j) = false := by simp; omega
            go_wp2_with fail
            go_quiet (fail)
            go_wp2_with fail
            go_roundw
            case rel => exact ⟨j, 0, k + 1, by omega, by go_num, by go_num, by go_num, HV.out.rest (by rw [← HL.out]; exact HJ.out), below_drewN' hbel6 _⟩
            case measure => simp [intOf]; omega
          | true =>
            obtain ⟨j, hj, hjl, hjm⟩ := HM.out (L.length - 1) (by omega)
            have hcm := hc6 (L.length - 1) (by omega)
            rw [hj] at hcm
            have HJ := Lib.hid hjm
            clear hj hjm hc6
            have hd1 : decide ((j : Int) < 0) = false := by simp
            have hd2 : decide (I.length ≤ j) = false := by simp; omega
            go_wp2_with fail
            go_quiet (fail)
            go_wp2_with fail
            go_roundw
            case rel => exact ⟨j, 0, k + 1, by omega, by go_num, by go_num, by go_num, HV.out.rest (by rw [← HL.out]; exact HJ.out), below_drewN' hbel6 _⟩
            case measure => simp [intOf]; omega
      | false =>
        go_wp2_with fail
        refine (next_any s p q (some ⟨bc, off, none⟩) cap I a _ (by omega) ((hc.below (below_box hbel5)).more (by omega))).mono ?_
        rintro e w6 ⟨A6, cap6, rfl, hL6, hb6⟩
        have hbel6 := hbel5.trans (hb6.mono hsz5)
        have hsz6 : w.heap.size + 1 ≤ w6.heap.size := by have := hbel6.size; simpa using this
        clear c0 c1' c2 c3 hbel5 hb6
        obtain ⟨c0, c1', c2, c3⟩ := box_cells (Nat.lt_succ_self _) hbel6
        have hnl := Fl.nextL_len I a
        have HM := Lib.hid (fun m (hm : m < (Fl.nextL I a).length) => next_in (I := I) (i := a) hm)
        obtain ⟨L, hL⟩ : ∃ L, L = Fl.nextL I a := ⟨_, rfl⟩
        rw [← hL] at hL6 hnl HM ⊢
        have HL := Lib.hid hL
        clear hL
        by_cases hl0 : L.length = 0
        · obtain rfl : L = [] := List.eq_nil_of_length_eq_zero hl0
          go_wp2_with fail
          refine (awake_any _).mono ?_
          rintro e w9 ⟨rfl, hb9⟩
          go_wp2_with fail
          go_ret
          exact ⟨rfl, below_box (hbel6.trans (hb9.mono hsz6))⟩
        · have hlpos : 0 < L.length := by omega
          have hl0' : ((L.length : Int) == 0) = false := beq_eq_false_iff_ne.2 (by omega)
          have hcx := ((below_box hbel6).cell (p := ⟨b1, o1 + k, none⟩) hb1).trans hx
          obtain ⟨g6, rfl, hg6l, hg6r, hc6⟩ := hL6.cell hlpos
          clear hl0
          cases x with
          | false =>
            obtain ⟨j, hj, hjl, hjm⟩ := HM.out 0 hlpos
            have hcm := hc6 0 hlpos
            rw [hj] at hcm
            have HJ := Lib.hid hjm
            clear hj hjm hc6
            have hd1 : decide ((j : Int) < 0) = false := by simp
            have hd2 : decide (I.length ≤ j) = false := by simp; omega
            go_wp2_with fail
            go_quiet (fail)
            go_wp2_with fail
            go_roundw
            case rel => exact ⟨j, r + 1, k + 1, by omega, by go_num, by go_num, by go_num, WkInv.go HC.out HV.out HP.out.symm (by rw [← HL.out]; exact HJ.out), below_drewN' hbel6 _⟩
            case measure => simp [intOf]; omega
          | true =>
            obtain ⟨j, hj, hjl, hjm⟩ := HM.out (L.length - 1) (by omega)
            have hcm := hc6 (L.length - 1) (by omega)
            rw [hj] at hcm
            have HJ := Lib.hid hjm
            clear hj hjm hc6
            have hd1 : decide ((j : Int) < 0) = false := by simp
            have hd2 : decide (I.length ≤ j) = false := by simp; omega
            go_wp2_with fail
            go_quiet (fail)
            go_wp2_with fail
            go_roundw
            case rel => exact ⟨j, r + 1, k + 1, by omega, by go_num, by go_num, by go_num, WkInv.go HC.out HV.out HP.out.symm (by rw [← HL.out]; exact HJ.out), below_drewN' hbel6 _⟩
            case measure => simp [intOf]; omega
    · obtain rfl : k = n1 := by omega
      go_wp2_with fail
      refine (awake_any _).mono ?_
      rintro e w9 ⟨rfl, hb9⟩
      go_wp2_with fail
      go_ret
      exact ⟨rfl, below_box (hbel.trans (hb9.mono hszr))⟩
end Go.Proofs.Ytnbaofkgakgpgaa
