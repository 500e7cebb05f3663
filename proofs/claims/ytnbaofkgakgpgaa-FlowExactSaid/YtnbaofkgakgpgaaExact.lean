/- The walk of the statement FlowExact. -/
import Derived.Test.YtnbaofkgakgpgaaRefI
import Derived.Deep.RegionHeld3
namespace Go.Proofs.Ytnbaofkgakgpgaa
open Go.RowKit

set_option maxRecDepth 100000 in
set_option maxHeartbeats 4000000 in
theorem exact_any (s : ByteArray) (p q : Int) (A : Option Addr) (cap : Nat) (I : Fl.Rt) (i : Int) (w : World) (hn : I.length ≤ 4398046511104) (hc : CodeAt w w.heap.size A I) :
    Calls Try.prog 3 #[.agg #[.string s, .int .i64 p, .int .i64 q, .slice A I.length cap], .int .i64 i] w fun e w' => e = .returned (.bool true) ∧ Below w.heap.size w w' := by
  have hb : Below w.heap.size w (w.alloc (box s p q A I.length cap)) := (Below.refl _ _).alloc (Nat.le_refl _) _
  by_cases h60 : 60 < I.length
  · go_enter Try.func3, Try.ntmps3
    go_wp2_with fail
    refine (awake_any _).mono ?_
    rintro e w1 ⟨rfl, hb1⟩
    simp only [World.size_alloc] at hb1
    go_wp2_with fail
    go_ret
    exact ⟨rfl, below_box hb1⟩
  · go_enter Try.func3, Try.ntmps3
    go_wp2_with fail
    refine (longest_any s p q A cap I _ hn ((hc.below hb).more (by simp))).mono ?_
    rintro e w1 ⟨rfl, hb1⟩
    simp only [World.size_alloc] at hb1
    have hsz1 : w.heap.size + 1 ≤ w1.heap.size := by have := hb1.size; simpa using this
    obtain ⟨c0, c1, c2, c3⟩ := box_cells (Nat.lt_succ_self _) hb1
    go_wp2_with fail
    refine (rlongest_any s p q A cap I _ hn ((hc.below (below_box hb1)).more (by omega))).mono ?_
    rintro e w2 ⟨rfl, hb2⟩
    have hb3 := hb1.trans (hb2.mono hsz1)
    clear hb1 hb2 c0 c1 c2 c3
    obtain ⟨NN, hNN⟩ : ∃ NN, NN = ((Fl.longestL I).1 : Int) := ⟨_, rfl⟩
    obtain ⟨KK, hKK⟩ : ∃ KK, KK = (Fl.longestL I).2 := ⟨_, rfl⟩
    rw [← hNN, ← hKK]
    clear hNN hKK
    go_wp2_with fail
    go_loopw [9] (fun v wr => ∃ k : Nat, k ≤ I.length ∧ v = .int .i64 k ∧ Below (w.heap.size + 1) (w.alloc (box s p q A I.length cap)) wr)
      (fun v _ => I.length - (intOf v).toNat)
    case atStart => exact ⟨0, by omega, rfl, hb3⟩
    case round =>
      clear hb3
      obtain ⟨k, hk, rfl, hbel⟩ := hrel
      have hszr : w.heap.size + 1 ≤ wr.heap.size := by have := hbel.size; simpa using this
      obtain ⟨c0, c1, c2, c3⟩ := box_cells (Nat.lt_succ_self _) hbel
      by_cases hlt : k < I.length
      · obtain ⟨bc, off, rfl, hbc, hcode⟩ := hc (by omega)
        obtain ⟨cs, h1, h2, h3, h4, h5⟩ := hcode k hlt
        have hkeep : ∀ w', Below (w.heap.size + 1) (w.alloc (box s p q (some ⟨bc, off, none⟩) I.length cap)) w' → w'.cell? ⟨w.heap.size, 3, none⟩ = some (.slice (some ⟨bc, off, none⟩) I.length cap) ∧ w'.rangeAt bc (off + k * 20) cs.toList := fun w' hb =>
          ⟨(box_cells (Nat.lt_succ_self _) hb).2.2.2, fun j v hj => ((below_box hb).cell (p := ⟨bc, off + k * 20 + j, none⟩) hbc).trans (h5 j v hj)⟩
        have HK := Lib.hid hkeep
        have H1 := Lib.hid h1
        have HV0 := Lib.hid h3
        have hd3 : decide ((k : Int) < 0) = false := by simp
        have hd4 : decide (I.length ≤ k) = false := by simp; omega
        have hd5 : decide ((I.length : Int) ≤ (k : Int)) = false := by simp; omega
        have HC := Lib.hid hc
        have HBEL := Lib.hid hbel
        clear hkeep h1 h2 h3 h4 h5 hcode hc c0 c1 c2 hbel
        go_wp2_with fail
        refine wp_region_held_drew (S := (fun w4 : World => w4.cell? ⟨w.heap.size, 3, none⟩ = some (.slice (some ⟨bc, off, none⟩) I.length cap) ∧ w4.rangeAt bc (off + k * 20) cs.toList)) (by kernel_rfl) (HK.out _ HBEL.out.drew) (fun hHeld => ?_)
        refine wpAnyH_take (i := 0) (oi := { dst := some 32, op := Op.fieldAddr 24 (Operand.tmp 2) 3, type := 0, pos := "law.go:47", after := #[], guard := none }) (v := ?_) rfl (by kernel_rfl) (by kernel_rfl) (by kernel_rfl) (fun _ _ _ h => h) (Or.inl ⟨by rfl, ?_⟩) (by assumption) ?_
        rotate_left
        · (intro w hSw; (try dsimp only at hSw); go_simp; first | done | with_reducible rfl)
        (try simp only [Act.put, List.setIfInBounds_toArray, List.set_cons_zero, List.set_cons_succ])
        refine wpAnyH_take (i := 1) (oi := { dst := some 33, op := Op.load 22 (Operand.tmp 32), type := 22, pos := "law.go:47", after := #[{ on := 0, ground := Ground.data }], guard := none }) (v := ?_) rfl (by kernel_rfl) (by kernel_rfl) (by kernel_rfl) (fun _ _ _ h => h) (Or.inl ⟨by rfl, ?_⟩) (by assumption) ?_
        rotate_left
        · (intro w hSw; (try dsimp only at hSw); go_simp; first | done | with_reducible rfl)
        (try simp only [Act.put, List.setIfInBounds_toArray, List.set_cons_zero, List.set_cons_succ])
        refine wpAnyH_take (i := 2) (oi := { dst := some 34, op := Op.move (Operand.tmp 9), type := 3, pos := "law.go:47", after := #[], guard := none }) (v := ?_) rfl (by kernel_rfl) (by kernel_rfl) (by kernel_rfl) (fun _ _ _ h => h) (Or.inl ⟨by rfl, ?_⟩) (by assumption) ?_
        rotate_left
        · (intro w hSw; (try dsimp only at hSw); go_simp; first | done | with_reducible rfl)
        (try simp only [Act.put, List.setIfInBounds_toArray, List.set_cons_zero, List.set_cons_succ])
        refine wpAnyH_take (i := 3) (oi := { dst := some 35, op := Op.indexAddr 22 (Operand.tmp 33) (Operand.tmp 34), type := 0, pos := "law.go:47", after := #[{ on := 1, ground := Ground.data }, { on := 2, ground := Ground.data }], guard := none }) (v := ?_) rfl (by kernel_rfl) (by kernel_rfl) (by kernel_rfl) (fun _ _ _ h => h) (Or.inl ⟨by rfl, ?_⟩) (by assumption) ?_
        rotate_left
        · (intro w hSw; (try dsimp only at hSw); go_simp; first | done | with_reducible rfl)
        (try simp only [Act.put, List.setIfInBounds_toArray, List.set_cons_zero, List.set_cons_succ])
        refine' wpAnyH_take (i := 4) (oi := { dst := some 36, op := Op.load 39 (Operand.tmp 35), type := 39, pos := "law.go:47", after := #[{ on := 3, ground := Ground.data }], guard := none }) (v := _) rfl (by kernel_rfl) (by kernel_rfl) (by kernel_rfl) (fun _ _ _ h => h) (yieldsIf_load_mid (by rfl) 39 _ rfl bc (off + k * 20) rfl cs.toList _ (fun w hSw => hSw.2) Try.underlying39 rfl (by rw [Try.size39]; simp [H1.out])) (by assumption) ?_
        (try simp only [Act.put, List.setIfInBounds_toArray, List.set_cons_zero, List.set_cons_succ])
        refine wpAnyH_take (i := 6) (oi := { dst := some 38, op := Op.fieldAddr 24 (Operand.tmp 2) 3, type := 0, pos := "law.go:47", after := #[], guard := none }) (v := ?_) rfl (by kernel_rfl) (by kernel_rfl) (by kernel_rfl) (fun _ _ _ h => h) (Or.inl ⟨by rfl, ?_⟩) (by assumption) ?_
        rotate_left
        · (intro w hSw; (try dsimp only at hSw); go_simp; first | done | with_reducible rfl)
        (try simp only [Act.put, List.setIfInBounds_toArray, List.set_cons_zero, List.set_cons_succ])
        refine wpAnyH_take (i := 7) (oi := { dst := some 39, op := Op.load 22 (Operand.tmp 38), type := 22, pos := "law.go:47", after := #[{ on := 6, ground := Ground.data }], guard := none }) (v := ?_) rfl (by kernel_rfl) (by kernel_rfl) (by kernel_rfl) (fun _ _ _ h => h) (Or.inl ⟨by rfl, ?_⟩) (by assumption) ?_
        rotate_left
        · (intro w hSw; (try dsimp only at hSw); go_simp; first | done | with_reducible rfl)
        (try simp only [Act.put, List.setIfInBounds_toArray, List.set_cons_zero, List.set_cons_succ])
        refine wpAnyH_take (i := 8) (oi := { dst := some 40, op := Op.move (Operand.tmp 9), type := 3, pos := "law.go:47", after := #[], guard := none }) (v := ?_) rfl (by kernel_rfl) (by kernel_rfl) (by kernel_rfl) (fun _ _ _ h => h) (Or.inl ⟨by rfl, ?_⟩) (by assumption) ?_
        rotate_left
        · (intro w hSw; (try dsimp only at hSw); go_simp; first | done | with_reducible rfl)
        (try simp only [Act.put, List.setIfInBounds_toArray, List.set_cons_zero, List.set_cons_succ])
        refine wpAnyH_take (i := 9) (oi := { dst := some 41, op := Op.indexAddr 22 (Operand.tmp 39) (Operand.tmp 40), type := 0, pos := "law.go:47", after := #[{ on := 7, ground := Ground.data }, { on := 8, ground := Ground.data }], guard := none }) (v := ?_) rfl (by kernel_rfl) (by kernel_rfl) (by kernel_rfl) (fun _ _ _ h => h) (Or.inl ⟨by rfl, ?_⟩) (by assumption) ?_
        rotate_left
        · (intro w hSw; (try dsimp only at hSw); go_simp; first | done | with_reducible rfl)
        (try simp only [Act.put, List.setIfInBounds_toArray, List.set_cons_zero, List.set_cons_succ])
        refine' wpAnyH_take (i := 10) (oi := { dst := some 42, op := Op.load 39 (Operand.tmp 41), type := 39, pos := "law.go:47", after := #[{ on := 9, ground := Ground.data }], guard := none }) (v := _) rfl (by kernel_rfl) (by kernel_rfl) (by kernel_rfl) (fun _ _ _ h => h) (yieldsIf_load_mid (by rfl) 39 _ rfl bc (off + k * 20) rfl cs.toList _ (fun w hSw => hSw.2) Try.underlying39 rfl (by rw [Try.size39]; simp [H1.out])) (by assumption) ?_
        (try simp only [Act.put, List.setIfInBounds_toArray, List.set_cons_zero, List.set_cons_succ])
        refine wpAnyH_ready (rs := [5]) (by kernel_rfl) (by simp) ?_
        refine AllReadyH.cons (o := { dst := some 37, op := Op.call { callee := Callee.value (Operand.func 11), args := #[Operand.tmp 36], argTypes := #[39] }, type := 4, pos := "law.go:47", after := #[{ on := 4, ground := Ground.data }], guard := none }) rfl (fun K hK => ?_) AllReadyH.nil
        go_simp
        go_at_call 11
        refine (pauses_is _ (Fl.opOf I k) _ (by simpa using HV0.out) rfl _).mono ?_
        rintro e w2 ⟨rfl, hb2⟩
        have hbw := HBEL.out.drew.trans (hb2.mono hszr)
        (try go_wp2_with fail)
        refine hK.out _ _ (HK.out _ hbw) (fun hHeld2 => ?_)
        clear hK K hHeld
        (try simp only [Act.put, List.setIfInBounds_toArray, List.set_cons_zero, List.set_cons_succ])
        refine wpAnyH_ready (rs := [11]) (by kernel_rfl) (by simp) ?_
        refine AllReadyH.cons (o := { dst := some 43, op := Op.call { callee := Callee.value (Operand.func 12), args := #[Operand.tmp 42], argTypes := #[39] }, type := 4, pos := "law.go:47", after := #[{ on := 10, ground := Ground.data }, { on := 5, ground := Ground.chain }], guard := none }) rfl (fun K hK => ?_) AllReadyH.nil
        go_simp
        go_at_call 12
        refine (rpauses_is _ (Fl.opOf I k) _ (by simpa using HV0.out) rfl _).mono ?_
        rintro e w3 ⟨rfl, hb3⟩
        have hbw3 := hbw.trans (hb3.mono (by have := hbw.size; simpa using this))
        (try go_wp2_with fail)
        refine hK.out _ _ (HK.out _ hbw3) (fun hHeld3 => ?_)
        clear hK K hHeld2
        (try simp only [Act.put, List.setIfInBounds_toArray, List.set_cons_zero, List.set_cons_succ])
        refine wpAnyH_take (i := 12) (oi := { dst := some 44, op := Op.binOp BinOp.neq 4 (Operand.tmp 37) (Operand.tmp 43) 4, type := 4, pos := "law.go:47", after := #[{ on := 5, ground := Ground.data }, { on := 11, ground := Ground.data }], guard := none }) (v := ?_) rfl (by kernel_rfl) (by kernel_rfl) (by kernel_rfl) (fun _ _ _ h => h) (Or.inl ⟨by rfl, ?_⟩) (by assumption) ?_
        rotate_left
        · (intro w hSw; (try dsimp only at hSw); go_simp; first | done | with_reducible rfl)
        (try simp only [Act.put, List.setIfInBounds_toArray, List.set_cons_zero, List.set_cons_succ])
        refine wpAnyH_done (by kernel_rfl) ?_ _
        obtain ⟨PP, hPP⟩ : ∃ PP, PP = Fl.pz (Fl.opOf I k) := ⟨_, rfl⟩
        rw [← hPP]
        clear hPP
        cases PP
        all_goals
          go_wp2_with fail
          go_roundw
          case rel => exact ⟨k + 1, by omega, by go_num, hbw3⟩
          case measure => simp [intOf]; omega
      · obtain rfl : k = I.length := by omega
        have hkeep : ∀ w', Below (w.heap.size + 1) (w.alloc (box s p q A I.length cap)) w' → (w'.cell? ⟨w.heap.size, 0, none⟩ = some (.string s) ∧ w'.cell? ⟨w.heap.size, 1, none⟩ = some (.int .i64 p) ∧ w'.cell? ⟨w.heap.size, 2, none⟩ = some (.int .i64 q) ∧ w'.cell? ⟨w.heap.size, 3, none⟩ = some (.slice A I.length cap)) := fun w' hb => box_cells (Nat.lt_succ_self _) hb
        have hcode : ∀ w', Below (w.heap.size + 1) (w.alloc (box s p q A I.length cap)) w' → CodeAt w' w'.heap.size A I := fun w' hb => (hc.below (below_box hb)).more (below_box hb).size
        have hsize : ∀ w', Below (w.heap.size + 1) (w.alloc (box s p q A I.length cap)) w' → w.heap.size + 1 ≤ w'.heap.size := fun w' hb => by have := hb.size; simpa using this
        have hbase : ∀ w', Below (w.heap.size + 1) (w.alloc (box s p q A I.length cap)) w' → Below w.heap.size w w' := fun w' hb => below_box hb
        have HK := Lib.hid hkeep
        have HC := Lib.hid hcode
        have HSZ := Lib.hid hsize
        have HB := Lib.hid hbase
        have HBEL := Lib.hid hbel
        have hsp := Fl.spinTo_len I I.length
        have hsp2 : (Fl.spinsL I).length ≤ 1000000 := by have : (Fl.spinsL I).length ≤ I.length := hsp; omega
        have hnx := Fl.nextL_len I i
        have hnx2 : (Fl.nextL I i).length ≤ 1000000 := by omega
        clear hkeep hcode hsize hbase hbel hc hsp hnx
        obtain ⟨L1, hL1⟩ : ∃ L, L = Fl.nextL I i := ⟨_, rfl⟩
        obtain ⟨L2, hL2⟩ : ∃ L, L = Fl.spinsL I := ⟨_, rfl⟩
        rw [← hL1] at hnx2
        rw [← hL2] at hsp2
        have HL1 := Lib.hid hL1
        have HL2 := Lib.hid hL2
        clear hL1 hL2
        have hn2 : I.length ≤ 4611686018427387904 := by omega
        go_wp2_with fail
        go_region_held3 (fun w4 => (w4.cell? ⟨w.heap.size, 0, none⟩ = some (.string s) ∧ w4.cell? ⟨w.heap.size, 1, none⟩ = some (.int .i64 p) ∧ w4.cell? ⟨w.heap.size, 2, none⟩ = some (.int .i64 q) ∧ w4.cell? ⟨w.heap.size, 3, none⟩ = some (.slice A I.length cap))) (first | exact ⟨c0, c1, c2, c3⟩ | exact HK.out _ hbx8 | exact HK.out _ hbx7 | exact HK.out _ hbx6 | exact HK.out _ hbx5 | exact HK.out _ hbx4 | exact HK.out _ hbx3 | exact HK.out _ hbx2) (first
          | (go_at_call 8; refine (awake_any w7).mono ?_; rintro e w8 ⟨rfl, hb8⟩; have hbx8 := hbx7.trans (hb8.mono (HSZ.out _ hbx7)))
          | (go_at_call 13; refine (same_is A5 A6 cap5 cap6 L2 L2 _ _ true w6 (ho5.below hb6).ints ho6.ints rfl rfl hsp2 (by simp)).mono ?_; rintro e w7 ⟨rfl, hb7⟩; have hbx7 := hbx6.trans (hb7.mono (HSZ.out _ hbx6)))
          | (go_at_call 17; refine (rspins_any s p q A cap I w5 hn (HC.out _ hbx5)).mono ?_; rw [← HL2.out]; rintro e w6 ⟨A6, cap6, rfl, ho6, hb6⟩; have hbx6 := hbx5.trans (hb6.mono (HSZ.out _ hbx5)))
          | (go_at_call 16; refine (spins_any s p q A cap I w4 hn (HC.out _ hbx4)).mono ?_; rw [← HL2.out]; rintro e w5 ⟨A5, cap5, rfl, ho5, hb5⟩; have hbx5 := hbx4.trans (hb5.mono (HSZ.out _ hbx4)))
          | (go_at_call 13; refine (same_is A2 A3 cap2 cap3 L1 L1 _ _ true w3 (ho2.below hb3).ints ho3.ints rfl rfl hnx2 (by simp)).mono ?_; rintro e w4 ⟨rfl, hb4⟩; have hbx4 := hbx3.trans (hb4.mono (HSZ.out _ hbx3)))
          | (go_at_call 15; refine (rnext_any s p q A cap I i w2 hn2 (HC.out _ hbx2)).mono ?_; rw [← HL1.out]; rintro e w3 ⟨A3, cap3, rfl, ho3, hb3⟩; have hbx3 := hbx2.trans (hb3.mono (HSZ.out _ hbx2)))
          | (go_at_call 14; refine (next_any s p q A cap I i _ hn2 (HC.out _ HBEL.out.drew)).mono ?_; rw [← HL1.out]; rintro e w2 ⟨A2, cap2, rfl, ho2, hb2⟩; have hbx2 := HBEL.out.drew.trans (hb2.mono (HSZ.out _ HBEL.out.drew))))
        all_goals
          go_wp2_with fail
          go_ret
          exact ⟨rfl, HB.out _ hbx8⟩
end Go.Proofs.Ytnbaofkgakgpgaa
