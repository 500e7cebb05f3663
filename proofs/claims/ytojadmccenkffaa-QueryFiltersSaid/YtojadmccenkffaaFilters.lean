/- The walk of the statement QueryFilters. -/
import Derived.Test.YtojadmccenkffaaWalkW
namespace Go.Proofs.Ytojadmccenkffaa
open Go.RowKit

set_option maxRecDepth 100000 in
set_option maxHeartbeats 4000000 in
theorem filters_any (f t s p i k : Int) (A : Option Addr) (cap : Nat) (l : List Qr.Rc) (w : World) (hr : RdL rcs 6 w w.heap.size A l) (hl : l.length ≤ maxLen) :
    Calls Try.prog 3 #[.agg #[.int .i64 f, .int .i64 t, .int .i64 s, .int .i64 p, .int .i64 i, .int .i64 k], .slice A l.length cap] w (TruePost w) := by
  unfold maxLen at hl
  have h0w := below_box w (.cells #[.int .i64 f, .int .i64 t, .int .i64 s, .int .i64 p, .int .i64 i, .int .i64 k] 24)
  by_cases h2 : 200 < l.length
  · go_enter Try.func3, Try.ntmps3
    go_wp2_with fail
    refine (awake_any _).mono ?_
    rintro e w2 ⟨rfl, hb2⟩
    go_wp2_with fail
    go_ret
    exact ⟨rfl, h0w.trans (hb2.mono h0w.size)⟩
  · have hNl := Qr.filt_len ⟨f, t, s, p, i, k⟩ l
    obtain ⟨z, hz⟩ : ∃ z : Int, (Qr.bad ⟨f, t, s, p, i, k⟩ : Int) = z := ⟨_, rfl⟩
    obtain ⟨L, hL⟩ : ∃ L, Qr.filt ⟨f, t, s, p, i, k⟩ l = L := ⟨_, rfl⟩
    rw [hL] at hNl
    obtain ⟨N, hN⟩ : ∃ N, L.length = N := ⟨_, rfl⟩
    rw [hN] at hNl
    have HZ := Lib.hid hz
    have HL := Lib.hid hL
    have HN := Lib.hid hN
    clear hz hL hN
    obtain ⟨w0, hw0⟩ : ∃ W, W = w.alloc (.cells #[.int .i64 f, .int .i64 t, .int .i64 s, .int .i64 p, .int .i64 i, .int .i64 k] 24) := ⟨_, rfl⟩
    have HS : Hid (∀ W, Below w0.heap.size w0 W → W.cell? ⟨w.heap.size, 0, none⟩ = some (.int .i64 f) ∧ W.cell? ⟨w.heap.size, 1, none⟩ = some (.int .i64 t) ∧ W.cell? ⟨w.heap.size, 2, none⟩ = some (.int .i64 s) ∧ W.cell? ⟨w.heap.size, 3, none⟩ = some (.int .i64 p) ∧ W.cell? ⟨w.heap.size, 4, none⟩ = some (.int .i64 i) ∧ W.cell? ⟨w.heap.size, 5, none⟩ = some (.int .i64 k)) := Lib.hid fun W h => ⟨(h.cell (p := ⟨w.heap.size, 0, none⟩) (by rw [hw0]; simp)).trans (by rw [hw0]; exact World.cell?_alloc_at _ 24 _ 0 rfl), (h.cell (p := ⟨w.heap.size, 1, none⟩) (by rw [hw0]; simp)).trans (by rw [hw0]; exact World.cell?_alloc_at _ 24 _ 1 rfl), (h.cell (p := ⟨w.heap.size, 2, none⟩) (by rw [hw0]; simp)).trans (by rw [hw0]; exact World.cell?_alloc_at _ 24 _ 2 rfl), (h.cell (p := ⟨w.heap.size, 3, none⟩) (by rw [hw0]; simp)).trans (by rw [hw0]; exact World.cell?_alloc_at _ 24 _ 3 rfl), (h.cell (p := ⟨w.heap.size, 4, none⟩) (by rw [hw0]; simp)).trans (by rw [hw0]; exact World.cell?_alloc_at _ 24 _ 4 rfl), (h.cell (p := ⟨w.heap.size, 5, none⟩) (by rw [hw0]; simp)).trans (by rw [hw0]; exact World.cell?_alloc_at _ 24 _ 5 rfl)⟩
    have HRL : Hid (∀ W, Below w0.heap.size w0 W → RdL rcs 6 W W.heap.size A l) := Lib.hid fun W h => (hr.after (by rw [hw0]; exact h0w)).after h
    have H0W : Hid (Below w.heap.size w w0) := Lib.hid (by rw [hw0]; exact h0w)
    have HW0 := Lib.hid hw0
    have hz0 := (Below.refl w0.heap.size w0).drew
    clear hw0 h0w hr
    go_enter Try.func3, Try.ntmps3
    go_wp2_with fail
    rw [← HW0.out]
    refine wp_region_held_drew (S := fun W => W.cell? ⟨w.heap.size, 0, none⟩ = some (.int .i64 f) ∧ W.cell? ⟨w.heap.size, 1, none⟩ = some (.int .i64 t) ∧ W.cell? ⟨w.heap.size, 2, none⟩ = some (.int .i64 s) ∧ W.cell? ⟨w.heap.size, 3, none⟩ = some (.int .i64 p) ∧ W.cell? ⟨w.heap.size, 4, none⟩ = some (.int .i64 i) ∧ W.cell? ⟨w.heap.size, 5, none⟩ = some (.int .i64 k)) (by kernel_rfl) (HS.out _ hz0) (fun hHeld => ?_)
    refine wpAnyH_take (i := 0) (v := ?_) at0 (by kernel_rfl) (by kernel_rfl) (by kernel_rfl) (fun _ _ _ h => h) (Or.inl ⟨by rfl, ?_⟩) (by assumption) ?_
    rotate_left
    · (intro w hSw; (try dsimp only at hSw); go_simp; first | done | with_reducible rfl)
    (try simp only [Act.put, List.setIfInBounds_toArray, List.set_cons_zero, List.set_cons_succ])
    refine wpAnyH_take (i := 2) (v := ?_) (atS <| atS <| at0) (by kernel_rfl) (by kernel_rfl) (by kernel_rfl) (fun _ _ _ h => h) (Or.inl ⟨by rfl, ?_⟩) (by assumption) ?_
    rotate_left
    · (intro w hSw; (try dsimp only at hSw); go_simp; first | done | with_reducible rfl)
    (try simp only [Act.put, List.setIfInBounds_toArray, List.set_cons_zero, List.set_cons_succ])
    refine wpAnyH_ready (rs := [1]) (by kernel_rfl) (by simp) ?_
    refine AllReadyH.cons (atS <| at0) (fun K hK => ?_) AllReadyH.nil
    go_simp
    go_at_call 10
    refine (check_at f t s p i k z _ HZ.out).mono ?_
    rintro e w1 ⟨rfl, hbw1⟩
    have hzw1 := hz0.trans (hbw1.mono hz0.size)
    (try go_wp2_with fail)
    refine hK.out _ _ (HS.out _ hzw1) (fun hHeld1 => ?_)
    clear hK K hHeld
    have hHeld := hHeld1
    clear hHeld1
    (try simp only [Act.put, List.setIfInBounds_toArray, List.set_cons_zero, List.set_cons_succ])
    refine wpAnyH_ready (rs := [3]) (by kernel_rfl) (by simp) ?_
    refine AllReadyH.cons (atS <| atS <| atS <| at0) (fun K hK => ?_) AllReadyH.nil
    go_simp
    go_at_call 11
    refine (rcheck_at f t s p i k z _ HZ.out).mono ?_
    rintro e w2 ⟨rfl, hbw2⟩
    have hzw2 := hzw1.trans (hbw2.mono hzw1.size)
    (try go_wp2_with fail)
    refine hK.out _ _ (HS.out _ hzw2) (fun hHeld2 => ?_)
    clear hK K hHeld
    have hHeld := hHeld2
    clear hHeld2
    (try simp only [Act.put, List.setIfInBounds_toArray, List.set_cons_zero, List.set_cons_succ])
    refine wpAnyH_take (i := 4) (v := ?_) (atS <| atS <| atS <| atS <| at0) (by kernel_rfl) (by kernel_rfl) (by kernel_rfl) (fun _ _ _ h => h) (Or.inl ⟨by rfl, ?_⟩) (by assumption) ?_
    rotate_left
    · (intro w hSw; (try dsimp only at hSw); go_simp; first | done | with_reducible rfl)
    (try simp only [Act.put, List.setIfInBounds_toArray, List.set_cons_zero, List.set_cons_succ])
    refine wpAnyH_take (i := 5) (v := ?_) (atS <| atS <| atS <| atS <| atS <| at0) (by kernel_rfl) (by kernel_rfl) (by kernel_rfl) (fun _ _ _ h => h) (Or.inl ⟨by rfl, ?_⟩) (by assumption) ?_
    rotate_left
    · (intro w hSw; (try dsimp only at hSw); go_simp; first | done | with_reducible rfl)
    (try simp only [Act.put, List.setIfInBounds_toArray, List.set_cons_zero, List.set_cons_succ])
    refine wpAnyH_take (i := 6) (v := ?_) (atS <| atS <| atS <| atS <| atS <| atS <| at0) (by kernel_rfl) (by kernel_rfl) (by kernel_rfl) (fun _ _ _ h => h) (Or.inl ⟨by rfl, ?_⟩) (by assumption) ?_
    rotate_left
    · (intro w hSw; (try dsimp only at hSw); go_simp; first | done | with_reducible rfl)
    (try simp only [Act.put, List.setIfInBounds_toArray, List.set_cons_zero, List.set_cons_succ])
    refine wpAnyH_take (i := 7) (v := ?_) (atS <| atS <| atS <| atS <| atS <| atS <| atS <| at0) (by kernel_rfl) (by kernel_rfl) (by kernel_rfl) (fun _ _ _ h => h) (Or.inl ⟨by rfl, ?_⟩) (by assumption) ?_
    rotate_left
    · (intro w hSw; (try dsimp only at hSw); go_simp; first | done | with_reducible rfl)
    (try simp only [Act.put, List.setIfInBounds_toArray, List.set_cons_zero, List.set_cons_succ])
    refine wpAnyH_take (i := 9) (v := ?_) (atS <| atS <| atS <| atS <| atS <| atS <| atS <| atS <| atS <| at0) (by kernel_rfl) (by kernel_rfl) (by kernel_rfl) (fun _ _ _ h => h) (Or.inl ⟨by rfl, ?_⟩) (by assumption) ?_
    rotate_left
    · (intro w hSw; (try dsimp only at hSw); go_simp; first | done | with_reducible rfl)
    (try simp only [Act.put, List.setIfInBounds_toArray, List.set_cons_zero, List.set_cons_succ])
    refine wpAnyH_take (i := 10) (v := ?_) (atS <| atS <| atS <| atS <| atS <| atS <| atS <| atS <| atS <| atS <| at0) (by kernel_rfl) (by kernel_rfl) (by kernel_rfl) (fun _ _ _ h => h) (Or.inl ⟨by rfl, ?_⟩) (by assumption) ?_
    rotate_left
    · (intro w hSw; (try dsimp only at hSw); go_simp; first | done | with_reducible rfl)
    (try simp only [Act.put, List.setIfInBounds_toArray, List.set_cons_zero, List.set_cons_succ])
    refine wpAnyH_ready (rs := [8]) (by kernel_rfl) (by simp) ?_
    refine AllReadyH.cons (atS <| atS <| atS <| atS <| atS <| atS <| atS <| atS <| at0) (fun K hK => ?_) AllReadyH.nil
    go_simp
    go_at_call 13
    refine (filter_any f t s p i k A cap l.length l _ (HRL.out _ hzw2) rfl (by omega) L HL.out N HN.out).mono ?_
    rintro e w3 ⟨A3, cap3, rfl, ho3, hbw3⟩
    have hzw3 := hzw2.trans (hbw3.mono hzw2.size)
    (try go_wp2_with fail)
    refine hK.out _ _ (HS.out _ hzw3) (fun hHeld3 => ?_)
    clear hK K hHeld
    have hHeld := hHeld3
    clear hHeld3
    (try simp only [Act.put, List.setIfInBounds_toArray, List.set_cons_zero, List.set_cons_succ])
    refine wpAnyH_ready (rs := [11]) (by kernel_rfl) (by simp) ?_
    refine AllReadyH.cons (atS <| atS <| atS <| atS <| atS <| atS <| atS <| atS <| atS <| atS <| atS <| at0) (fun K hK => ?_) AllReadyH.nil
    go_simp
    go_at_call 14
    refine (rfilter_any f t s p i k A cap l.length l _ (HRL.out _ hzw3) rfl (by omega) L HL.out N HN.out).mono ?_
    rintro e w4 ⟨A4, cap4, rfl, ho4, hbw4⟩
    have hzw4 := hzw3.trans (hbw4.mono hzw3.size)
    have hr3 := (ho3.below hbw4).rd rcs_ok
    have hr4 := ho4.rd rcs_ok
    (try go_wp2_with fail)
    refine hK.out _ _ (HS.out _ hzw4) (fun hHeld4 => ?_)
    clear hK K hHeld
    have hHeld := hHeld4
    clear hHeld4
    (try simp only [Act.put, List.setIfInBounds_toArray, List.set_cons_zero, List.set_cons_succ])
    refine wpAnyH_ready (rs := [12]) (by kernel_rfl) (by simp) ?_
    refine AllReadyH.cons (atS <| atS <| atS <| atS <| atS <| atS <| atS <| atS <| atS <| atS <| atS <| atS <| at0) (fun K hK => ?_) AllReadyH.nil
    go_simp
    go_at_call 12
    refine (sameRecs_any A3 A4 N cap3 cap4 L _ hr3 hr4 HN.out (by omega)).mono ?_
    rintro e w5 ⟨rfl, hbw5⟩
    have hzw5 := hzw4.trans (hbw5.mono hzw4.size)
    (try go_wp2_with fail)
    refine hK.out _ _ (HS.out _ hzw5) (fun hHeld5 => ?_)
    clear hK K hHeld
    have hHeld := hHeld5
    clear hHeld5
    (try simp only [Act.put, List.setIfInBounds_toArray, List.set_cons_zero, List.set_cons_succ])
    refine wpAnyH_take (i := 13) (v := ?_) (atS <| atS <| atS <| atS <| atS <| atS <| atS <| atS <| atS <| atS <| atS <| atS <| atS <| at0) (by kernel_rfl) (by kernel_rfl) (by kernel_rfl) (fun _ _ _ h => h) (Or.inl ⟨by rfl, ?_⟩) (by assumption) ?_
    rotate_left
    · (intro w hSw; (try dsimp only at hSw); go_simp; first | done | with_reducible rfl)
    (try simp only [Act.put, List.setIfInBounds_toArray, List.set_cons_zero, List.set_cons_succ])
    refine wpAnyH_take (i := 14) (v := ?_) (atS <| atS <| atS <| atS <| atS <| atS <| atS <| atS <| atS <| atS <| atS <| atS <| atS <| atS <| at0) (by kernel_rfl) (by kernel_rfl) (by kernel_rfl) (fun _ _ _ h => h) (Or.inl ⟨by rfl, ?_⟩) (by assumption) ?_
    rotate_left
    · (intro w hSw; (try dsimp only at hSw); go_simp; first | done | with_reducible rfl)
    (try simp only [Act.put, List.setIfInBounds_toArray, List.set_cons_zero, List.set_cons_succ])
    refine wpAnyH_take (i := 15) (v := ?_) (atS <| atS <| atS <| atS <| atS <| atS <| atS <| atS <| atS <| atS <| atS <| atS <| atS <| atS <| atS <| at0) (by kernel_rfl) (by kernel_rfl) (by kernel_rfl) (fun _ _ _ h => h) (Or.inl ⟨by rfl, ?_⟩) (by assumption) ?_
    rotate_left
    · (intro w hSw; (try dsimp only at hSw); go_simp; first | done | with_reducible rfl)
    (try simp only [Act.put, List.setIfInBounds_toArray, List.set_cons_zero, List.set_cons_succ])
    refine wpAnyH_take (i := 16) (v := ?_) (atS <| atS <| atS <| atS <| atS <| atS <| atS <| atS <| atS <| atS <| atS <| atS <| atS <| atS <| atS <| atS <| at0) (by kernel_rfl) (by kernel_rfl) (by kernel_rfl) (fun _ _ _ h => h) (Or.inl ⟨by rfl, ?_⟩) (by assumption) ?_
    rotate_left
    · (intro w hSw; (try dsimp only at hSw); go_simp; first | done | with_reducible rfl)
    (try simp only [Act.put, List.setIfInBounds_toArray, List.set_cons_zero, List.set_cons_succ])
    refine wpAnyH_take (i := 18) (v := ?_) (atS <| atS <| atS <| atS <| atS <| atS <| atS <| atS <| atS <| atS <| atS <| atS <| atS <| atS <| atS <| atS <| atS <| atS <| at0) (by kernel_rfl) (by kernel_rfl) (by kernel_rfl) (fun _ _ _ h => h) (Or.inl ⟨by rfl, ?_⟩) (by assumption) ?_
    rotate_left
    · (intro w hSw; (try dsimp only at hSw); go_simp; first | done | with_reducible rfl)
    (try simp only [Act.put, List.setIfInBounds_toArray, List.set_cons_zero, List.set_cons_succ])
    refine wpAnyH_take (i := 19) (v := ?_) (atS <| atS <| atS <| atS <| atS <| atS <| atS <| atS <| atS <| atS <| atS <| atS <| atS <| atS <| atS <| atS <| atS <| atS <| atS <| at0) (by kernel_rfl) (by kernel_rfl) (by kernel_rfl) (fun _ _ _ h => h) (Or.inl ⟨by rfl, ?_⟩) (by assumption) ?_
    rotate_left
    · (intro w hSw; (try dsimp only at hSw); go_simp; first | done | with_reducible rfl)
    (try simp only [Act.put, List.setIfInBounds_toArray, List.set_cons_zero, List.set_cons_succ])
    refine wpAnyH_ready (rs := [17]) (by kernel_rfl) (by simp) ?_
    refine AllReadyH.cons (atS <| atS <| atS <| atS <| atS <| atS <| atS <| atS <| atS <| atS <| atS <| atS <| atS <| atS <| atS <| atS <| atS <| at0) (fun K hK => ?_) AllReadyH.nil
    go_simp
    go_at_call 15
    refine (count_any f t s p i k A cap l.length l _ (HRL.out _ hzw5) rfl (by omega) N (by rw [HL.out]; exact HN.out)).mono ?_
    rintro e w6 ⟨rfl, hbw6⟩
    have hzw6 := hzw5.trans (hbw6.mono hzw5.size)
    (try go_wp2_with fail)
    refine hK.out _ _ (HS.out _ hzw6) (fun hHeld6 => ?_)
    clear hK K hHeld
    have hHeld := hHeld6
    clear hHeld6
    (try simp only [Act.put, List.setIfInBounds_toArray, List.set_cons_zero, List.set_cons_succ])
    refine wpAnyH_ready (rs := [20]) (by kernel_rfl) (by simp) ?_
    refine AllReadyH.cons (atS <| atS <| atS <| atS <| atS <| atS <| atS <| atS <| atS <| atS <| atS <| atS <| atS <| atS <| atS <| atS <| atS <| atS <| atS <| atS <| at0) (fun K hK => ?_) AllReadyH.nil
    go_simp
    go_at_call 16
    refine (rcount_any f t s p i k A cap l.length l _ (HRL.out _ hzw6) rfl (by omega) N (by rw [HL.out]; exact HN.out)).mono ?_
    rintro e w7 ⟨rfl, hbw7⟩
    have hzw7 := hzw6.trans (hbw7.mono hzw6.size)
    (try go_wp2_with fail)
    refine hK.out _ _ (HS.out _ hzw7) (fun hHeld7 => ?_)
    clear hK K hHeld
    have hHeld := hHeld7
    clear hHeld7
    (try simp only [Act.put, List.setIfInBounds_toArray, List.set_cons_zero, List.set_cons_succ])
    refine wpAnyH_take (i := 21) (v := ?_) (atS <| atS <| atS <| atS <| atS <| atS <| atS <| atS <| atS <| atS <| atS <| atS <| atS <| atS <| atS <| atS <| atS <| atS <| atS <| atS <| atS <| at0) (by kernel_rfl) (by kernel_rfl) (by kernel_rfl) (fun _ _ _ h => h) (Or.inl ⟨by rfl, ?_⟩) (by assumption) ?_
    rotate_left
    · (intro w hSw; (try dsimp only at hSw); go_simp; first | done | with_reducible rfl)
    (try simp only [Act.put, List.setIfInBounds_toArray, List.set_cons_zero, List.set_cons_succ])
    refine wpAnyH_take (i := 22) (v := ?_) (atS <| atS <| atS <| atS <| atS <| atS <| atS <| atS <| atS <| atS <| atS <| atS <| atS <| atS <| atS <| atS <| atS <| atS <| atS <| atS <| atS <| atS <| at0) (by kernel_rfl) (by kernel_rfl) (by kernel_rfl) (fun _ _ _ h => h) (Or.inl ⟨by rfl, ?_⟩) (by assumption) ?_
    rotate_left
    · (intro w hSw; (try dsimp only at hSw); go_simp; first | done | with_reducible rfl)
    (try simp only [Act.put, List.setIfInBounds_toArray, List.set_cons_zero, List.set_cons_succ])
    refine wpAnyH_take (i := 23) (v := ?_) (atS <| atS <| atS <| atS <| atS <| atS <| atS <| atS <| atS <| atS <| atS <| atS <| atS <| atS <| atS <| atS <| atS <| atS <| atS <| atS <| atS <| atS <| atS <| at0) (by kernel_rfl) (by kernel_rfl) (by kernel_rfl) (fun _ _ _ h => h) (Or.inl ⟨by rfl, ?_⟩) (by assumption) ?_
    rotate_left
    · (intro w hSw; (try dsimp only at hSw); go_simp; first | done | with_reducible rfl)
    (try simp only [Act.put, List.setIfInBounds_toArray, List.set_cons_zero, List.set_cons_succ])
    refine wpAnyH_ready (rs := [24]) (by kernel_rfl) (by simp) ?_
    refine AllReadyH.cons (atS <| atS <| atS <| atS <| atS <| atS <| atS <| atS <| atS <| atS <| atS <| atS <| atS <| atS <| atS <| atS <| atS <| atS <| atS <| atS <| atS <| atS <| atS <| atS <| at0) (fun K hK => ?_) AllReadyH.nil
    go_simp
    go_at_call 9
    refine (awake_any _).mono ?_
    rintro e w8 ⟨rfl, hbw8⟩
    have hzw8 := hzw7.trans (hbw8.mono hzw7.size)
    (try go_wp2_with fail)
    refine hK.out _ _ (HS.out _ hzw8) (fun hHeld8 => ?_)
    clear hK K hHeld
    have hHeld := hHeld8
    clear hHeld8
    (try simp only [Act.put, List.setIfInBounds_toArray, List.set_cons_zero, List.set_cons_succ])
    refine wpAnyH_take (i := 25) (v := ?_) (atS <| atS <| atS <| atS <| atS <| atS <| atS <| atS <| atS <| atS <| atS <| atS <| atS <| atS <| atS <| atS <| atS <| atS <| atS <| atS <| atS <| atS <| atS <| atS <| atS <| at0) (by kernel_rfl) (by kernel_rfl) (by kernel_rfl) (fun _ _ _ h => h) (Or.inl ⟨by rfl, ?_⟩) (by assumption) ?_
    rotate_left
    · (intro w hSw; (try dsimp only at hSw); go_simp; first | done | with_reducible rfl)
    (try simp only [Act.put, List.setIfInBounds_toArray, List.set_cons_zero, List.set_cons_succ])
    refine wpAnyH_take (i := 26) (v := ?_) (atS <| atS <| atS <| atS <| atS <| atS <| atS <| atS <| atS <| atS <| atS <| atS <| atS <| atS <| atS <| atS <| atS <| atS <| atS <| atS <| atS <| atS <| atS <| atS <| atS <| atS <| at0) (by kernel_rfl) (by kernel_rfl) (by kernel_rfl) (fun _ _ _ h => h) (Or.inl ⟨by rfl, ?_⟩) (by assumption) ?_
    rotate_left
    · (intro w hSw; (try dsimp only at hSw); go_simp; first | done | with_reducible rfl)
    (try simp only [Act.put, List.setIfInBounds_toArray, List.set_cons_zero, List.set_cons_succ])
    refine wpAnyH_done (by kernel_rfl) ?_ _
    go_wp2_with fail
    go_ret
    exact ⟨rfl, H0W.out.trans (hzw8.mono H0W.out.size)⟩
end Go.Proofs.Ytojadmccenkffaa
