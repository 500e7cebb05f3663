/- The reference's Next, a branch: case 3. -/
import Derived.Test.YtnbaofkgakgpgaaRefB
namespace Go.Proofs.Ytnbaofkgakgpgaa
open Go.RowKit
set_option maxHeartbeats 4000000 in
theorem rnext_eq (s : ByteArray) (p q : Int) (b off n cap : Nat) (k : Nat) (a : Int) (hak : a = (k : Int) + 1) (cs : Array Value) (w : World) (hk : k < n) (hn : n ≤ 4611686018427387904) (hb : b < w.heap.size)
    (h : InstrAt w b off k 5 a cs) :
    Calls Try.prog 15 #[.agg #[.string s, .int .i64 p, .int .i64 q, .slice (some ⟨b, off, none⟩) n cap], .int .i64 k] w (NextPost w (Fl.onlyStep n (Fl.onlyStep n [] ((k : Int) + 1)) ((k : Int) + 1))) := by
  obtain ⟨h1, h2, h3, h4, h5⟩ := h
  subst hak
  have H1 := Lib.hid h1
  clear h1
  have hr : (w.alloc (box s p q (some ⟨b, off, none⟩) n cap)).rangeAt b (off + k * 20) cs.toList := fun j v hj => ((World.cell?_alloc_past _ _ _ hb).trans (h5 j v hj))
  have hd1 : decide ((k : Int) < 0) = false := by simp
  have hd2 : decide (n ≤ k) = false := by simp; omega
  have hlt : (k : Int) < (n : Int) := by omega
  have HW := Lib.hid (fun x : Int => (show (Fl.onlyStep n [] x).length ≤ 1000000 by have := Fl.onlyStep_len n [] x; simp at this; omega))
  go_enter Try.func15, Try.ntmps15
  go_wp2_with ((with_reducible refine at_op (d := some 19) (op := .load 39 (.tmp 18)) ?_); refine wpList_fetch rfl rfl rfl 39 (.tmp 18) 19 5 rfl rfl rfl rfl rfl rfl b (off + k * 20) rfl cs _ hr Try.underlying39 rfl _ 20 Try.info39 rfl H1.out h2 rfl rfl ?_)
  clear hr h2 h5 H1 hb hd1 hd2
  have hH := heldS (s := s) (p := p) (q := q) (A := some ⟨b, off, none⟩) (n := n) (cap := cap) (w := w) (Below.refl _ _) h4
  obtain ⟨i0, i1, i2, i3, i4⟩ := hH
  have hbase : ∀ w', Below (w.heap.size + 2) ((w.alloc (box s p q (some ⟨b, off, none⟩) n cap)).alloc (.cells cs 39)) w' → Below w.heap.size w w' := fun w' h => box2 h
  have hkeep : ∀ w', Below (w.heap.size + 2) ((w.alloc (box s p q (some ⟨b, off, none⟩) n cap)).alloc (.cells cs 39)) w' → w'.cell? ⟨w.heap.size, 0, none⟩ = some (.string s) ∧ w'.cell? ⟨w.heap.size, 1, none⟩ = some (.int .i64 p) ∧ w'.cell? ⟨w.heap.size, 2, none⟩ = some (.int .i64 q) ∧ w'.cell? ⟨w.heap.size, 3, none⟩ = some (.slice (some ⟨b, off, none⟩) n cap) ∧ w'.cell? ⟨w.heap.size + 1, 1, none⟩ = some (.int .i64 ((k : Int) + 1)) := fun w' h => heldS h h4
  have hWs : w.heap.size + 2 ≤ ((w.alloc (box s p q (some ⟨b, off, none⟩) n cap)).alloc (.cells cs 39)).heap.size := by simp
  have HB := Lib.hid hbase
  have HK := Lib.hid hkeep
  clear hbase hkeep h3 h4
  unfold box at i0 i1 i2 i3 i4 hWs HB HK
  generalize ((w.alloc (.cells #[.string s, .int .i64 p, .int .i64 q, .slice (some ⟨b, off, none⟩) n cap] 24)).alloc (.cells cs 39)) = W at *
  have hnil : ([] : List Int).length ≤ 1000000 := by simp
  have hs1 : IntKind.i64.wrap ((k : Int) + 1) = (k : Int) + 1 := IntWalk.i64_in _ (by omega)
  go_region_held3 (fun w4 => w4.cell? ⟨w.heap.size, 0, none⟩ = some (.string s) ∧ w4.cell? ⟨w.heap.size, 1, none⟩ = some (.int .i64 p) ∧ w4.cell? ⟨w.heap.size, 2, none⟩ = some (.int .i64 q) ∧ w4.cell? ⟨w.heap.size, 3, none⟩ = some (.slice (some ⟨b, off, none⟩) n cap) ∧ w4.cell? ⟨w.heap.size + 1, 1, none⟩ = some (.int .i64 ((k : Int) + 1))) (first | exact ⟨i0, i1, i2, i3, i4⟩ | exact HK.out _ hbw | exact HK.out _ hbw3) (first | (go_at_call 26; refine (within_gen s p q _ n cap (w.heap.size + 2) A2 cap2 L2 _ w2 (Nat.le_trans hWs hb2.size) ho2 (hl2 rfl)).mono ?_; rintro e w3 ⟨A3, cap3, L3, rfl, ho3, hb3, hl3, HL3⟩; have hbw3 := hbw.trans hb3) | (go_at_call 26; refine (within_gen s p q _ n cap (w.heap.size + 2) none 0 [] _ W.drew hWs (Own.nil _ _) hnil).mono ?_; rintro e w2 ⟨A2, cap2, L2, rfl, ho2, hb2, hl2, HL2⟩; have hbw := (Below.refl _ W).drew.trans hb2))
  all_goals
    clear i0 i1 i2 i3 i4 hs1
    go_wp2_with fail
    go_ret
    have E2 := HL2.out
    have E3 := HL3.out
    first
      | rw [if_pos hak] at E2
      | rw [if_neg (show ¬ (a < (k : Int) + 1) by omega)] at E2
      | skip
    first
      | rw [if_pos hak] at E3
      | rw [if_neg (show ¬ ((k : Int) + 1 < a) by omega)] at E3
      | skip
    subst E2
    subst E3
    exact ⟨A3, cap3, rfl, ho3.mono (by omega), HB.out _ hbw3⟩
end Go.Proofs.Ytnbaofkgakgpgaa

