/- The walks of the reference: within and Next. -/
import Derived.Test.YtnbaofkgakgpgaaWalkI
import Derived.Deep.RegionHeld3
namespace Go.Proofs.Ytnbaofkgakgpgaa
open Go.RowKit

theorem cell_one' (w : World) (v : Value) (t : TypeId) (b : Nat) (hb : b = w.heap.size) : ∀ j u, [v][j]? = some u → (w.alloc (.cells #[v] t)).cell? ((⟨b, 0, none⟩ : Addr).add j) = some u := by
  subst hb; exact cell_one w v t

set_option maxHeartbeats 400000 in
/-- 'within', where the list is the caller's own. -/
theorem within_any (s : ByteArray) (p q : Int) (A : Option Addr) (n cap B : Nat) (A0 : Option Addr) (cap0 : Nat) (l : List Int) (x : Int) (w : World) (hB : B ≤ w.heap.size) (hown : Own w B A0 cap0 l) (hl : l.length ≤ 1000000) :
    Calls Try.prog 26 #[.agg #[.string s, .int .i64 p, .int .i64 q, .slice A n cap], .slice A0 l.length cap0, .int .i64 x] w fun e w' =>
      ∃ A' cap', e = .returned (.slice A' (Fl.onlyStep n l x).length cap') ∧ Own w' B A' cap' (Fl.onlyStep n l x) ∧ Below B w w' := by
  obtain ⟨i0, hi, hz0, hz1, hz2⟩ := info_parts Try.info3
  have hown1 := hown.alloc (box s p q A n cap)
  have hbel1 : Below B w (w.alloc (box s p q A n cap)) := (Below.refl _ _).alloc hB _
  by_cases hv : Fl.vld n x = true
  · have hv' := Fl.vld_iff.1 hv
    have hd1 : decide (x < 0) = false := by simp; omega
    have hd2 : decide ((n : Int) ≤ x) = false := by simp; omega
    by_cases hz : l.length = 0
    · obtain rfl : l = [] := List.eq_nil_of_length_eq_zero hz
      have hst : Fl.onlyStep n [] x = [x] := by rw [Fl.onlyStep_nil, hv, if_pos rfl]
      rw [hst]
      clear hst hv hv' hz
      go_enter Try.func26, Try.ntmps26
      go_wp2_with (at_builtin; refine wpList_append_own _ rfl (.tmp 32) (.tmp 34) _ rfl B 3 i0 (.int .i64 0) 1 8 Try.underlying35 hi hz0 hz1 hz2 rfl (by decide) _ _ _ rfl (hown1.alloc _) ⟨w.heap.size + 1, 0, none⟩ 1 1 [.int .i64 x] rfl rfl (cell_one' _ _ _ _ (by simp)) (one_int _ _) (by unfold maxLen; omega) (by omega) (by simp; omega) ?_; intro v2 w2 hown2 hgrow2 _)
      obtain ⟨A2, cap2, rfl, ho2, hb2⟩ := own_push (x := x) hown1 hbel1 (by simp; omega) rfl hown2 hgrow2
      go_wp2_with fail
      go_ret
      exact ⟨A2, cap2, rfl, ho2, hb2⟩
    · obtain ⟨g, rfl, hg1, hg2, hgc⟩ := hown.cell (by omega)
      obtain ⟨y, hy⟩ : ∃ y, y = l.getD (l.length - 1) 0 := ⟨_, rfl⟩
      have hyl : l.getLast? = some y := by
        rw [List.getLast?_eq_getElem?, hy, List.getD_eq_getElem?_getD, List.getElem?_eq_getElem (by omega), Option.getD_some]
      have hcy0 := hgc (l.length - 1) (by omega)
      rw [← hy] at hcy0
      have hcy := (World.cell?_alloc_past (box s p q A n cap) _ _ hg1).trans hcy0
      clear hy hgc hcy0
      have hpos : 0 < l.length := by omega
      have hd3 : decide (0 < l.length) = true := by simp; omega
      clear hz
      by_cases hne : y = x
      · have hst : Fl.onlyStep n l x = l := by unfold Fl.onlyStep; rw [hyl]; simp [hne]
        rw [hst]
        have hyx : (y == x) = true := by simp [hne]
        clear hst hv hv' hyl hne
        go_enter Try.func26, Try.ntmps26
        go_wp2_with fail
        go_ret
        exact ⟨_, _, rfl, hown1, hbel1⟩
      · have hst : Fl.onlyStep n l x = l ++ [x] := by unfold Fl.onlyStep; rw [hyl]; simp [hv, hne]
        rw [hst]
        have hyx : (y == x) = false := by simp [hne]
        clear hst hv hv' hyl hne
        go_enter Try.func26, Try.ntmps26
        go_wp2_with (at_builtin; refine wpList_append_own _ rfl (.tmp 32) (.tmp 34) _ rfl B 3 i0 (.int .i64 0) 1 8 Try.underlying35 hi hz0 hz1 hz2 rfl (by decide) _ _ _ rfl (hown1.alloc _) ⟨w.heap.size + 1, 0, none⟩ 1 1 [.int .i64 x] rfl rfl (cell_one' _ _ _ _ (by simp)) (one_int _ _) (by unfold maxLen; omega) (by omega) (by simp; omega) ?_; intro v2 w2 hown2 hgrow2 _)
        obtain ⟨A2, cap2, rfl, ho2, hb2⟩ := own_push (x := x) hown1 hbel1 (by simp; omega) rfl hown2 hgrow2
        go_wp2_with fail
        go_ret
        exact ⟨A2, cap2, rfl, ho2, hb2⟩
  · have hv' : Fl.vld n x = false := by simpa using hv
    have hst : Fl.onlyStep n l x = l := by unfold Fl.onlyStep; rw [hv']; simp
    rw [hst]
    by_cases h0 : x < 0
    · clear hst hv hv'
      go_enter Try.func26, Try.ntmps26
      go_wp2_with fail
      go_ret
      exact ⟨_, _, rfl, hown1, hbel1⟩
    · have h1 : (n : Int) ≤ x := by
        rcases Int.lt_or_le x n with h | h
        · exact absurd (Fl.vld_iff.2 ⟨by omega, h⟩) hv
        · exact h
      have hd1 : decide (x < 0) = false := by simp; omega
      clear hst hv hv'
      go_enter Try.func26, Try.ntmps26
      go_wp2_with fail
      go_ret
      exact ⟨_, _, rfl, hown1, hbel1⟩
/-! ### Next -/
theorem box2 {w w' : World} {o1 o2 : Obj} (h : Below (w.heap.size + 2) ((w.alloc o1).alloc o2) w') : Below w.heap.size w w' :=
  (((Below.refl _ _).alloc (Nat.le_refl _) _).alloc (by simp) _).trans (h.mono (by omega))
theorem box_cells2 {s : ByteArray} {p q : Int} {A : Option Addr} {n cap : Nat} {w w' : World} {o : Obj} (h : Below (w.heap.size + 2) ((w.alloc (box s p q A n cap)).alloc o) w') :
    w'.cell? ⟨w.heap.size, 0, none⟩ = some (.string s) ∧ w'.cell? ⟨w.heap.size, 1, none⟩ = some (.int .i64 p) ∧ w'.cell? ⟨w.heap.size, 2, none⟩ = some (.int .i64 q) ∧ w'.cell? ⟨w.heap.size, 3, none⟩ = some (.slice A n cap) :=
  box_cells (Nat.lt_succ_self _) (((Below.refl _ _).alloc (by simp) _).trans (h.mono (by omega)))
theorem xcell {w w' : World} {o : Obj} {cs : Array Value} {v : Value} (h : Below (w.heap.size + 2) ((w.alloc o).alloc (.cells cs 39)) w') (hc : cs[1]? = some v) : w'.cell? ⟨w.heap.size + 1, 1, none⟩ = some v := by
  have := h.cell (p := ⟨w.heap.size + 1, 1, none⟩) (by simp)
  rw [this]
  rw [World.cell?_alloc_at cs 39 (w.heap.size + 1) 1 (by simp), hc]
theorem heldS {s : ByteArray} {p q : Int} {A : Option Addr} {n cap : Nat} {w w' : World} {cs : Array Value} {v : Value} (h : Below (w.heap.size + 2) ((w.alloc (box s p q A n cap)).alloc (.cells cs 39)) w') (hc : cs[1]? = some v) :
    w'.cell? ⟨w.heap.size, 0, none⟩ = some (.string s) ∧ w'.cell? ⟨w.heap.size, 1, none⟩ = some (.int .i64 p) ∧ w'.cell? ⟨w.heap.size, 2, none⟩ = some (.int .i64 q) ∧ w'.cell? ⟨w.heap.size, 3, none⟩ = some (.slice A n cap) ∧ w'.cell? ⟨w.heap.size + 1, 1, none⟩ = some v :=
  ⟨(box_cells2 h).1, (box_cells2 h).2.1, (box_cells2 h).2.2.1, (box_cells2 h).2.2.2, xcell h hc⟩
end Go.Proofs.Ytnbaofkgakgpgaa
