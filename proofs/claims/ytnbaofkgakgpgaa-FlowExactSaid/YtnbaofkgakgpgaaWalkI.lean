/- The walks of reached and has (of the statements). -/
import Derived.Test.YtnbaofkgakgpgaaWalkH
namespace Go.Proofs.Ytnbaofkgakgpgaa
open Go.RowKit

def ReachedPost (w : World) (I : Fl.Rt) (e : Ending) (w' : World) : Prop :=
  ∃ g, e = .returned (.tuple #[.slice (some ⟨g, 0, none⟩) I.length I.length, .bool true]) ∧ OwnB w' w.heap.size g I.length (Fl.reachL I) ∧ Below w.heap.size w w'

set_option maxHeartbeats 400000 in
theorem reached_any (s : ByteArray) (p q : Int) (A : Option Addr) (cap : Nat) (I : Fl.Rt) (w : World) (hn : I.length ≤ 4398046511104) (hc : CodeAt w w.heap.size A I) :
    Calls Try.prog 18 #[.agg #[.string s, .int .i64 p, .int .i64 q, .slice A I.length cap]] w (ReachedPost w I) := by
  have hb : Below w.heap.size w (w.alloc (box s p q A I.length cap)) := (Below.refl _ _).alloc (Nat.le_refl _) _
  go_enter Try.func18, Try.ntmps18
  go_wp2_with fail
  refine (reach_any s p q A cap I _ hn ((hc.below hb).more (by simp))).mono ?_
  rintro e w1 ⟨g, rfl, hS, hb1⟩
  simp only [World.size_alloc] at hb1 hS
  obtain ⟨c0, c1, c2, c3⟩ := box_cells (Nat.lt_succ_self _) hb1
  go_wp2_with fail
  go_quiet (fail)
  go_wp2_with fail
  go_ret2
  refine ⟨g, by simp, ?_, below_drewN' (below_box hb1) _⟩
  exact (hS.below (below_drewN' (Below.refl _ _) _)).mono (Nat.le_succ _)

/-! ### has -/
def HasPost (w : World) (r : Bool) (e : Ending) (w' : World) : Prop := e = .returned (.bool r) ∧ Below w.heap.size w w'
set_option maxHeartbeats 400000 in
theorem has_any (A : Option Addr) (c : Nat) (l : List Int) (x : Int) (w : World) (ha : Ints w w.heap.size A l) (hl : l.length ≤ 4611686018427387904) :
    Calls Try.prog 20 #[.slice A l.length c, .int .i64 x] w (HasPost w (decide (x ∈ l))) := by
  go_enter Try.func20, Try.ntmps20
  go_wp2_with fail
  go_loopw [5] (fun i wr => ∃ k : Nat, k ≤ l.length ∧ i = .int .i64 k ∧ x ∉ l.take k ∧ Below w.heap.size w wr) (fun i _ => l.length - (intOf i).toNat)
  case atStart => exact ⟨0, Nat.zero_le _, rfl, by simp, Below.refl _ _⟩
  case round =>
    obtain ⟨k, hk, rfl, hnot, hbel⟩ := hrel
    have HN := Lib.hid hnot
    clear hnot
    by_cases hlt : k < l.length
    · obtain ⟨b, o, rfl, hb, hc⟩ := ha (by omega)
      have hcell := (hbel.cell (p := ⟨b, o + k, none⟩) hb).trans (hc k hlt)
      obtain ⟨y, hy⟩ : ∃ y, y = l.getD k 0 := ⟨_, rfl⟩
      rw [← hy] at hcell
      have HY := Lib.hid hy
      clear hy hc
      have he : l[k] = y := by rw [HY.out, List.getD_eq_getElem?_getD, List.getElem?_eq_getElem hlt]; rfl
      by_cases hxy : y = x
      · have hq : (y == x) = true := by simp [hxy]
        have HE := Lib.hid hxy
        have HG := Lib.hid he
        clear hxy he
        go_wp2_with fail
        go_ret
        refine ⟨ret_bool ?_, hbel⟩
        have : x ∈ l := by rw [← HE.out, ← HG.out]; exact List.getElem_mem hlt
        simp [this]
      · have hq : (y == x) = false := by simp [hxy]
        have HG := Lib.hid he
        clear he
        go_wp2_with fail
        go_roundw
        case rel =>
          refine ⟨k + 1, by omega, by go_num, ?_, hbel⟩
          rw [List.take_succ_eq_append_getElem hlt, List.mem_append, List.mem_singleton, HG.out]
          rintro (h | h)
          · exact HN.out h
          · exact hxy h.symm
        case measure => simp [intOf]; omega
    · obtain rfl : k = l.length := by omega
      go_wp2_with fail
      go_ret
      refine ⟨ret_bool ?_, hbel⟩
      have := HN.out
      rw [List.take_length] at this
      simp [this]
theorem has_is (A : Option Addr) (c : Nat) (l : List Int) (x : Int) (r : Bool) (w : World) (ha : Ints w w.heap.size A l) (hl : l.length ≤ 4611686018427387904) (hr : decide (x ∈ l) = r) :
    Calls Try.prog 20 #[.slice A l.length c, .int .i64 x] w (HasPost w r) := by
  subst hr
  exact has_any A c l x w ha hl
end Go.Proofs.Ytnbaofkgakgpgaa
