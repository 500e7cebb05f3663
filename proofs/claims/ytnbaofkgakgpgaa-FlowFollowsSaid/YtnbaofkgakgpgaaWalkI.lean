/- The walks of reached and has (of the statements). -/
import Derived.Test.YtnbaofkgakgpgaaWalkH
namespace Go.Proofs.Ytnbaofkgakgpgaa
open Go.RowKit

def ReachedPost (w : World) (I : Fl.Rt) (e : Ending) (w' : World) : Prop :=
  ∃ g, e = .returned (.tuple #[.slice (some ⟨g, 0, none⟩) I.length I.length, .bool true]) ∧ OwnB w' w.heap.size g I.length (Fl.reachL I) ∧ Below w.heap.size w w'

set_option maxHeartbeats 400000 in
theorem reached_any (s : ByteArray) (p q : Int) (A : Option Addr) (cap : Nat) (I : Fl.Rt) (w : World) (hn : I.length ≤ 4398046511104) (hc : CodeAt w w.heap.size A I) :
    Calls Try.prog 18 #[.agg #[.string s, .int .i64 p, .int .i64 q, .slice A I.length cap]] w (ReachedPost w I) := by
  have hb : Below w.heap.size w (w.alloc (box s p q A I.length cap)) := (Below.refl _ _).alloc (Nat.le_refl _) _
  go_enter Try.func18, Try.ntmps18
  go_wp2_with fail
  refine (reach_any s p q A cap I _ hn ((hc.below hb).more (by simp))).mono ?_
  rintro e w1 ⟨g, rfl, hS, hb1⟩
  simp only [World.size_alloc] at hb1 hS
  obtain ⟨c0, c1, c2, c3⟩ := box_cells (Nat.lt_succ_self _) hb1
  go_wp2_with fail
  go_quiet (fail)
  go_wp2_with fail
  go_ret2
  refine ⟨g, by simp, ?_, below_drewN' (below_box hb1) _⟩
  exact (hS.below (below_drewN' (Below.refl _ _) _)).mono (Nat.le_succ _)
end Go.Proofs.Ytnbaofkgakgpgaa
