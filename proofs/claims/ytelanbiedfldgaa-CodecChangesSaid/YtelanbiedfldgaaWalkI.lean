/- The walks of length and Text of the program, of many and Text of the reference. -/
import Derived.Test.YtelanbiedfldgaaWalkH
import Derived.Test.YtelanbiedfldgaaPlainB
import Derived.Laws.BytesString
namespace Go.Proofs.Ytelanbiedfldgaa
open Go.RowKit

set_option maxHeartbeats 400000 in
theorem length_any (A : Option Addr) (cap : Nat) (bs : List Nat) (limit : Int) (w : World) (hb : Byts w w.heap.size A bs) (hB : Cd.Byt bs) (hl : bs.length ≤ 4611686018427387904) :
    Calls Try.prog 30 #[.slice A bs.length cap, .int .i64 limit] w (IntPost w (Cd.lenL bs limit)) := by
  have hdef : Cd.lenL bs limit = if (Cd.dec 0 0 bs).2.2 ≠ 0 then (0, 0, (Cd.dec 0 0 bs).2.2) else if (Cd.dec 0 0 bs).1 < 0 then (0, 0, 8) else if limit < (Cd.dec 0 0 bs).1 then (0, 0, 6) else ((Cd.dec 0 0 bs).1, (Cd.dec 0 0 bs).2.1, 0) := rfl
  have hc := fun w0 h => int_any A cap bs w0 h hB hl
  obtain ⟨v, hv⟩ : ∃ v, v = (Cd.dec 0 0 bs).1 := ⟨_, rfl⟩
  obtain ⟨s, hs⟩ : ∃ s, s = (Cd.dec 0 0 bs).2.1 := ⟨_, rfl⟩
  obtain ⟨e, he⟩ : ∃ e, e = (Cd.dec 0 0 bs).2.2 := ⟨_, rfl⟩
  rw [← hv, ← hs, ← he] at hdef
  unfold IntPost at hc
  rw [← hv, ← hs, ← he] at hc
  have HC := Lib.hid hc
  clear hc hv hs he
  by_cases h1 : e ≠ 0
  · rw [if_pos h1] at hdef
    rw [hdef]
    clear hdef
    have h1' : (e != 0) = true := by simp [h1]
    go_enter Try.func30, Try.ntmps30
    go_wp2_with fail
    refine (HC.out _ hb).mono ?_
    rintro e w1 ⟨rfl, hb1⟩
    go_wp2_with fail
    go_ret3
    exact ⟨rfl, hb1⟩
  · have h1' : e = 0 := by omega
    subst h1'
    rw [if_neg h1] at hdef
    by_cases h2 : v < 0
    · rw [if_pos h2] at hdef
      rw [hdef]
      clear hdef
      go_enter Try.func30, Try.ntmps30
      go_wp2_with fail
      refine (HC.out _ hb).mono ?_
      rintro e w1 ⟨rfl, hb1⟩
      go_wp2_with fail
      go_ret3
      exact ⟨rfl, hb1⟩
    · rw [if_neg h2] at hdef
      by_cases h3 : limit < v
      · rw [if_pos h3] at hdef
        rw [hdef]
        clear hdef
        go_enter Try.func30, Try.ntmps30
        go_wp2_with fail
        refine (HC.out _ hb).mono ?_
        rintro e w1 ⟨rfl, hb1⟩
        go_wp2_with fail
        go_ret3
        exact ⟨rfl, hb1⟩
      · rw [if_neg h3] at hdef
        rw [hdef]
        clear hdef
        go_enter Try.func30, Try.ntmps30
        go_wp2_with fail
        refine (HC.out _ hb).mono ?_
        rintro e w1 ⟨rfl, hb1⟩
        go_wp2_with fail
        go_ret3
        exact ⟨rfl, hb1⟩
set_option maxHeartbeats 400000 in
theorem many_any (A : Option Addr) (cap : Nat) (bs : List Nat) (limit : Int) (w : World) (hb : Byts w w.heap.size A bs) (hB : Cd.Byt bs) (hl : bs.length ≤ 4611686018427387904) :
    Calls Try.prog 32 #[.slice A bs.length cap, .int .i64 limit] w (IntPost w (Cd.lenL bs limit)) := by
  have hdef : Cd.lenL bs limit = if (Cd.dec 0 0 bs).2.2 ≠ 0 then (0, 0, (Cd.dec 0 0 bs).2.2) else if (Cd.dec 0 0 bs).1 < 0 then (0, 0, 8) else if limit < (Cd.dec 0 0 bs).1 then (0, 0, 6) else ((Cd.dec 0 0 bs).1, (Cd.dec 0 0 bs).2.1, 0) := rfl
  have hc := fun w0 h => rint_any A cap bs w0 h hB hl
  obtain ⟨v, hv⟩ : ∃ v, v = (Cd.dec 0 0 bs).1 := ⟨_, rfl⟩
  obtain ⟨s, hs⟩ : ∃ s, s = (Cd.dec 0 0 bs).2.1 := ⟨_, rfl⟩
  obtain ⟨e, he⟩ : ∃ e, e = (Cd.dec 0 0 bs).2.2 := ⟨_, rfl⟩
  rw [← hv, ← hs, ← he] at hdef
  unfold IntPost at hc
  rw [← hv, ← hs, ← he] at hc
  have HC := Lib.hid hc
  clear hc hv hs he
  by_cases h1 : e ≠ 0
  · rw [if_pos h1] at hdef
    rw [hdef]
    clear hdef
    have h1' : (e != 0) = true := by simp [h1]
    go_enter Try.func32, Try.ntmps32
    go_wp2_with fail
    refine (HC.out _ hb).mono ?_
    rintro e w1 ⟨rfl, hb1⟩
    go_wp2_with fail
    go_ret3
    exact ⟨rfl, hb1⟩
  · have h1' : e = 0 := by omega
    subst h1'
    rw [if_neg h1] at hdef
    by_cases h2 : v < 0
    · rw [if_pos h2] at hdef
      rw [hdef]
      clear hdef
      go_enter Try.func32, Try.ntmps32
      go_wp2_with fail
      refine (HC.out _ hb).mono ?_
      rintro e w1 ⟨rfl, hb1⟩
      go_wp2_with fail
      go_ret3
      exact ⟨rfl, hb1⟩
    · rw [if_neg h2] at hdef
      by_cases h3 : limit < v
      · rw [if_pos h3] at hdef
        rw [hdef]
        clear hdef
        go_enter Try.func32, Try.ntmps32
        go_wp2_with fail
        refine (HC.out _ hb).mono ?_
        rintro e w1 ⟨rfl, hb1⟩
        go_wp2_with fail
        go_ret3
        exact ⟨rfl, hb1⟩
      · rw [if_neg h3] at hdef
        rw [hdef]
        clear hdef
        go_enter Try.func32, Try.ntmps32
        go_wp2_with fail
        refine (HC.out _ hb).mono ?_
        rintro e w1 ⟨rfl, hb1⟩
        go_wp2_with fail
        go_ret3
        exact ⟨rfl, hb1⟩
end Go.Proofs.Ytelanbiedfldgaa
