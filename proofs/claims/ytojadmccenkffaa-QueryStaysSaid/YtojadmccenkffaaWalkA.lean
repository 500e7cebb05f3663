/- The walks of Clip, Add, length, agrees and their fellows of the reference. -/
import Derived.Test.YtojadmccenkffaaProg
import Derived.Test.YtojadmccenkffaaPlainB
import Derived.WalkKit
import Derived.WalkLawsBesides
import Derived.WalkSpells
import Derived.Lib.Hide
import Derived.BigQuiet
import Derived.Deep.QuietTactic
import Derived.StillTailTactics
namespace Go.Proofs.Ytojadmccenkffaa
open Go.RowKit

theorem ret_num {k : IntKind} {a b : Int} (h : a = b) : Ending.returned (.int k a) = .returned (.int k b) := by rw [h]
theorem ret_bool {a b : Bool} (h : a = b) : Ending.returned (.bool a) = .returned (.bool b) := by rw [h]
def NumPost (w : World) (n : Int) (e : Ending) (w' : World) : Prop := e = .returned (.int .i64 n) ∧ w = w'
def BoolPost (w : World) (b : Bool) (e : Ending) (w' : World) : Prop := e = .returned (.bool b) ∧ w = w'

theorem clip_any (n : Int) (w : World) : Calls Try.prog 35 #[.int .i64 n] w (NumPost w (Qr.clip n)) := by
  by_cases h1 : 1000000000000 < n
  · have e : Qr.clip n = 1000000000000 := by unfold Qr.clip; rw [if_pos h1]
    have h2 : ¬ n < 1000000000000 := by omega
    rw [e]
    go_enter Try.func35, Try.ntmps35
    go_wp2
    go_ret
    exact ⟨rfl, rfl⟩
  · by_cases h2 : n < -1000000000000
    · have e : Qr.clip n = -1000000000000 := by unfold Qr.clip; rw [if_neg h1, if_pos h2]
      have h3 : n < 1000000000000 := by omega
      rw [e]
      go_enter Try.func35, Try.ntmps35
      go_wp2
      go_ret
      exact ⟨rfl, rfl⟩
    · have e : Qr.clip n = n := by unfold Qr.clip; rw [if_neg h1, if_neg h2]
      rw [e]
      by_cases h4 : n = 1000000000000
      · subst h4
        go_enter Try.func35, Try.ntmps35
        go_wp2
        go_ret
        exact ⟨rfl, rfl⟩
      · have h3 : n < 1000000000000 := by omega
        by_cases h5 : n = -1000000000000
        · subst h5
          go_enter Try.func35, Try.ntmps35
          go_wp2
          go_ret
          exact ⟨rfl, rfl⟩
        · have h6 : -1000000000000 < n := by omega
          go_enter Try.func35, Try.ntmps35
          go_wp2
          go_ret
          exact ⟨rfl, rfl⟩
theorem rclip_any (n : Int) (w : World) : Calls Try.prog 36 #[.int .i64 n] w (NumPost w (Qr.clip n)) := by
  by_cases h1 : 1000000000000 < n
  · have e : Qr.clip n = 1000000000000 := by unfold Qr.clip; rw [if_pos h1]
    rw [e]
    go_enter Try.func36, Try.ntmps36
    go_wp2
    go_ret
    exact ⟨rfl, rfl⟩
  · by_cases h2 : n < -1000000000000
    · have e : Qr.clip n = -1000000000000 := by unfold Qr.clip; rw [if_neg h1, if_pos h2]
      rw [e]
      go_enter Try.func36, Try.ntmps36
      go_wp2
      go_ret
      exact ⟨rfl, rfl⟩
    · have e : Qr.clip n = n := by unfold Qr.clip; rw [if_neg h1, if_neg h2]
      rw [e]
      go_enter Try.func36, Try.ntmps36
      go_wp2
      go_ret
      exact ⟨rfl, rfl⟩
theorem clip_at (n r : Int) (w : World) (h : Qr.clip n = r) : Calls Try.prog 35 #[.int .i64 n] w (NumPost w r) := by subst h; exact clip_any n w
theorem rclip_at (n r : Int) (w : World) (h : Qr.clip n = r) : Calls Try.prog 36 #[.int .i64 n] w (NumPost w r) := by subst h; exact rclip_any n w
theorem add_any (a b : Int) (w : World) : Calls Try.prog 30 #[.int .i64 a, .int .i64 b] w (NumPost w (Qr.add a b)) := by
  have ha := Qr.clip_lo a
  have hb := Qr.clip_lo b
  have hr : Qr.add a b = Qr.clip (Qr.clip a + Qr.clip b) := rfl
  obtain ⟨r, hrr⟩ : ∃ r, Qr.add a b = r := ⟨_, rfl⟩
  rw [hrr]
  rw [hrr] at hr
  obtain ⟨x, hx⟩ : ∃ x, Qr.clip a = x := ⟨_, rfl⟩
  obtain ⟨y, hy⟩ : ∃ y, Qr.clip b = y := ⟨_, rfl⟩
  rw [hx] at ha hr
  rw [hy] at hb hr
  have HX := Lib.hid hx
  have HY := Lib.hid hy
  have HR := Lib.hid hr
  clear hx hy hr hrr
  go_enter Try.func30, Try.ntmps30
  go_wp2_with fail
  refine (clip_at a x _ HX.out).mono ?_
  rintro e w1 ⟨rfl, rfl⟩
  go_wp2_with fail
  refine (clip_at b y _ HY.out).mono ?_
  rintro e w1 ⟨rfl, rfl⟩
  go_wp2_with fail
  refine (clip_at (x + y) r _ HR.out.symm).mono ?_
  rintro e w1 ⟨rfl, rfl⟩
  go_wp2_with fail
  go_ret
  exact ⟨rfl, rfl⟩
theorem radd_any (a b : Int) (w : World) : Calls Try.prog 33 #[.int .i64 a, .int .i64 b] w (NumPost w (Qr.add a b)) := by
  have ha := Qr.clip_lo a
  have hb := Qr.clip_lo b
  have hr : Qr.add a b = Qr.clip (Qr.clip a + Qr.clip b) := rfl
  obtain ⟨r, hrr⟩ : ∃ r, Qr.add a b = r := ⟨_, rfl⟩
  rw [hrr]
  rw [hrr] at hr
  obtain ⟨x, hx⟩ : ∃ x, Qr.clip a = x := ⟨_, rfl⟩
  obtain ⟨y, hy⟩ : ∃ y, Qr.clip b = y := ⟨_, rfl⟩
  rw [hx] at ha hr
  rw [hy] at hb hr
  have HX := Lib.hid hx
  have HY := Lib.hid hy
  have HR := Lib.hid hr
  clear hx hy hr hrr
  go_enter Try.func33, Try.ntmps33
  go_wp2_with fail
  refine (rclip_at a x _ HX.out).mono ?_
  rintro e w1 ⟨rfl, rfl⟩
  go_wp2_with fail
  refine (rclip_at b y _ HY.out).mono ?_
  rintro e w1 ⟨rfl, rfl⟩
  go_wp2_with fail
  refine (rclip_at (x + y) r _ HR.out.symm).mono ?_
  rintro e w1 ⟨rfl, rfl⟩
  go_wp2_with fail
  go_ret
  exact ⟨rfl, rfl⟩
theorem add_at (a b r : Int) (w : World) (h : Qr.add a b = r) : Calls Try.prog 30 #[.int .i64 a, .int .i64 b] w (NumPost w r) := by subst h; exact add_any a b w
theorem radd_at (a b r : Int) (w : World) (h : Qr.add a b = r) : Calls Try.prog 33 #[.int .i64 a, .int .i64 b] w (NumPost w r) := by subst h; exact radd_any a b w
theorem agr_one (x : Int) : Qr.agr (-1) x = true := rfl
theorem agrees_any (want n : Int) (w : World) : Calls Try.prog 26 #[.int .i64 want, .int .i64 n] w (BoolPost w (Qr.agr want n)) := by
  by_cases h1 : want = -1
  · subst h1
    go_enter Try.func26, Try.ntmps26
    go_wp2
    go_ret
    exact ⟨rfl, rfl⟩
  · have e : Qr.agr want n = (want == n) := by unfold Qr.agr; simp [h1]
    have h2 : (want == -1) = false := by simp [h1]
    rw [e]
    go_enter Try.func26, Try.ntmps26
    go_wp2
    go_ret
    exact ⟨rfl, rfl⟩
theorem ragrees_any (want n : Int) (w : World) : Calls Try.prog 32 #[.int .i64 n, .int .i64 want] w (BoolPost w (Qr.agr want n)) := by
  by_cases h1 : want = -1
  · subst h1
    go_enter Try.func32, Try.ntmps32
    go_wp2
    go_ret
    exact ⟨rfl, rfl⟩
  · have e : Qr.agr want n = (n == want) := by
      unfold Qr.agr
      have : (want == n) = (n == want) := by rw [Bool.eq_iff_iff, beq_iff_eq, beq_iff_eq]; exact ⟨Eq.symm, Eq.symm⟩
      have h3 : (want == -1) = false := by simp [h1]
      rw [h3, this]
      rfl
    have h2 : (want == -1) = false := by simp [h1]
    rw [e]
    go_enter Try.func32, Try.ntmps32
    go_wp2
    go_ret
    exact ⟨rfl, rfl⟩
theorem agrees_at (want n : Int) (b : Bool) (w : World) (h : Qr.agr want n = b) : Calls Try.prog 26 #[.int .i64 want, .int .i64 n] w (BoolPost w b) := by subst h; exact agrees_any want n w
theorem ragrees_at (want n : Int) (b : Bool) (w : World) (h : Qr.agr want n = b) : Calls Try.prog 32 #[.int .i64 n, .int .i64 want] w (BoolPost w b) := by subst h; exact ragrees_any want n w

def sv (s : Qr.St) : Value := .agg #[.int .i64 s.site, .int .i64 s.proc, .int .i64 s.index, .int .i64 s.frm, .int .i64 s.til]
def LenPost (w : World) (n : Int) (e : Ending) (w' : World) : Prop := e = .returned (.int .i64 n) ∧ Below w.heap.size w w'
theorem below_box (w : World) (o : Obj) : Below w.heap.size w (w.alloc o) := (Below.refl _ _).alloc (Nat.le_refl _) _
theorem below_drewN' {B : Nat} {a w : World} (h : Below B a w) (n : Nat) : Below B a (w.drewN n) := ⟨h.os, h.tape, h.output, h.size, h.block⟩
set_option maxHeartbeats 400000 in
theorem length_any (a b c f t : Int) (w : World) : Calls Try.prog 31 #[.agg #[.int .i64 a, .int .i64 b, .int .i64 c, .int .i64 f, .int .i64 t]] w (LenPost w (Qr.len ⟨a, b, c, f, t⟩)) := by
  by_cases h : t ≤ f
  · have e : Qr.len ⟨a, b, c, f, t⟩ = 0 := by unfold Qr.len; rw [if_pos h]
    rw [e]
    go_enter Try.func31, Try.ntmps31
    go_wp2
    go_ret
    exact ⟨rfl, below_box _ _⟩
  · have e : Qr.len ⟨a, b, c, f, t⟩ = Qr.add (Qr.clip t) (-(Qr.clip f)) := by unfold Qr.len; rw [if_neg h]
    rw [e]
    have hf := Qr.clip_lo f
    obtain ⟨r, hr⟩ : ∃ r, Qr.add (Qr.clip t) (-(Qr.clip f)) = r := ⟨_, rfl⟩
    rw [hr]
    obtain ⟨x, hx⟩ : ∃ x, Qr.clip t = x := ⟨_, rfl⟩
    obtain ⟨y, hy⟩ : ∃ y, Qr.clip f = y := ⟨_, rfl⟩
    rw [hx, hy] at hr
    rw [hy] at hf
    have HX := Lib.hid hx
    have HY := Lib.hid hy
    have HR := Lib.hid hr
    clear hx hy hr e
    go_enter Try.func31, Try.ntmps31
    go_wp2
    go_quiet ((first | (go_at_call 35; exact Calls.quiet_of_same ((clip_at t x _ HX.out).mono fun e w' h => ⟨h.1, h.2.symm⟩)) | (go_at_call 35; exact Calls.quiet_of_same ((clip_at f y _ HY.out).mono fun e w' h => ⟨h.1, h.2.symm⟩)) | (go_at_call 30; exact Calls.quiet_of_same ((add_at x (-y) r _ HR.out).mono fun e w' h => ⟨h.1, h.2.symm⟩))))
    go_wp2
    go_ret
    exact ⟨rfl, below_drewN' (below_box _ _) _⟩
end Go.Proofs.Ytojadmccenkffaa
