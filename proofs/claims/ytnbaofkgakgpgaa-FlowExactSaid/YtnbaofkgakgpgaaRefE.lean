/- The reference's Next at whatever number. -/
import Derived.Test.YtnbaofkgakgpgaaRefC
import Derived.Test.YtnbaofkgakgpgaaRefD
namespace Go.Proofs.Ytnbaofkgakgpgaa
open Go.RowKit
set_option maxHeartbeats 1000000 in
theorem rnext_some (s : ByteArray) (p q : Int) (b off n cap : Nat) (k : Nat) (o a : Int) (cs : Array Value) (w : World) (hk : k < n) (hn : n ≤ 4611686018427387904) (hb : b < w.heap.size)
    (h : InstrAt w b off k o a cs) :
    Calls Try.prog 15 #[.agg #[.string s, .int .i64 p, .int .i64 q, .slice (some ⟨b, off, none⟩) n cap], .int .i64 k] w (NextPost w
      (if o == 19 then [] else if o == 4 then Fl.onlyL n [a] else if o == 5 then Fl.onlyL n [min ((k : Int) + 1) a, max ((k : Int) + 1) a] else Fl.onlyL n [(k : Int) + 1])) := by
  obtain ⟨h1, h2, h3, h4, h5⟩ := h
  have H1 := Lib.hid h1
  clear h1
  have _hb1 : Below (w.heap.size + 1) (w.alloc (box s p q (some ⟨b, off, none⟩) n cap)) (w.alloc (box s p q (some ⟨b, off, none⟩) n cap)) := Below.refl _ _
  have hr : (w.alloc (box s p q (some ⟨b, off, none⟩) n cap)).rangeAt b (off + k * 20) cs.toList := fun j v hj => ((World.cell?_alloc_past _ _ _ hb).trans (h5 j v hj))
  have hd1 : decide ((k : Int) < 0) = false := by simp
  have hd2 : decide (n ≤ k) = false := by simp; omega
  have hlt : (k : Int) < (n : Int) := by omega
  by_cases e19 : o = 19
  · have b19 : (o == 19) = true := by simp [e19]
    have b4 : (o == 4) = false := by simp [e19]
    rw [if_pos b19]
    clear e19
    go_enter Try.func15, Try.ntmps15
    go_wp2_with ((with_reducible refine at_op (d := some 19) (op := .load 39 (.tmp 18)) ?_); refine wpList_fetch rfl rfl rfl 39 (.tmp 18) 19 5 rfl rfl rfl rfl rfl rfl b (off + k * 20) rfl cs _ hr Try.underlying39 rfl _ 20 Try.info39 rfl H1.out h2 rfl rfl ?_)
    go_ret
    exact ⟨none, 0, rfl, Own.nil _ _, box2 (Below.refl _ _)⟩
  · have b19 : (o == 19) = false := by simp [e19]
    rw [if_neg (by simp [b19])]
    clear e19
    by_cases e4 : o = 4
    · have b4 : (o == 4) = true := by simp [e4]
      rw [if_pos b4, Fl.onlyL_one]
      clear e4
      go_enter Try.func15, Try.ntmps15
      go_wp2_with ((with_reducible refine at_op (d := some 19) (op := .load 39 (.tmp 18)) ?_); refine wpList_fetch rfl rfl rfl 39 (.tmp 18) 19 5 rfl rfl rfl rfl rfl rfl b (off + k * 20) rfl cs _ hr Try.underlying39 rfl _ 20 Try.info39 rfl H1.out h2 rfl rfl ?_)
      refine (within_any s p q _ n cap (w.heap.size + 2) none 0 [] a _ (by simp) (Own.nil _ _) (by simp)).mono ?_
      rintro e w2 ⟨A', cap', rfl, ho, hbw⟩
      go_wp2_with fail
      go_ret
      exact ⟨A', cap', rfl, ho.mono (by omega), box2 hbw⟩
    · have b4 : (o == 4) = false := by simp [e4]
      rw [if_neg (by simp [b4])]
      clear e4
      by_cases e5 : o = 5
      · have b5 : (o == 5) = true := by simp [e5]
        rw [if_pos b5, Fl.onlyL_two]
        subst e5
        by_cases hak : a < (k : Int) + 1
        · rw [Int.min_eq_right (Int.le_of_lt hak), Int.max_eq_left (Int.le_of_lt hak)]
          exact rnext_lt s p q b off n cap k a hak cs w hk hn hb ⟨H1.out, h2, h3, h4, h5⟩
        · by_cases hka : (k : Int) + 1 < a
          · rw [Int.min_eq_left (Int.le_of_lt hka), Int.max_eq_right (Int.le_of_lt hka)]
            exact rnext_gt s p q b off n cap k a hka cs w hk hn hb ⟨H1.out, h2, h3, h4, h5⟩
          · have hka' : a = (k : Int) + 1 := by omega
            rw [hka', Int.min_self, Int.max_self]
            exact rnext_eq s p q b off n cap k a hka' cs w hk hn hb ⟨H1.out, h2, h3, h4, h5⟩
      · have b5 : (o == 5) = false := by simp [e5]
        rw [if_neg (by simp [b5]), Fl.onlyL_one]
        clear e5
        go_enter Try.func15, Try.ntmps15
        go_wp2_with ((with_reducible refine at_op (d := some 19) (op := .load 39 (.tmp 18)) ?_); refine wpList_fetch rfl rfl rfl 39 (.tmp 18) 19 5 rfl rfl rfl rfl rfl rfl b (off + k * 20) rfl cs _ hr Try.underlying39 rfl _ 20 Try.info39 rfl H1.out h2 rfl rfl ?_)
        refine (within_any s p q _ n cap (w.heap.size + 2) none 0 [] ((k : Int) + 1) _ (by simp) (Own.nil _ _) (by simp)).mono ?_
        rintro e w2 ⟨A', cap', rfl, ho, hbw⟩
        go_wp2_with fail
        go_ret
        exact ⟨A', cap', rfl, ho.mono (by omega), box2 hbw⟩

set_option maxHeartbeats 400000 in
theorem rnext_none (s : ByteArray) (p q : Int) (A : Option Addr) (n cap : Nat) (i : Int) (w : World) (hi : Fl.vld n i = false) :
    Calls Try.prog 15 #[.agg #[.string s, .int .i64 p, .int .i64 q, .slice A n cap], .int .i64 i] w (NextPost w []) := by
  by_cases h0 : i < 0
  · clear hi
    go_enter Try.func15, Try.ntmps15
    go_wp2_with fail
    go_ret
    exact ⟨none, 0, rfl, Own.nil _ _, (Below.refl _ _).alloc (Nat.le_refl _) _⟩
  · have h1 : (n : Int) ≤ i := by
      rcases Int.lt_or_le i n with h | h
      · rw [Fl.vld_iff.2 ⟨by omega, h⟩] at hi; exact absurd hi (by simp)
      · exact h
    have hd1 : decide (i < 0) = false := by simp; omega
    clear hi
    go_enter Try.func15, Try.ntmps15
    go_wp2_with fail
    go_ret
    exact ⟨none, 0, rfl, Own.nil _ _, (Below.refl _ _).alloc (Nat.le_refl _) _⟩
/-- The reference's 'Next', at whatever number. -/
theorem rnext_any (s : ByteArray) (p q : Int) (A : Option Addr) (cap : Nat) (I : Fl.Rt) (i : Int) (w : World) (hn : I.length ≤ 4611686018427387904) (hc : CodeAt w w.heap.size A I) :
    Calls Try.prog 15 #[.agg #[.string s, .int .i64 p, .int .i64 q, .slice A I.length cap], .int .i64 i] w (NextPost w (Fl.nextL I i)) := by
  by_cases hv : Fl.vld I.length i = true
  · have hv' := Fl.vld_iff.1 hv
    obtain ⟨b, off, rfl, hb, hcell⟩ := hc (by omega)
    obtain ⟨k, rfl⟩ := Int.eq_ofNat_of_zero_le hv'.1
    obtain ⟨cs, h1, h2, h3, h4, h5⟩ := hcell k (by omega)
    have := rnext_some s p q b off I.length cap k _ _ cs w (by omega) hn hb ⟨h1, h2, h3, h4, h5⟩
    unfold Fl.nextL
    rw [if_pos hv]
    exact this
  · have hv' : Fl.vld I.length i = false := by simpa using hv
    unfold Fl.nextL
    rw [if_neg hv]
    exact rnext_none s p q A I.length cap i w hv'
end Go.Proofs.Ytnbaofkgakgpgaa
