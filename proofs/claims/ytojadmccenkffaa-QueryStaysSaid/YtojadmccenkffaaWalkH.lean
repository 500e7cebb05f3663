/- The walks of Check, Filter, selects and Count, of the program and of the reference. -/
import Derived.Test.YtojadmccenkffaaWalkG
namespace Go.Proofs.Ytojadmccenkffaa
open Go.RowKit

set_option maxHeartbeats 1000000 in
theorem check_any (f t s p i k : Int) (w : World) : Calls Try.prog 10 #[.agg #[.int .i64 f, .int .i64 t, .int .i64 s, .int .i64 p, .int .i64 i, .int .i64 k]] w (LenPost w (Qr.bad ⟨f, t, s, p, i, k⟩)) := by
  by_cases h0 : f < 0
  · have e : Qr.bad ⟨f, t, s, p, i, k⟩ = 2 := by unfold Qr.bad; rw [if_pos (by simp only []; omega)]
    rw [e]
    clear e
    go_enter Try.func10, Try.ntmps10
    go_wp2
    go_ret
    exact ⟨rfl, below_box _ _⟩
  · by_cases h1 : t < 0
    · have e : Qr.bad ⟨f, t, s, p, i, k⟩ = 2 := by unfold Qr.bad; rw [if_pos (by simp only []; omega)]
      rw [e]
      clear e
      go_enter Try.func10, Try.ntmps10
      go_wp2
      go_ret
      exact ⟨rfl, below_box _ _⟩
    · by_cases h2 : 1000000001 < t
      · have e : Qr.bad ⟨f, t, s, p, i, k⟩ = 2 := by unfold Qr.bad; rw [if_pos (by simp only []; omega)]
        rw [e]
        clear e
        go_enter Try.func10, Try.ntmps10
        go_wp2
        go_ret
        exact ⟨rfl, below_box _ _⟩
      · by_cases h3 : s < -1
        · have e : Qr.bad ⟨f, t, s, p, i, k⟩ = 2 := by unfold Qr.bad; rw [if_pos (by simp only []; omega)]
          rw [e]
          clear e
          go_enter Try.func10, Try.ntmps10
          go_wp2
          go_ret
          exact ⟨rfl, below_box _ _⟩
        · by_cases h4 : p < -1
          · have e : Qr.bad ⟨f, t, s, p, i, k⟩ = 2 := by unfold Qr.bad; rw [if_pos (by simp only []; omega)]
            rw [e]
            clear e
            go_enter Try.func10, Try.ntmps10
            go_wp2
            go_ret
            exact ⟨rfl, below_box _ _⟩
          · by_cases h5 : i < -1
            · have e : Qr.bad ⟨f, t, s, p, i, k⟩ = 2 := by unfold Qr.bad; rw [if_pos (by simp only []; omega)]
              rw [e]
              clear e
              go_enter Try.func10, Try.ntmps10
              go_wp2
              go_ret
              exact ⟨rfl, below_box _ _⟩
            · by_cases h6 : k < 0
              · have e : Qr.bad ⟨f, t, s, p, i, k⟩ = 1 := by unfold Qr.bad; rw [if_neg (by simp only []; omega), if_pos (by simp only []; omega)]
                rw [e]
                clear e
                go_enter Try.func10, Try.ntmps10
                go_wp2
                go_ret
                exact ⟨rfl, below_box _ _⟩
              · by_cases h7 : 18 < k
                · have e : Qr.bad ⟨f, t, s, p, i, k⟩ = 1 := by unfold Qr.bad; rw [if_neg (by simp only []; omega), if_pos (by simp only []; omega)]
                  rw [e]
                  clear e
                  go_enter Try.func10, Try.ntmps10
                  go_wp2
                  go_ret
                  exact ⟨rfl, below_box _ _⟩
                · have e : Qr.bad ⟨f, t, s, p, i, k⟩ = 0 := by unfold Qr.bad; rw [if_neg (by simp only []; omega), if_neg (by simp only []; omega)]
                  rw [e]
                  clear e
                  go_enter Try.func10, Try.ntmps10
                  go_wp2
                  go_ret
                  exact ⟨rfl, below_box _ _⟩
set_option maxHeartbeats 1000000 in
theorem rcheck_any (f t s p i k : Int) (w : World) : Calls Try.prog 11 #[.agg #[.int .i64 f, .int .i64 t, .int .i64 s, .int .i64 p, .int .i64 i, .int .i64 k]] w (LenPost w (Qr.bad ⟨f, t, s, p, i, k⟩)) := by
  by_cases h0 : f < 0
  · have e : Qr.bad ⟨f, t, s, p, i, k⟩ = 2 := by unfold Qr.bad; rw [if_pos (by simp only []; omega)]
    rw [e]
    clear e
    go_enter Try.func11, Try.ntmps11
    go_wp2
    go_ret
    exact ⟨rfl, below_box _ _⟩
  · by_cases h1 : t < 0
    · have e : Qr.bad ⟨f, t, s, p, i, k⟩ = 2 := by unfold Qr.bad; rw [if_pos (by simp only []; omega)]
      rw [e]
      clear e
      go_enter Try.func11, Try.ntmps11
      go_wp2
      go_ret
      exact ⟨rfl, below_box _ _⟩
    · by_cases h2 : 1000000001 < t
      · have e : Qr.bad ⟨f, t, s, p, i, k⟩ = 2 := by unfold Qr.bad; rw [if_pos (by simp only []; omega)]
        rw [e]
        clear e
        go_enter Try.func11, Try.ntmps11
        go_wp2
        go_ret
        exact ⟨rfl, below_box _ _⟩
      · by_cases h3 : s < -1
        · have e : Qr.bad ⟨f, t, s, p, i, k⟩ = 2 := by unfold Qr.bad; rw [if_pos (by simp only []; omega)]
          rw [e]
          clear e
          go_enter Try.func11, Try.ntmps11
          go_wp2
          go_ret
          exact ⟨rfl, below_box _ _⟩
        · by_cases h4 : p < -1
          · have e : Qr.bad ⟨f, t, s, p, i, k⟩ = 2 := by unfold Qr.bad; rw [if_pos (by simp only []; omega)]
            rw [e]
            clear e
            go_enter Try.func11, Try.ntmps11
            go_wp2
            go_ret
            exact ⟨rfl, below_box _ _⟩
          · by_cases h5 : i < -1
            · have e : Qr.bad ⟨f, t, s, p, i, k⟩ = 2 := by unfold Qr.bad; rw [if_pos (by simp only []; omega)]
              rw [e]
              clear e
              go_enter Try.func11, Try.ntmps11
              go_wp2
              go_ret
              exact ⟨rfl, below_box _ _⟩
            · by_cases h6 : k < 0
              · have e : Qr.bad ⟨f, t, s, p, i, k⟩ = 1 := by unfold Qr.bad; rw [if_neg (by simp only []; omega), if_pos (by simp only []; omega)]
                rw [e]
                clear e
                go_enter Try.func11, Try.ntmps11
                go_wp2
                go_ret
                exact ⟨rfl, below_box _ _⟩
              · by_cases h7 : 18 < k
                · have e : Qr.bad ⟨f, t, s, p, i, k⟩ = 1 := by unfold Qr.bad; rw [if_neg (by simp only []; omega), if_pos (by simp only []; omega)]
                  rw [e]
                  clear e
                  go_enter Try.func11, Try.ntmps11
                  go_wp2
                  go_ret
                  exact ⟨rfl, below_box _ _⟩
                · have e : Qr.bad ⟨f, t, s, p, i, k⟩ = 0 := by unfold Qr.bad; rw [if_neg (by simp only []; omega), if_neg (by simp only []; omega)]
                  rw [e]
                  clear e
                  go_enter Try.func11, Try.ntmps11
                  go_wp2
                  go_ret
                  exact ⟨rfl, below_box _ _⟩
theorem check_at (f t s p i k : Int) (n : Int) (w : World) (h : (Qr.bad ⟨f, t, s, p, i, k⟩ : Int) = n) : Calls Try.prog 10 #[.agg #[.int .i64 f, .int .i64 t, .int .i64 s, .int .i64 p, .int .i64 i, .int .i64 k]] w (LenPost w n) := by subst h; exact check_any f t s p i k w
theorem rcheck_at (f t s p i k : Int) (n : Int) (w : World) (h : (Qr.bad ⟨f, t, s, p, i, k⟩ : Int) = n) : Calls Try.prog 11 #[.agg #[.int .i64 f, .int .i64 t, .int .i64 s, .int .i64 p, .int .i64 i, .int .i64 k]] w (LenPost w n) := by subst h; exact rcheck_any f t s p i k w
def RcsPost (w : World) (n : Nat) (L : List Qr.Rc) (e : Ending) (w' : World) : Prop := ∃ A cap, e = .returned (.slice A n cap) ∧ OwnL rcs 34 6 w' w.heap.size A cap L ∧ Below w.heap.size w w'
theorem filter_snoc {q : Qr.Ak} {l : List Qr.Rc} {n : Nat} (h : n < l.length) : (l.take (n + 1)).filter (Qr.sel q) = (l.take n).filter (Qr.sel q) ++ (if Qr.sel q l[n] = true then [l[n]] else []) := by
  rw [take_snoc' h, List.filter_append]
  congr 1
  simp only [List.filter_cons, List.filter_nil]
def TruePost' (w : World) (b : Bool) (e : Ending) (w' : World) : Prop := e = .returned (.bool b) ∧ Below w.heap.size w w'
set_option maxRecDepth 100000 in
set_option maxHeartbeats 2000000 in
theorem selects_any (f t s p i k a0 a1 a2 a3 a4 a5 : Int) (w : World) : Calls Try.prog 27 #[.agg #[.int .i64 f, .int .i64 t, .int .i64 s, .int .i64 p, .int .i64 i, .int .i64 k], .agg #[.int .i64 a0, .int .i64 a1, .int .i64 a2, .int .i64 a3, .int .i64 a4, .int .i64 a5]] w (TruePost' w (Qr.sel ⟨f, t, s, p, i, k⟩ ⟨a0, a1, a2, a3, a4, a5⟩)) := by
  have hbb := (below_box w (.cells #[.int .i64 f, .int .i64 t, .int .i64 s, .int .i64 p, .int .i64 i, .int .i64 k] 24)).trans ((below_box (w.alloc (.cells #[.int .i64 f, .int .i64 t, .int .i64 s, .int .i64 p, .int .i64 i, .int .i64 k] 24)) (.cells #[.int .i64 a0, .int .i64 a1, .int .i64 a2, .int .i64 a3, .int .i64 a4, .int .i64 a5] 34)).mono (below_box w _).size)
  by_cases h0 : f ≤ a0
  · by_cases h1 : a0 < t
    · cases hg0 : Qr.agr s a1 with
      | false =>
        have HP := Lib.hid (show Qr.sel ⟨f, t, s, p, i, k⟩ ⟨a0, a1, a2, a3, a4, a5⟩ = false by unfold Qr.sel; simp only [hg0, Bool.false_and, Bool.and_false])
        have HG0 := Lib.hid hg0
        clear hg0
        rw [HP.out]
        go_enter Try.func27, Try.ntmps27
        go_wp2_with fail
        refine (ragrees_at s a1 false _ HG0.out).mono ?_
        rintro e w8 ⟨rfl, rfl⟩
        go_wp2_with fail
        go_ret
        exact ⟨rfl, hbb⟩
      | true =>
        have HG0 := Lib.hid hg0
        clear hg0
        cases hg1 : Qr.agr p a3 with
        | false =>
          have HP := Lib.hid (show Qr.sel ⟨f, t, s, p, i, k⟩ ⟨a0, a1, a2, a3, a4, a5⟩ = false by unfold Qr.sel; simp only [hg1, Bool.false_and, Bool.and_false])
          have HG1 := Lib.hid hg1
          clear hg1
          rw [HP.out]
          go_enter Try.func27, Try.ntmps27
          go_wp2_with fail
          refine (ragrees_at s a1 true _ HG0.out).mono ?_
          rintro e w8 ⟨rfl, rfl⟩
          go_wp2_with fail
          refine (ragrees_at p a3 false _ HG1.out).mono ?_
          rintro e w8 ⟨rfl, rfl⟩
          go_wp2_with fail
          go_ret
          exact ⟨rfl, hbb⟩
        | true =>
          have HG1 := Lib.hid hg1
          clear hg1
          cases hg2 : Qr.agr i a4 with
          | false =>
            have HP := Lib.hid (show Qr.sel ⟨f, t, s, p, i, k⟩ ⟨a0, a1, a2, a3, a4, a5⟩ = false by unfold Qr.sel; simp only [hg2, Bool.false_and, Bool.and_false])
            have HG2 := Lib.hid hg2
            clear hg2
            rw [HP.out]
            go_enter Try.func27, Try.ntmps27
            go_wp2_with fail
            refine (ragrees_at s a1 true _ HG0.out).mono ?_
            rintro e w8 ⟨rfl, rfl⟩
            go_wp2_with fail
            refine (ragrees_at p a3 true _ HG1.out).mono ?_
            rintro e w8 ⟨rfl, rfl⟩
            go_wp2_with fail
            refine (ragrees_at i a4 false _ HG2.out).mono ?_
            rintro e w8 ⟨rfl, rfl⟩
            go_wp2_with fail
            go_ret
            exact ⟨rfl, hbb⟩
          | true =>
            have HG2 := Lib.hid hg2
            clear hg2
            cases hz : (k == 0) with
            | true =>
              have HP := Lib.hid (show Qr.sel ⟨f, t, s, p, i, k⟩ ⟨a0, a1, a2, a3, a4, a5⟩ = true by unfold Qr.sel; simp [h0, h1, HG0.out, HG1.out, HG2.out, hz])
              rw [HP.out]
              go_enter Try.func27, Try.ntmps27
              go_wp2_with fail
              refine (ragrees_at s a1 true _ HG0.out).mono ?_
              rintro e w8 ⟨rfl, rfl⟩
              go_wp2_with fail
              refine (ragrees_at p a3 true _ HG1.out).mono ?_
              rintro e w8 ⟨rfl, rfl⟩
              go_wp2_with fail
              refine (ragrees_at i a4 true _ HG2.out).mono ?_
              rintro e w8 ⟨rfl, rfl⟩
              go_wp2_with fail
              go_ret
              exact ⟨rfl, hbb⟩
            | false =>
              cases hy : (k == a2) with
              | true =>
                have HP := Lib.hid (show Qr.sel ⟨f, t, s, p, i, k⟩ ⟨a0, a1, a2, a3, a4, a5⟩ = true by unfold Qr.sel; simp [h0, h1, HG0.out, HG1.out, HG2.out, hy])
                rw [HP.out]
                go_enter Try.func27, Try.ntmps27
                go_wp2_with fail
                refine (ragrees_at s a1 true _ HG0.out).mono ?_
                rintro e w8 ⟨rfl, rfl⟩
                go_wp2_with fail
                refine (ragrees_at p a3 true _ HG1.out).mono ?_
                rintro e w8 ⟨rfl, rfl⟩
                go_wp2_with fail
                refine (ragrees_at i a4 true _ HG2.out).mono ?_
                rintro e w8 ⟨rfl, rfl⟩
                go_wp2_with fail
                go_ret
                exact ⟨rfl, hbb⟩
              | false =>
                have HP := Lib.hid (show Qr.sel ⟨f, t, s, p, i, k⟩ ⟨a0, a1, a2, a3, a4, a5⟩ = false by unfold Qr.sel; simp only [hz, hy, Bool.or_self, Bool.and_false])
                rw [HP.out]
                go_enter Try.func27, Try.ntmps27
                go_wp2_with fail
                refine (ragrees_at s a1 true _ HG0.out).mono ?_
                rintro e w8 ⟨rfl, rfl⟩
                go_wp2_with fail
                refine (ragrees_at p a3 true _ HG1.out).mono ?_
                rintro e w8 ⟨rfl, rfl⟩
                go_wp2_with fail
                refine (ragrees_at i a4 true _ HG2.out).mono ?_
                rintro e w8 ⟨rfl, rfl⟩
                go_wp2_with fail
                go_ret
                exact ⟨rfl, hbb⟩
    · have HP := Lib.hid (show Qr.sel ⟨f, t, s, p, i, k⟩ ⟨a0, a1, a2, a3, a4, a5⟩ = false by unfold Qr.sel; simp [h1])
      rw [HP.out]
      go_enter Try.func27, Try.ntmps27
      go_wp2_with fail
      go_ret
      exact ⟨rfl, hbb⟩
  · have HP := Lib.hid (show Qr.sel ⟨f, t, s, p, i, k⟩ ⟨a0, a1, a2, a3, a4, a5⟩ = false by unfold Qr.sel; simp [h0])
    rw [HP.out]
    go_enter Try.func27, Try.ntmps27
    go_wp2_with fail
    go_ret
    exact ⟨rfl, hbb⟩
set_option maxRecDepth 100000 in
set_option maxHeartbeats 4000000 in
theorem filter_any (f t s p i k : Int) (A : Option Addr) (cap m : Nat) (l : List Qr.Rc) (w : World) (hr : RdL rcs 6 w w.heap.size A l) (hm : l.length = m) (hl : m ≤ 1000) (L : List Qr.Rc) (hL : Qr.filt ⟨f, t, s, p, i, k⟩ l = L) (N : Nat) (hN : L.length = N) :
    Calls Try.prog 13 #[.agg #[.int .i64 f, .int .i64 t, .int .i64 s, .int .i64 p, .int .i64 i, .int .i64 k], .slice A m cap] w (RcsPost w N L) := by
  subst hm; subst hN
  have HR := Lib.hid (hr.after (below_box w (.cells #[.int .i64 f, .int .i64 t, .int .i64 s, .int .i64 p, .int .i64 i, .int .i64 k] 24)))
  clear hr
  have h0w := below_box w (.cells #[.int .i64 f, .int .i64 t, .int .i64 s, .int .i64 p, .int .i64 i, .int .i64 k] 24)
  by_cases hbad : Qr.bad ⟨f, t, s, p, i, k⟩ = 0
  · have hL2 : l.filter (Qr.sel ⟨f, t, s, p, i, k⟩) = L := by rw [← hL]; unfold Qr.filt; rw [if_pos hbad]
    have HLL := Lib.hid hL2
    have HBAD := Lib.hid (show (Qr.bad ⟨f, t, s, p, i, k⟩ : Int) = 0 by rw [hbad]; rfl)
    clear hL hL2 hbad
    go_enter Try.func13, Try.ntmps13
    go_wp2_with fail
    refine (check_at f t s p i k 0 _ HBAD.out).mono ?_
    rintro e w1 ⟨rfl, hb1⟩
    have HZ := Lib.hid hb1
    clear hb1
    go_wp2_with fail
    go_loopw [5, 13] (fun v x wr => ∃ (n : Nat) (O : List Qr.Rc) (A' : Option Addr) (cap' : Nat), n ≤ l.length ∧ x = .int .i64 n ∧ v = .slice A' O.length cap' ∧ O = (l.take n).filter (Qr.sel ⟨f, t, s, p, i, k⟩) ∧ O.length ≤ n ∧
        OwnL rcs 34 6 wr (w.alloc (.cells #[.int .i64 f, .int .i64 t, .int .i64 s, .int .i64 p, .int .i64 i, .int .i64 k] 24)).heap.size A' cap' O ∧ Below (w.alloc (.cells #[.int .i64 f, .int .i64 t, .int .i64 s, .int .i64 p, .int .i64 i, .int .i64 k] 24)).heap.size (w.alloc (.cells #[.int .i64 f, .int .i64 t, .int .i64 s, .int .i64 p, .int .i64 i, .int .i64 k] 24)) wr) (fun _ x _ => l.length - (intOf x).toNat)
    case atStart => exact ⟨0, [], none, 0, Nat.zero_le _, rfl, rfl, rfl, Nat.le_refl _, OwnL.nil _ _ _, HZ.out⟩
    case round =>
      clear HZ
      obtain ⟨n, O, A', cap', hn, rfl, rfl, hO, hOl, hown, hbel⟩ := hrel
      have HO := Lib.hid hO
      have HOW := Lib.hid hown
      have HBE := Lib.hid hbel
      have HBLK := Lib.hid (fun x hx => (World.ownsRow.lt hown x hx).1)
      have hsz0 := Nat.le_refl (w.alloc (.cells #[.int .i64 f, .int .i64 t, .int .i64 s, .int .i64 p, .int .i64 i, .int .i64 k] 24)).heap.size
      clear hO hown hbel
      by_cases hlt : n < l.length
      · obtain ⟨b, off, rfl, hbl, hcell⟩ := (HR.out.below HBE.out) (by omega)
        have hc := hcell n hlt
        have hsn := filter_snoc (q := ⟨f, t, s, p, i, k⟩) hlt
        obtain ⟨⟨a0, a1, a2, a3, a4, a5⟩, hx⟩ : ∃ x, l[n] = x := ⟨_, rfl⟩
        rw [hx] at hc hsn
        have HS := Lib.hid hsn
        have c0 : wr.cell? ⟨b, off + n * 6, none⟩ = some (.int .i64 a0) := hc 0 _ rfl
        have c1 : wr.cell? ⟨b, off + n * 6 + 1, none⟩ = some (.int .i64 a1) := hc 1 _ rfl
        have c2 : wr.cell? ⟨b, off + n * 6 + 2, none⟩ = some (.int .i64 a2) := hc 2 _ rfl
        have c3 : wr.cell? ⟨b, off + n * 6 + 3, none⟩ = some (.int .i64 a3) := hc 3 _ rfl
        have c4 : wr.cell? ⟨b, off + n * 6 + 4, none⟩ = some (.int .i64 a4) := hc 4 _ rfl
        have c5 : wr.cell? ⟨b, off + n * 6 + 5, none⟩ = some (.int .i64 a5) := hc 5 _ rfl
        have q0 : wr.cell? ⟨w.heap.size, 0, none⟩ = some (.int .i64 f) := (HBE.out.cell (p := ⟨w.heap.size, 0, none⟩) (by simp)).trans (World.cell?_alloc_at _ 24 _ 0 rfl)
        have q1 : wr.cell? ⟨w.heap.size, 1, none⟩ = some (.int .i64 t) := (HBE.out.cell (p := ⟨w.heap.size, 1, none⟩) (by simp)).trans (World.cell?_alloc_at _ 24 _ 1 rfl)
        have q2 : wr.cell? ⟨w.heap.size, 2, none⟩ = some (.int .i64 s) := (HBE.out.cell (p := ⟨w.heap.size, 2, none⟩) (by simp)).trans (World.cell?_alloc_at _ 24 _ 2 rfl)
        have q3 : wr.cell? ⟨w.heap.size, 3, none⟩ = some (.int .i64 p) := (HBE.out.cell (p := ⟨w.heap.size, 3, none⟩) (by simp)).trans (World.cell?_alloc_at _ 24 _ 3 rfl)
        have q4 : wr.cell? ⟨w.heap.size, 4, none⟩ = some (.int .i64 i) := (HBE.out.cell (p := ⟨w.heap.size, 4, none⟩) (by simp)).trans (World.cell?_alloc_at _ 24 _ 4 rfl)
        have q5 : wr.cell? ⟨w.heap.size, 5, none⟩ = some (.int .i64 k) := (HBE.out.cell (p := ⟨w.heap.size, 5, none⟩) (by simp)).trans (World.cell?_alloc_at _ 24 _ 5 rfl)
        clear hc hcell hx hsn
        have BX := Lib.hid (below_box wr (.cells #[.int .i64 a0, .int .i64 a1, .int .i64 a2, .int .i64 a3, .int .i64 a4, .int .i64 a5] 34))
        have hwl : w.heap.size < wr.heap.size := Nat.lt_of_lt_of_le (by simp) HBE.out.size
        have r0 : (wr.alloc (.cells #[.int .i64 a0, .int .i64 a1, .int .i64 a2, .int .i64 a3, .int .i64 a4, .int .i64 a5] 34)).cell? ⟨w.heap.size, 0, none⟩ = some (.int .i64 f) := (BX.out.cell (p := ⟨w.heap.size, 0, none⟩) hwl).trans q0
        have r1 : (wr.alloc (.cells #[.int .i64 a0, .int .i64 a1, .int .i64 a2, .int .i64 a3, .int .i64 a4, .int .i64 a5] 34)).cell? ⟨w.heap.size, 1, none⟩ = some (.int .i64 t) := (BX.out.cell (p := ⟨w.heap.size, 1, none⟩) hwl).trans q1
        have r2 : (wr.alloc (.cells #[.int .i64 a0, .int .i64 a1, .int .i64 a2, .int .i64 a3, .int .i64 a4, .int .i64 a5] 34)).cell? ⟨w.heap.size, 2, none⟩ = some (.int .i64 s) := (BX.out.cell (p := ⟨w.heap.size, 2, none⟩) hwl).trans q2
        have r3 : (wr.alloc (.cells #[.int .i64 a0, .int .i64 a1, .int .i64 a2, .int .i64 a3, .int .i64 a4, .int .i64 a5] 34)).cell? ⟨w.heap.size, 3, none⟩ = some (.int .i64 p) := (BX.out.cell (p := ⟨w.heap.size, 3, none⟩) hwl).trans q3
        have r4 : (wr.alloc (.cells #[.int .i64 a0, .int .i64 a1, .int .i64 a2, .int .i64 a3, .int .i64 a4, .int .i64 a5] 34)).cell? ⟨w.heap.size, 4, none⟩ = some (.int .i64 i) := (BX.out.cell (p := ⟨w.heap.size, 4, none⟩) hwl).trans q4
        have r5 : (wr.alloc (.cells #[.int .i64 a0, .int .i64 a1, .int .i64 a2, .int .i64 a3, .int .i64 a4, .int .i64 a5] 34)).cell? ⟨w.heap.size, 5, none⟩ = some (.int .i64 k) := (BX.out.cell (p := ⟨w.heap.size, 5, none⟩) hwl).trans q5
        clear q0 q1 q2 q3 q4 q5
        by_cases h0 : f ≤ a0
        · by_cases h1 : a0 < t
          · cases hg0 : Qr.agr s a1 with
            | false =>
              have HP := Lib.hid (show Qr.sel ⟨f, t, s, p, i, k⟩ ⟨a0, a1, a2, a3, a4, a5⟩ = false by unfold Qr.sel; simp only [hg0, Bool.false_and, Bool.and_false])
              have HG0 := Lib.hid hg0
              clear hg0
              go_wp2_with fail
              refine (agrees_at s a1 false _ HG0.out).mono ?_
              rintro e w8 ⟨rfl, rfl⟩
              go_wp2_with fail
              go_roundw
              case rel => exact ⟨n + 1, O, A', cap', by omega, by go_num, rfl, by rw [HS.out, if_neg (by rw [HP.out]; simp), List.append_nil]; exact HO.out, by omega, HOW.out.below BX.out, HBE.out.trans (BX.out.mono HBE.out.size)⟩
              case measure => simp [intOf]; omega
            | true =>
              have HG0 := Lib.hid hg0
              clear hg0
              cases hg1 : Qr.agr p a3 with
              | false =>
                have HP := Lib.hid (show Qr.sel ⟨f, t, s, p, i, k⟩ ⟨a0, a1, a2, a3, a4, a5⟩ = false by unfold Qr.sel; simp only [hg1, Bool.false_and, Bool.and_false])
                have HG1 := Lib.hid hg1
                clear hg1
                go_wp2_with fail
                refine (agrees_at s a1 true _ HG0.out).mono ?_
                rintro e w8 ⟨rfl, rfl⟩
                go_wp2_with fail
                refine (agrees_at p a3 false _ HG1.out).mono ?_
                rintro e w8 ⟨rfl, rfl⟩
                go_wp2_with fail
                go_roundw
                case rel => exact ⟨n + 1, O, A', cap', by omega, by go_num, rfl, by rw [HS.out, if_neg (by rw [HP.out]; simp), List.append_nil]; exact HO.out, by omega, HOW.out.below BX.out, HBE.out.trans (BX.out.mono HBE.out.size)⟩
                case measure => simp [intOf]; omega
              | true =>
                have HG1 := Lib.hid hg1
                clear hg1
                cases hg2 : Qr.agr i a4 with
                | false =>
                  have HP := Lib.hid (show Qr.sel ⟨f, t, s, p, i, k⟩ ⟨a0, a1, a2, a3, a4, a5⟩ = false by unfold Qr.sel; simp only [hg2, Bool.false_and, Bool.and_false])
                  have HG2 := Lib.hid hg2
                  clear hg2
                  go_wp2_with fail
                  refine (agrees_at s a1 true _ HG0.out).mono ?_
                  rintro e w8 ⟨rfl, rfl⟩
                  go_wp2_with fail
                  refine (agrees_at p a3 true _ HG1.out).mono ?_
                  rintro e w8 ⟨rfl, rfl⟩
                  go_wp2_with fail
                  refine (agrees_at i a4 false _ HG2.out).mono ?_
                  rintro e w8 ⟨rfl, rfl⟩
                  go_wp2_with fail
                  go_roundw
                  case rel => exact ⟨n + 1, O, A', cap', by omega, by go_num, rfl, by rw [HS.out, if_neg (by rw [HP.out]; simp), List.append_nil]; exact HO.out, by omega, HOW.out.below BX.out, HBE.out.trans (BX.out.mono HBE.out.size)⟩
                  case measure => simp [intOf]; omega
                | true =>
                  have HG2 := Lib.hid hg2
                  clear hg2
                  cases hz : (k == 0) with
                  | true =>
                    have HP := Lib.hid (show Qr.sel ⟨f, t, s, p, i, k⟩ ⟨a0, a1, a2, a3, a4, a5⟩ = true by unfold Qr.sel; simp [h0, h1, HG0.out, HG1.out, HG2.out, hz])
                    go_wp2_with fail
                    refine (agrees_at s a1 true _ HG0.out).mono ?_
                    rintro e w8 ⟨rfl, rfl⟩
                    go_wp2_with fail
                    refine (agrees_at p a3 true _ HG1.out).mono ?_
                    rintro e w8 ⟨rfl, rfl⟩
                    go_wp2_with fail
                    refine (agrees_at i a4 true _ HG2.out).mono ?_
                    rintro e w8 ⟨rfl, rfl⟩
                    go_wp2_with (at_builtin; refine wpList_append_el rcs_ok Try.underlying25 Try.info34 rfl (by decide) rfl (.tmp 62) (.tmp 64) rfl O.length rfl rfl ((HOW.out.below BX.out).below (below_box _ _)) _ rfl ⟨a0, a1, a2, a3, a4, a5⟩ (range_new (by simp) rfl) (by omega) (Nat.le_trans hsz0 (Nat.le_trans HBE.out.size (Nat.le_trans BX.out.size (below_box _ _).size))) (O.length + 1) rfl ?_; intro A3 cap3 w3 ho3 hb3 hg3)
                    have HO3 := Lib.hid ho3
                    have HB3 := Lib.hid ((HBE.out.trans ((BX.out.trans ((below_box _ _).mono BX.out.size)).mono HBE.out.size)).grown hg3 (Nat.le_trans HBE.out.size (Nat.le_trans BX.out.size (below_box _ _).size)) (fun x hx => HBLK.out x hx))
                    clear ho3 hb3 hg3
                    go_wp2_with fail
                    go_roundw
                    case rel => exact ⟨n + 1, O ++ [⟨a0, a1, a2, a3, a4, a5⟩], A3, cap3, by omega, by go_num, by first | rfl | simp, by rw [HS.out, if_pos HP.out, HO.out], by simp; omega, HO3.out, HB3.out⟩
                    case measure => simp [intOf]; omega
                  | false =>
                    cases hy : (k == a2) with
                    | true =>
                      have HP := Lib.hid (show Qr.sel ⟨f, t, s, p, i, k⟩ ⟨a0, a1, a2, a3, a4, a5⟩ = true by unfold Qr.sel; simp [h0, h1, HG0.out, HG1.out, HG2.out, hy])
                      go_wp2_with fail
                      refine (agrees_at s a1 true _ HG0.out).mono ?_
                      rintro e w8 ⟨rfl, rfl⟩
                      go_wp2_with fail
                      refine (agrees_at p a3 true _ HG1.out).mono ?_
                      rintro e w8 ⟨rfl, rfl⟩
                      go_wp2_with fail
                      refine (agrees_at i a4 true _ HG2.out).mono ?_
                      rintro e w8 ⟨rfl, rfl⟩
                      go_wp2_with (at_builtin; refine wpList_append_el rcs_ok Try.underlying25 Try.info34 rfl (by decide) rfl (.tmp 62) (.tmp 64) rfl O.length rfl rfl ((HOW.out.below BX.out).below (below_box _ _)) _ rfl ⟨a0, a1, a2, a3, a4, a5⟩ (range_new (by simp) rfl) (by omega) (Nat.le_trans hsz0 (Nat.le_trans HBE.out.size (Nat.le_trans BX.out.size (below_box _ _).size))) (O.length + 1) rfl ?_; intro A3 cap3 w3 ho3 hb3 hg3)
                      have HO3 := Lib.hid ho3
                      have HB3 := Lib.hid ((HBE.out.trans ((BX.out.trans ((below_box _ _).mono BX.out.size)).mono HBE.out.size)).grown hg3 (Nat.le_trans HBE.out.size (Nat.le_trans BX.out.size (below_box _ _).size)) (fun x hx => HBLK.out x hx))
                      clear ho3 hb3 hg3
                      go_wp2_with fail
                      go_roundw
                      case rel => exact ⟨n + 1, O ++ [⟨a0, a1, a2, a3, a4, a5⟩], A3, cap3, by omega, by go_num, by first | rfl | simp, by rw [HS.out, if_pos HP.out, HO.out], by simp; omega, HO3.out, HB3.out⟩
                      case measure => simp [intOf]; omega
                    | false =>
                      have HP := Lib.hid (show Qr.sel ⟨f, t, s, p, i, k⟩ ⟨a0, a1, a2, a3, a4, a5⟩ = false by unfold Qr.sel; simp only [hz, hy, Bool.or_self, Bool.and_false])
                      go_wp2_with fail
                      refine (agrees_at s a1 true _ HG0.out).mono ?_
                      rintro e w8 ⟨rfl, rfl⟩
                      go_wp2_with fail
                      refine (agrees_at p a3 true _ HG1.out).mono ?_
                      rintro e w8 ⟨rfl, rfl⟩
                      go_wp2_with fail
                      refine (agrees_at i a4 true _ HG2.out).mono ?_
                      rintro e w8 ⟨rfl, rfl⟩
                      go_wp2_with fail
                      go_roundw
                      case rel => exact ⟨n + 1, O, A', cap', by omega, by go_num, rfl, by rw [HS.out, if_neg (by rw [HP.out]; simp), List.append_nil]; exact HO.out, by omega, HOW.out.below BX.out, HBE.out.trans (BX.out.mono HBE.out.size)⟩
                      case measure => simp [intOf]; omega
          · have HP := Lib.hid (show Qr.sel ⟨f, t, s, p, i, k⟩ ⟨a0, a1, a2, a3, a4, a5⟩ = false by unfold Qr.sel; simp [h1])
            go_wp2_with fail
            go_roundw
            case rel => exact ⟨n + 1, O, A', cap', by omega, by go_num, rfl, by rw [HS.out, if_neg (by rw [HP.out]; simp), List.append_nil]; exact HO.out, by omega, HOW.out.below BX.out, HBE.out.trans (BX.out.mono HBE.out.size)⟩
            case measure => simp [intOf]; omega
        · have HP := Lib.hid (show Qr.sel ⟨f, t, s, p, i, k⟩ ⟨a0, a1, a2, a3, a4, a5⟩ = false by unfold Qr.sel; simp [h0])
          go_wp2_with fail
          go_roundw
          case rel => exact ⟨n + 1, O, A', cap', by omega, by go_num, rfl, by rw [HS.out, if_neg (by rw [HP.out]; simp), List.append_nil]; exact HO.out, by omega, HOW.out.below BX.out, HBE.out.trans (BX.out.mono HBE.out.size)⟩
          case measure => simp [intOf]; omega
      · have hns : n = l.length := by omega
        have HK := Lib.hid hns
        clear hns
        go_wp2_with fail
        go_ret
        have e1 : O = L := by rw [HO.out, HK.out, List.take_length, HLL.out]
        rw [← e1]
        exact ⟨A', cap', rfl, HOW.out.mono h0w.size, h0w.trans (HBE.out.mono h0w.size)⟩
  · have hL2 : L = [] := by rw [← hL]; unfold Qr.filt; rw [if_neg hbad]
    subst hL2
    obtain ⟨z, hz⟩ : ∃ z : Int, (Qr.bad ⟨f, t, s, p, i, k⟩ : Int) = z := ⟨_, rfl⟩
    have hzn : (z != 0) = true := by rw [← hz]; simp; omega
    have HZ := Lib.hid hz
    clear hz hbad hL
    go_enter Try.func13, Try.ntmps13
    go_wp2_with fail
    refine (check_at f t s p i k z _ HZ.out).mono ?_
    rintro e w1 ⟨rfl, hb1⟩
    go_wp2_with fail
    go_ret
    exact ⟨none, 0, rfl, OwnL.nil _ _ _, h0w.trans (hb1.mono h0w.size)⟩
theorem selects_at (f t s p i k a0 a1 a2 a3 a4 a5 : Int) (b : Bool) (w : World) (h : Qr.sel ⟨f, t, s, p, i, k⟩ ⟨a0, a1, a2, a3, a4, a5⟩ = b) : Calls Try.prog 27 #[.agg #[.int .i64 f, .int .i64 t, .int .i64 s, .int .i64 p, .int .i64 i, .int .i64 k], .agg #[.int .i64 a0, .int .i64 a1, .int .i64 a2, .int .i64 a3, .int .i64 a4, .int .i64 a5]] w (TruePost' w b) := by subst h; exact selects_any f t s p i k a0 a1 a2 a3 a4 a5 w
set_option maxRecDepth 100000 in
set_option maxHeartbeats 4000000 in
theorem rfilter_any (f t s p i k : Int) (A : Option Addr) (cap m : Nat) (l : List Qr.Rc) (w : World) (hr : RdL rcs 6 w w.heap.size A l) (hm : l.length = m) (hl : m ≤ 1000) (L : List Qr.Rc) (hL : Qr.filt ⟨f, t, s, p, i, k⟩ l = L) (N : Nat) (hN : L.length = N) :
    Calls Try.prog 14 #[.agg #[.int .i64 f, .int .i64 t, .int .i64 s, .int .i64 p, .int .i64 i, .int .i64 k], .slice A m cap] w (RcsPost w N L) := by
  subst hm; subst hN
  have HR := Lib.hid (hr.after (below_box w (.cells #[.int .i64 f, .int .i64 t, .int .i64 s, .int .i64 p, .int .i64 i, .int .i64 k] 24)))
  clear hr
  have h0w := below_box w (.cells #[.int .i64 f, .int .i64 t, .int .i64 s, .int .i64 p, .int .i64 i, .int .i64 k] 24)
  by_cases hbad : Qr.bad ⟨f, t, s, p, i, k⟩ = 0
  · have hL2 : l.filter (Qr.sel ⟨f, t, s, p, i, k⟩) = L := by rw [← hL]; unfold Qr.filt; rw [if_pos hbad]
    have HLL := Lib.hid hL2
    have HBAD := Lib.hid (show (Qr.bad ⟨f, t, s, p, i, k⟩ : Int) = 0 by rw [hbad]; rfl)
    clear hL hL2 hbad
    go_enter Try.func14, Try.ntmps14
    go_wp2_with fail
    refine (rcheck_at f t s p i k 0 _ HBAD.out).mono ?_
    rintro e w1 ⟨rfl, hb1⟩
    have HZ := Lib.hid hb1
    clear hb1
    go_wp2_with fail
    go_loopw [5, 6] (fun v x wr => ∃ (n : Nat) (O : List Qr.Rc) (A' : Option Addr) (cap' : Nat), n ≤ l.length ∧ x = .int .i64 n ∧ v = .slice A' O.length cap' ∧ O = (l.take n).filter (Qr.sel ⟨f, t, s, p, i, k⟩) ∧ O.length ≤ n ∧
        OwnL rcs 34 6 wr (w.alloc (.cells #[.int .i64 f, .int .i64 t, .int .i64 s, .int .i64 p, .int .i64 i, .int .i64 k] 24)).heap.size A' cap' O ∧ Below (w.alloc (.cells #[.int .i64 f, .int .i64 t, .int .i64 s, .int .i64 p, .int .i64 i, .int .i64 k] 24)).heap.size (w.alloc (.cells #[.int .i64 f, .int .i64 t, .int .i64 s, .int .i64 p, .int .i64 i, .int .i64 k] 24)) wr) (fun _ x _ => l.length - (intOf x).toNat)
    case atStart => exact ⟨0, [], none, 0, Nat.zero_le _, rfl, rfl, rfl, Nat.le_refl _, OwnL.nil _ _ _, HZ.out⟩
    case round =>
      clear HZ
      obtain ⟨n, O, A', cap', hn, rfl, rfl, hO, hOl, hown, hbel⟩ := hrel
      have HO := Lib.hid hO
      have HOW := Lib.hid hown
      have HBE := Lib.hid hbel
      have HBLK := Lib.hid (fun x hx => (World.ownsRow.lt hown x hx).1)
      have hsz0 := Nat.le_refl (w.alloc (.cells #[.int .i64 f, .int .i64 t, .int .i64 s, .int .i64 p, .int .i64 i, .int .i64 k] 24)).heap.size
      clear hO hown hbel
      by_cases hlt : n < l.length
      · obtain ⟨b, off, rfl, hbl, hcell⟩ := (HR.out.below HBE.out) (by omega)
        have hc := hcell n hlt
        have hsn := filter_snoc (q := ⟨f, t, s, p, i, k⟩) hlt
        obtain ⟨⟨a0, a1, a2, a3, a4, a5⟩, hx⟩ : ∃ x, l[n] = x := ⟨_, rfl⟩
        rw [hx] at hc hsn
        have HS := Lib.hid hsn
        have c0 : wr.cell? ⟨b, off + n * 6, none⟩ = some (.int .i64 a0) := hc 0 _ rfl
        have c1 : wr.cell? ⟨b, off + n * 6 + 1, none⟩ = some (.int .i64 a1) := hc 1 _ rfl
        have c2 : wr.cell? ⟨b, off + n * 6 + 2, none⟩ = some (.int .i64 a2) := hc 2 _ rfl
        have c3 : wr.cell? ⟨b, off + n * 6 + 3, none⟩ = some (.int .i64 a3) := hc 3 _ rfl
        have c4 : wr.cell? ⟨b, off + n * 6 + 4, none⟩ = some (.int .i64 a4) := hc 4 _ rfl
        have c5 : wr.cell? ⟨b, off + n * 6 + 5, none⟩ = some (.int .i64 a5) := hc 5 _ rfl
        have q0 : wr.cell? ⟨w.heap.size, 0, none⟩ = some (.int .i64 f) := (HBE.out.cell (p := ⟨w.heap.size, 0, none⟩) (by simp)).trans (World.cell?_alloc_at _ 24 _ 0 rfl)
        have q1 : wr.cell? ⟨w.heap.size, 1, none⟩ = some (.int .i64 t) := (HBE.out.cell (p := ⟨w.heap.size, 1, none⟩) (by simp)).trans (World.cell?_alloc_at _ 24 _ 1 rfl)
        have q2 : wr.cell? ⟨w.heap.size, 2, none⟩ = some (.int .i64 s) := (HBE.out.cell (p := ⟨w.heap.size, 2, none⟩) (by simp)).trans (World.cell?_alloc_at _ 24 _ 2 rfl)
        have q3 : wr.cell? ⟨w.heap.size, 3, none⟩ = some (.int .i64 p) := (HBE.out.cell (p := ⟨w.heap.size, 3, none⟩) (by simp)).trans (World.cell?_alloc_at _ 24 _ 3 rfl)
        have q4 : wr.cell? ⟨w.heap.size, 4, none⟩ = some (.int .i64 i) := (HBE.out.cell (p := ⟨w.heap.size, 4, none⟩) (by simp)).trans (World.cell?_alloc_at _ 24 _ 4 rfl)
        have q5 : wr.cell? ⟨w.heap.size, 5, none⟩ = some (.int .i64 k) := (HBE.out.cell (p := ⟨w.heap.size, 5, none⟩) (by simp)).trans (World.cell?_alloc_at _ 24 _ 5 rfl)
        clear hc hcell hx hsn
        have hni : (n : Int) < (l.length : Int) := by omega
        have hbl2 : b < wr.heap.size := Nat.lt_of_lt_of_le hbl HBE.out.size
        have hwl : w.heap.size < wr.heap.size := Nat.lt_of_lt_of_le (by simp) HBE.out.size
        have HK : Hid (∀ W, Below wr.heap.size wr W → W.cell? ⟨w.heap.size, 0, none⟩ = some (.int .i64 f) ∧ W.cell? ⟨w.heap.size, 1, none⟩ = some (.int .i64 t) ∧ W.cell? ⟨w.heap.size, 2, none⟩ = some (.int .i64 s) ∧ W.cell? ⟨w.heap.size, 3, none⟩ = some (.int .i64 p) ∧ W.cell? ⟨w.heap.size, 4, none⟩ = some (.int .i64 i) ∧ W.cell? ⟨w.heap.size, 5, none⟩ = some (.int .i64 k) ∧ W.cell? ⟨b, off + n * 6, none⟩ = some (.int .i64 a0) ∧ W.cell? ⟨b, off + n * 6 + 1, none⟩ = some (.int .i64 a1) ∧ W.cell? ⟨b, off + n * 6 + 2, none⟩ = some (.int .i64 a2) ∧ W.cell? ⟨b, off + n * 6 + 3, none⟩ = some (.int .i64 a3) ∧ W.cell? ⟨b, off + n * 6 + 4, none⟩ = some (.int .i64 a4) ∧ W.cell? ⟨b, off + n * 6 + 5, none⟩ = some (.int .i64 a5)) := Lib.hid fun W h => ⟨(h.cell (p := ⟨w.heap.size, 0, none⟩) hwl).trans q0, (h.cell (p := ⟨w.heap.size, 1, none⟩) hwl).trans q1, (h.cell (p := ⟨w.heap.size, 2, none⟩) hwl).trans q2, (h.cell (p := ⟨w.heap.size, 3, none⟩) hwl).trans q3, (h.cell (p := ⟨w.heap.size, 4, none⟩) hwl).trans q4, (h.cell (p := ⟨w.heap.size, 5, none⟩) hwl).trans q5, (h.cell (p := ⟨b, off + n * 6, none⟩) hbl2).trans c0, (h.cell (p := ⟨b, off + n * 6 + 1, none⟩) hbl2).trans c1, (h.cell (p := ⟨b, off + n * 6 + 2, none⟩) hbl2).trans c2, (h.cell (p := ⟨b, off + n * 6 + 3, none⟩) hbl2).trans c3, (h.cell (p := ⟨b, off + n * 6 + 4, none⟩) hbl2).trans c4, (h.cell (p := ⟨b, off + n * 6 + 5, none⟩) hbl2).trans c5⟩
        cases hp : Qr.sel ⟨f, t, s, p, i, k⟩ ⟨a0, a1, a2, a3, a4, a5⟩ with
        | false =>
          have HP := Lib.hid hp
          clear hp
          obtain ⟨bs, hbs⟩ : ∃ bs, bs = false := ⟨_, rfl⟩
          rw [← hbs] at HP
          have HBS := Lib.hid hbs
          clear hbs
          go_wp2_with fail
          refine wp_region_held_drew (S := fun W => W.cell? ⟨w.heap.size, 0, none⟩ = some (.int .i64 f) ∧ W.cell? ⟨w.heap.size, 1, none⟩ = some (.int .i64 t) ∧ W.cell? ⟨w.heap.size, 2, none⟩ = some (.int .i64 s) ∧ W.cell? ⟨w.heap.size, 3, none⟩ = some (.int .i64 p) ∧ W.cell? ⟨w.heap.size, 4, none⟩ = some (.int .i64 i) ∧ W.cell? ⟨w.heap.size, 5, none⟩ = some (.int .i64 k) ∧ W.cell? ⟨b, off + n * 6, none⟩ = some (.int .i64 a0) ∧ W.cell? ⟨b, off + n * 6 + 1, none⟩ = some (.int .i64 a1) ∧ W.cell? ⟨b, off + n * 6 + 2, none⟩ = some (.int .i64 a2) ∧ W.cell? ⟨b, off + n * 6 + 3, none⟩ = some (.int .i64 a3) ∧ W.cell? ⟨b, off + n * 6 + 4, none⟩ = some (.int .i64 a4) ∧ W.cell? ⟨b, off + n * 6 + 5, none⟩ = some (.int .i64 a5)) (by kernel_rfl) (HK.out _ (Below.refl _ _).drew) (fun hHeld => ?_)
          refine wpAnyH_take (i := 0) (v := ?_) at0 (by kernel_rfl) (by kernel_rfl) (by kernel_rfl) (fun _ _ _ h => h) (Or.inl ⟨by rfl, ?_⟩) (by assumption) ?_
          rotate_left
          · (intro w hSw; (try dsimp only at hSw); go_simp; first | done | with_reducible rfl)
          (try simp only [Act.put, List.setIfInBounds_toArray, List.set_cons_zero, List.set_cons_succ])
          refine wpAnyH_take (i := 1) (v := ?_) (atS <| at0) (by kernel_rfl) (by kernel_rfl) (by kernel_rfl) (fun _ _ _ h => h) (Or.inl ⟨by rfl, ?_⟩) (by assumption) ?_
          rotate_left
          · (intro w hSw; (try dsimp only at hSw); go_simp; first | done | with_reducible rfl)
          (try simp only [Act.put, List.setIfInBounds_toArray, List.set_cons_zero, List.set_cons_succ])
          refine wpAnyH_take (i := 2) (v := ?_) (atS <| atS <| at0) (by kernel_rfl) (by kernel_rfl) (by kernel_rfl) (fun _ _ _ h => h) (Or.inl ⟨by rfl, ?_⟩) (by assumption) ?_
          rotate_left
          · (intro w hSw; (try dsimp only at hSw); go_simp; first | done | with_reducible rfl)
          (try simp only [Act.put, List.setIfInBounds_toArray, List.set_cons_zero, List.set_cons_succ])
          refine wpAnyH_take (i := 3) (v := ?_) (atS <| atS <| atS <| at0) (by kernel_rfl) (by kernel_rfl) (by kernel_rfl) (fun _ _ _ h => h) (Or.inl ⟨by rfl, ?_⟩) (by assumption) ?_
          rotate_left
          · (intro w hSw; (try dsimp only at hSw); go_simp; first | done | with_reducible rfl)
          (try simp only [Act.put, List.setIfInBounds_toArray, List.set_cons_zero, List.set_cons_succ])
          refine wpAnyH_take (i := 4) (v := ?_) (atS <| atS <| atS <| atS <| at0) (by kernel_rfl) (by kernel_rfl) (by kernel_rfl) (fun _ _ _ h => h) (Or.inl ⟨by rfl, ?_⟩) (by assumption) ?_
          rotate_left
          · (intro w hSw; (try dsimp only at hSw); go_simp; first | done | with_reducible rfl)
          (try simp only [Act.put, List.setIfInBounds_toArray, List.set_cons_zero, List.set_cons_succ])
          refine wpAnyH_ready (rs := [5]) (by kernel_rfl) (by simp) ?_
          refine AllReadyH.cons (atS <| atS <| atS <| atS <| atS <| at0) (fun K hK => ?_) AllReadyH.nil
          go_simp
          go_at_call 27
          refine (selects_at f t s p i k a0 a1 a2 a3 a4 a5 bs _ HP.out).mono ?_
          rintro e w2 ⟨rfl, hb2⟩
          have hb3 := (Below.refl wr.heap.size wr).drew.trans hb2
          (try go_wp2_with fail)
          refine hK.out _ _ (HK.out _ hb3) (fun hHeld1 => ?_)
          clear hK K hHeld
          have hHeld := hHeld1
          clear hHeld1
          (try simp only [Act.put, List.setIfInBounds_toArray, List.set_cons_zero, List.set_cons_succ])
          refine wpAnyH_done (by kernel_rfl) ?_ _
          have HB3 := Lib.hid hb3
          clear hb3 hb2
          rw [HBS.out]
          go_wp2_with fail
          go_roundw
          case rel => exact ⟨n + 1, O, A', cap', by omega, by go_num, rfl, by rw [HS.out, if_neg (by rw [HP.out, HBS.out]; simp), List.append_nil]; exact HO.out, by omega, HOW.out.below HB3.out, HBE.out.trans (HB3.out.mono HBE.out.size)⟩
          case measure => simp [intOf]; omega
        | true =>
          have HP := Lib.hid hp
          clear hp
          obtain ⟨bs, hbs⟩ : ∃ bs, bs = true := ⟨_, rfl⟩
          rw [← hbs] at HP
          have HBS := Lib.hid hbs
          clear hbs
          go_wp2_with fail
          refine wp_region_held_drew (S := fun W => W.cell? ⟨w.heap.size, 0, none⟩ = some (.int .i64 f) ∧ W.cell? ⟨w.heap.size, 1, none⟩ = some (.int .i64 t) ∧ W.cell? ⟨w.heap.size, 2, none⟩ = some (.int .i64 s) ∧ W.cell? ⟨w.heap.size, 3, none⟩ = some (.int .i64 p) ∧ W.cell? ⟨w.heap.size, 4, none⟩ = some (.int .i64 i) ∧ W.cell? ⟨w.heap.size, 5, none⟩ = some (.int .i64 k) ∧ W.cell? ⟨b, off + n * 6, none⟩ = some (.int .i64 a0) ∧ W.cell? ⟨b, off + n * 6 + 1, none⟩ = some (.int .i64 a1) ∧ W.cell? ⟨b, off + n * 6 + 2, none⟩ = some (.int .i64 a2) ∧ W.cell? ⟨b, off + n * 6 + 3, none⟩ = some (.int .i64 a3) ∧ W.cell? ⟨b, off + n * 6 + 4, none⟩ = some (.int .i64 a4) ∧ W.cell? ⟨b, off + n * 6 + 5, none⟩ = some (.int .i64 a5)) (by kernel_rfl) (HK.out _ (Below.refl _ _).drew) (fun hHeld => ?_)
          refine wpAnyH_take (i := 0) (v := ?_) at0 (by kernel_rfl) (by kernel_rfl) (by kernel_rfl) (fun _ _ _ h => h) (Or.inl ⟨by rfl, ?_⟩) (by assumption) ?_
          rotate_left
          · (intro w hSw; (try dsimp only at hSw); go_simp; first | done | with_reducible rfl)
          (try simp only [Act.put, List.setIfInBounds_toArray, List.set_cons_zero, List.set_cons_succ])
          refine wpAnyH_take (i := 1) (v := ?_) (atS <| at0) (by kernel_rfl) (by kernel_rfl) (by kernel_rfl) (fun _ _ _ h => h) (Or.inl ⟨by rfl, ?_⟩) (by assumption) ?_
          rotate_left
          · (intro w hSw; (try dsimp only at hSw); go_simp; first | done | with_reducible rfl)
          (try simp only [Act.put, List.setIfInBounds_toArray, List.set_cons_zero, List.set_cons_succ])
          refine wpAnyH_take (i := 2) (v := ?_) (atS <| atS <| at0) (by kernel_rfl) (by kernel_rfl) (by kernel_rfl) (fun _ _ _ h => h) (Or.inl ⟨by rfl, ?_⟩) (by assumption) ?_
          rotate_left
          · (intro w hSw; (try dsimp only at hSw); go_simp; first | done | with_reducible rfl)
          (try simp only [Act.put, List.setIfInBounds_toArray, List.set_cons_zero, List.set_cons_succ])
          refine wpAnyH_take (i := 3) (v := ?_) (atS <| atS <| atS <| at0) (by kernel_rfl) (by kernel_rfl) (by kernel_rfl) (fun _ _ _ h => h) (Or.inl ⟨by rfl, ?_⟩) (by assumption) ?_
          rotate_left
          · (intro w hSw; (try dsimp only at hSw); go_simp; first | done | with_reducible rfl)
          (try simp only [Act.put, List.setIfInBounds_toArray, List.set_cons_zero, List.set_cons_succ])
          refine wpAnyH_take (i := 4) (v := ?_) (atS <| atS <| atS <| atS <| at0) (by kernel_rfl) (by kernel_rfl) (by kernel_rfl) (fun _ _ _ h => h) (Or.inl ⟨by rfl, ?_⟩) (by assumption) ?_
          rotate_left
          · (intro w hSw; (try dsimp only at hSw); go_simp; first | done | with_reducible rfl)
          (try simp only [Act.put, List.setIfInBounds_toArray, List.set_cons_zero, List.set_cons_succ])
          refine wpAnyH_ready (rs := [5]) (by kernel_rfl) (by simp) ?_
          refine AllReadyH.cons (atS <| atS <| atS <| atS <| atS <| at0) (fun K hK => ?_) AllReadyH.nil
          go_simp
          go_at_call 27
          refine (selects_at f t s p i k a0 a1 a2 a3 a4 a5 bs _ HP.out).mono ?_
          rintro e w2 ⟨rfl, hb2⟩
          have hb3 := (Below.refl wr.heap.size wr).drew.trans hb2
          (try go_wp2_with fail)
          refine hK.out _ _ (HK.out _ hb3) (fun hHeld1 => ?_)
          clear hK K hHeld
          have hHeld := hHeld1
          clear hHeld1
          (try simp only [Act.put, List.setIfInBounds_toArray, List.set_cons_zero, List.set_cons_succ])
          refine wpAnyH_done (by kernel_rfl) ?_ _
          have HB3 := Lib.hid hb3
          have hcs := (HK.out _ hb3).2.2.2.2.2.2
          obtain ⟨e0, e1, e2, e3, e4, e5⟩ := hcs
          clear hb3 hb2 c0 c1 c2 c3 c4 c5 q0 q1 q2 q3 q4 q5
          rw [HBS.out]
          go_wp2_with (at_builtin; refine wpList_append_el rcs_ok Try.underlying25 Try.info34 rfl (by decide) rfl (.tmp 22) (.tmp 27) rfl O.length rfl rfl ((HOW.out.below HB3.out).below (below_box _ _)) _ rfl ⟨a0, a1, a2, a3, a4, a5⟩ (range_new rfl rfl) (by omega) (Nat.le_trans hsz0 (Nat.le_trans HBE.out.size (Nat.le_trans HB3.out.size (below_box _ _).size))) (O.length + 1) rfl ?_; intro A3 cap3 w3 ho3 hb3 hg3)
          have HO3 := Lib.hid ho3
          have HB4 := Lib.hid ((HBE.out.trans ((HB3.out.trans ((below_box _ _).mono HB3.out.size)).mono HBE.out.size)).grown hg3 (Nat.le_trans HBE.out.size (Nat.le_trans HB3.out.size (below_box _ _).size)) (fun x hx => HBLK.out x hx))
          clear ho3 hb3 hg3
          go_wp2_with fail
          go_roundw
          case rel => exact ⟨n + 1, O ++ [⟨a0, a1, a2, a3, a4, a5⟩], A3, cap3, by omega, by go_num, by first | rfl | simp, by rw [HS.out, if_pos (by rw [HP.out, HBS.out]), HO.out], by simp; omega, HO3.out, HB4.out⟩
          case measure => simp [intOf]; omega
      · have hns : n = l.length := by omega
        have HK := Lib.hid hns
        clear hns
        go_wp2_with fail
        go_ret
        have e1 : O = L := by rw [HO.out, HK.out, List.take_length, HLL.out]
        rw [← e1]
        exact ⟨A', cap', rfl, HOW.out.mono h0w.size, h0w.trans (HBE.out.mono h0w.size)⟩
  · have hL2 : L = [] := by rw [← hL]; unfold Qr.filt; rw [if_neg hbad]
    subst hL2
    obtain ⟨z, hz⟩ : ∃ z : Int, (Qr.bad ⟨f, t, s, p, i, k⟩ : Int) = z := ⟨_, rfl⟩
    have hzn : (z != 0) = true := by rw [← hz]; simp; omega
    have HZ := Lib.hid hz
    clear hz hbad hL
    go_enter Try.func14, Try.ntmps14
    go_wp2_with fail
    refine (rcheck_at f t s p i k z _ HZ.out).mono ?_
    rintro e w1 ⟨rfl, hb1⟩
    go_wp2_with fail
    go_ret
    exact ⟨none, 0, rfl, OwnL.nil _ _ _, h0w.trans (hb1.mono h0w.size)⟩
set_option maxHeartbeats 400000 in
theorem count_any (f t s p i k : Int) (A : Option Addr) (cap m : Nat) (l : List Qr.Rc) (w : World) (hr : RdL rcs 6 w w.heap.size A l) (hm : l.length = m) (hl : m ≤ 1000) (N : Nat) (hN : (Qr.filt ⟨f, t, s, p, i, k⟩ l).length = N) :
    Calls Try.prog 15 #[.agg #[.int .i64 f, .int .i64 t, .int .i64 s, .int .i64 p, .int .i64 i, .int .i64 k], .slice A m cap] w (LenPost w N) := by
  have h0w := below_box w (.cells #[.int .i64 f, .int .i64 t, .int .i64 s, .int .i64 p, .int .i64 i, .int .i64 k] 24)
  have HC := Lib.hid (filter_any f t s p i k A cap m l (w.alloc (.cells #[.int .i64 f, .int .i64 t, .int .i64 s, .int .i64 p, .int .i64 i, .int .i64 k] 24)) (hr.after h0w) hm hl _ rfl N hN)
  clear hr
  go_enter Try.func15, Try.ntmps15
  go_wp2_with fail
  refine HC.out.mono ?_
  rintro e w1 ⟨A1, cap1, rfl, ho1, hb1⟩
  go_wp2_with fail
  go_ret
  exact ⟨rfl, h0w.trans (hb1.mono h0w.size)⟩
set_option maxHeartbeats 400000 in
theorem rcount_any (f t s p i k : Int) (A : Option Addr) (cap m : Nat) (l : List Qr.Rc) (w : World) (hr : RdL rcs 6 w w.heap.size A l) (hm : l.length = m) (hl : m ≤ 1000) (N : Nat) (hN : (Qr.filt ⟨f, t, s, p, i, k⟩ l).length = N) :
    Calls Try.prog 16 #[.agg #[.int .i64 f, .int .i64 t, .int .i64 s, .int .i64 p, .int .i64 i, .int .i64 k], .slice A m cap] w (LenPost w N) := by
  have h0w := below_box w (.cells #[.int .i64 f, .int .i64 t, .int .i64 s, .int .i64 p, .int .i64 i, .int .i64 k] 24)
  have HC := Lib.hid (rfilter_any f t s p i k A cap m l (w.alloc (.cells #[.int .i64 f, .int .i64 t, .int .i64 s, .int .i64 p, .int .i64 i, .int .i64 k] 24)) (hr.after h0w) hm hl _ rfl N hN)
  clear hr
  go_enter Try.func16, Try.ntmps16
  go_wp2_with fail
  refine HC.out.mono ?_
  rintro e w1 ⟨A1, cap1, rfl, ho1, hb1⟩
  go_wp2_with fail
  go_ret
  exact ⟨rfl, h0w.trans (hb1.mono h0w.size)⟩
end Go.Proofs.Ytojadmccenkffaa
