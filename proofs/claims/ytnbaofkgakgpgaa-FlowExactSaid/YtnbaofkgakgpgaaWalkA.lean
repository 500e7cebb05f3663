/- The walks of flow.valid, flow.only, flow.Pauses, flow.Next and their fellows of the reference. -/
import Derived.Test.YtnbaofkgakgpgaaProg
import Derived.Test.YtnbaofkgakgpgaaPlain
import Derived.WalkKit
import Derived.WalkLawsBesides
import Derived.WalkSpells
import Derived.Lib.Hide
import Derived.Deep.MidRow
import Derived.Deep.WholeRow
namespace Go.Proofs.Ytnbaofkgakgpgaa
open Go.RowKit

theorem Try.info3 : (Try.prog.info? 3).map (fun i => (i.zero, i.size, i.bytes)) = some (some (.int .i64 0), 1, 8) := by kernel_rfl
theorem ret_bool {a b : Bool} (h : a = b) : Ending.returned (.bool a) = .returned (.bool b) := by rw [h]

/-- A slice of ints that can be read: its elements are the list. -/
def Ints (w : World) (B : Nat) (A : Option Addr) (l : List Int) : Prop :=
  0 < l.length → ∃ b off, A = some ⟨b, off, none⟩ ∧ b < B ∧ ∀ k, k < l.length → w.cell? ⟨b, off + k, none⟩ = some (.int .i64 (l.getD k 0))
/-- A slice of ints of the call's own. -/
def Own (w : World) (B : Nat) (A : Option Addr) (cap : Nat) (l : List Int) : Prop := w.ownsRow B 3 1 (.slice A l.length cap) l.length (l.map (Value.int .i64))

theorem Ints.nil (w : World) (B : Nat) (A : Option Addr) : Ints w B A [] := fun h => by simp at h
theorem Ints.below {w w' : World} {B : Nat} {A : Option Addr} {l : List Int} (h : Ints w B A l) (hb : Below B w w') : Ints w' B A l := fun hl => by
  obtain ⟨b, off, e, hlt, hc⟩ := h hl
  exact ⟨b, off, e, hlt, fun k hk => (hb.cell (p := ⟨b, off + k, none⟩) hlt).trans (hc k hk)⟩
theorem Ints.more {w : World} {B B' : Nat} {A : Option Addr} {l : List Int} (h : Ints w B A l) (hB : B ≤ B') : Ints w B' A l := fun hl => by
  obtain ⟨b, off, e, hlt, hc⟩ := h hl
  exact ⟨b, off, e, by omega, hc⟩
theorem Own.cell {w : World} {B : Nat} {A : Option Addr} {cap : Nat} {l : List Int} (h : Own w B A cap l) (hl : 0 < l.length) :
    ∃ g, A = some ⟨g, 0, none⟩ ∧ g < w.heap.size ∧ B ≤ g ∧ ∀ k, k < l.length → w.cell? ⟨g, k, none⟩ = some (.int .i64 (l.getD k 0)) := by
  have h2 := h.2
  rcases h2 with ⟨_, h0⟩ | ⟨g, cap', cur, hv, hb, hh, _⟩
  · omega
  · simp only [Value.slice.injEq] at hv
    obtain ⟨rfl, _, rfl⟩ := hv
    refine ⟨g, rfl, (Array.getElem?_eq_some_iff.1 hh).1, hb, fun k hk => ?_⟩
    rw [World.ownsRow.cellAt h k (by omega)]
    simp [List.getD_eq_getElem?_getD, hk]
theorem Own.ints {w : World} {B : Nat} {A : Option Addr} {cap : Nat} {l : List Int} (h : Own w B A cap l) : Ints w w.heap.size A l := fun hl => by
  obtain ⟨g, e, hlt, _, hc⟩ := h.cell hl
  exact ⟨g, 0, e, hlt, fun k hk => by rw [Nat.zero_add]; exact hc k hk⟩

theorem Own.mono {w : World} {B B' : Nat} {A : Option Addr} {cap : Nat} {l : List Int} (h : Own w B A cap l) (hB : B' ≤ B) : Own w B' A cap l := by
  refine ⟨h.1, ?_⟩
  rcases h.2 with h2 | ⟨g, cap', cur, hv, hb, rest⟩
  · exact .inl h2
  · exact .inr ⟨g, cap', cur, hv, by omega, rest⟩
theorem Own.nil (w : World) (B : Nat) : Own w B none 0 [] := World.ownsRow_nil _ _ _ _
/-- The routine in its variable. -/
abbrev box (s : ByteArray) (p q : Int) (A : Option Addr) (n cap : Nat) : Obj := .cells #[.string s, .int .i64 p, .int .i64 q, .slice A n cap] 24
theorem box_cells {s : ByteArray} {p q : Int} {A : Option Addr} {n cap B : Nat} {w w' : World} (hB : w.heap.size < B) (h : Below B (w.alloc (box s p q A n cap)) w') :
    w'.cell? ⟨w.heap.size, 0, none⟩ = some (.string s) ∧ w'.cell? ⟨w.heap.size, 1, none⟩ = some (.int .i64 p) ∧ w'.cell? ⟨w.heap.size, 2, none⟩ = some (.int .i64 q) ∧ w'.cell? ⟨w.heap.size, 3, none⟩ = some (.slice A n cap) := by
  refine ⟨(h.cell (p := ⟨w.heap.size, 0, none⟩) hB).trans ?_, (h.cell (p := ⟨w.heap.size, 1, none⟩) hB).trans ?_, (h.cell (p := ⟨w.heap.size, 2, none⟩) hB).trans ?_, (h.cell (p := ⟨w.heap.size, 3, none⟩) hB).trans ?_⟩ <;>
    simp [World.cell?_alloc_at]
theorem below_box {w w' : World} {o : Obj} (h : Below (w.heap.size + 1) (w.alloc o) w') : Below w.heap.size w w' := ((Below.refl _ _).alloc (Nat.le_refl _) _).trans (h.mono (Nat.le_succ _))

theorem grown_of_below {w w' : World} (h : Below w.heap.size w w') : w.grownBy w' none := ⟨h.os, h.tape, h.output, h.size, fun k hk _ => h.block k hk⟩
theorem Own.below {w w' : World} {B : Nat} {A : Option Addr} {cap : Nat} {l : List Int} (h : Own w B A cap l) (hb : Below w.heap.size w w') : Own w' B A cap l :=
  World.ownsRow.kept h (grown_of_below hb) (by cases A <;> simp [Value.ownBlock])
theorem own_shape {w : World} {B : Nat} {v : Value} {n : Nat} {l : List Int} {xs : List Value} (h : w.ownsRow B 3 1 v n xs) (hn : n = l.length) (hx : xs = l.map (Value.int .i64)) : ∃ A cap, v = .slice A l.length cap ∧ Own w B A cap l := by
  subst hn; subst hx
  rcases h.2 with ⟨hv, h0⟩ | ⟨g, cap', cur, hv, hb, rest⟩
  · refine ⟨none, 0, by rw [hv, h0], ?_⟩
    have : l = [] := List.eq_nil_of_length_eq_zero h0
    subst this
    exact Own.nil _ _
  · refine ⟨some ⟨g, 0, none⟩, cap', hv, ?_⟩
    subst hv
    exact h
theorem cell_one (w : World) (v : Value) (t : TypeId) : ∀ j u, [v][j]? = some u → (w.alloc (.cells #[v] t)).cell? ((⟨w.heap.size, 0, none⟩ : Addr).add j) = some u := by
  intro j u hj
  match j, hj with
  | 0, hj =>
    simp at hj
    subst hj
    simp [Addr.add, World.cell?_alloc_at]
theorem one_int (k : IntKind) (x : Int) : ∀ u ∈ [Value.int k x], u.oneCell' = true := by
  intro u hu; simp at hu; subst hu; rfl

/-- Behind an append of one element to a slice of the call's own. -/
theorem own_push {W0 w1 w2 : World} {B : Nat} {A : Option Addr} {cap : Nat} {O : List Int} {x : Int} {v v2 : Value} {o : Obj} (hown : Own w1 B A cap O) (hbel : Below B W0 w1) (hB : B ≤ w1.heap.size)
    (hv : v = .slice A O.length cap) (h2 : w2.ownsRow B 3 1 v2 (O.length + 1) (O.map (Value.int .i64) ++ [Value.int .i64 x])) (hg : (w1.alloc o).grownBy w2 v.ownBlock) :
    ∃ A2 cap2, v2 = .slice A2 (O ++ [x]).length cap2 ∧ Own w2 B A2 cap2 (O ++ [x]) ∧ Below B W0 w2 := by
  obtain ⟨A2, cap2, e, ho⟩ := own_shape (l := O ++ [x]) h2 (by simp) (by simp)
  refine ⟨A2, cap2, e, ho, (hbel.alloc hB o).grown hg (by simp; omega) (fun k hk => ?_)⟩
  subst hv
  exact (World.ownsRow.lt hown k hk).1

set_option maxHeartbeats 400000 in
theorem valid_any (s : ByteArray) (p q : Int) (A : Option Addr) (n cap : Nat) (i : Int) (w : World) :
    Calls Try.prog 24 #[.agg #[.string s, .int .i64 p, .int .i64 q, .slice A n cap], .int .i64 i] w fun e w' => e = .returned (.bool (Fl.vld n i)) ∧ Below w.heap.size w w' := by
  by_cases h0 : 0 ≤ i
  · go_enter Try.func24, Try.ntmps24
    go_wp2
    go_ret
    exact ⟨ret_bool (by simp [Fl.vld, h0]), (Below.refl _ _).alloc (Nat.le_refl _) _⟩
  · go_enter Try.func24, Try.ntmps24
    go_wp2
    go_ret
    exact ⟨ret_bool (by have h0' : ¬ 0 ≤ i := by omega
                        simp [Fl.vld, h0']), (Below.refl _ _).alloc (Nat.le_refl _) _⟩
theorem valid_is (s : ByteArray) (p q : Int) (A : Option Addr) (n cap : Nat) (i : Int) (b : Bool) (w : World) (hb : Fl.vld n i = b) :
    Calls Try.prog 24 #[.agg #[.string s, .int .i64 p, .int .i64 q, .slice A n cap], .int .i64 i] w fun e w' => e = .returned (.bool b) ∧ Below w.heap.size w w' :=
  (valid_any s p q A n cap i w).mono fun _ _ h => ⟨by rw [← hb]; exact h.1, h.2⟩

set_option maxHeartbeats 400000 in
theorem only_any (s : ByteArray) (p q : Int) (A : Option Addr) (n cap : Nat) (b off c : Nat) (l : List Int) (w : World) (hl : l.length ≤ 1000000)
    (hb : b < w.heap.size) (hc : ∀ k, k < l.length → w.cell? ⟨b, off + k, none⟩ = some (.int .i64 (l.getD k 0))) :
    Calls Try.prog 25 #[.agg #[.string s, .int .i64 p, .int .i64 q, .slice A n cap], .slice (some ⟨b, off, none⟩) l.length c] w fun e w' =>
      ∃ A' cap', e = .returned (.slice A' (Fl.onlyL n l).length cap') ∧ Own w' w.heap.size A' cap' (Fl.onlyL n l) ∧ Below w.heap.size w w' := by
  obtain ⟨i0, hi, hz0, hz1, hz2⟩ := info_parts Try.info3
  go_enter Try.func25, Try.ntmps25
  go_wp2
  go_loopw [5, 10] (fun v i wr => ∃ (k : Nat) (A' : Option Addr) (cap' : Nat), k ≤ l.length ∧ i = .int .i64 k ∧ v = .slice A' (Fl.onlyTo n l k).length cap' ∧ Own wr (w.heap.size + 1) A' cap' (Fl.onlyTo n l k) ∧ Below (w.heap.size + 1) (w.alloc (box s p q A n cap)) wr)
    (fun _ i _ => l.length - (intOf i).toNat)
  case atStart => exact ⟨0, none, 0, Nat.zero_le _, rfl, rfl, Own.nil _ _, Below.refl _ _⟩
  case round =>
    obtain ⟨k, A', cap', hk, rfl, rfl, hown, hbel⟩ := hrel
    by_cases hlt : k < l.length
    · obtain ⟨x, hx⟩ : ∃ x, x = l.getD k 0 := ⟨_, rfl⟩
      have hcell := (hbel.cell (p := ⟨b, off + k, none⟩) (by simp; omega)).trans ((World.cell?_alloc_past _ _ _ hb).trans (hc k hlt))
      rw [← hx] at hcell
      have HX := Lib.hid hx
      clear hx
      have hlen := Fl.onlyTo_len n l k
      generalize hO : Fl.onlyTo n l k = O at *
      have HO := Lib.hid hO
      clear hO
      obtain ⟨c0, c1, c2, c3⟩ := box_cells (Nat.lt_succ_self _) hbel
      have hstep : Fl.onlyTo n l (k + 1) = Fl.onlyStep n O x := by rw [Fl.onlyTo, HO.out, ← HX.out]
      have HS := Lib.hid hstep
      clear hstep
      have hs0 := hbel.size
      simp at hs0
      by_cases hv : Fl.vld n x = true
      · by_cases hz : O.length = 0
        · have hO : O = [] := List.eq_nil_of_length_eq_zero hz
          subst hO
          clear hz
          go_wp2_with fail
          refine (valid_is s p q A n cap x true _ hv).mono ?_
          rintro e w1 ⟨rfl, hb1⟩
          have hown1 := hown.below hb1
          have hs1 := hb1.size
          go_wp2_with (at_builtin; refine wpList_append_own _ rfl (.tmp 32) (.tmp 34) _ rfl (w.heap.size + 1) 3 i0 (.int .i64 0) 1 8 Try.underlying35 hi hz0 hz1 hz2 rfl (by decide) _ _ _ rfl (hown1.alloc _) ⟨w1.heap.size, 0, none⟩ 1 1 [.int .i64 x] rfl rfl (cell_one _ _ _) (one_int _ _) (by unfold maxLen; omega) (by omega) (by simp; omega) ?_; intro v2 w2 hown2 hgrow2 _)
          obtain ⟨A2, cap2, hv2, ho2, hb2⟩ := own_push (x := x) hown1 (hbel.trans (hb1.mono (by omega))) (by omega) rfl hown2 hgrow2
          go_roundw
          case rel => exact ⟨k + 1, A2, cap2, by omega, by go_num, by rw [HS.out, Fl.onlyStep_nil, hv, if_pos rfl]; exact hv2, by rw [HS.out, Fl.onlyStep_nil, hv, if_pos rfl]; exact ho2, hb2⟩
          case measure => simp [intOf]; omega
        · obtain ⟨g, rfl, hg1, hg2, hgc⟩ := hown.cell (by omega)
          obtain ⟨y, hy⟩ : ∃ y, y = O.getD (O.length - 1) 0 := ⟨_, rfl⟩
          have hyl : O.getLast? = some y := by
            rw [List.getLast?_eq_getElem?, hy, List.getD_eq_getElem?_getD, List.getElem?_eq_getElem (by omega), Option.getD_some]
          have hcy := hgc (O.length - 1) (by omega)
          rw [← hy] at hcy
          clear hy hgc
          have HY := Lib.hid hyl
          clear hyl
          have hz' : ((O.length : Int) == 0) = false := beq_eq_false_iff_ne.2 (by omega)
          have hpos : 0 < O.length := by omega
          clear hz
          by_cases hne : y = x
          · have hne' : (y != x) = false := by simp [hne]
            have HE := Lib.hid hne
            clear hne
            go_wp2_with fail
            refine (valid_is s p q A n cap x true _ hv).mono ?_
            rintro e w1 ⟨rfl, hb1⟩
            have hcy1 := (hb1.cell (p := ⟨g, O.length - 1, none⟩) hg1).trans hcy
            have hown1 := hown.below hb1
            go_wp2_with fail
            go_roundw
            case rel => exact ⟨k + 1, some ⟨g, 0, none⟩, cap', by omega, by go_num, by rw [HS.out, Fl.onlyStep, HY.out, HE.out]; simp, by rw [HS.out, Fl.onlyStep, HY.out, HE.out]; simpa using hown1, hbel.trans (hb1.mono (by omega))⟩
            case measure => simp [intOf]; omega
          · have hne' : (y != x) = true := by simp [hne]
            go_wp2_with fail
            refine (valid_is s p q A n cap x true _ hv).mono ?_
            rintro e w1 ⟨rfl, hb1⟩
            have hcy1 := (hb1.cell (p := ⟨g, O.length - 1, none⟩) hg1).trans hcy
            have hown1 := hown.below hb1
            have hs1 := hb1.size
            go_wp2_with (at_builtin; refine wpList_append_own _ rfl (.tmp 32) (.tmp 34) _ rfl (w.heap.size + 1) 3 i0 (.int .i64 0) 1 8 Try.underlying35 hi hz0 hz1 hz2 rfl (by decide) _ _ _ rfl (hown1.alloc _) ⟨w1.heap.size, 0, none⟩ 1 1 [.int .i64 x] rfl rfl (cell_one _ _ _) (one_int _ _) (by unfold maxLen; omega) (by omega) (by simp; omega) ?_; intro v2 w2 hown2 hgrow2 _)
            obtain ⟨A2, cap2, hv2, ho2, hb2⟩ := own_push (x := x) hown1 (hbel.trans (hb1.mono (by omega))) (by omega) rfl hown2 hgrow2
            have hst : Fl.onlyStep n O x = O ++ [x] := by unfold Fl.onlyStep; rw [HY.out]; simp [hv, hne]
            go_roundw
            case rel => exact ⟨k + 1, A2, cap2, by omega, by go_num, by rw [HS.out, hst]; exact hv2, by rw [HS.out, hst]; exact ho2, hb2⟩
            case measure => simp [intOf]; omega
      · have hv' : Fl.vld n x = false := by simpa using hv
        clear hv
        go_wp2_with fail
        refine (valid_is s p q A n cap x false _ hv').mono ?_
        rintro e w1 ⟨rfl, hb1⟩
        have hown1 := hown.below hb1
        go_wp2_with fail
        go_roundw
        case rel => exact ⟨k + 1, A', cap', by omega, by go_num, by rw [HS.out, Fl.onlyStep, hv']; simp, by rw [HS.out, Fl.onlyStep, hv']; simpa using hown1, hbel.trans (hb1.mono (by omega))⟩
        case measure => simp [intOf]; omega
    · have : k = l.length := by omega
      subst this
      go_wp2
      go_ret
      exact ⟨_, _, rfl, hown.mono (Nat.le_succ _), below_box hbel⟩
end Go.Proofs.Ytnbaofkgakgpgaa
