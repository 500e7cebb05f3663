/- The walks of Ints of the program and of the reference. -/
import Derived.Test.YtelanbiedfldgaaWalkJ
namespace Go.Proofs.Ytelanbiedfldgaa
open Go.RowKit

theorem Try.info3 : (Try.prog.info? 3).map (fun i => (i.zero, i.size, i.bytes)) = some (some (.int .i64 0), 1, 8) := by kernel_rfl
/-- A slice of ints of the call's own. -/
def Own (w : World) (B : Nat) (A : Option Addr) (cap : Nat) (l : List Int) : Prop := w.ownsRow B 3 1 (.slice A l.length cap) l.length (l.map (Value.int .i64))
theorem Own.cell {w : World} {B : Nat} {A : Option Addr} {cap : Nat} {l : List Int} (h : Own w B A cap l) (hl : 0 < l.length) :
    ∃ g, A = some ⟨g, 0, none⟩ ∧ g < w.heap.size ∧ B ≤ g ∧ ∀ k, k < l.length → w.cell? ⟨g, k, none⟩ = some (.int .i64 (l.getD k 0)) := by
  have h2 := h.2
  rcases h2 with ⟨_, h0⟩ | ⟨g, cap', cur, hv, hb, hh, _⟩
  · omega
  · simp only [Value.slice.injEq] at hv
    obtain ⟨rfl, _, rfl⟩ := hv
    refine ⟨g, rfl, (Array.getElem?_eq_some_iff.1 hh).1, hb, fun k hk => ?_⟩
    rw [World.ownsRow.cellAt h k (by omega)]
    simp [List.getD_eq_getElem?_getD, hk]
theorem Own.ints {w : World} {B : Nat} {A : Option Addr} {cap : Nat} {l : List Int} (h : Own w B A cap l) : Ints w w.heap.size A l := fun hl => by
  obtain ⟨g, e, hlt, _, hc⟩ := h.cell hl
  exact ⟨g, 0, e, hlt, fun k hk => by rw [Nat.zero_add]; exact hc k hk⟩
theorem Own.mono {w : World} {B B' : Nat} {A : Option Addr} {cap : Nat} {l : List Int} (h : Own w B A cap l) (hB : B' ≤ B) : Own w B' A cap l := by
  refine ⟨h.1, ?_⟩
  rcases h.2 with h2 | ⟨g, cap', cur, hv, hb, rest⟩
  · exact .inl h2
  · exact .inr ⟨g, cap', cur, hv, by omega, rest⟩
theorem Own.nil (w : World) (B : Nat) : Own w B none 0 [] := World.ownsRow_nil _ _ _ _
theorem Own.below {w w' : World} {B : Nat} {A : Option Addr} {cap : Nat} {l : List Int} (h : Own w B A cap l) (hb : Below w.heap.size w w') : Own w' B A cap l :=
  World.ownsRow.kept h (grown_of_below hb) (by cases A <;> simp [Value.ownBlock])
theorem own_shape {w : World} {B : Nat} {v : Value} {n : Nat} {l : List Int} {xs : List Value} (h : w.ownsRow B 3 1 v n xs) (hn : n = l.length) (hx : xs = l.map (Value.int .i64)) : ∃ A cap, v = .slice A l.length cap ∧ Own w B A cap l := by
  subst hn; subst hx
  rcases h.2 with ⟨hv, h0⟩ | ⟨g, cap', cur, hv, hb, rest⟩
  · refine ⟨none, 0, by rw [hv, h0], ?_⟩
    have : l = [] := List.eq_nil_of_length_eq_zero h0
    subst this
    exact Own.nil _ _
  · refine ⟨some ⟨g, 0, none⟩, cap', hv, ?_⟩
    subst hv
    exact h
theorem cell_one (w : World) (v : Value) (t : TypeId) : ∀ j u, [v][j]? = some u → (w.alloc (.cells #[v] t)).cell? ((⟨w.heap.size, 0, none⟩ : Addr).add j) = some u := by
  intro j u hj
  match j, hj with
  | 0, hj =>
    simp at hj
    subst hj
    simp [Addr.add, World.cell?_alloc_at]
theorem one_int (k : IntKind) (x : Int) : ∀ u ∈ [Value.int k x], u.oneCell' = true := by
  intro u hu; simp at hu; subst hu; rfl
/-- Behind an append of one element to a slice of the call's own. -/
theorem own_push {W0 w1 w2 : World} {B : Nat} {A : Option Addr} {cap : Nat} {O : List Int} {x : Int} {v v2 : Value} {o : Obj} (hown : Own w1 B A cap O) (hbel : Below B W0 w1) (hB : B ≤ w1.heap.size)
    (hv : v = .slice A O.length cap) (h2 : w2.ownsRow B 3 1 v2 (O.length + 1) (O.map (Value.int .i64) ++ [Value.int .i64 x])) (hg : (w1.alloc o).grownBy w2 v.ownBlock) :
    ∃ A2 cap2, v2 = .slice A2 (O ++ [x]).length cap2 ∧ Own w2 B A2 cap2 (O ++ [x]) ∧ Below B W0 w2 := by
  obtain ⟨A2, cap2, e, ho⟩ := own_shape (l := O ++ [x]) h2 (by simp) (by simp)
  refine ⟨A2, cap2, e, ho, (hbel.alloc hB o).grown hg (by simp; omega) (fun k hk => ?_)⟩
  subst hv
  exact (World.ownsRow.lt hown k hk).1
def IntsPost (w : World) (r : List Int × Int × Int) (e : Ending) (w' : World) : Prop := ∃ A cap, e = .returned (.tuple #[.slice A r.1.length cap, .int .i64 r.2.1, .int .i64 r.2.2]) ∧ Own w' w.heap.size A cap r.1 ∧ Below w.heap.size w w'
theorem int_at (A : Option Addr) (cap n : Nat) (bs : List Nat) (r : Int × Int × Int) (w : World) (hb : Byts w w.heap.size A bs) (hB : Cd.Byt bs) (hn : bs.length = n) (hl : n ≤ 1000000) (hr : Cd.dec 0 0 bs = r) :
    Calls Try.prog 12 #[.slice A n cap] w (IntPost w r) := by
  subst hn; subst hr; exact int_any A cap bs w hb hB (by omega)
theorem rint_at (A : Option Addr) (cap n : Nat) (bs : List Nat) (r : Int × Int × Int) (w : World) (hb : Byts w w.heap.size A bs) (hB : Cd.Byt bs) (hn : bs.length = n) (hl : n ≤ 1000000) (hr : Cd.dec 0 0 bs = r) :
    Calls Try.prog 18 #[.slice A n cap] w (IntPost w r) := by
  subst hn; subst hr; exact rint_any A cap bs w hb hB (by omega)
theorem byt_drop {l : List Nat} (h : Cd.Byt l) (k : Nat) : Cd.Byt (l.drop k) := fun x hx => h x (List.mem_of_mem_drop hx)
set_option maxRecDepth 100000 in
set_option maxHeartbeats 600000 in
theorem ints_any (A : Option Addr) (cap : Nat) (bs : List Nat) (limit : Int) (w : World) (hb : Byts w w.heap.size A bs) (hB : Cd.Byt bs) (hl : bs.length ≤ 1000000) (hcap : bs.length ≤ cap) :
    Calls Try.prog 16 #[.slice A bs.length cap, .int .i64 limit] w (IntsPost w (Cd.intsL bs limit)) := by
  obtain ⟨i0, hi, hz0, hz1, hz2⟩ := info_parts Try.info3
  have hc := fun w0 h => length_any A cap bs limit w0 h hB (by omega)
  have hdef : Cd.intsL bs limit = if (Cd.lenL bs limit).2.2 ≠ 0 then ([], 0, (Cd.lenL bs limit).2.2) else Cd.intsGo bs (Cd.lenL bs limit).1.toNat (Cd.lenL bs limit).2.1.toNat [] := rfl
  unfold IntPost at hc
  by_cases h1 : (Cd.lenL bs limit).2.2 = 0
  · obtain ⟨n, j, h2, h3, h4, h5, h6⟩ := Cd.lenL_ok h1
    rw [h2] at hdef hc
    simp only [ne_eq, not_true, if_false, Int.toNat_natCast] at hdef
    have HC := Lib.hid hc
    have HD := Lib.hid hdef
    clear hc hdef h1 h2 h5 h6
    obtain ⟨b, off, rfl, hbl, hcell⟩ := hb (by omega)
    clear hcell
    go_enter Try.func16, Try.ntmps16
    go_wp2_with fail
    refine (HC.out _ hb).mono ?_
    rintro e w1 ⟨rfl, hb1⟩
    go_wp2_with fail
    go_loopw [8, 10, 25] (fun va vl vi wr => ∃ (i a : Nat) (acc : List Int) (A' : Option Addr) (cap' : Nat), i ≤ n ∧ vi = .int .i64 i ∧ va = .int .i64 a ∧ vl = .slice A' acc.length cap' ∧ Own wr w.heap.size A' cap' acc ∧ a ≤ bs.length ∧ acc.length = i ∧ i ≤ a ∧
        Cd.intsL bs limit = Cd.intsGo bs (n - i) a acc ∧ Below w.heap.size w wr) (fun _ _ vi _ => n - (intOf vi).toNat)
    case atStart => exact ⟨0, j, [], none, 0, Nat.zero_le _, rfl, rfl, rfl, Own.nil _ _, h4, rfl, Nat.zero_le _, HD.out, hb1⟩
    case round =>
      clear hb1
      obtain ⟨i, a, acc, A', cap', hin, rfl, rfl, rfl, hown, hal, hacc, hia, hgo, hbel⟩ := hrel
      have HACC := Lib.hid hacc
      clear hacc
      by_cases hlt : i < n
      · obtain ⟨m, hm⟩ : ∃ m, n - i = m + 1 := ⟨n - i - 1, by omega⟩
        rw [hm, Cd.intsGo] at hgo
        have HY := Lib.hid ((hb.below hbel).more hbel.size)
        have HA := Lib.hid (show bs.drop a = [] ∨ True from .inr trivial)
        have hdl : (bs.drop a).length = bs.length - a := List.length_drop
        have hok := Cd.dec_ok (bs.drop a) 0 0
        obtain ⟨r, hr⟩ : ∃ r, r = Cd.dec 0 0 (bs.drop a) := ⟨_, rfl⟩
        rw [← hr] at hgo hok
        have hrr : Cd.dec 0 0 (bs.drop a) = (r.1, r.2.1, r.2.2) := by rw [← hr]
        have HR := Lib.hid hrr
        have HDL := Lib.hid hdl
        have hal2 : (a : Int) ≤ (bs.length : Int) := by omega
        by_cases he : r.2.2 = 0
        · obtain ⟨j2, hj2, hj3, hj4⟩ := hok.1 he
          rw [if_neg (by simp [he]), hj2, Int.toNat_natCast] at hgo
          obtain ⟨x, hx⟩ : ∃ x, x = r.1 := ⟨_, rfl⟩
          have hrr2 : Cd.dec 0 0 (bs.drop a) = (x, (j2 : Int), 0) := by rw [hrr, hj2, he, hx]
          rw [← hx] at hgo
          have HR2 := Lib.hid hrr2
          have HGO := Lib.hid hgo
          have hs5 : IntKind.i64.wrap ((a : Int) + (j2 : Int)) = (a : Int) + (j2 : Int) := IntWalk.i64_in _ ⟨by omega, by omega⟩
          have hj5 : a + j2 ≤ bs.length := by omega
          clear hgo hrr2 hrr hr hok hx hj2 hdl HR he
          go_wp2_with fail
          all_goals
            refine (int_at _ _ _ (bs.drop a) _ wr (by first | exact HY.out.cut hcap a | exact HY.out.drop a | exact byts_none (by have := HDL.out; omega)) (byt_drop hB a) HDL.out (by omega) HR2.out).mono ?_
            rintro e w2 ⟨rfl, hb2⟩
            have hown2 := hown.below hb2
            have hbel2 := hbel.trans (hb2.mono hbel.size)
            have HO2 := Lib.hid hown2
            have HBB := Lib.hid hb
            clear hown2
            go_wp2_with (at_builtin; refine wpList_append_own _ rfl (.tmp 38) (.tmp 40) _ rfl w.heap.size 3 i0 (.int .i64 0) 1 8 Try.underlying32 hi hz0 hz1 hz2 rfl (by decide) _ _ _ rfl (World.ownsRow.alloc HO2.out _) ⟨w2.heap.size, 0, none⟩ 1 1 [.int .i64 x] rfl rfl (cell_one _ _ _) (one_int _ _) (by have := HACC.out; unfold maxLen; omega) (by have := HACC.out; omega) (by have := hbel2.size; simp; omega) ?_; intro v2 w3 hown3 hgrow3 _)
            obtain ⟨A3, cap3, rfl, ho3, hb3⟩ := own_push (x := x) HO2.out hbel2 hbel2.size rfl hown3 hgrow3
            go_wp2_with fail
            go_roundw
            case rel => exact ⟨i + 1, a + j2, acc ++ [x], A3, cap3, by omega, by go_num, by go_num, by first | rfl | simp, ho3, hj5, by have := HACC.out; simp; omega, by omega, by rw [HGO.out]; congr 1; omega, hb3⟩
            case measure => simp [intOf]; omega
        · rw [if_pos (by simpa using he)] at hgo
          have HGO := Lib.hid hgo
          obtain ⟨e, hee⟩ : ∃ e, e = r.2.2 := ⟨_, rfl⟩
          rw [← hee] at HGO he HR
          have he2 : (e != 0) = true := by simp [he]
          clear hgo hrr hr hok hdl hee
          go_wp2_with fail
          all_goals
            refine (int_at _ _ _ (bs.drop a) _ wr (by first | exact HY.out.cut hcap a | exact HY.out.drop a | exact byts_none (by have := HDL.out; omega)) (byt_drop hB a) HDL.out (by omega) HR.out).mono ?_
            rintro e w2 ⟨rfl, hb2⟩
            go_wp2_with fail
            go_ret3
            show IntsPost w (Cd.intsL bs limit) _ _
            rw [HGO.out]
            exact ⟨none, 0, rfl, Own.nil _ _, hbel.trans (hb2.mono hbel.size)⟩
      · have hni : n - i = 0 := by omega
        rw [hni, Cd.intsGo] at hgo
        have HGO := Lib.hid hgo
        have hnlt : ¬ ((i : Int) < (n : Int)) := by omega
        clear hgo hni
        go_wp2_with fail
        go_ret3
        show IntsPost w (Cd.intsL bs limit) _ _
        rw [HGO.out]
        exact ⟨A', cap', rfl, hown, hbel⟩
  · rw [if_pos h1] at hdef
    obtain ⟨v, hv⟩ : ∃ v, v = (Cd.lenL bs limit).1 := ⟨_, rfl⟩
    obtain ⟨s, hs⟩ : ∃ s, s = (Cd.lenL bs limit).2.1 := ⟨_, rfl⟩
    obtain ⟨e, he⟩ : ∃ e, e = (Cd.lenL bs limit).2.2 := ⟨_, rfl⟩
    rw [← he] at hdef h1
    rw [← hv, ← hs, ← he] at hc
    have HC := Lib.hid hc
    have h1' : (e != 0) = true := by simp [h1]
    rw [hdef]
    clear hc hv hs he hdef
    go_enter Try.func16, Try.ntmps16
    go_wp2_with fail
    refine (HC.out _ hb).mono ?_
    rintro e w1 ⟨rfl, hb1⟩
    go_wp2_with fail
    go_ret3
    exact ⟨none, 0, rfl, Own.nil _ _, hb1⟩
set_option maxRecDepth 100000 in
set_option maxHeartbeats 600000 in
theorem rints_any (A : Option Addr) (cap : Nat) (bs : List Nat) (limit : Int) (w : World) (hb : Byts w w.heap.size A bs) (hB : Cd.Byt bs) (hl : bs.length ≤ 1000000) (hcap : bs.length ≤ cap) :
    Calls Try.prog 20 #[.slice A bs.length cap, .int .i64 limit] w (IntsPost w (Cd.intsL bs limit)) := by
  obtain ⟨i0, hi, hz0, hz1, hz2⟩ := info_parts Try.info3
  have hc := fun w0 h => many_any A cap bs limit w0 h hB (by omega)
  have hdef : Cd.intsL bs limit = if (Cd.lenL bs limit).2.2 ≠ 0 then ([], 0, (Cd.lenL bs limit).2.2) else Cd.intsGo bs (Cd.lenL bs limit).1.toNat (Cd.lenL bs limit).2.1.toNat [] := rfl
  unfold IntPost at hc
  by_cases h1 : (Cd.lenL bs limit).2.2 = 0
  · obtain ⟨n, j, h2, h3, h4, h5, h6⟩ := Cd.lenL_ok h1
    rw [h2] at hdef hc
    simp only [ne_eq, not_true, if_false, Int.toNat_natCast] at hdef
    have HC := Lib.hid hc
    have HD := Lib.hid hdef
    clear hc hdef h1 h2 h5 h6
    obtain ⟨b, off, rfl, hbl, hcell⟩ := hb (by omega)
    clear hcell
    go_enter Try.func20, Try.ntmps20
    go_wp2_with fail
    refine (HC.out _ hb).mono ?_
    rintro e w1 ⟨rfl, hb1⟩
    go_wp2_with fail
    go_loopw [8, 10, 11] (fun va vl vi wr => ∃ (i a : Nat) (acc : List Int) (A' : Option Addr) (cap' : Nat), i ≤ n ∧ vi = .int .i64 i ∧ va = .int .i64 a ∧ vl = .slice A' acc.length cap' ∧ Own wr w.heap.size A' cap' acc ∧ a ≤ bs.length ∧ acc.length = i ∧ i ≤ a ∧
        Cd.intsL bs limit = Cd.intsGo bs (n - i) a acc ∧ Below w.heap.size w wr) (fun _ _ vi _ => n - (intOf vi).toNat)
    case atStart => exact ⟨0, j, [], none, 0, Nat.zero_le _, rfl, rfl, rfl, Own.nil _ _, h4, rfl, Nat.zero_le _, HD.out, hb1⟩
    case round =>
      clear hb1
      obtain ⟨i, a, acc, A', cap', hin, rfl, rfl, rfl, hown, hal, hacc, hia, hgo, hbel⟩ := hrel
      have HACC := Lib.hid hacc
      clear hacc
      by_cases hlt : i < n
      · obtain ⟨m, hm⟩ : ∃ m, n - i = m + 1 := ⟨n - i - 1, by omega⟩
        rw [hm, Cd.intsGo] at hgo
        have HY := Lib.hid ((hb.below hbel).more hbel.size)
        have HA := Lib.hid (show bs.drop a = [] ∨ True from .inr trivial)
        have hdl : (bs.drop a).length = bs.length - a := List.length_drop
        have hok := Cd.dec_ok (bs.drop a) 0 0
        obtain ⟨r, hr⟩ : ∃ r, r = Cd.dec 0 0 (bs.drop a) := ⟨_, rfl⟩
        rw [← hr] at hgo hok
        have hrr : Cd.dec 0 0 (bs.drop a) = (r.1, r.2.1, r.2.2) := by rw [← hr]
        have HR := Lib.hid hrr
        have HDL := Lib.hid hdl
        have hal2 : (a : Int) ≤ (bs.length : Int) := by omega
        by_cases he : r.2.2 = 0
        · obtain ⟨j2, hj2, hj3, hj4⟩ := hok.1 he
          rw [if_neg (by simp [he]), hj2, Int.toNat_natCast] at hgo
          obtain ⟨x, hx⟩ : ∃ x, x = r.1 := ⟨_, rfl⟩
          have hrr2 : Cd.dec 0 0 (bs.drop a) = (x, (j2 : Int), 0) := by rw [hrr, hj2, he, hx]
          rw [← hx] at hgo
          have HR2 := Lib.hid hrr2
          have HGO := Lib.hid hgo
          have hs5 : IntKind.i64.wrap ((a : Int) + (j2 : Int)) = (a : Int) + (j2 : Int) := IntWalk.i64_in _ ⟨by omega, by omega⟩
          have hj5 : a + j2 ≤ bs.length := by omega
          clear hgo hrr2 hrr hr hok hx hj2 hdl HR he
          go_wp2_with fail
          all_goals
            refine (rint_at _ _ _ (bs.drop a) _ wr (by first | exact HY.out.cut hcap a | exact HY.out.drop a | exact byts_none (by have := HDL.out; omega)) (byt_drop hB a) HDL.out (by omega) HR2.out).mono ?_
            rintro e w2 ⟨rfl, hb2⟩
            have hown2 := hown.below hb2
            have hbel2 := hbel.trans (hb2.mono hbel.size)
            have HO2 := Lib.hid hown2
            have HBB := Lib.hid hb
            clear hown2
            go_wp2_with (at_builtin; refine wpList_append_own _ rfl (.tmp 41) (.tmp 43) _ rfl w.heap.size 3 i0 (.int .i64 0) 1 8 Try.underlying32 hi hz0 hz1 hz2 rfl (by decide) _ _ _ rfl (World.ownsRow.alloc HO2.out _) ⟨w2.heap.size, 0, none⟩ 1 1 [.int .i64 x] rfl rfl (cell_one _ _ _) (one_int _ _) (by have := HACC.out; unfold maxLen; omega) (by have := HACC.out; omega) (by have := hbel2.size; simp; omega) ?_; intro v2 w3 hown3 hgrow3 _)
            obtain ⟨A3, cap3, rfl, ho3, hb3⟩ := own_push (x := x) HO2.out hbel2 hbel2.size rfl hown3 hgrow3
            go_wp2_with fail
            go_roundw
            case rel => exact ⟨i + 1, a + j2, acc ++ [x], A3, cap3, by omega, by go_num, by go_num, by first | rfl | simp, ho3, hj5, by have := HACC.out; simp; omega, by omega, by rw [HGO.out]; congr 1; omega, hb3⟩
            case measure => simp [intOf]; omega
        · rw [if_pos (by simpa using he)] at hgo
          have HGO := Lib.hid hgo
          obtain ⟨e, hee⟩ : ∃ e, e = r.2.2 := ⟨_, rfl⟩
          rw [← hee] at HGO he HR
          have he2 : (e != 0) = true := by simp [he]
          clear hgo hrr hr hok hdl hee
          go_wp2_with fail
          all_goals
            refine (rint_at _ _ _ (bs.drop a) _ wr (by first | exact HY.out.cut hcap a | exact HY.out.drop a | exact byts_none (by have := HDL.out; omega)) (byt_drop hB a) HDL.out (by omega) HR.out).mono ?_
            rintro e w2 ⟨rfl, hb2⟩
            go_wp2_with fail
            go_ret3
            show IntsPost w (Cd.intsL bs limit) _ _
            rw [HGO.out]
            exact ⟨none, 0, rfl, Own.nil _ _, hbel.trans (hb2.mono hbel.size)⟩
      · have hni : n - i = 0 := by omega
        rw [hni, Cd.intsGo] at hgo
        have HGO := Lib.hid hgo
        have hnlt : ¬ ((i : Int) < (n : Int)) := by omega
        clear hgo hni
        go_wp2_with fail
        go_ret3
        show IntsPost w (Cd.intsL bs limit) _ _
        rw [HGO.out]
        exact ⟨A', cap', rfl, hown, hbel⟩
  · rw [if_pos h1] at hdef
    obtain ⟨v, hv⟩ : ∃ v, v = (Cd.lenL bs limit).1 := ⟨_, rfl⟩
    obtain ⟨s, hs⟩ : ∃ s, s = (Cd.lenL bs limit).2.1 := ⟨_, rfl⟩
    obtain ⟨e, he⟩ : ∃ e, e = (Cd.lenL bs limit).2.2 := ⟨_, rfl⟩
    rw [← he] at hdef h1
    rw [← hv, ← hs, ← he] at hc
    have HC := Lib.hid hc
    have h1' : (e != 0) = true := by simp [h1]
    rw [hdef]
    clear hc hv hs he hdef
    go_enter Try.func20, Try.ntmps20
    go_wp2_with fail
    refine (HC.out _ hb).mono ?_
    rintro e w1 ⟨rfl, hb1⟩
    go_wp2_with fail
    go_ret3
    exact ⟨none, 0, rfl, Own.nil _ _, hb1⟩
end Go.Proofs.Ytelanbiedfldgaa
