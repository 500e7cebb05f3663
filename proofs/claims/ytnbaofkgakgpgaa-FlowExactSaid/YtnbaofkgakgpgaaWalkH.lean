/- The walk of awake: the examples of the chapter. -/
import Derived.Test.YtnbaofkgakgpgaaWalkG
namespace Go.Proofs.Ytnbaofkgakgpgaa
open Go.RowKit

theorem OwnI.codeAt {w : World} {B : Nat} {g cap : Nat} {I : Fl.Rt} (h : OwnI w B (some ⟨g, 0, none⟩) cap I) : CodeAt w w.heap.size (some ⟨g, 0, none⟩) I := fun hl => by
  refine ⟨g, 0, rfl, (World.ownsRow.lt h g rfl).2, fun i hi => ⟨iarr (I.getD i (0, 0)), rfl, iarr_one _, iarr_op _, iarr_ar _, ?_⟩⟩
  intro j v hj
  rw [iarr_list] at hj
  have hj20 : j < 20 := by
    rcases Nat.lt_or_ge j 20 with h' | h'
    · exact h'
    · rw [List.getElem?_eq_none (by rw [icells_len]; exact h')] at hj; cases hj
  rw [Nat.zero_add, World.ownsRow.cellAt h (i * 20 + j) (by omega)]
  have : ∀ (I : Fl.Rt) (i : Nat), i < I.length → (I.flatMap icells)[i * 20 + j]? = (icells (I.getD i (0, 0)))[j]? := fun I => by
    induction I with
    | nil => intro i hi; simp at hi
    | cons y I ih =>
      intro i hi
      cases i with
      | zero => rw [List.flatMap_cons, List.getElem?_append_left (by rw [icells_len]; omega)]; simp
      | succ i =>
        rw [List.flatMap_cons, List.getElem?_append_right (by rw [icells_len]; omega), icells_len, show (i + 1) * 20 + j - 20 = i * 20 + j by omega, ih i (by simpa using hi)]
        simp
  rw [this I i hi]
  exact hj
theorem OwnI.first {w : World} {B g cap : Nat} {o a : Int} {I : Fl.Rt} (h : OwnI w B (some ⟨g, 0, none⟩) cap ((o, a) :: I)) (a' : Int) :
    OwnI (w.setCell ⟨g, 1, none⟩ (.int .i64 a')) B (some ⟨g, 0, none⟩) cap ((o, a') :: I) ∧ w.grownBy (w.setCell ⟨g, 1, none⟩ (.int .i64 a')) (some g) := by
  have := World.ownsRow.stored h 1 (.int .i64 a')
  refine ⟨?_, this.2⟩
  have e : (((o, a) :: I : Fl.Rt).flatMap icells).set 1 (.int .i64 a') = ((o, a') :: I : Fl.Rt).flatMap icells := rfl
  have h1 := this.1
  rw [e] at h1
  exact h1

/-- A variable that holds a routine of the call's own. -/
structure VarAt (w : World) (B V g cap : Nat) (I : Fl.Rt) : Prop where
  blk : w.heap[V]? = some (.cells #[.string ⟨#[]⟩, .int .i64 0, .int .i64 0, .slice (some ⟨g, 0, none⟩) I.length cap] 24 (0, 0))
  own : OwnI w B (some ⟨g, 0, none⟩) cap I
section
variable {w w' : World} {B V g cap : Nat} {I : Fl.Rt}
theorem VarAt.lt (h : VarAt w B V g cap I) : V < w.heap.size := (Array.getElem?_eq_some_iff.1 h.blk).1
theorem VarAt.ltg (h : VarAt w B V g cap I) : g < w.heap.size := (World.ownsRow.lt h.own g rfl).2
theorem VarAt.below (h : VarAt w B V g cap I) (hb : Below w.heap.size w w') : VarAt w' B V g cap I :=
  ⟨(hb.block V h.lt).trans h.blk, World.ownsRow.kept h.own (grown_of_below hb) (by simp [Value.ownBlock])⟩
theorem VarAt.alloc (h : VarAt w B V g cap I) (o : Obj) : VarAt (w.alloc o) B V g cap I := h.below ((Below.refl _ _).alloc (Nat.le_refl _) _)
theorem VarAt.grown {k : Nat} (h : VarAt w B V g cap I) (hg : w.grownBy w' (some k)) (h1 : V ≠ k) (h2 : g ≠ k) : VarAt w' B V g cap I :=
  ⟨(hg.block V h.lt (by simpa using h1)).trans h.blk, World.ownsRow.kept h.own hg (.inr (by simpa [Value.ownBlock] using h2))⟩
theorem VarAt.cells (h : VarAt w B V g cap I) : w.cell? ⟨V, 0, none⟩ = some (.string ⟨#[]⟩) ∧ w.cell? ⟨V, 1, none⟩ = some (.int .i64 0) ∧ w.cell? ⟨V, 2, none⟩ = some (.int .i64 0) ∧
    w.cell? ⟨V, 3, none⟩ = some (.slice (some ⟨g, 0, none⟩) I.length cap) := by
  refine ⟨?_, ?_, ?_, ?_⟩ <;> rw [cell_of_row _ _ _ _ _ _ h.blk] <;> rfl
end
def CodePost (w : World) (n : Nat) (I : Fl.Rt) (e : Ending) (w' : World) : Prop :=
  ∃ g cap, e = .returned (.agg #[.string ⟨#[]⟩, .int .i64 0, .int .i64 0, .slice (some ⟨g, 0, none⟩) n cap]) ∧ OwnI w' w.heap.size (some ⟨g, 0, none⟩) cap I ∧ Below w.heap.size w w'
theorem code_lit (l : List Int) (n : Nat) (cs : Array Value) (I : Fl.Rt) (b : Nat) (w : World) (hb : b = w.heap.size) (hn : l.length = n) (h0 : 0 < n) (hl : n ≤ 1000) (hcs : (l.map (Value.int .i64)).toArray = cs) (hI : forms 0 l = I) :
    Calls Try.prog 21 #[.int .i64 0, .slice (some ⟨b, 0, none⟩) n n] (w.alloc (.cells cs 29)) (CodePost w n I) := by
  subst hb; subst hn; subst hcs; subst hI
  refine (code_any 0 w.heap.size 0 l.length l _ (by omega) (by simp) (fun k hk => ?_)).mono ?_
  · rw [World.cell?_alloc_at _ _ _ _ rfl, Nat.zero_add]
    simp [List.getD_eq_getElem?_getD, hk]
  rintro e w' ⟨A, cap, rfl, ho, hbel⟩
  have hsz : 0 < (forms 0 l).length := by simpa [forms] using h0
  have hA : ∃ g, A = some ⟨g, 0, none⟩ := by
    rcases ho.2 with ⟨hv, h0'⟩ | ⟨g, cap', cur, hv, _⟩
    · omega
    · simp only [Value.slice.injEq] at hv
      exact ⟨g, hv.1⟩
  obtain ⟨g, rfl⟩ := hA
  refine ⟨g, cap, rfl, ?_, ((Below.refl _ _).alloc (Nat.le_refl _) _).trans (hbel.mono (by simp))⟩
  refine ⟨ho.1, ?_⟩
  rcases ho.2 with h2 | ⟨g, cap', cur, hv, hb', rest⟩
  · exact .inl h2
  · exact .inr ⟨g, cap', cur, hv, by simp at hb'; omega, rest⟩
theorem same_is (A1 A2 : Option Addr) (c1 c2 : Nat) (a b : List Int) (n m : Nat) (r : Bool) (w : World) (ha : Ints w w.heap.size A1 a) (hb : Ints w w.heap.size A2 b) (hn : a.length = n) (hm : b.length = m) (hl : n ≤ 1000000) (hr : (a == b) = r) :
    Calls Try.prog 13 #[.slice A1 n c1, .slice A2 m c2] w (SamePost w r) := by
  subst hr; subst hn; subst hm
  exact same_any A1 A2 c1 c2 a b w ha hb (by omega)

abbrev loopI : Fl.Rt := [(5, 3), (1, 0), (4, 0), (19, 0)]
abbrev calmI : Fl.Rt := [(5, 3), (6, 0), (4, 0), (19, 0)]
abbrev lineI : Fl.Rt := [(1, 0), (6, 0), (18, 0), (18, 0), (19, 0)]
theorem longest_loop : Fl.longestL loopI = (0, false) := by decide +kernel
theorem longest_calm : Fl.longestL calmI = (3, true) := by decide +kernel
theorem longest_line : Fl.longestL lineI = (3, true) := by decide +kernel
theorem longest_one : Fl.longestL [(1, 0)] = (1, true) := by decide +kernel
theorem spins_loop : Fl.spinsL loopI = [0, 1, 2] := by decide +kernel
theorem spins_calm : Fl.spinsL calmI = [] := by decide +kernel
theorem spins_jump : Fl.spinsL [(4, 0)] = [0] := by decide +kernel
theorem next_loop : Fl.nextL loopI 0 = [1, 3] := by decide +kernel
theorem next_one : Fl.nextL [(1, 0)] 0 = [] := by decide +kernel

/-- A routine just made, put into a new variable, its first target turned. -/
theorem fresh_var {w w1 : World} {g p : Nat} {o a a' : Int} {I : Fl.Rt} {n : Nat} (ho : OwnI w1 w.heap.size (some ⟨g, 0, none⟩) p ((o, a) :: I)) (hb : Below w.heap.size w w1) (hn : n = I.length + 1) :
    VarAt ((w1.setCell ⟨g, 1, none⟩ (.int .i64 a')).alloc (.cells #[.string ⟨#[]⟩, .int .i64 0, .int .i64 0, .slice (some ⟨g, 0, none⟩) n p] 24)) w.heap.size w1.heap.size g p ((o, a') :: I) ∧
    Below w.heap.size w ((w1.setCell ⟨g, 1, none⟩ (.int .i64 a')).alloc (.cells #[.string ⟨#[]⟩, .int .i64 0, .int .i64 0, .slice (some ⟨g, 0, none⟩) n p] 24)) ∧
    w1.cell? ⟨g, 1, none⟩ = some (.int .i64 a) ∧ w1.frozen? ⟨g, 1, none⟩ = false ∧ w.heap.size ≤ g ∧ g < w1.heap.size := by
  subst hn
  have hg := World.ownsRow.lt ho g rfl
  have hst := ho.first a'
  have hsz : (w1.setCell ⟨g, 1, none⟩ (.int .i64 a')).heap.size = w1.heap.size := by simp [World.setCell]
  refine ⟨⟨?_, World.ownsRow.alloc hst.1 _⟩, (hb.setCell hg.1 _).alloc (by rw [hsz]; exact hb.size) _, ?_, World.ownsRow.frozenAt ho 1, hg.1, hg.2⟩
  · have := heap_alloc_last (w1.setCell ⟨g, 1, none⟩ (.int .i64 a')) (.cells #[.string ⟨#[]⟩, .int .i64 0, .int .i64 0, .slice (some ⟨g, 0, none⟩) (I.length + 1) p] 24)
    rw [hsz] at this
    exact this
  · rw [World.ownsRow.cellAt ho 1 (by simp; omega)]; rfl
theorem VarAt.fresh {w w1 : World} {B V g cap g2 p n : Nat} {I : Fl.Rt} {a' : Int} (h : VarAt w B V g cap I) (hb : Below w.heap.size w w1) (hg : w.heap.size ≤ g2) :
    VarAt ((w1.setCell ⟨g2, 1, none⟩ (.int .i64 a')).alloc (.cells #[.string ⟨#[]⟩, .int .i64 0, .int .i64 0, .slice (some ⟨g2, 0, none⟩) n p] 24)) B V g cap I :=
  h.below ((hb.setCell (p := ⟨g2, 1, none⟩) hg _).alloc (by have := hb.size; simpa [World.setCell] using this) _)

theorem longest_is (s : ByteArray) (p q : Int) (A : Option Addr) (cap : Nat) (I : Fl.Rt) (n m : Nat) (b : Bool) (w : World) (hI : I.length = m) (hn : m ≤ 1000) (hc : CodeAt w w.heap.size A I) (h : Fl.longestL I = (n, b)) :
    Calls Try.prog 9 #[.agg #[.string s, .int .i64 p, .int .i64 q, .slice A m cap]] w fun e w' => e = .returned (.tuple #[.int .i64 (n : Int), .bool b]) ∧ Below w.heap.size w w' := by
  subst hI
  refine (longest_any s p q A cap I w (by omega) hc).mono ?_
  rintro e w' ⟨rfl, hb⟩
  rw [h]
  exact ⟨rfl, hb⟩
theorem spins_is (s : ByteArray) (p q : Int) (A : Option Addr) (cap : Nat) (I : Fl.Rt) (L : List Int) (m : Nat) (w : World) (hI : I.length = m) (hn : m ≤ 1000) (hc : CodeAt w w.heap.size A I) (h : Fl.spinsL I = L) :
    Calls Try.prog 16 #[.agg #[.string s, .int .i64 p, .int .i64 q, .slice A m cap]] w (NextPost w L) := by
  subst hI
  subst h
  exact spins_any s p q A cap I w (by omega) hc
theorem next_is (s : ByteArray) (p q : Int) (A : Option Addr) (cap : Nat) (I : Fl.Rt) (i : Int) (L : List Int) (m : Nat) (w : World) (hI : I.length = m) (hn : m ≤ 1000) (hc : CodeAt w w.heap.size A I) (h : Fl.nextL I i = L) :
    Calls Try.prog 14 #[.agg #[.string s, .int .i64 p, .int .i64 q, .slice A m cap], .int .i64 i] w (NextPost w L) := by
  subst hI
  subst h
  exact next_any s p q A cap I i w (by omega) hc
theorem pauses_is (cs : Array Value) (o : Int) (b : Bool) (hc : cs[0]? = some (.int .i64 o)) (hb : Fl.pz o = b) (w : World) : Calls Try.prog 11 #[.agg cs] w fun e w' => e = .returned (.bool b) ∧ Below w.heap.size w w' := by
  subst hb
  exact pauses_any cs o hc w
theorem ints_lit (l : List Int) (cs : Array Value) (b : Nat) (w : World) (hb : b = w.heap.size) (hcs : (l.map (Value.int .i64)).toArray = cs) : Ints (w.alloc (.cells cs 3)) (w.alloc (.cells cs 3)).heap.size (some ⟨b, 0, none⟩) l := by
  subst hb; subst hcs
  intro _
  refine ⟨w.heap.size, 0, rfl, by simp, fun k hk => ?_⟩
  rw [World.cell?_alloc_at _ _ _ _ rfl, Nat.zero_add]
  simp [List.getD_eq_getElem?_getD, hk]
theorem Own.ints_alloc {w : World} {B : Nat} {A : Option Addr} {cap : Nat} {l : List Int} (h : Own w B A cap l) (o : Obj) : Ints (w.alloc o) (w.alloc o).heap.size A l := (h.alloc o).ints

set_option maxHeartbeats 2000000 in
theorem awake_any (w : World) : Calls Try.prog 8 #[] w fun e w' => e = .returned (.bool true) ∧ Below w.heap.size w w' := by
  go_enter Try.func8, Try.ntmps8
  go_wp2_with fail
  refine (code_lit [5, 1, 4, 19] 4 _ [(5, 0), (1, 0), (4, 0), (19, 0)] _ w rfl rfl (by decide) (by decide) rfl rfl).mono ?_
  rintro e w1 ⟨g1, p1, rfl, ho1, hb1⟩
  obtain ⟨hv2, hbw2, hc0, hf0, hg1, hg1'⟩ := fresh_var (a' := 3) (n := 4) ho1 hb1 rfl
  have HV2 := Lib.hid hv2
  have HB2 := Lib.hid hbw2
  clear hv2 hbw2 ho1 hb1
  go_wp2_with fail
  refine (code_lit [5, 6, 4, 19] 4 _ [(5, 0), (6, 0), (4, 0), (19, 0)] _ _ ?_ rfl (by decide) (by decide) rfl rfl).mono ?_
  · simp
  rintro e w3 ⟨g2, p2, rfl, ho2, hb2⟩
  obtain ⟨hv4, hbw4, hc, hf, hg2, hg2'⟩ := fresh_var (a' := 3) (n := 4) ho2 hb2 rfl
  have hv4' := HV2.out.fresh (g2 := g2) (p := p2) (n := 4) (a' := 3) hb2 hg2
  have hbw4' := HB2.out.trans (hbw4.mono HB2.out.size)
  have HC4 := Lib.hid hv4
  have HV4 := Lib.hid hv4'
  have HB4 := Lib.hid hbw4'
  have hsz := hb2.size
  clear hv4 hbw4 hv4' hbw4' ho2 hb2 HV2 HB2
  go_wp2_with fail
  refine (longest_is _ _ _ _ _ calmI 3 4 true _ rfl (by decide) HC4.out.own.codeAt longest_calm).mono ?_
  rintro e w5 ⟨rfl, hb5⟩
  have HV5 := Lib.hid (HV4.out.below hb5)
  have HC5 := Lib.hid (HC4.out.below hb5)
  have HB5 := Lib.hid (HB4.out.trans (hb5.mono HB4.out.size))
  clear HV4 HC4 HB4
  clear hb5 hc hf hg1 hg1' hg2 hg2' hsz
  generalize w1.heap.size = V1 at *
  generalize w3.heap.size = V2 at *
  clear hc0 hf0
  obtain ⟨a0, a1, a2, a3⟩ := HV5.out.cells
  obtain ⟨b0, b1, b2, b3⟩ := HC5.out.cells
  go_wp2_with fail
  clear a0 a1 a2 a3 b0 b1 b2 b3
  refine (code_lit [1, 6, 18, 18, 19] 5 _ lineI _ w5 rfl rfl (by decide) (by decide) rfl rfl).mono ?_
  rintro e w6 ⟨g6, p6, rfl, ho6, hb6⟩
  have HV6 := Lib.hid (HV5.out.below hb6)
  have HC6 := Lib.hid (HC5.out.below hb6)
  have HB6 := Lib.hid (HB5.out.trans (hb6.mono HB5.out.size))
  clear HV5 HC5 HB5
  obtain ⟨a0, a1, a2, a3⟩ := HV6.out.cells
  obtain ⟨b0, b1, b2, b3⟩ := HC6.out.cells
  go_wp2_with fail
  refine (longest_is _ _ _ _ _ lineI 3 5 true _ rfl (by decide) ho6.codeAt longest_line).mono ?_
  rintro e w7 ⟨rfl, hb7⟩
  clear a0 a1 a2 a3 b0 b1 b2 b3
  have HV7 := Lib.hid (HV6.out.below hb7)
  have HC7 := Lib.hid (HC6.out.below hb7)
  have HB7 := Lib.hid (HB6.out.trans (hb7.mono HB6.out.size))
  clear HV6 HC6 HB6
  obtain ⟨a0, a1, a2, a3⟩ := HV7.out.cells
  obtain ⟨b0, b1, b2, b3⟩ := HC7.out.cells
  clear ho6 hb6 hb7
  go_wp2_with fail
  refine (longest_is _ _ _ _ _ loopI 0 4 false _ rfl (by decide) HV7.out.own.codeAt longest_loop).mono ?_
  rintro e w8 ⟨rfl, hb8⟩
  clear a0 a1 a2 a3 b0 b1 b2 b3
  have HV8 := Lib.hid (HV7.out.below hb8)
  have HC8 := Lib.hid (HC7.out.below hb8)
  have HB8 := Lib.hid (HB7.out.trans (hb8.mono HB7.out.size))
  clear HV7 HC7 HB7
  obtain ⟨a0, a1, a2, a3⟩ := HV8.out.cells
  obtain ⟨b0, b1, b2, b3⟩ := HC8.out.cells
  clear hb8
  go_wp2_with fail
  refine (code_lit [1] 1 _ [(1, 0)] _ w8 rfl rfl (by decide) (by decide) rfl rfl).mono ?_
  rintro e w9 ⟨g9, p9, rfl, ho9, hb9⟩
  clear a0 a1 a2 a3 b0 b1 b2 b3
  have HV9 := Lib.hid (HV8.out.below hb9)
  have HC9 := Lib.hid (HC8.out.below hb9)
  have HB9 := Lib.hid (HB8.out.trans (hb9.mono HB8.out.size))
  clear HV8 HC8 HB8
  obtain ⟨a0, a1, a2, a3⟩ := HV9.out.cells
  obtain ⟨b0, b1, b2, b3⟩ := HC9.out.cells
  go_wp2_with fail
  refine (longest_is _ _ _ _ _ [(1, 0)] 1 1 true _ rfl (by decide) ho9.codeAt longest_one).mono ?_
  rintro e w10 ⟨rfl, hb10⟩
  clear a0 a1 a2 a3 b0 b1 b2 b3
  have HV10 := Lib.hid (HV9.out.below hb10)
  have HC10 := Lib.hid (HC9.out.below hb10)
  have HB10 := Lib.hid (HB9.out.trans (hb10.mono HB9.out.size))
  clear HV9 HC9 HB9
  obtain ⟨a0, a1, a2, a3⟩ := HV10.out.cells
  obtain ⟨b0, b1, b2, b3⟩ := HC10.out.cells
  clear ho9 hb9 hb10
  go_wp2_with fail
  refine (spins_is _ _ _ _ _ loopI [0, 1, 2] 4 _ rfl (by decide) HV10.out.own.codeAt spins_loop).mono ?_
  rintro e w11 ⟨A11, p11, rfl, ho11, hb11⟩
  clear a0 a1 a2 a3 b0 b1 b2 b3
  have HV11 := Lib.hid (HV10.out.below hb11)
  have HC11 := Lib.hid (HC10.out.below hb11)
  have HB11 := Lib.hid (HB10.out.trans (hb11.mono HB10.out.size))
  clear HV10 HC10 HB10
  obtain ⟨a0, a1, a2, a3⟩ := HV11.out.cells
  obtain ⟨b0, b1, b2, b3⟩ := HC11.out.cells
  go_wp2_with fail
  refine (same_is _ _ _ _ [0, 1, 2] [0, 1, 2] 3 3 true _ (ho11.ints_alloc _) (ints_lit _ _ _ _ rfl rfl) rfl rfl (by decide) (by decide)).mono ?_
  rintro e w12 ⟨rfl, hb12⟩
  have hb12' := ((Below.refl w11.heap.size w11).alloc (Nat.le_refl _) _).trans (hb12.mono (by simp))
  clear a0 a1 a2 a3 b0 b1 b2 b3
  have HV12 := Lib.hid (HV11.out.below hb12')
  have HC12 := Lib.hid (HC11.out.below hb12')
  have HB12 := Lib.hid (HB11.out.trans (hb12'.mono HB11.out.size))
  clear HV11 HC11 HB11
  obtain ⟨a0, a1, a2, a3⟩ := HV12.out.cells
  obtain ⟨b0, b1, b2, b3⟩ := HC12.out.cells
  clear hb12 hb12' ho11 hb11
  go_wp2_with fail
  refine (spins_is _ _ _ _ _ calmI [] 4 _ rfl (by decide) HC12.out.own.codeAt spins_calm).mono ?_
  rintro e w13 ⟨A13, p13, rfl, ho13, hb13⟩
  clear a0 a1 a2 a3 b0 b1 b2 b3
  have HV13 := Lib.hid (HV12.out.below hb13)
  have HC13 := Lib.hid (HC12.out.below hb13)
  have HB13 := Lib.hid (HB12.out.trans (hb13.mono HB12.out.size))
  clear HV12 HC12 HB12
  obtain ⟨a0, a1, a2, a3⟩ := HV13.out.cells
  obtain ⟨b0, b1, b2, b3⟩ := HC13.out.cells
  clear ho13 hb13
  go_wp2_with fail
  refine (code_lit [4] 1 _ [(4, 0)] _ w13 rfl rfl (by decide) (by decide) rfl rfl).mono ?_
  rintro e w14 ⟨g14, p14, rfl, ho14, hb14⟩
  clear a0 a1 a2 a3 b0 b1 b2 b3
  have HV14 := Lib.hid (HV13.out.below hb14)
  have HC14 := Lib.hid (HC13.out.below hb14)
  have HB14 := Lib.hid (HB13.out.trans (hb14.mono HB13.out.size))
  clear HV13 HC13 HB13
  obtain ⟨a0, a1, a2, a3⟩ := HV14.out.cells
  obtain ⟨b0, b1, b2, b3⟩ := HC14.out.cells
  go_wp2_with fail
  refine (spins_is _ _ _ _ _ [(4, 0)] [0] 1 _ rfl (by decide) ho14.codeAt spins_jump).mono ?_
  rintro e w15 ⟨A15, p15, rfl, ho15, hb15⟩
  clear a0 a1 a2 a3 b0 b1 b2 b3
  have HV15 := Lib.hid (HV14.out.below hb15)
  have HC15 := Lib.hid (HC14.out.below hb15)
  have HB15 := Lib.hid (HB14.out.trans (hb15.mono HB14.out.size))
  clear HV14 HC14 HB14
  obtain ⟨a0, a1, a2, a3⟩ := HV15.out.cells
  obtain ⟨b0, b1, b2, b3⟩ := HC15.out.cells
  clear ho14 hb14
  go_wp2_with fail
  refine (same_is _ _ _ _ [0] [0] 1 1 true _ (ho15.ints_alloc _) (ints_lit _ _ _ _ rfl rfl) rfl rfl (by decide) (by decide)).mono ?_
  rintro e w16 ⟨rfl, hb16⟩
  have hb16' := ((Below.refl w15.heap.size w15).alloc (Nat.le_refl _) _).trans (hb16.mono (by simp))
  clear a0 a1 a2 a3 b0 b1 b2 b3
  have HV16 := Lib.hid (HV15.out.below hb16')
  have HC16 := Lib.hid (HC15.out.below hb16')
  have HB16 := Lib.hid (HB15.out.trans (hb16'.mono HB15.out.size))
  clear HV15 HC15 HB15
  obtain ⟨a0, a1, a2, a3⟩ := HV16.out.cells
  obtain ⟨b0, b1, b2, b3⟩ := HC16.out.cells
  clear hb16 hb16' ho15 hb15
  go_wp2_with fail
  refine (next_is _ _ _ _ _ loopI 0 [1, 3] 4 _ rfl (by decide) HV16.out.own.codeAt next_loop).mono ?_
  rintro e w17 ⟨A17, p17, rfl, ho17, hb17⟩
  clear a0 a1 a2 a3 b0 b1 b2 b3
  have HV17 := Lib.hid (HV16.out.below hb17)
  have HC17 := Lib.hid (HC16.out.below hb17)
  have HB17 := Lib.hid (HB16.out.trans (hb17.mono HB16.out.size))
  clear HV16 HC16 HB16
  obtain ⟨a0, a1, a2, a3⟩ := HV17.out.cells
  obtain ⟨b0, b1, b2, b3⟩ := HC17.out.cells
  go_wp2_with fail
  refine (same_is _ _ _ _ [1, 3] [1, 3] 2 2 true _ (ho17.ints_alloc _) (ints_lit _ _ _ _ rfl rfl) rfl rfl (by decide) (by decide)).mono ?_
  rintro e w18 ⟨rfl, hb18⟩
  have hb18' := ((Below.refl w17.heap.size w17).alloc (Nat.le_refl _) _).trans (hb18.mono (by simp))
  clear a0 a1 a2 a3 b0 b1 b2 b3
  have HV18 := Lib.hid (HV17.out.below hb18')
  have HC18 := Lib.hid (HC17.out.below hb18')
  have HB18 := Lib.hid (HB17.out.trans (hb18'.mono HB17.out.size))
  clear HV17 HC17 HB17
  obtain ⟨a0, a1, a2, a3⟩ := HV18.out.cells
  obtain ⟨b0, b1, b2, b3⟩ := HC18.out.cells
  clear hb18 hb18' ho17 hb17
  go_wp2_with fail
  refine (code_lit [1] 1 _ [(1, 0)] _ w18 rfl rfl (by decide) (by decide) rfl rfl).mono ?_
  rintro e w19 ⟨g19, p19, rfl, ho19, hb19⟩
  clear a0 a1 a2 a3 b0 b1 b2 b3
  have HV19 := Lib.hid (HV18.out.below hb19)
  have HC19 := Lib.hid (HC18.out.below hb19)
  have HB19 := Lib.hid (HB18.out.trans (hb19.mono HB18.out.size))
  clear HV18 HC18 HB18
  obtain ⟨a0, a1, a2, a3⟩ := HV19.out.cells
  obtain ⟨b0, b1, b2, b3⟩ := HC19.out.cells
  go_wp2_with fail
  refine (next_is _ _ _ _ _ [(1, 0)] 0 [] 1 _ rfl (by decide) ho19.codeAt next_one).mono ?_
  rintro e w20 ⟨A20, p20, rfl, ho20, hb20⟩
  clear a0 a1 a2 a3 b0 b1 b2 b3
  have HV20 := Lib.hid (HV19.out.below hb20)
  have HC20 := Lib.hid (HC19.out.below hb20)
  have HB20 := Lib.hid (HB19.out.trans (hb20.mono HB19.out.size))
  clear HV19 HC19 HB19
  obtain ⟨a0, a1, a2, a3⟩ := HV20.out.cells
  obtain ⟨b0, b1, b2, b3⟩ := HC20.out.cells
  clear ho19 hb19 ho20 hb20
  go_wp2_with fail
  refine (reach_any _ _ _ _ _ loopI _ (by decide) HV20.out.own.codeAt).mono ?_
  rintro e w21 ⟨g21, rfl, hS21, hb21⟩
  clear a0 a1 a2 a3 b0 b1 b2 b3
  have HV21 := Lib.hid (HV20.out.below hb21)
  have HC21 := Lib.hid (HC20.out.below hb21)
  have HB21 := Lib.hid (HB20.out.trans (hb21.mono HB20.out.size))
  clear HV20 HC20 HB20
  obtain ⟨a0, a1, a2, a3⟩ := HV21.out.cells
  obtain ⟨b0, b1, b2, b3⟩ := HC21.out.cells
  clear hS21 hb21
  go_wp2_with fail
  refine (pauses_is _ 19 true rfl rfl _).mono ?_
  rintro e w22 ⟨rfl, hb22⟩
  clear a0 a1 a2 a3 b0 b1 b2 b3
  have HV22 := Lib.hid (HV21.out.below hb22)
  have HC22 := Lib.hid (HC21.out.below hb22)
  have HB22 := Lib.hid (HB21.out.trans (hb22.mono HB21.out.size))
  clear HV21 HC21 HB21
  obtain ⟨a0, a1, a2, a3⟩ := HV22.out.cells
  obtain ⟨b0, b1, b2, b3⟩ := HC22.out.cells
  clear hb22
  go_wp2_with fail
  refine (pauses_is _ 14 false rfl rfl _).mono ?_
  rintro e w23 ⟨rfl, hb23⟩
  clear a0 a1 a2 a3 b0 b1 b2 b3
  have HV23 := Lib.hid (HV22.out.below hb23)
  have HC23 := Lib.hid (HC22.out.below hb23)
  have HB23 := Lib.hid (HB22.out.trans (hb23.mono HB22.out.size))
  clear HV22 HC22 HB22
  obtain ⟨a0, a1, a2, a3⟩ := HV23.out.cells
  obtain ⟨b0, b1, b2, b3⟩ := HC23.out.cells
  clear hb23
  go_wp2_with fail
  go_ret
  exact ⟨rfl, HB23.out⟩
end Go.Proofs.Ytnbaofkgakgpgaa
