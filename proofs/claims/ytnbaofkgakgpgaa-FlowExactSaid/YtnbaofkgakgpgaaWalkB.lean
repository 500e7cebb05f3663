/- The walks of Pauses and Next, of the program and of the reference. -/
import Derived.Test.YtnbaofkgakgpgaaWalkA
namespace Go.Proofs.Ytnbaofkgakgpgaa
open Go.RowKit

def zeroInstr : Value := .agg #[.int .i64 0, .int .i64 0, .int .i64 0, .int .i64 0, .int .i64 0, .string ⟨#[]⟩, .int .i64 0, .slice none 0 0, .int .i64 0, .string ⟨#[]⟩, .int .i64 0, .slice none 0 0, .slice none 0 0, .int .i64 0, .int .i64 0, .int .i64 0, .int .i64 0, .slice none 0 0, .slice none 0 0, .bool false]
theorem Try.info39 : (Try.prog.info? 39).map (fun i => (i.zero, i.size)) = some (some zeroInstr, 20) := by kernel_rfl

/-- The instructions of a routine, as they lie in memory. -/
def CodeAt (w : World) (B : Nat) (A : Option Addr) (I : Fl.Rt) : Prop :=
  0 < I.length → ∃ b off, A = some ⟨b, off, none⟩ ∧ b < B ∧ ∀ i, i < I.length → ∃ cs : Array Value, cs.size = 20 ∧ cs.all (·.oneCell') = true ∧
    cs[0]? = some (.int .i64 (Fl.opOf I i)) ∧ cs[1]? = some (.int .i64 (Fl.arOf I i)) ∧ w.rangeAt b (off + i * 20) cs.toList
theorem CodeAt.below {w w' : World} {B : Nat} {A : Option Addr} {I : Fl.Rt} (h : CodeAt w B A I) (hb : Below B w w') : CodeAt w' B A I := fun hl => by
  obtain ⟨b, off, e, hlt, hc⟩ := h hl
  refine ⟨b, off, e, hlt, fun i hi => ?_⟩
  obtain ⟨cs, h1, h2, h3, h4, h5⟩ := hc i hi
  exact ⟨cs, h1, h2, h3, h4, fun j v hj => (hb.cell (p := ⟨b, off + i * 20 + j, none⟩) hlt).trans (h5 j v hj)⟩
theorem CodeAt.more {w : World} {B B' : Nat} {A : Option Addr} {I : Fl.Rt} (h : CodeAt w B A I) (hB : B ≤ B') : CodeAt w B' A I := fun hl => by
  obtain ⟨b, off, e, hlt, hc⟩ := h hl
  exact ⟨b, off, e, by omega, hc⟩

/-- A guard: the walk stands at just this operation. -/
theorem at_op {P : Program} {ops : Array Oper} {rest : List Oper} {a : Act} {w : World} {Q : Exit → Act → World → Prop} {d : Option Tmp} {op : Op} {ty : TypeId} {pos : String} {af : Array Edge} {g : Option (Nat × Bool)}
    (h : wpList P ops Q ({ dst := d, op := op, type := ty, pos := pos, after := af, guard := g } :: rest) a w) : wpList P ops Q ({ dst := d, op := op, type := ty, pos := pos, after := af, guard := g } :: rest) a w := h
/-- 'x := c.Instrs[i]': a load of a struct out of the middle of a block, into a new variable. -/
theorem wpList_fetch {P : Program} {ops : Array Oper} {rest : List Oper} {o1 o2 o3 : Oper} {a : Act} {w : World} {Q : Exit → Act → World → Prop} (g1 : o1.guard = none) (g2 : o2.guard = none) (g3 : o3.guard = none)
    (ty : TypeId) (x : Operand) (d1 d2 : Tmp) (ho1 : o1.op = .load ty x) (hd1 : o1.dst = some d1) (ho2 : o2.op = .alloc ty) (hd2 : o2.dst = some d2) (ho3 : o3.op = .store ty (.tmp d2) (.tmp d1)) (hd3 : o3.dst = none)
    (b o : Nat) (hx : a.eval x = .pointer (some ⟨b, o, none⟩)) (cs : Array Value) (d : TypeDesc) (hc : w.rangeAt b o cs.toList) (hu : P.underlying ty = some d) (hd : d.isRow = true)
    (z : Value) (n : Nat) (hi : (P.info? ty).map (fun i => (i.zero, i.size)) = some (some z, n)) (hz : z.cells.size = n) (hcs : cs.size = n) (h1 : cs.all (·.oneCell') = true)
    (he2 : ((a.put (some d1) (.agg cs)).put (some d2) (.pointer (some ⟨w.heap.size, 0, none⟩))).eval (.tmp d2) = .pointer (some ⟨w.heap.size, 0, none⟩))
    (he1 : ((a.put (some d1) (.agg cs)).put (some d2) (.pointer (some ⟨w.heap.size, 0, none⟩))).eval (.tmp d1) = .agg cs)
    (h : wpList P ops Q rest ((a.put (some d1) (.agg cs)).put (some d2) (.pointer (some ⟨w.heap.size, 0, none⟩))) (w.alloc (.cells cs ty))) : wpList P ops Q (o1 :: o2 :: o3 :: rest) a w := by
  obtain ⟨hzero, hsize⟩ := zero_of_info hi
  refine wpList_load_mid g1 ty x ho1 b o hx cs.toList d hc hu hd (by rw [hsize]; simp [hcs]) ?_
  rw [hd1]
  have key : ∀ K : Act → World → Prop, K ((a.put (some d1) (.agg cs.toList.toArray)).put (some d2) (.pointer (some ⟨w.heap.size, 0, none⟩))) (w.alloc (.cells z.cells ty)) → o2.wp P (a.put (some d1) (.agg cs.toList.toArray)) w K Q := fun K hK => by
    unfold Oper.wp execOp
    rw [ho2]
    simp [go_sem, Instr.alloc, hzero, newVar, newRow]
    rw [hd2]
    have e : cs.toList.toArray = cs := by simp
    rw [e] at hK
    exact hK
  refine wpList_plain g2 fun K hK => key K (hK _ _ ?_)
  · refine wpList_store_row g3 ty (.tmp d2) (.tmp d1) ho3 w.heap.size cs he2 he1 ty z.cells (heap_alloc_last w _) (by rw [hsize, hcs]) (by rw [hz, hcs]) h1 ?_
    rw [hd3, World.setRow_alloc_new]
    exact h

set_option maxHeartbeats 400000 in
theorem pauses_any (cs : Array Value) (o : Int) (hc : cs[0]? = some (.int .i64 o)) (w : World) :
    Calls Try.prog 11 #[.agg cs] w fun e w' => e = .returned (.bool (Fl.pz o)) ∧ Below w.heap.size w w' := by
  go_enter Try.func11, Try.ntmps11
  go_wp2
  all_goals
    go_ret
    exact ⟨ret_bool (by simp [Fl.pz, *]), (Below.refl _ _).alloc (Nat.le_refl _) _⟩
set_option maxHeartbeats 400000 in
theorem rpauses_any (cs : Array Value) (o : Int) (hc : cs[0]? = some (.int .i64 o)) (w : World) :
    Calls Try.prog 12 #[.agg cs] w fun e w' => e = .returned (.bool (Fl.pz o)) ∧ Below w.heap.size w w' := by
  go_enter Try.func12, Try.ntmps12
  go_wp2
  all_goals
    go_ret
    exact ⟨ret_bool (by simp [Fl.pz, *]), (Below.refl _ _).alloc (Nat.le_refl _) _⟩

/-- What is known of one instruction in memory. -/
structure InstrAt (w : World) (b off k : Nat) (o a : Int) (cs : Array Value) : Prop where
  size : cs.size = 20
  one : cs.all (·.oneCell') = true
  op : cs[0]? = some (.int .i64 o)
  ar : cs[1]? = some (.int .i64 a)
  at_ : w.rangeAt b (off + k * 20) cs.toList
theorem InstrAt.keep {w w' : World} {b off k : Nat} {o a : Int} {cs : Array Value} (h : InstrAt w b off k o a cs) (hk : ∀ j, w'.cell? ⟨b, j, none⟩ = w.cell? ⟨b, j, none⟩) : InstrAt w' b off k o a cs :=
  ⟨h.size, h.one, h.op, h.ar, fun j v hj => (hk _).trans (h.at_ j v hj)⟩
def NextPost (w : World) (L : List Int) (e : Ending) (w' : World) : Prop := ∃ A cap, e = .returned (.slice A L.length cap) ∧ Own w' w.heap.size A cap L ∧ Below w.heap.size w w'
theorem NextPost.of_below {w w1 w' : World} {L : List Int} {e : Ending} (h : NextPost w1 L e w') (hb : Below w.heap.size w w1) : NextPost w L e w' := by
  obtain ⟨A, cap, e, ho, hb'⟩ := h
  exact ⟨A, cap, e, ho.mono hb.size, hb.trans (hb'.mono hb.size)⟩
theorem only_one (s : ByteArray) (p q : Int) (A : Option Addr) (n cap : Nat) (x : Int) (b : Nat) (w : World) (hb : b = w.heap.size) :
    Calls Try.prog 25 #[.agg #[.string s, .int .i64 p, .int .i64 q, .slice A n cap], .slice (some ⟨b, 0, none⟩) 1 1] (w.alloc (.cells #[.int .i64 x] 3)) (NextPost w (Fl.onlyL n [x])) := by
  subst hb
  exact (only_any s p q A n cap w.heap.size 0 1 [x] _ (by simp) (by simp) (fun k hk => by
    have : k = 0 := by simpa using hk
    subst this
    simp [World.cell?_alloc_at])).mono fun _ _ h => NextPost.of_below h ((Below.refl _ _).alloc (Nat.le_refl _) _)
theorem only_two (s : ByteArray) (p q : Int) (A : Option Addr) (n cap : Nat) (x y : Int) (b : Nat) (w : World) (hb : b = w.heap.size) :
    Calls Try.prog 25 #[.agg #[.string s, .int .i64 p, .int .i64 q, .slice A n cap], .slice (some ⟨b, 0, none⟩) 2 2] (w.alloc (.cells #[.int .i64 x, .int .i64 y] 3)) (NextPost w (Fl.onlyL n [x, y])) := by
  subst hb
  exact (only_any s p q A n cap w.heap.size 0 2 [x, y] _ (by simp) (by simp) (fun k hk => by
    match k, hk with
    | 0, _ => simp [World.cell?_alloc_at]
    | 1, _ => simp [World.cell?_alloc_at])).mono fun _ _ h => NextPost.of_below h ((Below.refl _ _).alloc (Nat.le_refl _) _)

set_option maxHeartbeats 1000000 in
theorem next_some (s : ByteArray) (p q : Int) (b off n cap : Nat) (k : Nat) (o a : Int) (cs : Array Value) (w : World) (hk : k < n) (hn : n ≤ 4611686018427387904) (hb : b < w.heap.size)
    (h : InstrAt w b off k o a cs) :
    Calls Try.prog 14 #[.agg #[.string s, .int .i64 p, .int .i64 q, .slice (some ⟨b, off, none⟩) n cap], .int .i64 k] w (NextPost w
      (if o == 19 then [] else if o == 4 then Fl.onlyL n [a] else if o == 5 then Fl.onlyL n [min ((k : Int) + 1) a, max ((k : Int) + 1) a] else Fl.onlyL n [(k : Int) + 1])) := by
  have hv : Fl.vld n k = true := Fl.vld_nat.2 hk
  obtain ⟨h1, h2, h3, h4, h5⟩ := h
  have H1 := Lib.hid h1
  clear h1
  by_cases e19 : o = 19
  · have b19 : (o == 19) = true := by simp [e19]
    rw [if_pos b19]
    clear e19
    go_enter Try.func14, Try.ntmps14
    go_wp2_with fail
    refine (valid_is s p q _ n cap k true _ hv).mono ?_
    rintro e w1 ⟨rfl, hb1⟩
    simp at hb1
    obtain ⟨c0, c1, c2, c3⟩ := box_cells (Nat.lt_succ_self _) hb1
    have hr : w1.rangeAt b (off + k * 20) cs.toList := fun j v hj => (hb1.cell (p := ⟨b, off + k * 20 + j, none⟩) (by simp; omega)).trans ((World.cell?_alloc_past _ _ _ hb).trans (h5 j v hj))
    go_wp2_with ((with_reducible refine at_op (d := some 14) (op := .load 39 (.tmp 13)) ?_); refine wpList_fetch rfl rfl rfl 39 (.tmp 13) 14 5 rfl rfl rfl rfl rfl rfl b (off + k * 20) rfl cs _ hr Try.underlying39 rfl _ 20 Try.info39 rfl H1.out h2 rfl rfl ?_)
    go_ret
    exact ⟨none, 0, rfl, Own.nil _ _, below_box (hb1.alloc (by have := hb1.size; simpa using this) _)⟩
  · have b19 : (o == 19) = false := by simp [e19]
    rw [if_neg (by simp [b19])]
    clear e19
    by_cases e4 : o = 4
    · have b4 : (o == 4) = true := by simp [e4]
      rw [if_pos b4]
      clear e4
      go_enter Try.func14, Try.ntmps14
      go_wp2_with fail
      refine (valid_is s p q _ n cap k true _ hv).mono ?_
      rintro e w1 ⟨rfl, hb1⟩
      simp at hb1
      obtain ⟨c0, c1, c2, c3⟩ := box_cells (Nat.lt_succ_self _) hb1
      have hr : w1.rangeAt b (off + k * 20) cs.toList := fun j v hj => (hb1.cell (p := ⟨b, off + k * 20 + j, none⟩) (by simp; omega)).trans ((World.cell?_alloc_past _ _ _ hb).trans (h5 j v hj))
      have hs1 : w.heap.size < w1.heap.size := Nat.lt_of_succ_le (by have := hb1.size; simpa using this)
      go_wp2_with ((with_reducible refine at_op (d := some 14) (op := .load 39 (.tmp 13)) ?_); refine wpList_fetch rfl rfl rfl 39 (.tmp 13) 14 5 rfl rfl rfl rfl rfl rfl b (off + k * 20) rfl cs _ hr Try.underlying39 rfl _ 20 Try.info39 rfl H1.out h2 rfl rfl ?_)
      refine (only_one s p q _ n cap a _ _ ?_).mono ?_
      · simp
      rintro e w2 ⟨A', cap', rfl, ho, hbw⟩
      go_wp2_with fail
      go_ret
      exact NextPost.of_below ⟨A', cap', rfl, ho, hbw⟩ (below_box (hb1.alloc hs1 _))
    · have b4 : (o == 4) = false := by simp [e4]
      rw [if_neg (by simp [b4])]
      clear e4
      by_cases e5 : o = 5
      · have b5 : (o == 5) = true := by simp [e5]
        rw [if_pos b5]
        clear e5
        by_cases hak : a < (k : Int) + 1
        · rw [Int.min_eq_right (Int.le_of_lt hak), Int.max_eq_left (Int.le_of_lt hak)]
          go_enter Try.func14, Try.ntmps14
          go_wp2_with fail
          refine (valid_is s p q _ n cap k true _ hv).mono ?_
          rintro e w1 ⟨rfl, hb1⟩
          simp at hb1
          obtain ⟨c0, c1, c2, c3⟩ := box_cells (Nat.lt_succ_self _) hb1
          have hr : w1.rangeAt b (off + k * 20) cs.toList := fun j v hj => (hb1.cell (p := ⟨b, off + k * 20 + j, none⟩) (by simp; omega)).trans ((World.cell?_alloc_past _ _ _ hb).trans (h5 j v hj))
          have hs1 : w.heap.size < w1.heap.size := Nat.lt_of_succ_le (by have := hb1.size; simpa using this)
          go_wp2_with ((with_reducible refine at_op (d := some 14) (op := .load 39 (.tmp 13)) ?_); refine wpList_fetch rfl rfl rfl 39 (.tmp 13) 14 5 rfl rfl rfl rfl rfl rfl b (off + k * 20) rfl cs _ hr Try.underlying39 rfl _ 20 Try.info39 rfl H1.out h2 rfl rfl ?_)
          refine (only_two s p q _ n cap a ((k : Int) + 1) _ _ ?_).mono ?_
          · simp
          rintro e w2 ⟨A', cap', rfl, ho, hbw⟩
          go_wp2_with fail
          go_ret
          exact NextPost.of_below ⟨A', cap', rfl, ho, hbw⟩ (below_box (hb1.alloc hs1 _))
        · by_cases hka : (k : Int) + 1 < a
          · rw [Int.min_eq_left (Int.le_of_lt hka), Int.max_eq_right (Int.le_of_lt hka)]
            clear hak
            go_enter Try.func14, Try.ntmps14
            go_wp2_with fail
            refine (valid_is s p q _ n cap k true _ hv).mono ?_
            rintro e w1 ⟨rfl, hb1⟩
            simp at hb1
            obtain ⟨c0, c1, c2, c3⟩ := box_cells (Nat.lt_succ_self _) hb1
            have hr : w1.rangeAt b (off + k * 20) cs.toList := fun j v hj => (hb1.cell (p := ⟨b, off + k * 20 + j, none⟩) (by simp; omega)).trans ((World.cell?_alloc_past _ _ _ hb).trans (h5 j v hj))
            have hs1 : w.heap.size < w1.heap.size := Nat.lt_of_succ_le (by have := hb1.size; simpa using this)
            go_wp2_with ((with_reducible refine at_op (d := some 14) (op := .load 39 (.tmp 13)) ?_); refine wpList_fetch rfl rfl rfl 39 (.tmp 13) 14 5 rfl rfl rfl rfl rfl rfl b (off + k * 20) rfl cs _ hr Try.underlying39 rfl _ 20 Try.info39 rfl H1.out h2 rfl rfl ?_)
            refine (only_two s p q _ n cap ((k : Int) + 1) a _ _ ?_).mono ?_
            · simp
            rintro e w2 ⟨A', cap', rfl, ho, hbw⟩
            go_wp2_with fail
            go_ret
            exact NextPost.of_below ⟨A', cap', rfl, ho, hbw⟩ (below_box (hb1.alloc hs1 _))
          · obtain rfl : a = (k : Int) + 1 := by omega
            rw [Int.min_self, Int.max_self]
            clear hak hka
            go_enter Try.func14, Try.ntmps14
            go_wp2_with fail
            refine (valid_is s p q _ n cap k true _ hv).mono ?_
            rintro e w1 ⟨rfl, hb1⟩
            simp at hb1
            obtain ⟨c0, c1, c2, c3⟩ := box_cells (Nat.lt_succ_self _) hb1
            have hr : w1.rangeAt b (off + k * 20) cs.toList := fun j v hj => (hb1.cell (p := ⟨b, off + k * 20 + j, none⟩) (by simp; omega)).trans ((World.cell?_alloc_past _ _ _ hb).trans (h5 j v hj))
            have hs1 : w.heap.size < w1.heap.size := Nat.lt_of_succ_le (by have := hb1.size; simpa using this)
            go_wp2_with ((with_reducible refine at_op (d := some 14) (op := .load 39 (.tmp 13)) ?_); refine wpList_fetch rfl rfl rfl 39 (.tmp 13) 14 5 rfl rfl rfl rfl rfl rfl b (off + k * 20) rfl cs _ hr Try.underlying39 rfl _ 20 Try.info39 rfl H1.out h2 rfl rfl ?_)
            refine (only_two s p q _ n cap ((k : Int) + 1) ((k : Int) + 1) _ _ ?_).mono ?_
            · simp
            rintro e w2 ⟨A', cap', rfl, ho, hbw⟩
            go_wp2_with fail
            go_ret
            exact NextPost.of_below ⟨A', cap', rfl, ho, hbw⟩ (below_box (hb1.alloc hs1 _))
      · have b5 : (o == 5) = false := by simp [e5]
        rw [if_neg (by simp [b5])]
        clear e5
        go_enter Try.func14, Try.ntmps14
        go_wp2_with fail
        refine (valid_is s p q _ n cap k true _ hv).mono ?_
        rintro e w1 ⟨rfl, hb1⟩
        simp at hb1
        obtain ⟨c0, c1, c2, c3⟩ := box_cells (Nat.lt_succ_self _) hb1
        have hr : w1.rangeAt b (off + k * 20) cs.toList := fun j v hj => (hb1.cell (p := ⟨b, off + k * 20 + j, none⟩) (by simp; omega)).trans ((World.cell?_alloc_past _ _ _ hb).trans (h5 j v hj))
        have hs1 : w.heap.size < w1.heap.size := Nat.lt_of_succ_le (by have := hb1.size; simpa using this)
        go_wp2_with ((with_reducible refine at_op (d := some 14) (op := .load 39 (.tmp 13)) ?_); refine wpList_fetch rfl rfl rfl 39 (.tmp 13) 14 5 rfl rfl rfl rfl rfl rfl b (off + k * 20) rfl cs _ hr Try.underlying39 rfl _ 20 Try.info39 rfl H1.out h2 rfl rfl ?_)
        refine (only_one s p q _ n cap ((k : Int) + 1) _ _ ?_).mono ?_
        · simp
        rintro e w2 ⟨A', cap', rfl, ho, hbw⟩
        go_wp2_with fail
        go_ret
        exact NextPost.of_below ⟨A', cap', rfl, ho, hbw⟩ (below_box (hb1.alloc hs1 _))
set_option maxHeartbeats 1000000 in
theorem next_none (s : ByteArray) (p q : Int) (A : Option Addr) (n cap : Nat) (i : Int) (w : World) (hi : Fl.vld n i = false) :
    Calls Try.prog 14 #[.agg #[.string s, .int .i64 p, .int .i64 q, .slice A n cap], .int .i64 i] w (NextPost w []) := by
  go_enter Try.func14, Try.ntmps14
  go_wp2_with fail
  refine (valid_is s p q _ n cap i false _ hi).mono ?_
  rintro e w1 ⟨rfl, hb1⟩
  simp at hb1
  go_wp2_with fail
  go_ret
  exact ⟨none, 0, rfl, Own.nil _ _, below_box hb1⟩
/-- 'Next', at whatever number. -/
theorem next_any (s : ByteArray) (p q : Int) (A : Option Addr) (cap : Nat) (I : Fl.Rt) (i : Int) (w : World) (hn : I.length ≤ 4611686018427387904) (hc : CodeAt w w.heap.size A I) :
    Calls Try.prog 14 #[.agg #[.string s, .int .i64 p, .int .i64 q, .slice A I.length cap], .int .i64 i] w (NextPost w (Fl.nextL I i)) := by
  by_cases hv : Fl.vld I.length i = true
  · have hv' := Fl.vld_iff.1 hv
    obtain ⟨b, off, rfl, hb, hcell⟩ := hc (by omega)
    obtain ⟨k, rfl⟩ := Int.eq_ofNat_of_zero_le hv'.1
    obtain ⟨cs, h1, h2, h3, h4, h5⟩ := hcell k (by omega)
    have := next_some s p q b off I.length cap k _ _ cs w (by omega) hn hb ⟨h1, h2, h3, h4, h5⟩
    unfold Fl.nextL
    rw [if_pos hv]
    exact this
  · have hv' : Fl.vld I.length i = false := by simpa using hv
    unfold Fl.nextL
    rw [if_neg hv]
    exact next_none s p q A I.length cap i w hv'
end Go.Proofs.Ytnbaofkgakgpgaa
