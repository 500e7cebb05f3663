/- The walks of joined and PutInt. -/
import Derived.Test.YtelanbiedfldgaaWalkE
import Derived.Laws.CopyOwn
namespace Go.Proofs.Ytelanbiedfldgaa
open Go.RowKit

theorem at_op {P : Program} {ops : Array Oper} {Q : Exit → Act → World → Prop} {rest : List Oper} {a : Act} {w : World} {d : Option Tmp} {op : Op} {ty : TypeId} {pos : String} {after : Array Edge} {guard : Option (Nat × Bool)}
    (h : wpList P ops Q ({ dst := d, op := op, type := ty, pos := pos, after := after, guard := guard } :: rest) a w) : wpList P ops Q ({ dst := d, op := op, type := ty, pos := pos, after := after, guard := guard } :: rest) a w := h
/-- A slice of bytes of the call's own. -/
def OwnY (w : World) (B : Nat) (A : Option Addr) (cap : Nat) (l : List Nat) : Prop := w.ownsRow B 5 1 (.slice A l.length cap) l.length (bcells l)
theorem bcells_len (l : List Nat) : (bcells l).length = l.length := by simp [bcells]
theorem bcells_get {l : List Nat} {k : Nat} (h : k < l.length) : (bcells l)[k]? = some (.int .u8 (l.getD k 0 : Nat)) := by
  simp [bcells, List.getD_eq_getElem?_getD, h]
theorem bcells_one (l : List Nat) : ∀ v ∈ bcells l, v.oneCell' = true := by
  intro v hv
  simp only [bcells, List.mem_map] at hv
  obtain ⟨x, _, rfl⟩ := hv
  rfl
theorem Byts.cells {w : World} {B : Nat} {A : Option Addr} {l : List Nat} (h : Byts w B A l) (hl : 0 < l.length) : ∃ b off, A = some ⟨b, off, none⟩ ∧ b < B ∧ ∀ j v, (bcells l)[j]? = some v → w.cell? ⟨b, off + j, none⟩ = some v := by
  obtain ⟨b, off, e, hb, hc⟩ := h hl
  refine ⟨b, off, e, hb, fun j v hj => ?_⟩
  have hjl : j < l.length := by
    rcases Nat.lt_or_ge j l.length with h | h
    · exact h
    · rw [List.getElem?_eq_none (by rw [bcells_len]; exact h)] at hj; cases hj
  rw [bcells_get hjl] at hj
  cases hj
  exact hc j hjl
theorem OwnY.byts {w : World} {B : Nat} {A : Option Addr} {cap : Nat} {l : List Nat} (h : OwnY w B A cap l) : Byts w w.heap.size A l := fun hl => by
  rcases h.2 with ⟨_, h0⟩ | ⟨g, cap', cur, hv, hb, hh, _⟩
  · omega
  · simp only [Value.slice.injEq] at hv
    obtain ⟨rfl, _, rfl⟩ := hv
    refine ⟨g, 0, rfl, (Array.getElem?_eq_some_iff.1 hh).1, fun k hk => ?_⟩
    rw [Nat.zero_add, World.ownsRow.cellAt h k (by omega), bcells_get hk]
theorem OwnY.mono {w : World} {B B' : Nat} {A : Option Addr} {cap : Nat} {l : List Nat} (h : OwnY w B A cap l) (hB : B' ≤ B) : OwnY w B' A cap l := by
  refine ⟨h.1, ?_⟩
  rcases h.2 with h2 | ⟨g, cap', cur, hv, hb, rest⟩
  · exact .inl h2
  · exact .inr ⟨g, cap', cur, hv, by omega, rest⟩
theorem grown_of_below {w w' : World} (h : Below w.heap.size w w') : w.grownBy w' none := ⟨h.os, h.tape, h.output, h.size, fun k hk _ => h.block k hk⟩
theorem OwnY.below {w w' : World} {B : Nat} {A : Option Addr} {cap : Nat} {l : List Nat} (h : OwnY w B A cap l) (hb : Below w.heap.size w w') : OwnY w' B A cap l :=
  World.ownsRow.kept h (grown_of_below hb) (by cases A <;> simp [Value.ownBlock])

theorem make_bytes (n m : Nat) (hn : n + m ≤ 4398046511104) (w : World) : (Instr.makeSlice 22 (.int .i64 ((n : Int) + (m : Int))) (.int .i64 ((n : Int) + (m : Int)))).run Try.prog w = .ok (.slice (some ⟨w.heap.size, 0, none⟩) (n + m) (n + m)) (w.alloc (.cells (List.replicate (n + m) (Value.int .u8 0)).toArray 5)) := by
  obtain ⟨i0, hi, hz0, hz1, hz2⟩ := info_parts Try.size5
  have hr := run_make (P := Try.prog) w 22 5 i0 (.int .u8 0) Try.underlying22 hi hz0 .i64 .i64 ((n + m : Nat) : Int) ((n + m : Nat) : Int) (by omega) (Int.le_refl _) (by rw [hz2]; omega) (by omega)
  simp only [Int.toNat_natCast] at hr
  rw [hz1, Nat.mul_one] at hr
  rw [Int.natCast_add] at hr
  rw [hr]
  congr 3
  show (madeCells #[Value.int .u8 0] (n + m)) = _
  rw [← Array.toList_inj, toList_madeCells_one]
theorem splice_both {α : Type} (Z X1 X2 : List α) (h : Z.length = X1.length + X2.length) : splice (splice Z 0 X1) X1.length X2 = X1 ++ X2 := by
  unfold splice
  simp [List.drop_append, h]
def JoinPost (w : World) (L : List Nat) (e : Ending) (w' : World) : Prop :=
  ∃ g, e = .returned (.slice (some ⟨g, 0, none⟩) L.length L.length) ∧ OwnY w' w.heap.size (some ⟨g, 0, none⟩) L.length L ∧ Below w.heap.size w w'

set_option maxRecDepth 100000 in
set_option maxHeartbeats 1000000 in
theorem joined_any (A1 A2 : Option Addr) (c1 c2 : Nat) (l1 l2 : List Nat) (w : World) (h1 : Byts w w.heap.size A1 l1) (h2 : Byts w w.heap.size A2 l2) (hl : l1.length + l2.length ≤ 1000000) :
    Calls Try.prog 28 #[.slice A1 l1.length c1, .slice A2 l2.length c2] w (JoinPost w (l1 ++ l2)) := by
  have hmk := make_bytes l1.length l2.length (by omega) w
  have hw1 : IntKind.i64.wrap ((l1.length : Int) + (l2.length : Int)) = (l1.length : Int) + (l2.length : Int) := IntWalk.i64_in _ ⟨by omega, by omega⟩
  have hsz5 : (Try.prog.info? 5).map (·.size) = some 1 := by kernel_rfl
  obtain ⟨X1, hX1⟩ : ∃ X, X = bcells l1 := ⟨_, rfl⟩
  obtain ⟨X2, hX2⟩ : ∃ X, X = bcells l2 := ⟨_, rfl⟩
  have hX1l : X1.length = l1.length := by rw [hX1, bcells_len]
  have hX2l : X2.length = l2.length := by rw [hX2, bcells_len]
  have HX1 := Lib.hid hX1
  have HX2 := Lib.hid hX2
  clear hX1 hX2
  have H1 := Lib.hid h1
  have H2 := Lib.hid h2
  clear h1 h2
  obtain ⟨Z, hZ⟩ : ∃ Z, Z = List.replicate (l1.length + l2.length) (Value.int .u8 0) := ⟨_, rfl⟩
  have hZl : Z.length = l1.length + l2.length := by rw [hZ]; simp
  rw [← hZ] at hmk
  clear hZ
  have hW : Below w.heap.size w (w.alloc (.cells Z.toArray 5)) := (Below.refl _ _).alloc (Nat.le_refl _) _
  have hHG : (w.alloc (.cells Z.toArray 5)).heap[w.heap.size]? = some (.cells Z.toArray 5 (0, 0)) := heap_alloc_new w _
  have HG := Lib.hid hHG
  have HW := Lib.hid hW
  clear hHG hW
  go_enter Try.func28, Try.ntmps28
  go_wp2_with ((with_reducible refine at_op (d := some 15) (op := .call { callee := .builtin .copy, args := #[.tmp 13, .tmp 14], argTypes := #[22, 22] }) ?_); refine wpList_copy_splice rfl (.tmp 13) (.tmp 14) 22 22 rfl 5 Try.underlying22 hsz5 _ _ _ _ _ _ rfl rfl w.heap.size 0 Z 5 HG.out X1 (by rw [hX1l]; exact (Nat.min_eq_left (Nat.le_add_right _ _)).symm) ?_ (by omega) (by rw [HX1.out]; exact bcells_one _) w.heap.size w HW.out (Nat.le_refl _) ?_)
  · intro hp
    obtain ⟨b, off, e, hb, hc⟩ := H1.out.cells (by omega)
    exact ⟨⟨b, off, none⟩, e, fun j v hj => by rw [Addr.add_lit]; exact (World.cell?_alloc_past _ _ _ hb).trans (hc j v (by rw [← HX1.out]; exact hj))⟩
  intro w2 HG2 hB2
  have hYl : (splice Z 0 X1).length = l1.length + l2.length := by rw [length_splice _ _ _ (by omega), hZl]
  have HB2 := Lib.hid hB2
  clear hmk
  by_cases h0 : l2.length = 0
  · have HZ := Lib.hid h0
    clear h0
    go_wp2_with ((with_reducible refine at_op (d := some 20) (op := .call { callee := .builtin .copy, args := #[.tmp 18, .tmp 19], argTypes := #[22, 22] }) ?_); refine wpList_copy_splice rfl (.tmp 18) (.tmp 19) 22 22 rfl 5 Try.underlying22 hsz5 _ _ _ _ _ _ rfl rfl w.heap.size l1.length (splice Z 0 X1) 5 HG2.out X2 ?_ ?_ (by omega) (by rw [HX2.out]; exact bcells_one _) w.heap.size w HB2.out (Nat.le_refl _) ?_)
    all_goals first
      | (rw [hX2l]; exact (Nat.min_self _).symm)
      | (intro hp; exfalso; have := HZ.out; omega)
      | skip
    all_goals
      intro w3 HG3 hB3
      have hE := splice_both Z X1 X2 (by omega)
      rw [hX1l] at hE
      have HE := Lib.hid hE
      have HB3 := Lib.hid hB3
      clear hB3 hE HG2
      go_wp2_with fail
      go_ret
      refine ⟨w.heap.size, by first | (simp; done) | (simp; exact List.eq_nil_of_length_eq_zero HZ.out), ?_, HB3.out⟩
      refine ⟨by rw [bcells_len, Nat.mul_one], .inr ⟨w.heap.size, (l1 ++ l2).length, (splice (splice Z 0 X1) l1.length X2).toArray, rfl, Nat.le_refl _, HG3.out, Nat.le_refl _, by unfold maxLen; simp; omega, ?_, ?_⟩⟩
      · rw [HE.out]; simp; omega
      · rw [HE.out, HX1.out, HX2.out]
        rw [List.take_of_length_le (by simp [bcells])]
        simp [bcells]
  · have hlt : l1.length < l1.length + l2.length := by omega
    go_wp2_with ((with_reducible refine at_op (d := some 20) (op := .call { callee := .builtin .copy, args := #[.tmp 18, .tmp 19], argTypes := #[22, 22] }) ?_); refine wpList_copy_splice rfl (.tmp 18) (.tmp 19) 22 22 rfl 5 Try.underlying22 hsz5 _ _ _ _ _ _ rfl rfl w.heap.size l1.length (splice Z 0 X1) 5 HG2.out X2 ?_ ?_ (by omega) (by rw [HX2.out]; exact bcells_one _) w.heap.size w HB2.out (Nat.le_refl _) ?_)
    · rw [hX2l]; exact (Nat.min_self _).symm
    · intro hp
      obtain ⟨b, off, e, hb, hc⟩ := H2.out.cells (by omega)
      exact ⟨⟨b, off, none⟩, e, fun j v hj => by rw [Addr.add_lit]; exact (HB2.out.cell (p := ⟨b, off + j, none⟩) hb).trans (hc j v (by rw [← HX2.out]; exact hj))⟩
    intro w3 HG3 hB3
    have hE := splice_both Z X1 X2 (by omega)
    rw [hX1l] at hE
    have HE := Lib.hid hE
    have HB3 := Lib.hid hB3
    clear hB3 hE HG2
    go_wp2_with fail
    go_ret
    refine ⟨w.heap.size, by simp, ?_, HB3.out⟩
    refine ⟨by rw [bcells_len, Nat.mul_one], .inr ⟨w.heap.size, (l1 ++ l2).length, (splice (splice Z 0 X1) l1.length X2).toArray, rfl, Nat.le_refl _, HG3.out, Nat.le_refl _, by unfold maxLen; simp; omega, ?_, ?_⟩⟩
    · rw [HE.out]; simp; omega
    · rw [HE.out, HX1.out, HX2.out]
      rw [List.take_of_length_le (by simp [bcells])]
      simp [bcells]
end Go.Proofs.Ytelanbiedfldgaa
