/- How records, stays and queries among the arguments read. -/
import Derived.Test.YtojadmccenkffaaWalkS
import Derived.Test.YtojadmccenkffaaRows
import Derived.ProofKit
import Derived.SizedLaws
import Derived.Lib.SmallJoins
import Derived.Deep.Slices
import Derived.Deep.Fields
import Derived.ChangeSlices
namespace Go.Proofs.Ytojadmccenkffaa
open Go.ChangeShapes Go.WideShapes Go.ChangeAt Go.RowKit Go.Joins

theorem own : ownKnob Try.prog.godebug = none := by kernel_rfl
theorem list_choose {α : Type} {P : Nat → α → Prop} : ∀ (n : Nat), (∀ i, i < n → ∃ x, P i x) → ∃ l : List α, l.length = n ∧ ∀ (i : Nat) (hi : i < l.length), P i l[i]
  | 0, _ => ⟨[], rfl, fun i hi => by simp at hi⟩
  | n + 1, h => by
    obtain ⟨l, hl, hP⟩ := list_choose n (fun i hi => h i (by omega))
    obtain ⟨x, hx⟩ := h n (by omega)
    refine ⟨l ++ [x], by simp [hl], fun i hi => ?_⟩
    rw [List.length_append, List.length_singleton] at hi
    by_cases h1 : i < l.length
    · rw [List.getElem_append_left h1]; exact hP i h1
    · have : i = l.length := by omega
      subst this
      rw [List.getElem_append_right (by omega)]
      simp only [Nat.sub_self, List.getElem_cons_zero]
      rw [hl]
      exact hx
def StOk (s : Qr.St) : Prop := I64 s.site ∧ I64 s.proc ∧ I64 s.index ∧ I64 s.frm ∧ I64 s.til
section
variable {H : Type} {enc : TypeId × Value → H} {w : World}
theorem i64_of_wf {z : Int} (h : (Lit.int .i64 z).wf = true) : I64 z := by
  simp only [Lit.wf, Bool.and_eq_true, decide_eq_true_eq, show IntKind.i64.min = -9223372036854775808 by decide, show IntKind.i64.max = 9223372036854775807 by decide] at h
  exact h
/-- The cells of a struct of integers. -/
theorem struct_ints {T fuel : Nat} {fs : Array Field} {cs : List Value} {x : DataW H × List MemPlace} (hs : Try.prog.underlying T = some (.struct fs)) (hone : Go.Deep.oneCellFields Try.prog fs = true)
    (hall : fs.toList.all (fun f => f.type == 3 || f.type == 22) = true) (hC : Try.prog.cellsOf T = fs.size) (h : DataW.trod enc Try.prog w 0 (fun _ => true) true fuel T cs = some x) :
    cs.length = fs.size ∧ ∀ j, j < fs.size → ∃ z, cs[j]? = some (.int .i64 z) ∧ I64 z := by
  obtain ⟨xs, n, _, _, hl, hxl, hf⟩ := DataW.trod_struct hs h
  rw [hC] at hl
  refine ⟨hl, fun j hj => ?_⟩
  have hfj : fs[j]? = some fs[j] := Array.getElem?_eq_getElem hj
  obtain ⟨ho, hk⟩ := Go.Deep.hone_of hone j fs[j] hfj
  have h1 := hf j fs[j] hfj
  rw [ho, hk] at h1
  have h2 : (cs.drop j).take 1 = [cs[j]] := by
    rw [List.drop_eq_getElem_cons (by omega)]
    rfl
  rw [h2, List.getElem?_eq_getElem (by omega)] at h1
  have hm : fs[j] ∈ fs.toList := by
    rw [Array.mem_toList_iff]
    exact Array.getElem_mem hj
  have ht := List.all_eq_true.1 hall _ hm
  have hint : Try.prog.underlying fs[j].type = some (.int .i64) := by
    simp only [Bool.or_eq_true, beq_iff_eq] at ht
    rcases ht with ht | ht
    · rw [ht]; exact Try.underlying3
    · rw [ht]; exact Try.underlying22
  obtain ⟨z, e, _, hw⟩ := DataW.trod_int hint h1
  simp only [List.cons.injEq, and_true] at e
  exact ⟨z, by rw [List.getElem?_eq_getElem (by omega), e], i64_of_wf hw⟩
theorem rc_of_cells {cs : List Value} (hl : cs.length = 6) (h : ∀ j, j < 6 → ∃ z, cs[j]? = some (.int .i64 z) ∧ I64 z) : ∃ r : Qr.Rc, cs = rcs r ∧ RcOk r := by
  match cs, hl with
  | [a, b, c, d, e, f], _ =>
    obtain ⟨z0, e0, h0⟩ := h 0 (by decide)
    obtain ⟨z1, e1, h1⟩ := h 1 (by decide)
    obtain ⟨z2, e2, h2⟩ := h 2 (by decide)
    obtain ⟨z3, e3, h3⟩ := h 3 (by decide)
    obtain ⟨z4, e4, h4⟩ := h 4 (by decide)
    obtain ⟨z5, e5, h5⟩ := h 5 (by decide)
    simp at e0 e1 e2 e3 e4 e5
    subst e0; subst e1; subst e2; subst e3; subst e4; subst e5
    exact ⟨⟨z0, z1, z2, z3, z4, z5⟩, rfl, h0, h1, h2, h3, h4, h5⟩
theorem st_of_cells {cs : List Value} (hl : cs.length = 5) (h : ∀ j, j < 5 → ∃ z, cs[j]? = some (.int .i64 z) ∧ I64 z) : ∃ s : Qr.St, cs = scs s ∧ StOk s := by
  match cs, hl with
  | [a, b, c, d, e], _ =>
    obtain ⟨z0, e0, h0⟩ := h 0 (by decide)
    obtain ⟨z1, e1, h1⟩ := h 1 (by decide)
    obtain ⟨z2, e2, h2⟩ := h 2 (by decide)
    obtain ⟨z3, e3, h3⟩ := h 3 (by decide)
    obtain ⟨z4, e4, h4⟩ := h 4 (by decide)
    simp at e0 e1 e2 e3 e4
    subst e0; subst e1; subst e2; subst e3; subst e4
    exact ⟨⟨z0, z1, z2, z3, z4⟩, rfl, h0, h1, h2, h3, h4⟩
/-- A slice of elements among the arguments. -/
theorem rows_of_trod {α : Type} {c : α → List Value} {sz S T : Nat} {Ok : α → Prop} (C : Cells c sz) (hS : Try.prog.underlying S = some (.slice T)) (hCT : Try.prog.cellsOf T = sz)
    (elem : ∀ (n : Nat) (cs : List Value) (x : DataW H × List MemPlace), DataW.trod enc Try.prog w 0 (fun _ => true) true n T cs = some x → ∃ r, cs = c r ∧ Ok r)
    {r : Reach} {b0 : Nat} {v : Value} {d : DataW H} {ps : List MemPlace} (hv : Value.okWide Try.prog w r b0 S v) (h : DataW.Trod enc Try.prog w 0 (fun _ => true) true S v d ps) :
    ∃ A cap l, v = .slice A (l : List α).length cap ∧ RdL c sz w w.heap.size A l ∧ (∀ x ∈ l, Ok x) ∧ l.length ≤ cap ∧ l.length ≤ maxLen := by
  obtain ⟨A, n, cap, rfl⟩ := okWide_slice hS hv
  obtain ⟨fuel, hf⟩ := h
  rcases Go.Deep.open_slice hS hf with ⟨e, _⟩ | ⟨a, len, cap', m, k, D, Pl, e, _, hlc, hcm, hm, _, hat⟩
  · simp [Value.cells] at e
    obtain ⟨rfl, rfl, rfl⟩ := e
    exact ⟨none, 0, [], rfl, RdL.nil _ _ _, fun x hx => by simp at hx, Nat.le_refl _, Nat.zero_le _⟩
  · simp [Value.cells] at e
    obtain ⟨rfl, rfl, rfl⟩ := e
    simp only [if_true] at hm
    rw [hCT] at hat
    obtain ⟨l, hl, hP⟩ := list_choose (P := fun i x => Ok x ∧ ∀ j v, (c x)[j]? = some v → w.cell? ((a.add (i * sz)).add j) = some v) n (fun i hi => by
      obtain ⟨cs', hc, ht⟩ := hat i (by omega)
      obtain ⟨x, rfl, hx⟩ := elem _ _ _ ht
      obtain ⟨_, hcl, hcell⟩ := World.cells?_some hc
      refine ⟨x, hx, fun j v hj => ?_⟩
      have hjl : j < sz := by rw [← hcl]; exact (List.getElem?_eq_some_iff.1 hj).1
      rw [hcell j hjl, hj])
    refine ⟨some a, cap, l, by rw [hl], fun hpos => ?_, fun x hx => ?_, by omega, by omega⟩
    · have hz : 0 < sz := C.pos
      obtain ⟨b, off, spot⟩ := a
      have h0 := (hP 0 hpos).2 0 ((c l[0])[0]'(by rw [C.len]; exact hz)) (List.getElem?_eq_getElem _)
      have hs := World.cell?_spot h0
      simp [Addr.add] at hs
      subst hs
      refine ⟨b, off, rfl, ?_, fun i hi j v hj => ?_⟩
      · rw [Addr.add_mid, Addr.add_mid] at h0
        exact World.block_lt_of_cell? w _ h0
      · have := (hP i hi).2 j v hj
        rwa [Addr.add_mid, Addr.add_mid] at this
    · obtain ⟨i, hi, rfl⟩ := List.mem_iff_getElem.1 hx
      exact (hP i hi).1
theorem recs_of_trod {r : Reach} {b0 : Nat} {v : Value} {d : DataW H} {ps : List MemPlace} (hv : Value.okWide Try.prog w r b0 25 v) (h : DataW.Trod enc Try.prog w 0 (fun _ => true) true 25 v d ps) :
    ∃ A cap l, v = .slice A (l : List Qr.Rc).length cap ∧ RdL rcs 6 w w.heap.size A l ∧ (∀ x ∈ l, RcOk x) ∧ l.length ≤ cap ∧ l.length ≤ maxLen :=
  rows_of_trod rcs_ok Try.underlying25 (by kernel_rfl) (fun n cs x hx => by
    obtain ⟨h1, h2⟩ := struct_ints Try.underlying34 (by kernel_rfl) (by kernel_rfl) (by kernel_rfl) hx
    exact rc_of_cells h1 h2) hv h
theorem stays_of_trod {r : Reach} {b0 : Nat} {v : Value} {d : DataW H} {ps : List MemPlace} (hv : Value.okWide Try.prog w r b0 37 v) (h : DataW.Trod enc Try.prog w 0 (fun _ => true) true 37 v d ps) :
    ∃ A cap l, v = .slice A (l : List Qr.St).length cap ∧ RdL scs 5 w w.heap.size A l ∧ (∀ x ∈ l, StOk x) ∧ l.length ≤ cap ∧ l.length ≤ maxLen :=
  rows_of_trod scs_ok Try.underlying37 (by kernel_rfl) (fun n cs x hx => by
    obtain ⟨h1, h2⟩ := struct_ints Try.underlying42 (by kernel_rfl) (by kernel_rfl) (by kernel_rfl) hx
    exact st_of_cells h1 h2) hv h
theorem ask_of_trod {r : Reach} {b0 : Nat} {v : Value} {d : DataW H} {ps : List MemPlace} (hv : Value.okWide Try.prog w r b0 24 v) (h : DataW.Trod enc Try.prog w 0 (fun _ => true) true 24 v d ps) :
    ∃ f t s p i k : Int, v = .agg #[.int .i64 f, .int .i64 t, .int .i64 s, .int .i64 p, .int .i64 i, .int .i64 k] ∧ I64 f ∧ I64 t ∧ I64 s ∧ I64 p ∧ I64 i ∧ I64 k := by
  obtain ⟨cs, rfl, hsz⟩ := okWide_struct Try.underlying24 hv
  obtain ⟨fuel, hf⟩ := h
  obtain ⟨h1, h2⟩ := struct_ints Try.underlying24 (by kernel_rfl) (by kernel_rfl) (by kernel_rfl) hf
  obtain ⟨l⟩ := cs
  obtain ⟨r, hr, h3⟩ := rc_of_cells (cs := l) h1 h2
  subst hr
  exact ⟨r.time, r.site, r.what, r.proc, r.index, r.value, rfl, h3.1, h3.2.1, h3.2.2.1, h3.2.2.2.1, h3.2.2.2.2.1, h3.2.2.2.2.2⟩
theorem i64_of_trod {r : Reach} {b0 T : Nat} {v : Value} {d : DataW H} {ps : List MemPlace} (hT : Try.prog.underlying T = some (.int .i64)) (hv : Value.okWide Try.prog w r b0 T v) (h : DataW.Trod enc Try.prog w 0 (fun _ => true) true T v d ps) :
    ∃ n : Int, v = .int .i64 n ∧ I64 n := by
  obtain ⟨n, rfl, _, _, hw⟩ := open_int hT hv h
  exact ⟨n, rfl, i64_of_wf hw⟩
end
end Go.Proofs.Ytojadmccenkffaa
