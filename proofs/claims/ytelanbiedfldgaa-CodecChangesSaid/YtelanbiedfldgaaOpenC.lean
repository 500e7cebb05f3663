/- How an array of four bytes among the arguments reads. -/
import Derived.Test.YtelanbiedfldgaaOpenB
import Derived.Laws.IdiomArrays
namespace Go.Proofs.Ytelanbiedfldgaa
open Go.ChangeShapes Go.WideShapes Go.ChangeAt Go.RowKit Go.Joins

theorem four_list {α : Type} (l : List α) (h : (⟨l⟩ : Array α).size = 4) : ∃ a b c d, l = [a, b, c, d] := by
  match l, h with
  | [a, b, c, d], _ => exact ⟨a, b, c, d, rfl⟩
theorem Try.cellsOf41 : Try.prog.cellsOf 41 = 4 := by kernel_rfl
theorem Try.cellsOf5 : Try.prog.cellsOf 5 = 1 := by kernel_rfl
theorem byte_of_wf {z : Int} (h : (Lit.int .u8 z).wf = true) : ∃ n : Nat, z = (n : Int) ∧ n < 256 := by
  simp only [Lit.wf, Bool.and_eq_true, decide_eq_true_eq, show IntKind.u8.min = 0 by decide, show IntKind.u8.max = 255 by decide] at h
  exact ⟨z.toNat, by omega, by omega⟩
section
variable {H : Type} {enc : TypeId × Value → H} {w : World}
theorem four_of_trod {r : Reach} {b0 : Nat} {v : Value} {d : DataW H} {ps : List MemPlace} (hv : Value.okWide Try.prog w r b0 41 v) (h : DataW.Trod enc Try.prog w 0 (fun _ => true) true 41 v d ps) :
    ∃ x y z t : Nat, v = .agg #[.int .u8 x, .int .u8 y, .int .u8 z, .int .u8 t] ∧ x < 256 ∧ y < 256 ∧ z < 256 ∧ t < 256 := by
  obtain ⟨cs, rfl, hsz, _⟩ : ∃ cs, v = .agg cs ∧ cs.size = Try.prog.cellsOf 41 ∧ Row.okWide Try.prog w r b0 41 cs := by
    simpa [Value.okWide, Try.underlying41] using hv
  rw [Try.cellsOf41] at hsz
  obtain ⟨l⟩ := cs
  obtain ⟨c0, c1, c2, c3, rfl⟩ := four_list l hsz
  obtain ⟨fuel, hf⟩ := h
  obtain ⟨y0, y1, y2, y3, m, hx, hy0, hy1, hy2, hy3⟩ := trod_array4 Try.underlying41 Try.cellsOf5 hf
  obtain ⟨x0, e0, rfl, w0⟩ := DataW.trod_int Try.underlying5 hy0
  obtain ⟨x1, e1, rfl, w1⟩ := DataW.trod_int Try.underlying5 hy1
  obtain ⟨x2, e2, rfl, w2⟩ := DataW.trod_int Try.underlying5 hy2
  obtain ⟨x3, e3, rfl, w3⟩ := DataW.trod_int Try.underlying5 hy3
  simp at e0 e1 e2 e3
  subst e0 e1 e2 e3
  obtain ⟨n0, rfl, h0⟩ := byte_of_wf w0
  obtain ⟨n1, rfl, h1⟩ := byte_of_wf w1
  obtain ⟨n2, rfl, h2⟩ := byte_of_wf w2
  obtain ⟨n3, rfl, h3⟩ := byte_of_wf w3
  exact ⟨n0, n1, n2, n3, rfl, h0, h1, h2, h3⟩
end
end Go.Proofs.Ytelanbiedfldgaa
