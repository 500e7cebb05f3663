/- How bytes and lists of integers among the arguments read. -/
import Derived.Test.YtelanbiedfldgaaSums
import Derived.Test.YtelanbiedfldgaaRows
import Derived.ProofKit
import Derived.SizedLaws
import Derived.Lib.SmallJoins
import Derived.Deep.Slices
import Derived.ChangeSlices
namespace Go.Proofs.Ytelanbiedfldgaa
open Go.ChangeShapes Go.WideShapes Go.ChangeAt Go.RowKit Go.Joins

theorem own : ownKnob Try.prog.godebug = none := by kernel_rfl
theorem laidOut : laidOutB Try.prog = true := by kernel_rfl
section
variable {H : Type} {enc : TypeId × Value → H} {w : World}
theorem bytes_of_trod {r : Reach} {b0 : Nat} {v : Value} {d : DataW H} {ps : List MemPlace} (hv : Value.okWide Try.prog w r b0 22 v) (h : DataW.Trod enc Try.prog w 0 (fun _ => true) true 22 v d ps) :
    ∃ A c l, v = .slice A (l : List Nat).length c ∧ Byts w w.heap.size A l ∧ Cd.Byt l ∧ (A = none → l = []) ∧ l.length ≤ c ∧ l.length ≤ maxLen := by
  obtain ⟨A, n, c, rfl⟩ := okWide_slice Try.underlying22 hv
  obtain ⟨fuel, hf⟩ := h
  rcases open_ints Try.underlying22 Try.underlying5 (by kernel_rfl) hf with ⟨e, _⟩ | ⟨a, len, cap, zs, e, _, hlc, hcm, hzl, _, hx, hwf⟩
  · simp [Value.cells] at e
    obtain ⟨rfl, rfl, rfl⟩ := e
    exact ⟨none, 0, [], rfl, Byts.nil _ _ _, fun x hx => by simp at hx, fun _ => rfl, Nat.le_refl _, Nat.zero_le _⟩
  · simp [Value.cells] at e
    obtain ⟨rfl, rfl, rfl⟩ := e
    simp only [if_true] at hzl
    have hl : ((zs.take n).map Int.toNat).length = n := by rw [List.length_map, List.length_take]; omega
    have hw : ∀ z ∈ zs, 0 ≤ z ∧ z < 256 := fun z hz => by
      have := hwf z hz
      simp only [Lit.wf, Bool.and_eq_true, decide_eq_true_eq, show IntKind.u8.min = 0 by decide, show IntKind.u8.max = 255 by decide] at this
      exact ⟨by omega, by omega⟩
    refine ⟨some a, c, (zs.take n).map Int.toNat, by rw [hl], fun hpos => ?_, fun x hx => ?_, (fun e => by cases e), by rw [hl]; exact hlc, by rw [hl]; omega⟩
    · rw [hl] at hpos
      have h0 := hx 0 (by omega)
      obtain ⟨b, off, spot⟩ := a
      have hs := World.cell?_spot h0
      simp [Addr.add] at hs
      subst hs
      refine ⟨b, off, rfl, World.block_lt_of_cell? w _ h0, fun k hk => ?_⟩
      rw [hl] at hk
      have h1 := hx k (by omega)
      rw [Addr.add_lit] at h1
      rw [h1]
      have hk2 : k < zs.length := by omega
      have h2 := hw zs[k] (List.getElem_mem hk2)
      congr 2
      simp only [List.getD_eq_getElem?_getD, List.getElem?_map, List.getElem?_take, hk, if_true, List.getElem?_eq_getElem hk2, Option.map_some, Option.getD_some]
      omega
    · simp only [List.mem_map] at hx
      obtain ⟨z, hz, rfl⟩ := hx
      have := hw z (List.mem_of_mem_take hz)
      omega
theorem ints_of_trod {r : Reach} {b0 : Nat} {v : Value} {d : DataW H} {ps : List MemPlace} (hv : Value.okWide Try.prog w r b0 32 v) (h : DataW.Trod enc Try.prog w 0 (fun _ => true) true 32 v d ps) :
    ∃ A c l, v = .slice A (l : List Int).length c ∧ Ints w w.heap.size A l ∧ I64 l ∧ l.length ≤ c ∧ l.length ≤ maxLen := by
  obtain ⟨A, n, c, rfl⟩ := okWide_slice Try.underlying32 hv
  obtain ⟨fuel, hf⟩ := h
  rcases open_ints Try.underlying32 Try.underlying3 (by kernel_rfl) hf with ⟨e, _⟩ | ⟨a, len, cap, zs, e, _, hlc, hcm, hzl, _, hx, hwf⟩
  · simp [Value.cells] at e
    obtain ⟨rfl, rfl, rfl⟩ := e
    exact ⟨none, 0, [], rfl, Ints.nil _ _ _, fun x hx => by simp at hx, Nat.le_refl _, Nat.zero_le _⟩
  · simp [Value.cells] at e
    obtain ⟨rfl, rfl, rfl⟩ := e
    simp only [if_true] at hzl
    have hl : (zs.take n).length = n := by rw [List.length_take]; omega
    refine ⟨some a, c, zs.take n, by rw [hl], fun hpos => ?_, fun z hz => ?_, by rw [hl]; exact hlc, by rw [hl]; omega⟩
    · rw [hl] at hpos
      have h0 := hx 0 (by omega)
      obtain ⟨b, off, spot⟩ := a
      have hs := World.cell?_spot h0
      simp [Addr.add] at hs
      subst hs
      refine ⟨b, off, rfl, World.block_lt_of_cell? w _ h0, fun k hk => ?_⟩
      rw [hl] at hk
      have h1 := hx k (by omega)
      rw [Addr.add_lit] at h1
      rw [h1]
      simp [List.getD_eq_getElem?_getD, hk]
    · have := hwf z (List.mem_of_mem_take hz)
      simp only [Lit.wf, Bool.and_eq_true, decide_eq_true_eq, show IntKind.i64.min = -9223372036854775808 by decide, show IntKind.i64.max = 9223372036854775807 by decide] at this
      exact ⟨by omega, by omega⟩
theorem i64_of_trod {r : Reach} {b0 : Nat} {v : Value} {d : DataW H} {ps : List MemPlace} (hv : Value.okWide Try.prog w r b0 3 v) (h : DataW.Trod enc Try.prog w 0 (fun _ => true) true 3 v d ps) :
    ∃ n : Int, v = .int .i64 n ∧ -9223372036854775808 ≤ n ∧ n ≤ 9223372036854775807 := by
  obtain ⟨n, rfl, _, _, hw⟩ := open_int Try.underlying3 hv h
  simp only [Lit.wf, Bool.and_eq_true, decide_eq_true_eq, show IntKind.i64.min = -9223372036854775808 by decide, show IntKind.i64.max = 9223372036854775807 by decide] at hw
  exact ⟨n, rfl, hw⟩
end
end Go.Proofs.Ytelanbiedfldgaa
