/- How a routine among the arguments reads: its cells as the walks want them. -/
import Derived.Test.YtnbaofkgakgpgaaWalkH
import Derived.Test.YtnbaofkgakgpgaaRows
import Derived.ProofKit
import Derived.SizedLaws
import Derived.Lib.SmallJoins
import Derived.Deep.Slices
namespace Go.Proofs.Ytnbaofkgakgpgaa
open Go.ChangeShapes Go.WideShapes Go.ChangeAt Go.RowKit Go.Joins

theorem own : ownKnob Try.prog.godebug = none := by kernel_rfl
theorem laidOut : laidOutB Try.prog = true := by kernel_rfl

section
variable {H : Type} {enc : TypeId × Value → H} {w : World} {base : Nat} {spare : Nat → Bool} {held : Bool}
theorem one_basic {P : Program} {t : TypeId} {fuel : Nat} {cs : List Value} {x : DataW H × List MemPlace} (hs : (match P.underlying t with | some (.struct _) => false | some (.array _ _) => false | _ => true) = true)
    (h : DataW.trod enc P w base spare held fuel t cs = some x) : ∀ v ∈ cs, v.oneCell' = true := by
  cases fuel with
  | zero => simp [DataW.trod] at h
  | succ n =>
    unfold DataW.trod at h
    split at h <;> simp_all [Value.oneCell']
theorem one_cover {cs : List Value} {n : Nat} (chunks : List (Nat × Nat)) (hn : cs.length = n) (h : ∀ c ∈ chunks, ∀ v ∈ (cs.drop c.1).take c.2, v.oneCell' = true)
    (hcov : ∀ j, j < n → ∃ c ∈ chunks, c.1 ≤ j ∧ j < c.1 + c.2) : ∀ v ∈ cs, v.oneCell' = true := by
  intro v hv
  obtain ⟨j, hj, rfl⟩ := List.getElem_of_mem hv
  obtain ⟨c, hc, h1, h2⟩ := hcov j (by omega)
  refine h c hc _ ?_
  have : ((cs.drop c.1).take c.2)[j - c.1]? = some cs[j] := by
    rw [List.getElem?_take, if_pos (by omega), List.getElem?_drop, show c.1 + (j - c.1) = j by omega, List.getElem?_eq_getElem hj]
  exact List.mem_of_getElem? this
theorem one_struct {P : Program} {t : TypeId} {fs : Array Field} {n : Nat} (ht : P.underlying t = some (.struct fs)) (hn : P.cellsOf t = n) (chunks : List (Nat × Nat)) (hch : fs.toList.map (fun f => (f.offset, P.cellsOf f.type)) = chunks)
    (hcov : ∀ j, j < n → ∃ c ∈ chunks, c.1 ≤ j ∧ j < c.1 + c.2)
    (hf : ∀ f ∈ fs.toList, ∀ (fuel : Nat) (cs : List Value) (x : DataW H × List MemPlace), DataW.trod enc P w base spare held fuel f.type cs = some x → ∀ v ∈ cs, v.oneCell' = true)
    {fuel : Nat} {cs : List Value} {x : DataW H × List MemPlace} (h : DataW.trod enc P w base spare held fuel t cs = some x) : ∀ v ∈ cs, v.oneCell' = true := by
  obtain ⟨xs, m, _, _, hlen, hxl, hat⟩ := DataW.trod_struct ht h
  refine one_cover chunks (hlen.trans hn) (fun c hc => ?_) hcov
  rw [← hch] at hc
  obtain ⟨f, hfm, rfl⟩ := List.mem_map.1 hc
  obtain ⟨i, hi, he⟩ := List.getElem_of_mem hfm
  have hi' : i < fs.size := by simpa using hi
  have hfi : fs[i]? = some f := by rw [Array.getElem?_eq_getElem hi']; simpa using he
  have hx := hat i f hfi
  rw [List.getElem?_eq_getElem (by omega)] at hx
  exact hf f hfm m _ _ hx
theorem one_33 {fuel : Nat} {cs : List Value} {x : DataW H × List MemPlace} (h : DataW.trod enc Try.prog w base spare held fuel 33 cs = some x) : ∀ v ∈ cs, v.oneCell' = true := by
  refine one_struct Try.underlying33 (n := 4) (by kernel_rfl) [(0, 1), (1, 1), (2, 1), (3, 1)] (by kernel_rfl) (by decide) (fun f hf fuel cs x hx => ?_) h
  simp only [List.mem_cons, List.not_mem_nil, or_false] at hf
  rcases hf with rfl | rfl | rfl | rfl <;> exact one_basic (by kernel_rfl) hx
theorem one_37 {fuel : Nat} {cs : List Value} {x : DataW H × List MemPlace} (h : DataW.trod enc Try.prog w base spare held fuel 37 cs = some x) : ∀ v ∈ cs, v.oneCell' = true := by
  refine one_struct Try.underlying37 (n := 6) (by kernel_rfl) [(0, 1), (1, 1), (2, 1), (3, 1), (4, 1), (5, 1)] (by kernel_rfl) (by decide) (fun f hf fuel cs x hx => ?_) h
  simp only [List.mem_cons, List.not_mem_nil, or_false] at hf
  rcases hf with rfl | rfl | rfl | rfl | rfl | rfl <;> exact one_basic (by kernel_rfl) hx
theorem one_39 {fuel : Nat} {cs : List Value} {x : DataW H × List MemPlace} (h : DataW.trod enc Try.prog w base spare held fuel 39 cs = some x) : ∀ v ∈ cs, v.oneCell' = true := by
  refine one_struct Try.underlying39 (n := 20) (by kernel_rfl) [(0, 1), (1, 1), (2, 1), (3, 1), (4, 4), (8, 4), (12, 1), (13, 6), (19, 1)] (by kernel_rfl) (by decide) (fun f hf fuel cs x hx => ?_) h
  simp only [List.mem_cons, List.not_mem_nil, or_false] at hf
  rcases hf with rfl | rfl | rfl | rfl | rfl | rfl | rfl | rfl | rfl
  · exact one_basic (by kernel_rfl) hx
  · exact one_basic (by kernel_rfl) hx
  · exact one_basic (by kernel_rfl) hx
  · exact one_basic (by kernel_rfl) hx
  · exact one_33 hx
  · exact one_33 hx
  · exact one_basic (by kernel_rfl) hx
  · exact one_37 hx
  · exact one_basic (by kernel_rfl) hx
/-- One instruction as it reads. -/
theorem instr_of_trod {fuel : Nat} {cs : List Value} {x : DataW H × List MemPlace} (h : DataW.trod enc Try.prog w base spare held fuel 39 cs = some x) :
    cs.length = 20 ∧ (∀ v ∈ cs, v.oneCell' = true) ∧ ∃ o a : Int, cs[0]? = some (.int .i64 o) ∧ cs[1]? = some (.int .i64 a) := by
  obtain ⟨xs, m, _, _, hlen, hxl, hat⟩ := DataW.trod_struct Try.underlying39 h
  have hl : cs.length = 20 := hlen.trans (by kernel_rfl)
  refine ⟨hl, one_39 h, ?_⟩
  have c29 : Try.prog.cellsOf 29 = 1 := by kernel_rfl
  have c3 : Try.prog.cellsOf 3 = 1 := by kernel_rfl
  have g0 := hat 0 _ rfl
  have g1 := hat 1 _ rfl
  rw [List.getElem?_eq_getElem (by rw [hxl]; decide)] at g0 g1
  have h0 : DataW.trod enc Try.prog w base spare held m 29 ((cs.drop 0).take (Try.prog.cellsOf 29)) = some _ := g0
  have h1 : DataW.trod enc Try.prog w base spare held m 3 ((cs.drop 1).take (Try.prog.cellsOf 3)) = some _ := g1
  rw [c29] at h0
  rw [c3] at h1
  obtain ⟨o, e0, _, _⟩ := DataW.trod_int Try.underlying29 h0
  obtain ⟨a, e1, _, _⟩ := DataW.trod_int Try.underlying3 h1
  refine ⟨o, a, ?_, ?_⟩
  · have : ((cs.drop 0).take 1)[0]? = some (.int .i64 o) := by rw [e0]; rfl
    simpa using this
  · have : ((cs.drop 1).take 1)[0]? = some (.int .i64 a) := by rw [e1]; rfl
    simpa using this
theorem list_of {P : Nat → Int → Int → Prop} : ∀ (len : Nat), (∀ i, i < len → ∃ o a, P i o a) → ∃ I : Fl.Rt, I.length = len ∧ ∀ i, i < len → P i (Fl.opOf I i) (Fl.arOf I i)
  | 0, _ => ⟨[], rfl, fun i hi => by omega⟩
  | len + 1, h => by
    obtain ⟨I, hIl, hI⟩ := list_of len (fun i hi => h i (by omega))
    obtain ⟨o, a, hP⟩ := h len (by omega)
    refine ⟨I ++ [(o, a)], by simp [hIl], fun i hi => ?_⟩
    by_cases hil : i < len
    · have := hI i hil
      simpa [Fl.opOf, Fl.arOf, List.getD_eq_getElem?_getD, List.getElem?_append_left (show i < I.length by omega)] using this
    · obtain rfl : i = len := by omega
      simpa [Fl.opOf, Fl.arOf, List.getD_eq_getElem?_getD, ← hIl] using hP
/-- A routine as it reads. -/
theorem code_of_trod {r : Reach} {b0 : Nat} {v : Value} {d : DataW H} {ps : List MemPlace} (hv : Value.okWide Try.prog w r b0 24 v) (h : DataW.Trod enc Try.prog w 0 (fun _ => true) true 24 v d ps)
    (hsz : (d.weights Try.prog 24).all (· ≤ reachBytes) = true) :
    ∃ (s : ByteArray) (p q : Int) (A : Option Addr) (cap : Nat) (I : Fl.Rt), v = .agg #[.string s, .int .i64 p, .int .i64 q, .slice A I.length cap] ∧ CodeAt w w.heap.size A I ∧ I.length ≤ 4398046511104 := by
  obtain ⟨v0, v1, v2, v3, y0, y1, y2, y3, n, rfl, rfl, _, h0, h1, h2, h3⟩ := open_agg4 Try.underlying24 (by kernel_rfl) (by kernel_rfl) hv h
  obtain ⟨s, e0, _, _⟩ := DataW.trod_string Try.underlying9 h0
  obtain ⟨p, e1, _, _⟩ := DataW.trod_int Try.underlying3 h1
  obtain ⟨q, e2, _, _⟩ := DataW.trod_int Try.underlying3 h2
  simp only [List.cons.injEq, and_true] at e0 e1 e2
  subst e0 e1 e2
  rcases Go.Deep.open_slice Try.underlying22 h3 with ⟨e3, _⟩ | ⟨a, len, cap, m, k, D, Pl, e3, _, hlc, hcm, hm, hx, hat⟩
  · simp only [List.cons.injEq, and_true] at e3
    subst e3
    exact ⟨s, p, q, none, 0, [], rfl, fun h => by simp at h, by simp⟩
  · simp only [List.cons.injEq, and_true] at e3
    subst e3
    have c39 : Try.prog.cellsOf 39 = 20 := by kernel_rfl
    have hm' : m = cap := by simpa using hm
    clear hm
    rw [hm'] at hat hx
    clear hm'
    have hb39 : Try.prog.bytesOf 39 = 256 := by kernel_rfl
    have hbound : cap * 256 ≤ 140737488351232 := by
      have hmem : (len + (cap - len)) * 256 ∈ DataW.weights Try.prog 24 (.agg [y0.1, y1.1, y2.1, y3.1]) := by
        rw [hx]
        simp [DataW.weights, DataW.weightsEach, Try.underlying24, Try.underlying22, hb39]
      have := List.all_eq_true.1 hsz _ hmem
      have hr : (len + (cap - len)) * 256 ≤ reachBytes := by simpa using this
      rw [Nat.add_sub_cancel' hlc] at hr
      exact hr
    have hone : ∀ i, i < len → ∃ cs : List Value, cs.length = 20 ∧ (∀ v ∈ cs, v.oneCell' = true) ∧ (∃ o a : Int, cs[0]? = some (.int .i64 o) ∧ cs[1]? = some (.int .i64 a)) ∧ ∀ j, j < 20 → w.cell? ((a.add (i * 20)).add j) = cs[j]? := fun i hi => by
      obtain ⟨cs, hc, ht⟩ := hat i (by omega)
      rw [c39] at hc
      obtain ⟨hl, h1, h2⟩ := instr_of_trod ht
      obtain ⟨_, _, hcell⟩ := World.cells?_some hc
      exact ⟨cs, hl, h1, h2, hcell⟩
    by_cases hl0 : len = 0
    · subst hl0
      exact ⟨s, p, q, some a, cap, [], rfl, fun h => by simp at h, by simp⟩
    · obtain ⟨b, off, spot⟩ := a
      have hspot : spot = none := by
        obtain ⟨cs, hl, _, _, hcell⟩ := hone 0 (by omega)
        have := hcell 0 (by decide)
        rw [List.getElem?_eq_getElem (by omega)] at this
        have := World.cell?_spot this
        simpa [Addr.add] using this
      subst hspot
      have hcells : ∀ i, i < len → ∃ cs : List Value, cs.length = 20 ∧ (∀ v ∈ cs, v.oneCell' = true) ∧ (∃ o a : Int, cs[0]? = some (.int .i64 o) ∧ cs[1]? = some (.int .i64 a)) ∧ ∀ j, j < 20 → w.cell? ⟨b, off + i * 20 + j, none⟩ = cs[j]? := fun i hi => by
        obtain ⟨cs, hl, h1, h2, hcell⟩ := hone i hi
        refine ⟨cs, hl, h1, h2, fun j hj => ?_⟩
        have := hcell j hj
        rwa [Addr.add_mid, Addr.add_mid] at this
      have hb : b < w.heap.size := by
        obtain ⟨cs, hl, _, _, hcell⟩ := hcells 0 (by omega)
        have := hcell 0 (by decide)
        rw [List.getElem?_eq_getElem (by omega)] at this
        exact World.block_lt_of_cell? w _ this
      have hI : ∃ I : Fl.Rt, I.length = len ∧ ∀ i, i < len → ∃ cs : List Value, cs.length = 20 ∧ (∀ v ∈ cs, v.oneCell' = true) ∧ cs[0]? = some (.int .i64 (Fl.opOf I i)) ∧ cs[1]? = some (.int .i64 (Fl.arOf I i)) ∧ ∀ j, j < 20 → w.cell? ⟨b, off + i * 20 + j, none⟩ = cs[j]? := by
        refine list_of (P := fun i o a => ∃ cs : List Value, cs.length = 20 ∧ (∀ v ∈ cs, v.oneCell' = true) ∧ cs[0]? = some (.int .i64 o) ∧ cs[1]? = some (.int .i64 a) ∧ ∀ j, j < 20 → w.cell? ⟨b, off + i * 20 + j, none⟩ = cs[j]?) len (fun i hi => ?_)
        obtain ⟨cs, hl, h1, ⟨o, a, h2, h3⟩, hcell⟩ := hcells i hi
        exact ⟨o, a, cs, hl, h1, h2, h3, hcell⟩
      obtain ⟨I, hIl, hI⟩ := hI
      refine ⟨s, p, q, some ⟨b, off, none⟩, cap, I, by rw [hIl], fun _ => ⟨b, off, rfl, hb, fun i hi => ?_⟩, by omega⟩
      obtain ⟨cs, g1, g2, g3, g4, g5⟩ := hI i (by omega)
      refine ⟨cs.toArray, by simpa using g1, all_oneCell_toArray g2, by simpa using g3, by simpa using g4, fun j v hj => ?_⟩
      have hj' : cs[j]? = some v := by simpa using hj
      rw [g5 j (by
        rcases Nat.lt_or_ge j 20 with h' | h'
        · exact h'
        · rw [List.getElem?_eq_none (by omega)] at hj'; cases hj'), hj']
end
end Go.Proofs.Ytnbaofkgakgpgaa
