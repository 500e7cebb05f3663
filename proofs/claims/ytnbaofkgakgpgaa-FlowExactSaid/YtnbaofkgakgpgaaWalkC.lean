/- Rows of bools and of ints of the call's own; the search 'spread' of the program, Reach. -/
import Derived.Test.YtnbaofkgakgpgaaWalkB
import Derived.Deep.LoopGhost
import Derived.Laws.AppendOwnNone
namespace Go.Proofs.Ytnbaofkgakgpgaa
open Go.RowKit

theorem Try.info4 : (Try.prog.info? 4).map (fun i => (i.zero, i.size, i.bytes)) = some (some (.bool false), 1, 1) := by kernel_rfl
theorem Try.size39 : (Try.prog.info? 39).map (·.size) = some 20 := by kernel_rfl

/-- A slice of bools of the call's own. -/
def OwnB (w : World) (B : Nat) (g cap : Nat) (S : List Bool) : Prop := w.ownsRow B 4 1 (.slice (some ⟨g, 0, none⟩) S.length cap) S.length (S.map Value.bool)

section
variable {w w' : World} {B g cap : Nat} {S : List Bool}
theorem OwnB.block (h : OwnB w B g cap S) : ∃ cur, w.heap[g]? = some (.cells cur 4 (0, 0)) := by
  rcases h.2 with ⟨h0, _⟩ | ⟨g', cap', cur, hv, hb, hh, _⟩
  · cases h0
  · cases hv; exact ⟨cur, hh⟩
theorem OwnB.lt (h : OwnB w B g cap S) : B ≤ g ∧ g < w.heap.size := World.ownsRow.lt h g rfl
theorem OwnB.cell (h : OwnB w B g cap S) {k : Nat} (hk : k < S.length) : w.cell? ⟨g, k, none⟩ = some (.bool (S.getD k false)) := by
  rw [World.ownsRow.cellAt h k (by omega)]
  simp [List.getD_eq_getElem?_getD, hk]
theorem OwnB.free (h : OwnB w B g cap S) (k : Nat) : w.frozen? ⟨g, k, none⟩ = false := World.ownsRow.frozenAt h k
theorem OwnB.below (h : OwnB w B g cap S) (hb : Below w.heap.size w w') : OwnB w' B g cap S := World.ownsRow.kept h (grown_of_below hb) (by simp [Value.ownBlock])
theorem OwnB.mono {B' : Nat} (h : OwnB w B g cap S) (hB : B' ≤ B) : OwnB w B' g cap S := by
  refine ⟨h.1, ?_⟩
  rcases h.2 with h2 | ⟨g, cap', cur, hv, hb, rest⟩
  · exact .inl h2
  · exact .inr ⟨g, cap', cur, hv, by omega, rest⟩
theorem OwnB.store (h : OwnB w B g cap S) (k : Nat) (b : Bool) : OwnB (w.setCell ⟨g, k, none⟩ (.bool b)) B g cap (S.set k b) ∧ w.grownBy (w.setCell ⟨g, k, none⟩ (.bool b)) (some g) := by
  have := World.ownsRow.stored h k (.bool b)
  refine ⟨?_, this.2⟩
  unfold OwnB
  rw [List.length_set, List.map_set]
  exact this.1
theorem own_block {w : World} {B : Nat} {A : Option Addr} {cap : Nat} {l : List Int} (h : Own w B A cap l) {k : Nat} (hk : (Value.slice A l.length cap).ownBlock = some k) : ∃ cur, w.heap[k]? = some (.cells cur 3 (0, 0)) := by
  rcases h.2 with ⟨h0, _⟩ | ⟨g', cap', cur, hv, hb, hh, _⟩
  · rw [h0] at hk; simp [Value.ownBlock] at hk
  · rw [hv] at hk
    simp [Value.ownBlock] at hk
    subst hk
    exact ⟨cur, hh⟩
/-- A row of bools and a row of ints lie apart. -/
theorem own_apart {B' : Nat} {A : Option Addr} {cap' : Nat} {l : List Int} (h : OwnB w B g cap S) (h' : Own w B' A cap' l) : (Value.slice A l.length cap').ownBlock ≠ some g := fun e => by
  obtain ⟨c1, h1⟩ := own_block h' e
  obtain ⟨c2, h2⟩ := h.block
  rw [h1] at h2
  injection h2 with h2
  injection h2 with _ h2
  cases h2
theorem OwnB.grown {B' : Nat} {A : Option Addr} {cap' : Nat} {l : List Int} (h : OwnB w B g cap S) (h' : Own w B' A cap' l) (hg : w.grownBy w' (Value.slice A l.length cap').ownBlock) : OwnB w' B g cap S :=
  World.ownsRow.kept h hg (.inr fun e => own_apart h h' e.symm)
theorem Own.grown {B' : Nat} {A : Option Addr} {cap' : Nat} {l : List Int} (h' : Own w B' A cap' l) (h : OwnB w B g cap S) (hg : w.grownBy w' (some g)) : Own w' B' A cap' l :=
  World.ownsRow.kept h' hg (.inr (own_apart h h'))
end
theorem Own.nocap {w : World} {B : Nat} {cap : Nat} {l : List Int} (h : Own w B none cap l) : l = [] ∧ cap = 0 := by
  rcases h.2 with ⟨h0, hl⟩ | ⟨g', cap', cur, hv, _⟩
  · simp only [Value.slice.injEq, true_and] at h0
    exact ⟨List.eq_nil_of_length_eq_zero hl, h0.2⟩
  · simp at hv
theorem Own.alloc {w : World} {B : Nat} {A : Option Addr} {cap : Nat} {l : List Int} (h : Own w B A cap l) (o : Obj) : Own (w.alloc o) B A cap l := World.ownsRow.alloc h o
theorem Own.drew {w : World} {B : Nat} {A : Option Addr} {cap : Nat} {l : List Int} (h : Own w B A cap l) : Own w.drew B A cap l := h

/-- The last element away. -/
theorem Own.pop {w : World} {B : Nat} {A : Option Addr} {cap : Nat} {l : List Int} {x : Int} (h : Own w B A cap (l ++ [x])) : ∃ g, A = some ⟨g, 0, none⟩ ∧ w.cell? ⟨g, l.length, none⟩ = some (.int .i64 x) ∧ Own w B A cap l := by
  obtain ⟨g, rfl, _, _, hc⟩ := h.cell (by simp)
  refine ⟨g, rfl, ?_, ?_⟩
  · have := hc l.length (by simp)
    simpa using this
  · unfold Own at h
    rw [List.length_append, List.map_append] at h
    exact ownsRow_pop (by simp) h

/-- 'x = append(x, ys...)': both are slices of ints of the call's own. -/
theorem wpList_push {P : Program} {w : World} {ops : Array Oper} {rest : List Oper} {o : Oper} {a : Act} {Q : Exit → Act → World → Prop} (hgd : o.guard = none) (s x : Operand) (t : TypeId)
    (ho : o.op = .call { callee := .builtin .append, args := #[s, x], argTypes := #[t, t] })
    (i : TypeInfo) (ht : P.underlying t = some (.slice 3)) (hi : P.info? 3 = some i) (hz : i.zero = some (.int .i64 0)) (hsize : i.size = 1) (hby : i.bytes = 8)
    (B : Nat) (A : Option Addr) (cap : Nat) (l : List Int) (hs : a.eval s = .slice A l.length cap) (hown : Own w B A cap l)
    (B2 : Nat) (A2 : Option Addr) (cap2 : Nat) (l2 : List Int) (hx : a.eval x = .slice A2 l2.length cap2) (hown2 : Own w B2 A2 cap2 l2)
    (hlen : l.length + l2.length ≤ 17592186044416) (hB : B ≤ w.heap.size)
    (h : ∀ A' cap' w', Own w' B A' cap' (l ++ l2) → w.grownBy w' (Value.slice A l.length cap).ownBlock → wpList P ops Q rest (a.put o.dst (.slice A' (l ++ l2).length cap')) w') : wpList P ops Q (o :: rest) a w := by
  cases A2 with
  | none =>
    obtain ⟨rfl, rfl⟩ := hown2.nocap
    refine wpList_append_own_none hgd s x t ho B 3 i 1 ht hi _ _ _ hs hown hx ?_
    have := h A cap w (by simpa using hown) (World.grownBy.refl w _)
    simpa using this
  | some ad =>
    have hcell : ∀ j u, (l2.map (Value.int .i64))[j]? = some u → w.cell? (ad.add j) = some u := by
      intro j u hj
      have hjl : j < l2.length := by
        rcases Nat.lt_or_ge j l2.length with h' | h'
        · exact h'
        · rw [List.getElem?_eq_none (by simpa using h')] at hj; cases hj
      obtain ⟨g, e, _, _, hc⟩ := hown2.cell (by omega)
      cases e
      rw [Addr.add_mid, Nat.zero_add, hc j hjl]
      simpa [hjl, List.getD_eq_getElem?_getD] using hj
    refine wpList_append_own w hgd s x t ho B 3 i (.int .i64 0) 1 8 ht hi hz hsize hby rfl (by decide) _ l.length _ hs hown ad l2.length cap2 (l2.map (Value.int .i64)) hx (by simp) hcell (ints_oneCell _ _)
      (by unfold maxLen; omega) (by omega) hB ?_
    intro v' w' ho' hg _
    obtain ⟨A', cap', hv, ho''⟩ := own_shape (l := l ++ l2) ho' (by simp) (by simp)
    rw [hv]
    exact h A' cap' w' ho'' hg

/-- A load of a struct out of the middle of a block, guarded or not. -/
theorem wpList_loadg {P : Program} {ops : Array Oper} {rest : List Oper} {op : Oper} {a : Act} {w : World} {Q : Exit → Act → World → Prop} (hw : Region.wanted op (yielded ops a.tmps) = true) (ty : TypeId) (x : Operand) (ho : op.op = .load ty x)
    (b o : Nat) (hx : a.eval x = .pointer (some ⟨b, o, none⟩)) (cs : Array Value) (d : TypeDesc) (hc : w.rangeAt b o cs.toList)
    (hu : P.underlying ty = some d) (hd : d.isRow = true) (hi : (P.info? ty).map (·.size) = some cs.size)
    (h : wpList P ops Q rest (a.put op.dst (.agg cs)) w) : wpList P ops Q (op :: rest) a w :=
  wpList_step fun K hK => by
    rw [if_pos hw]
    refine wp_load_mid ty x ho b o hx cs.toList d hc hu hd (by simpa using hi) ?_
    have e : cs.toList.toArray = cs := by simp
    rw [e]
    exact hK _ _ h

/-- 'only', over a slice of ints wherever it lies. -/
theorem only_nil (s : ByteArray) (p q : Int) (A : Option Addr) (n cap c : Nat) (A2 : Option Addr) (w : World) :
    Calls Try.prog 25 #[.agg #[.string s, .int .i64 p, .int .i64 q, .slice A n cap], .slice A2 0 c] w (NextPost w []) := by
  go_enter Try.func25, Try.ntmps25
  go_wp2
  refine wp_loop_rounds 1 ?_
  rw [rounds_succ]
  go_wp2
  go_ret
  exact ⟨none, 0, rfl, Own.nil _ _, (Below.refl _ _).alloc (Nat.le_refl _) _⟩
theorem only_ints (s : ByteArray) (p q : Int) (A : Option Addr) (n cap c : Nat) (A2 : Option Addr) (l : List Int) (w : World) (hl : l.length ≤ 1000000) (h : Ints w w.heap.size A2 l) :
    Calls Try.prog 25 #[.agg #[.string s, .int .i64 p, .int .i64 q, .slice A n cap], .slice A2 l.length c] w (NextPost w (Fl.onlyL n l)) := by
  by_cases h0 : l = []
  · subst h0
    exact only_nil s p q A n cap c A2 w
  · obtain ⟨b, off, rfl, hb, hc⟩ := h (List.length_pos_iff.2 h0)
    exact (only_any s p q A n cap b off c l w hl hb hc).mono fun _ _ h => h
end Go.Proofs.Ytnbaofkgakgpgaa
