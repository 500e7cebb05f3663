/- Slices of structs: read, and of the call's own. -/
import Derived.Test.YtojadmccenkffaaWalkQ
import Derived.Test.YtojadmccenkffaaWalkA
import Derived.Deep.MidRow
import Derived.ArgAppend
namespace Go.Proofs.Ytojadmccenkffaa
open Go.RowKit

def rcs (r : Qr.Rc) : List Value := [.int .i64 r.time, .int .i64 r.site, .int .i64 r.what, .int .i64 r.proc, .int .i64 r.index, .int .i64 r.value]
def scs (s : Qr.St) : List Value := [.int .i64 s.site, .int .i64 s.proc, .int .i64 s.index, .int .i64 s.frm, .int .i64 s.til]
def ocs (x : Qr.St × Bool) : List Value := [.int .i64 x.1.site, .int .i64 x.1.proc, .int .i64 x.1.index, .int .i64 x.1.frm, .int .i64 x.1.til, .bool x.2]
def bcs (b : Bool) : List Value := [.bool b]
/-- The cells of an element: how many there are; each is one cell. -/
structure Cells {α : Type} (c : α → List Value) (sz : Nat) : Prop where
  len : ∀ x, (c x).length = sz
  one : ∀ x, ∀ v ∈ c x, v.oneCell' = true
  pos : 0 < sz
theorem rcs_ok : Cells rcs 6 := ⟨fun _ => rfl, fun _ v hv => by simp [rcs] at hv; rcases hv with rfl | rfl | rfl | rfl | rfl | rfl <;> rfl, by decide⟩
theorem scs_ok : Cells scs 5 := ⟨fun _ => rfl, fun _ v hv => by simp [scs] at hv; rcases hv with rfl | rfl | rfl | rfl | rfl <;> rfl, by decide⟩
theorem ocs_ok : Cells ocs 6 := ⟨fun _ => rfl, fun _ v hv => by simp [ocs] at hv; rcases hv with rfl | rfl | rfl | rfl | rfl | rfl <;> rfl, by decide⟩
theorem bcs_ok : Cells bcs 1 := ⟨fun _ => rfl, fun _ v hv => by simp [bcs] at hv; subst hv; rfl, by decide⟩
section
variable {α : Type} {c : α → List Value} {sz : Nat}
theorem flat_len (C : Cells c sz) : ∀ l : List α, (l.flatMap c).length = l.length * sz
  | [] => by simp
  | x :: l => by rw [List.flatMap_cons, List.length_append, C.len, flat_len C l, List.length_cons, Nat.succ_mul]; omega
theorem flat_get (C : Cells c sz) : ∀ (l : List α) (k j : Nat) (hk : k < l.length), j < sz → (l.flatMap c)[k * sz + j]? = (c l[k])[j]?
  | [], _, _, hk, _ => by simp at hk
  | x :: l, 0, j, _, hj => by
    rw [List.flatMap_cons, Nat.zero_mul, Nat.zero_add, List.getElem?_append_left (by rw [C.len]; exact hj)]
    rfl
  | x :: l, k + 1, j, hk, hj => by
    rw [List.flatMap_cons, List.getElem?_append_right (by rw [C.len, Nat.succ_mul]; omega), C.len]
    have e : (k + 1) * sz + j - sz = k * sz + j := by rw [Nat.succ_mul]; omega
    rw [e, flat_get C l k j (by simpa using hk) hj]
    rfl
theorem flat_one (C : Cells c sz) (l : List α) : ∀ v ∈ l.flatMap c, v.oneCell' = true := fun v hv => by
  obtain ⟨x, _, hx⟩ := List.mem_flatMap.1 hv
  exact C.one x v hx
/-- A slice of elements that can be read. -/
def RdL (c : α → List Value) (sz : Nat) (w : World) (B : Nat) (A : Option Addr) (l : List α) : Prop :=
  0 < l.length → ∃ b off, A = some ⟨b, off, none⟩ ∧ b < B ∧ ∀ (k : Nat) (h : k < l.length), w.rangeAt b (off + k * sz) (c l[k])
theorem RdL.nil (w : World) (B : Nat) (A : Option Addr) : RdL c sz w B A [] := fun h => by simp at h
theorem RdL.below {w w' : World} {B : Nat} {A : Option Addr} {l : List α} (h : RdL c sz w B A l) (hb : Below B w w') : RdL c sz w' B A l := fun hl => by
  obtain ⟨b, off, e, hlt, hc⟩ := h hl
  exact ⟨b, off, e, hlt, fun k hk j v hj => (hb.cell (p := ⟨b, off + k * sz + j, none⟩) hlt).trans (hc k hk j v hj)⟩
theorem RdL.more {w : World} {B B' : Nat} {A : Option Addr} {l : List α} (h : RdL c sz w B A l) (hB : B ≤ B') : RdL c sz w B' A l := fun hl => by
  obtain ⟨b, off, e, hlt, hc⟩ := h hl
  exact ⟨b, off, e, by omega, hc⟩
theorem RdL.after {w w' : World} {A : Option Addr} {l : List α} (h : RdL c sz w w.heap.size A l) (hb : Below w.heap.size w w') : RdL c sz w' w'.heap.size A l := (h.below hb).more hb.size
/-- A slice of elements of the call's own. -/
def OwnL (c : α → List Value) (T sz : Nat) (w : World) (B : Nat) (A : Option Addr) (cap : Nat) (l : List α) : Prop := w.ownsRow B T sz (.slice A l.length cap) l.length (l.flatMap c)
variable {T : Nat} {w w' : World} {B : Nat} {A : Option Addr} {cap : Nat} {l : List α}
theorem OwnL.nil (w : World) (B T : Nat) : OwnL c T sz w B none 0 [] := World.ownsRow_nil _ _ _ _
theorem OwnL.shape (h : OwnL c T sz w B A cap l) (hl : 0 < l.length) : ∃ g, A = some ⟨g, 0, none⟩ ∧ B ≤ g ∧ g < w.heap.size := by
  rcases h.2 with ⟨_, h0⟩ | ⟨g, cap', cur, hv, hb, hh, _⟩
  · omega
  · simp only [Value.slice.injEq] at hv
    exact ⟨g, hv.1, hb, (Array.getElem?_eq_some_iff.1 hh).1⟩
theorem OwnL.rd (C : Cells c sz) (h : OwnL c T sz w B A cap l) : RdL c sz w w.heap.size A l := fun hl => by
  obtain ⟨g, rfl, _, hg⟩ := h.shape hl
  refine ⟨g, 0, rfl, hg, fun k hk j v hj => ?_⟩
  have hjl : j < sz := by
    rw [← C.len l[k]]
    exact (List.getElem?_eq_some_iff.1 hj).1
  have h1 : k * sz + j < l.length * sz := by
    have : (k + 1) * sz ≤ l.length * sz := Nat.mul_le_mul_right _ hk
    rw [Nat.succ_mul] at this
    omega
  rw [Nat.zero_add, World.ownsRow.cellAt h _ h1, flat_get C l k j hk hjl, hj]
theorem OwnL.mono {B' : Nat} (h : OwnL c T sz w B A cap l) (hB : B' ≤ B) : OwnL c T sz w B' A cap l := by
  refine ⟨h.1, ?_⟩
  rcases h.2 with h2 | ⟨g, cap', cur, hv, hb, rest⟩
  · exact .inl h2
  · exact .inr ⟨g, cap', cur, hv, by omega, rest⟩
theorem grown_below {w w' : World} (h : Below w.heap.size w w') : w.grownBy w' none := ⟨h.os, h.tape, h.output, h.size, fun k hk _ => h.block k hk⟩
theorem OwnL.below (h : OwnL c T sz w B A cap l) (hb : Below w.heap.size w w') : OwnL c T sz w' B A cap l :=
  World.ownsRow.kept h (grown_below hb) (by cases A <;> simp [Value.ownBlock])
theorem OwnL.kept {row : Option Nat} (h : OwnL c T sz w B A cap l) (hg : w.grownBy w' row) (hne : ∀ g, A = some ⟨g, 0, none⟩ → row ≠ some g) : OwnL c T sz w' B A cap l := by
  rcases h.2 with ⟨hv, h0⟩ | ⟨g, cap', cur, hv, hb, rest⟩
  · refine World.ownsRow.kept h hg (.inl ?_)
    rw [hv]
    rfl
  · simp only [Value.slice.injEq] at hv
    obtain ⟨rfl, _, rfl⟩ := hv
    exact World.ownsRow.kept h hg (.inr (fun e => hne g rfl e.symm))
theorem OwnL.type (h : OwnL c T sz w B A cap l) {g : Nat} (hA : A = some ⟨g, 0, none⟩) : ∃ cur, w.heap[g]? = some (.cells cur T (0, 0)) := by
  subst hA
  rcases h.2 with ⟨hv, h0⟩ | ⟨g', cap', cur, hv, hb, hh, _⟩
  · simp at hv
  · simp at hv
    obtain ⟨rfl, _⟩ := hv
    exact ⟨cur, hh⟩
theorem ownL_shape {v : Value} {n : Nat} {xs : List Value} (h : w.ownsRow B T sz v n xs) (hn : n = l.length) (hx : xs = l.flatMap c) : ∃ A cap, v = .slice A l.length cap ∧ OwnL c T sz w B A cap l := by
  subst hn; subst hx
  rcases h.2 with ⟨hv, h0⟩ | ⟨g, cap', cur, hv, hb, rest⟩
  · refine ⟨none, 0, by rw [hv, h0], ?_⟩
    have : l = [] := List.eq_nil_of_length_eq_zero h0
    subst this
    exact World.ownsRow_nil _ _ _ _
  · refine ⟨some ⟨g, 0, none⟩, cap', hv, ?_⟩
    subst hv
    exact h
theorem range_new {w : World} {cs : Array Value} {t : TypeId} {g : Nat} {l : List Value} (hg : g = w.heap.size) (hl : cs.toList = l) : (w.alloc (.cells cs t)).rangeAt g 0 l := fun j v hj => by
  subst hl
  subst hg
  have e1 : (w.alloc (.cells cs t)).cell? ⟨w.heap.size, 0 + j, none⟩ = cs[0 + j]? := World.cell?_alloc_at _ t w.heap.size (0 + j) rfl
  rw [e1, Nat.zero_add, ← Array.getElem?_toList]
  exact hj
/-- 'append(x, e)', e one element. -/
theorem wpList_append_el (C : Cells c sz) {S bytes : Nat} {z : Value} (hS : Try.prog.underlying S = some (.slice T)) (hT : (Try.prog.info? T).map (fun i => (i.zero, i.size, i.bytes)) = some (some z, sz, bytes)) (hz : z.cells.size = sz) (hby : bytes ≤ 100)
    {ops : Array Oper} {rest : List Oper} {o : Oper} {a : Act} {Q : Exit → Act → World → Prop} (hgd : o.guard = none) (s x : Operand)
    (ho : o.op = .call { callee := .builtin .append, args := #[s, x], argTypes := #[S, S] })
    (n : Nat) (hs : a.eval s = .slice A n cap) (hn : l.length = n) (hown : OwnL c T sz w B A cap l) (ad : Nat) (hx : a.eval x = .slice (some ⟨ad, 0, none⟩) 1 1) (e : α) (hc : w.rangeAt ad 0 (c e)) (hl : n ≤ 1000000) (hB : B ≤ w.heap.size)
    (N : Nat) (hN : n + 1 = N)
    (h : ∀ A' cap' w', OwnL c T sz w' B A' cap' (l ++ [e]) → Below B w w' → w.grownBy w' (Value.slice A n cap).ownBlock → wpList Try.prog ops Q rest (a.put o.dst (.slice A' N cap')) w') : wpList Try.prog ops Q (o :: rest) a w := by
  obtain ⟨i, hi, hz0, hz1, hz2⟩ := info_parts hT
  subst hn; subst hN
  refine wpList_append_own w hgd s x S ho B T i z sz bytes hS hi hz0 hz1 hz2 hz C.pos _ l.length (l.flatMap c) hs hown ⟨ad, 0, none⟩ 1 1 (c e) hx (by rw [C.len, Nat.one_mul]) (fun j u hj => by rw [Addr.add_mid]; exact hc j u hj) (C.one e) (by unfold maxLen; omega) (by
    have : (l.length + 1) * bytes ≤ (l.length + 1) * 100 := Nat.mul_le_mul_left _ hby
    omega) hB ?_
  intro v' w' h1 h2 _
  obtain ⟨A', cap', rfl, ho'⟩ := ownL_shape (c := c) (l := l ++ [e]) h1 (by simp) (by simp)
  have hfin := h A' cap' w' ho' ((Below.refl _ _).grown h2 hB (fun k hk => (World.ownsRow.lt hown k hk).1)) h2
  rw [List.length_append, List.length_singleton]
  exact hfin
end
theorem Try.info42 : (Try.prog.info? 42).map (fun i => (i.zero, i.size, i.bytes)) = some (some (.agg #[.int .i64 0, .int .i64 0, .int .i64 0, .int .i64 0, .int .i64 0]), 5, 40) := by kernel_rfl
theorem Try.info34 : (Try.prog.info? 34).map (fun i => (i.zero, i.size, i.bytes)) = some (some (.agg #[.int .i64 0, .int .i64 0, .int .i64 0, .int .i64 0, .int .i64 0, .int .i64 0]), 6, 48) := by kernel_rfl
theorem Try.info55 : (Try.prog.info? 55).map (fun i => (i.zero, i.size, i.bytes)) = some (some (.agg #[.int .i64 0, .int .i64 0, .int .i64 0, .int .i64 0, .int .i64 0, .bool false]), 6, 48) := by kernel_rfl
theorem Try.info4 : (Try.prog.info? 4).map (fun i => (i.zero, i.size, i.bytes)) = some (some (.bool false), 1, 1) := by kernel_rfl
end Go.Proofs.Ytojadmccenkffaa
