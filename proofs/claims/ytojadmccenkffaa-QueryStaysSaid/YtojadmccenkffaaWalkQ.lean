/- The queues of Stays: slices of places, wherever they begin in a block of the call's own. -/
import Derived.Test.YtojadmccenkffaaWalkM
import Derived.ArgAppend
namespace Go.Proofs.Ytojadmccenkffaa
open Go.RowKit

theorem Try.info3 : (Try.prog.info? 3).map (fun i => (i.zero, i.size, i.bytes)) = some (some (.int .i64 0), 1, 8) := by kernel_rfl
/-- The slice v owns the places zs. -/
def QRow (w : World) (B : Nat) (v : Value) (zs : List Nat) : Prop :=
  (v = nilS ∧ zs = []) ∨ ∃ g off cap cur, v = .slice (some ⟨g, off, none⟩) zs.length cap ∧ B ≤ g ∧ w.heap[g]? = some (.cells cur 3 (0, 0)) ∧ zs.length ≤ cap ∧ off + cap ≤ cur.size ∧
    ∀ j, j < zs.length → cur[off + j]? = some (.int .i64 (zs.getD j 0 : Nat))
theorem QRow.nil (w : World) (B : Nat) : QRow w B nilS [] := .inl ⟨rfl, rfl⟩
theorem cell_heap {w : World} {g : Nat} {cur : Array Value} {t : TypeId} {fz : Nat × Nat} (h : w.heap[g]? = some (.cells cur t fz)) (o : Nat) : w.cell? ⟨g, o, none⟩ = cur[o]? := by
  simp [World.cell?, h]
theorem free_heap {w : World} {g : Nat} {cur : Array Value} {t : TypeId} (h : w.heap[g]? = some (.cells cur t (0, 0))) (o : Nat) : w.frozen? ⟨g, o, none⟩ = false := by
  simp [World.frozen?, h]
theorem heap_set_same {w : World} {g o : Nat} {cur : Array Value} {t : TypeId} {fz : Nat × Nat} (h : w.heap[g]? = some (.cells cur t fz)) (u : Value) : (w.setCell ⟨g, o, none⟩ u).heap[g]? = some (.cells (cur.setIfInBounds o u) t fz) := by
  obtain ⟨hlt, hk⟩ := Array.getElem?_eq_some_iff.1 h
  show (w.heap.modify g _)[g]? = _
  rw [Array.getElem?_eq_getElem (by rw [Array.size_modify]; exact hlt), Array.getElem_modify_self, hk]
  rfl
theorem heap_set_other {w : World} {g o k : Nat} (hk : k ≠ g) (u : Value) : (w.setCell ⟨g, o, none⟩ u).heap[k]? = w.heap[k]? := by
  show (w.heap.modify g _)[k]? = _
  rw [Array.getElem?_modify, if_neg (fun e => hk e.symm)]
theorem grown_set (w : World) (g o : Nat) (u : Value) : w.grownBy (w.setCell ⟨g, o, none⟩ u) (some g) :=
  ⟨rfl, rfl, rfl, by simp [World.setCell], fun k _ hk => heap_set_other (fun e => hk (by rw [e])) u⟩
theorem QRow.lt {w : World} {B : Nat} {v : Value} {zs : List Nat} (h : QRow w B v zs) : ∀ k, v.ownBlock = some k → B ≤ k ∧ k < w.heap.size := fun k hk => by
  rcases h with ⟨rfl, _⟩ | ⟨g, off, cap, cur, rfl, hB, hh, _⟩
  · simp [nilS, Value.ownBlock] at hk
  · simp [Value.ownBlock] at hk
    subst hk
    exact ⟨hB, (Array.getElem?_eq_some_iff.1 hh).1⟩
theorem QRow.type {w : World} {B : Nat} {v : Value} {zs : List Nat} (h : QRow w B v zs) : ∀ k, v.ownBlock = some k → ∃ cur, w.heap[k]? = some (.cells cur 3 (0, 0)) := fun k hk => by
  rcases h with ⟨rfl, _⟩ | ⟨g, off, cap, cur, rfl, hB, hh, _⟩
  · simp [nilS, Value.ownBlock] at hk
  · simp [Value.ownBlock] at hk
    subst hk
    exact ⟨cur, hh⟩
theorem QRow.kept {w w' : World} {B : Nat} {v : Value} {zs : List Nat} {row : Option Nat} (h : QRow w B v zs) (hg : w.grownBy w' row) (hne : v.ownBlock = none ∨ v.ownBlock ≠ row) : QRow w' B v zs := by
  rcases h with h | ⟨g, off, cap, cur, rfl, hB, hh, rest⟩
  · exact .inl h
  · refine .inr ⟨g, off, cap, cur, rfl, hB, ?_, rest⟩
    rcases hne with hne | hne
    · simp [Value.ownBlock] at hne
    · exact (hg.block g (Array.getElem?_eq_some_iff.1 hh).1 (by simpa [Value.ownBlock] using hne)).trans hh
theorem QRow.shape {w : World} {B : Nat} {v : Value} {zs : List Nat} (h : QRow w B v zs) : ∃ A cap, v = .slice A zs.length cap := by
  rcases h with ⟨rfl, rfl⟩ | ⟨g, off, cap, cur, rfl, _⟩
  · exact ⟨none, 0, rfl⟩
  · exact ⟨_, cap, rfl⟩
/-- A queue that is not empty: its first place, and what is behind it. -/
theorem QRow.cons {w : World} {B z : Nat} {v : Value} {zs : List Nat} (h : QRow w B v (z :: zs)) : ∃ g off cap, v = .slice (some ⟨g, off, none⟩) (zs.length + 1) cap ∧ zs.length + 1 ≤ cap ∧ w.cell? ⟨g, off, none⟩ = some (.int .i64 (z : Int)) ∧
    QRow w B (.slice (if cap = 1 then some ⟨g, off, none⟩ else some ⟨g, off + 1, none⟩) zs.length (cap - 1)) zs := by
  rcases h with ⟨_, h0⟩ | ⟨g, off, cap, cur, rfl, hB, hh, hlc, hoc, hc⟩
  · cases h0
  · rw [List.length_cons] at hlc
    refine ⟨g, off, cap, rfl, hlc, ?_, ?_⟩
    · rw [cell_heap hh]
      have := hc 0 (by simp)
      simpa using this
    · by_cases h1 : cap = 1
      · rw [if_pos h1]
        have : zs = [] := List.eq_nil_of_length_eq_zero (by omega)
        subst this
        exact .inr ⟨g, off, cap - 1, cur, rfl, hB, hh, by simp, by omega, fun j hj => by simp at hj⟩
      · rw [if_neg h1]
        refine .inr ⟨g, off + 1, cap - 1, cur, rfl, hB, hh, by omega, by omega, fun j hj => ?_⟩
        have := hc (j + 1) (by rw [List.length_cons]; omega)
        rw [show off + 1 + j = off + (j + 1) by omega, this]
        simp
/-- 'append(q, z)' -/
theorem wpList_append_q {w : World} {ops : Array Oper} {rest : List Oper} {o : Oper} {a : Act} {Q : Exit → Act → World → Prop} (hgd : o.guard = none) (s x : Operand)
    (ho : o.op = .call { callee := .builtin .append, args := #[s, x], argTypes := #[53, 53] })
    (B : Nat) (v : Value) (zs : List Nat) (hs : a.eval s = v) (hq : QRow w B v zs) (ad : Nat) (hx : a.eval x = .slice (some ⟨ad, 0, none⟩) 1 1) (z : Nat) (hc : w.cell? ⟨ad, 0, none⟩ = some (.int .i64 (z : Int))) (hl : zs.length ≤ 1000000) (hB : B ≤ w.heap.size)
    (h : ∀ v' w', QRow w' B v' (zs ++ [z]) → w.grownBy w' v.ownBlock → (v'.ownBlock = v.ownBlock ∨ ∃ g, v'.ownBlock = some g ∧ w.heap.size ≤ g) → wpList Try.prog ops Q rest (a.put o.dst v') w') : wpList Try.prog ops Q (o :: rest) a w := by
  obtain ⟨i, hi, hz, hsz, hby⟩ := info_parts Try.info3
  have hnews : ∀ j u, [Value.int .i64 (z : Int)][j]? = some u → w.cell? ((⟨ad, 0, none⟩ : Addr).add j) = some u := fun j u hj => by
    match j, hj with
    | 0, hj =>
      simp at hj
      subst hj
      simpa [Addr.add] using hc
  have hone : ∀ u ∈ [Value.int .i64 (z : Int)], u.oneCell' = true := fun u hu => by simp at hu; subst hu; rfl
  have grown : ∀ (olds : List Value) (v' : Value) (w' : World) (bk : Option Nat), olds = zs.map (fun n => Value.int .i64 (n : Nat)) → w'.ownsRow w.heap.size 3 1 v' (zs.length + 1) (olds ++ [.int .i64 (z : Int)]) → w.grownBy w' none → (bk = none ∨ ∃ k, bk = some k) →
      QRow w' B v' (zs ++ [z]) ∧ w.grownBy w' bk ∧ (∃ g, v'.ownBlock = some g ∧ w.heap.size ≤ g) := fun olds v' w' bk hol h1 h2 _ => by
    rcases h1.2 with ⟨_, h0⟩ | ⟨g, cap, cur, rfl, hb, hh, hnc, hcm, hcs, htake⟩
    · omega
    · refine ⟨.inr ⟨g, 0, cap, cur, by simp, by omega, hh, by simp; omega, by omega, fun j hj => ?_⟩, ⟨h2.os, h2.tape, h2.output, h2.size, fun k hk _ => h2.block k hk (by simp)⟩, g, rfl, hb⟩
      rw [List.length_append, List.length_singleton] at hj
      have h3 : (cur.toList.take ((zs.length + 1) * 1))[j]? = cur[j]? := by
        rw [List.getElem?_take, if_pos (by omega)]
        simp
      rw [Nat.zero_add, ← h3, htake, hol]
      by_cases hjz : j < zs.length
      · rw [List.getElem?_append_left (by simpa using hjz), List.getElem?_map, List.getElem?_eq_getElem hjz, List.getD_eq_getElem?_getD, List.getElem?_append_left hjz, List.getElem?_eq_getElem hjz]
        rfl
      · have : j = zs.length := by omega
        subst this
        rw [List.getElem?_append_right (by simp), List.getD_eq_getElem?_getD, List.getElem?_append_right (by simp)]
        simp
  rcases hq with ⟨rfl, rfl⟩ | ⟨g, off, cap, cur, rfl, hB', hh, hlc, hoc, hcell⟩
  · refine wpList_append_grows w hgd s x 53 ho 3 i (.int .i64 0) 1 8 Try.underlying53 hi hz hsz hby rfl (by decide) none 0 0 [] hs (fun _ => ⟨rfl, rfl⟩) rfl (fun b hb => by cases hb) ⟨ad, 0, none⟩ 1 1 [.int .i64 (z : Int)] hx rfl hnews hone (by omega) (by unfold maxLen; omega) (by omega) ?_
    intro v' w' h1 h2
    obtain ⟨r1, r2, r3⟩ := grown [] v' w' none rfl (by simpa using h1) h2 (.inl rfl)
    exact h v' w' r1 r2 (.inr r3)
  · have holds : ∀ j u, (zs.map (fun n => Value.int .i64 (n : Nat)))[j]? = some u → w.cell? ⟨g, off + j, none⟩ = some u := fun j u hj => by
      rw [List.getElem?_map] at hj
      obtain ⟨y, hy, rfl⟩ := Option.map_eq_some_iff.1 hj
      obtain ⟨hjl, hyy⟩ := List.getElem?_eq_some_iff.1 hy
      rw [cell_heap hh, hcell j hjl, List.getD_eq_getElem?_getD, hy]
      rfl
    refine wpList_append_arg w hgd s x 53 ho 3 i (.int .i64 0) 1 8 Try.underlying53 hi hz hsz hby rfl (by decide) g off zs.length cap (zs.map (fun n => Value.int .i64 (n : Nat))) hs (by simp) holds ⟨ad, 0, none⟩ 1 1 [.int .i64 (z : Int)] hx rfl hnews hone ?_ (by unfold maxLen; omega) (by omega) ?_ ?_
    · intro hr j hj
      simp at hj
      subst hj
      rw [Nat.mul_one, Nat.add_zero]
      exact ⟨by rw [cell_heap hh, Array.getElem?_eq_getElem (by omega)]; rfl, free_heap hh _⟩
    · intro hr
      rw [Nat.mul_one]
      have hset := heap_set_same (o := off + zs.length) hh (.int .i64 (z : Int))
      refine h _ _ (.inr ⟨g, off, cap, _, by simp, hB', hset, by simp; omega, by simpa using hoc, fun j hj => ?_⟩) (grown_set w g _ _) (.inl rfl)
      rw [List.length_append, List.length_singleton] at hj
      rw [Array.getElem?_setIfInBounds]
      by_cases hjz : j = zs.length
      · subst hjz
        rw [if_pos rfl, if_pos (by omega), List.getD_eq_getElem?_getD, List.getElem?_append_right (by simp)]
        simp
      · rw [if_neg (by omega), hcell j (by omega), List.getD_eq_getElem?_getD, List.getD_eq_getElem?_getD, List.getElem?_append_left (by omega)]
    · intro hr v' w' h1 h2
      obtain ⟨r1, r2, r3⟩ := grown _ v' w' (some g) rfl h1 h2 (.inr ⟨g, rfl⟩)
      exact h v' w' r1 r2 (.inr r3)
end Go.Proofs.Ytojadmccenkffaa
