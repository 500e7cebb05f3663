/- Appending bytes to bytes of the call's own. -/
import Derived.Test.YtelanbiedfldgaaMade
import Derived.Laws.AppendOwnNone
namespace Go.Proofs.Ytelanbiedfldgaa
open Go.RowKit

theorem OwnY.new (w : World) : OwnY (w.alloc (.cells #[] 5)) w.heap.size (some ⟨w.heap.size, 0, none⟩) 0 [] :=
  World.ownsRow_lit (base := w.heap.size) (e := 5) (size := 1) w #[] 0 (Nat.le_refl _) (by decide) (by simp)
theorem OwnY.cap {w : World} {B : Nat} {A : Option Addr} {cap : Nat} {l : List Nat} (h : OwnY w B A cap l) : l.length ≤ cap := by
  rcases h.2 with ⟨hv, h0⟩ | ⟨g, cap', cur, hv, _, _, hn, _⟩
  · omega
  · simp only [Value.slice.injEq] at hv
    omega
/-- 'append(x, ys...)': x is the call's own. -/
theorem wpList_append_bytes {w : World} {ops : Array Oper} {rest : List Oper} {o : Oper} {a : Act} {Q : Exit → Act → World → Prop} (hgd : o.guard = none) (sl x : Operand)
    (ho : o.op = .call { callee := .builtin .append, args := #[sl, x], argTypes := #[22, 22] })
    (B : Nat) (A : Option Addr) (cap m : Nat) (L : List Nat) (hs : a.eval sl = .slice A m cap) (hm : L.length = m) (hT : OwnY w B A cap L)
    (A2 : Option Addr) (n2 c2 : Nat) (E : List Nat) (hx : a.eval x = .slice A2 n2 c2) (hn : E.length = n2) (hy : Byts w w.heap.size A2 E) (h0 : A2 = none → E = [] ∧ c2 = 0)
    (R : List Nat) (N : Nat) (hR : L ++ E = R) (hN : R.length = N) (hl : N ≤ 1000000) (hB : B ≤ w.heap.size)
    (h : ∀ A' cap' w', OwnY w' B A' cap' R → Below B w w' → wpList Try.prog ops Q rest (a.put o.dst (.slice A' N cap')) w') : wpList Try.prog ops Q (o :: rest) a w := by
  obtain ⟨i, hi, hz, hsz, hby⟩ := info_parts Try.size5
  subst hm; subst hn; subst hR; subst hN
  rw [List.length_append] at hl
  cases A2 with
  | none =>
    obtain ⟨rfl, rfl⟩ := h0 rfl
    refine wpList_append_own_none hgd sl x 22 ho B 5 i 1 Try.underlying22 hi _ L.length (bcells L) hs hT hx ?_
    have := h A cap w (by simpa using hT) ((Below.refl w.heap.size w).mono hB)
    simpa using this
  | some ad =>
    have hnews : ∀ j u, (bcells E)[j]? = some u → w.cell? (ad.add j) = some u := fun j u hj => by
      have hjl : j < E.length := by
        rcases Nat.lt_or_ge j E.length with h' | h'
        · exact h'
        · rw [List.getElem?_eq_none (by rw [bcells_len]; exact h')] at hj; cases hj
      obtain ⟨b, off, e, _, hc⟩ := hy.cells (by omega)
      cases e
      rw [Addr.add_lit]
      exact hc j u hj
    refine wpList_append_own w hgd sl x 22 ho B 5 i (.int .u8 0) 1 1 Try.underlying22 hi hz hsz hby rfl (by decide) _ L.length (bcells L) hs hT ad E.length c2 (bcells E) hx (by rw [bcells_len, Nat.mul_one]) hnews (bcells_one _) (by unfold maxLen; omega) (by omega) hB ?_
    intro v' w' h1 h2 _
    obtain ⟨A', cap', rfl, ho'⟩ := owny_shape (L := L ++ E) h1 (by simp) (by simp [bcells])
    exact h A' cap' w' ho' ((Below.refl _ _).grown h2 hB (fun k hk => (World.ownsRow.lt hT k hk).1))
theorem OwnY.drew {w : World} {B : Nat} {A : Option Addr} {cap : Nat} {l : List Nat} (h : OwnY w B A cap l) : OwnY w.drew B A cap l := h
theorem strOf_sb (s : ByteArray) : strOf (sb s) = s := by
  have h := sb_strOf (sb_byt s)
  have h2 : (strOf (sb s)).data.toList = s.data.toList := by
    have := strOf_data (sb s)
    rw [this]
    unfold sb
    rw [List.map_map]
    conv => rhs; rw [← List.map_id s.data.toList]
    refine List.map_congr_left fun x _ => ?_
    simp
  cases s with
  | mk d =>
    have h3 := Array.toList_inj.1 h2
    revert h3
    generalize strOf (sb ⟨d⟩) = t
    intro h3
    cases t with
    | mk d2 => simp at h3; rw [h3]
end Go.Proofs.Ytelanbiedfldgaa
