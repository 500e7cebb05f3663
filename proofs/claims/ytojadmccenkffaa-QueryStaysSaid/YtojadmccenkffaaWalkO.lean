/- The walk of Stays, of the reference. -/
import Derived.Test.YtojadmccenkffaaWalkN
import Derived.Maps.AppendAt
namespace Go.Proofs.Ytojadmccenkffaa
open Go.RowKit

theorem Try.underlying56' : Try.prog.underlying 56 = some (.slice 4) := by kernel_rfl
section
variable {α : Type} {c : α → List Value} {sz T : Nat} {w : World} {B : Nat} {A : Option Addr} {cap : Nat} {l : List α}
/-- 'append' of one element, as a step of a region that draws its order. -/
theorem step_append_el (C : Cells c sz) {S bytes : Nat} {z : Value} (hS : Try.prog.underlying S = some (.slice T)) (hT : (Try.prog.info? T).map (fun i => (i.zero, i.size, i.bytes)) = some (some z, sz, bytes)) (hz : z.cells.size = sz) (hby : bytes ≤ 100)
    {ops : Array Oper} {o : Oper} {a : Act} {K : Act → World → Prop} {Q : Exit → Act → World → Prop} {E : Prop} (hgd : o.guard = none) (s x : Operand)
    (ho : o.op = .call { callee := .builtin .append, args := #[s, x], argTypes := #[S, S] })
    (n : Nat) (hs : a.eval s = .slice A n cap) (hn : l.length = n) (hown : OwnL c T sz w B A cap l) (ad : Nat) (hx : a.eval x = .slice (some ⟨ad, 0, none⟩) 1 1) (e : α) (hc : w.rangeAt ad 0 (c e)) (hl : n ≤ 1000000) (hB : B ≤ w.heap.size)
    (N : Nat) (hN : n + 1 = N)
    (h : ∀ A' cap' w', OwnL c T sz w' B A' cap' (l ++ [e]) → Below B w w' → w.grownBy w' (Value.slice A n cap).ownBlock → K (a.put o.dst (.slice A' N cap')) w') :
    if Region.wanted o (yielded ops a.tmps) = true then Oper.wp Try.prog o a w K Q else E := by
  have hw : Region.wanted o (yielded ops a.tmps) = true := by simp [Region.wanted, hgd]
  rw [if_pos hw]
  obtain ⟨i, hi, hz0, hz1, hz2⟩ := info_parts hT
  subst hn; subst hN
  obtain ⟨v', w', hrun, h1, h2, _, _⟩ := run_append_own_at (P := Try.prog) (w := w) B S o.type T i z sz bytes hS hi hz0 hz1 hz2 hz C.pos _ l.length (l.flatMap c) hown ⟨ad, 0, none⟩ 1 1 (c e) (by rw [C.len, Nat.one_mul]) (fun j u hj => by rw [Addr.add_mid]; exact hc j u hj) (C.one e) (by unfold maxLen; omega) (by
    have : (l.length + 1) * bytes ≤ (l.length + 1) * 100 := Nat.mul_le_mul_left _ hby
    omega) hB
  obtain ⟨A', cap', rfl, ho'⟩ := ownL_shape (c := c) (l := l ++ [e]) h1 (by simp) (by simp)
  have hfin := h A' cap' w' ho' ((Below.refl _ _).grown h2 hB (fun k hk => (World.ownsRow.lt hown k hk).1)) h2
  rw [List.length_append, List.length_singleton] at hrun
  unfold Oper.wp
  simp [execOp, ho, resolve, invoke, builtin, hs, hx, hrun, Result.andThen]
  exact hfin
end
theorem close_scs (t : Int) : ∀ (L : List (Qr.St × Bool)) (z : Nat), z < L.length → ((L.map (fun x => x.1)).flatMap scs).set (z * 5 + 4) (.int .i64 t) = ((Qr.closeAt z t L).map (fun x => x.1)).flatMap scs
  | [], z, h => by simp at h
  | x :: L, 0, _ => by
    rw [Qr.closeAt, List.map_cons, List.map_cons, List.flatMap_cons, List.flatMap_cons]
    rfl
  | x :: L, z + 1, h => by
    rw [Qr.closeAt, List.map_cons, List.map_cons, List.flatMap_cons, List.flatMap_cons, ← close_scs t L z (by simpa using h)]
    have hl : (scs x.1).length = 5 := rfl
    rw [List.set_append_right _ _ (by rw [hl]; omega), hl]
    rw [show (z + 1) * 5 + 4 - 5 = z * 5 + 4 by omega]
theorem close_bcs (t : Int) : ∀ (L : List (Qr.St × Bool)) (z : Nat), z < L.length → ((L.map (fun x => !x.2)).flatMap bcs).set z (.bool false) = ((Qr.closeAt z t L).map (fun x => !x.2)).flatMap bcs
  | [], z, h => by simp at h
  | x :: L, 0, _ => by
    rw [Qr.closeAt, List.map_cons, List.map_cons, List.flatMap_cons, List.flatMap_cons]
    rfl
  | x :: L, z + 1, h => by
    rw [Qr.closeAt, List.map_cons, List.map_cons, List.flatMap_cons, List.flatMap_cons, ← close_bcs t L z (by simpa using h)]
    rfl
/-- The memory of the reference's Stays. -/
structure RInv (w : World) (B : Nat) (A A2 : Option Addr) (cap cap2 : Nat) (L : List (Qr.St × Bool)) : Prop where
  all : OwnL scs 42 5 w B A cap (L.map fun x => x.1)
  opn : OwnL bcs 4 1 w B A2 cap2 (L.map fun x => !x.2)
theorem RInv.below {w w' : World} {B : Nat} {A A2 : Option Addr} {cap cap2 : Nat} {L : List (Qr.St × Bool)} (h : RInv w B A A2 cap cap2 L) (hb : Below w.heap.size w w') : RInv w' B A A2 cap cap2 L := ⟨h.all.below hb, h.opn.below hb⟩
theorem RInv.apart {w : World} {B : Nat} {A A2 : Option Addr} {cap cap2 : Nat} {L : List (Qr.St × Bool)} (h : RInv w B A A2 cap cap2 L) {g g2 : Nat} (h1 : A = some ⟨g, 0, none⟩) (h2 : A2 = some ⟨g2, 0, none⟩) : g ≠ g2 := fun e => by
  obtain ⟨c1, e1⟩ := h.all.type h1
  obtain ⟨c2, e2⟩ := h.opn.type h2
  rw [e, e2] at e1
  injection e1 with e1
  injection e1 with _ e1
  cases e1
/-- The first of the open stays is closed. -/
theorem RInv.pop {w : World} {B : Nat} {cap cap2 : Nat} {L : List (Qr.St × Bool)} {g g2 : Nat} (h : RInv w B (some ⟨g, 0, none⟩) (some ⟨g2, 0, none⟩) cap cap2 L) (z : Nat) (hz : z < L.length) (t : Int) :
    RInv ((w.setCell ⟨g2, z, none⟩ (.bool false)).setCell ⟨g, z * 5 + 4, none⟩ (.int .i64 t)) B (some ⟨g, 0, none⟩) (some ⟨g2, 0, none⟩) cap cap2 (Qr.closeAt z t L) := by
  have hne := h.apart rfl rfl
  have s1 := World.ownsRow.stored h.opn z (.bool false)
  have ha := h.all.kept s1.2 (fun g' e e2 => by cases e; cases e2; exact hne rfl)
  have s2 := World.ownsRow.stored ha (z * 5 + 4) (.int .i64 t)
  refine ⟨?_, ?_⟩
  · unfold OwnL
    rw [List.length_map, Qr.closeAt_len, ← close_scs t L z hz]
    have := s2.1
    rwa [List.length_map] at this
  · have h3 : OwnL bcs 4 1 (w.setCell ⟨g2, z, none⟩ (.bool false)) B (some ⟨g2, 0, none⟩) cap2 ((Qr.closeAt z t L).map fun x => !x.2) := by
      unfold OwnL
      rw [List.length_map, Qr.closeAt_len, ← close_bcs t L z hz]
      have := s1.1
      rwa [List.length_map] at this
    exact h3.kept s2.2 (fun g' e e2 => by cases e; cases e2; exact hne rfl)
end Go.Proofs.Ytojadmccenkffaa
